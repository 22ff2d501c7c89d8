/- Package chain: Check. -/
import Derived.Test.YtmcapgjdflohfaaGreatMWb
import Derived.Laws.ResultCell
import Derived.ArgAppend
import Derived.Shelf.Slices.Reverse
set_option linter.all false
namespace Go.Proofs.YtmcapgjdflohfaaGreat.L
open Go Go.RowKit
set_option linter.unusedVariables false

def bl0 : Bl := ⟨⟨0, [], [], 0⟩, none, 0, []⟩
theorem getB {l : List Bl} {k : Nat} (h : k < l.length) : l.getD k bl0 = l[k] := by simp [h]
/-- The vector of the block at a place. -/
def vecA (t : List UInt8) (l : List Bl) : Nat → List (List UInt8)
  | 0 => []
  | k + 1 => behindS t (vecA t l k) (l.getD k bl0) k
theorem next_length (v : List (List UInt8)) (x : List UInt8) (lv : Int) (h : v.length ≤ 257) : (Mp.next [] v x lv).length ≤ 257 := by
  unfold Mp.next
  split
  · simp
  · simp only [List.length_map, List.length_range]; omega
theorem next_ok (v : List (List UInt8)) (x : List UInt8) (lv : Int) (hv : ∀ y ∈ v, y.length = 32) (hx : x.length = 32) : ∀ y ∈ Mp.next [] v x lv, y.length = 32 := by
  intro y hy
  unfold Mp.next at hy
  split at hy
  · cases hy
  · rename_i hne
    have hpos : 0 < v.length := List.length_pos_iff.2 hne
    obtain ⟨i, hi, rfl⟩ := List.mem_map.1 hy
    split
    · exact hv _ (getD_mem (by omega))
    · split
      · exact hx
      · split
        · exact hv _ (getD_mem (by omega))
        · exact hv _ (getD_mem (by omega))
theorem vecA_ok (t : List UInt8) (l : List Bl) (k : Nat) : (vecA t l k).length ≤ 257 ∧ ∀ y ∈ vecA t l k, y.length = 32 := by
  induction k with
  | zero => exact ⟨by simp [vecA], fun y h => by cases h⟩
  | succ k ih =>
    simp only [vecA, behindS]
    split
    · exact ⟨by simp, fun y h => by rw [List.mem_singleton.1 h]; exact idL_length _⟩
    · exact ⟨next_length _ _ _ ih.1, next_ok _ _ _ ih.2 (idL_length _)⟩

/-- The blocks' transactions. -/
def Txs (l : List Bl) : Fact := fun D w => ∀ b ∈ l, Sl 1 b.A b.t.length b.cap (tl b.t) D w
theorem Txs.stable {l : List Bl} : Stable (Txs l) := fun D D' w w' hD hw h b hb => Sl.stable D D' w w' hD hw (h b hb)

def ask3 (c : Cf) (l : List Bl) (k : Nat) : Int :=
  let b := l.getD k bl0; let v := vecA c.t l k
  if askF c k b v 0 ≠ 0 then askF c k b v 0 else if askF c k b v 1 ≠ 0 then askF c k b v 1 else askF c k b v 2
def chkGo (c : Cf) (l : List Bl) : Nat → Nat → Int × Int
  | 0, _ => (0, 0)
  | r + 1, k => if ask3 c l k ≠ 0 then (ask3 c l k, k) else chkGo c l r (k + 1)
def chkF (c : Cf) (l : List Bl) : Int × Int := if l.length = 0 then (6, 0) else if 1024 < l.length then (4, 1024) else chkGo c l l.length 0
def fltC (x : Int × Int) : List Value := [.int .i64 x.1, .int .i64 x.2]
theorem ask3_of (c : Cf) (l : List Bl) (k j : Nat) (hj : j < 3) (h0 : ∀ i < j, askF c k (l.getD k bl0) (vecA c.t l k) i = 0) (h : askF c k (l.getD k bl0) (vecA c.t l k) j ≠ 0) : ask3 c l k = askF c k (l.getD k bl0) (vecA c.t l k) j := by
  unfold ask3
  match j, hj with
  | 0, _ => dsimp only; rw [if_pos h]
  | 1, _ => dsimp only; rw [if_neg (by rw [h0 0 (by omega)]; decide), if_pos h]
  | 2, _ => dsimp only; rw [if_neg (by rw [h0 0 (by omega)]; decide), if_neg (by rw [h0 1 (by omega)]; decide)]
theorem ask3_zero (c : Cf) (l : List Bl) (k : Nat) (h0 : ∀ i < 3, askF c k (l.getD k bl0) (vecA c.t l k) i = 0) : ask3 c l k = 0 := by
  unfold ask3
  dsimp only
  rw [if_neg (by rw [h0 0 (by omega)]; decide), if_neg (by rw [h0 1 (by omega)]; decide), h0 2 (by omega)]

def fnV (lk : List Value) : List Value := [.func (.func N_chain_look_anchor) #[ag lk] #[], .func (.func N_chain_look_form) #[ag lk] #[], .func (.func N_chain_look_work) #[ag lk] #[]]
theorem fnV_at {lk : List Value} {o j : Nat} (ho : o = j) (h : j < 3) : (fnV lk)[o]? = some (.func (.func (asks.getD j 0)) [ag lk].toArray #[]) := by
  subst ho
  match o, h with
  | 0, _ => rfl
  | 1, _ => rfl
  | 2, _ => rfl
theorem Cf.at_t' {c : Cf} (h : c.ok) : (c.c.drop (0 + 66)).take 32 = b8 c.t := by have := Cf.at_t h []; rw [List.append_nil] at this; exact this
theorem fltC_fill {c : Cx} {σ : Env} {H : List Res} {K : List Fact} {d : Option Tmp} {t : TypeId} {p : String} {af : Array Edge} {g : Option (Nat × Bool)} {parts : Array (Nat × Operand)} (hc : c.P = PP) (x : Int × Int)
    (hps : (parts.toList.map fun (i, x) => (i, ev σ x)) = [(0, .int .i64 x.1), (1, .int .i64 x.2)]) :
    Det c σ H K ⟨d, .build T_api_Fault parts, t, p, af, g⟩ (ag (fltC x)) := by
  refine bldT (pl := _) (by rw [hc]; exact z_api_Fault) (by rw [hc]; exact u_api_Fault) (fun w => by rw [hc]; exact run_placesS PP w (by kernel_rfl)) hps ?_
  refine fill_cat (o := 0) (s := 1) (vs := [.int .i64 x.1]) (by kernel_rfl) rfl rfl rfl (by simp) ?_
  refine fill_cat (o := 1) (s := 1) (vs := [.int .i64 x.2]) (by kernel_rfl) rfl rfl rfl (by simp) ?_
  exact fill_end (by simp) rfl
theorem fltC_fill1 {c : Cx} {σ : Env} {H : List Res} {K : List Fact} {d : Option Tmp} {t : TypeId} {p : String} {af : Array Edge} {g : Option (Nat × Bool)} {parts : Array (Nat × Operand)} (hc : c.P = PP) (x : Int)
    (hps : (parts.toList.map fun (i, x) => (i, ev σ x)) = [(0, .int .i64 x)]) :
    Det c σ H K ⟨d, .build T_api_Fault parts, t, p, af, g⟩ (ag (fltC (x, 0))) := by
  refine bldT (pl := _) (by rw [hc]; exact z_api_Fault) (by rw [hc]; exact u_api_Fault) (fun w => by rw [hc]; exact run_placesS PP w (by kernel_rfl)) hps ?_
  exact fill_step (off := 0) (size := 1) (vs := [.int .i64 x]) (by kernel_rfl) rfl rfl (by simp) rfl fill_nil
theorem retFlt {fn : Func} {c : Cx} {n : Nat} {σ : Env} {H : List Res} {K : List Fact} {R : Ending → World → Prop} {s : Nat} {b : Nat} {e : TypeId} {x : Int × Int} (hc : c.P = PP) (i : Nat) (hr : fn.results = #[.cell s T_api_Fault]) (hv : σ s = .pointer (some ⟨b, 0, none⟩)) (hi : H[i]? = some (.blk b (ob (fltC x) e)))
    (h : ∀ w, M c H K w → R (.returned (ag (fltC x))) w) : ∀ w, M c H K w → post c.P fn n R .ret σ w :=
  retC i hr hv hi (by rw [hc]; exact g_api_Fault) h

theorem bldLk {c : Cx} {σ : Env} {H : List Res} {K : List Fact} {d : Option Tmp} {t : TypeId} {p : String} {af : Array Edge} {g : Option (Nat × Bool)} {parts : Array (Nat × Operand)} (hP : c.P = PP) (x : Cf) (hx : x.ok) (k : Nat) (b : Bl) (hb : b.h.ok) (s : Value)
    (hps : (parts.toList.map fun (i, x) => (i, ev σ x)) = [(0, ag x.c), (1, .int .i64 k), (2, ag b.c), (3, s)]) (hs : s.cells = [s].toArray := by rfl) :
    Det c σ H K ⟨d, .build T_chain_look parts, t, p, af, g⟩ (ag (lkC x k b s)) := by
  refine bldT (pl := _) (by rw [hP]; exact z_chain_look) (by rw [hP]; exact u_chain_look) (fun w => by rw [hP]; exact run_placesS PP w (by kernel_rfl)) hps ?_
  refine fill_cat (o := 0) (s := 104) (vs := x.c) (by kernel_rfl) rfl rfl (Cf.c_length hx) (Nat.le_of_ble_eq_true (by kernel_rfl)) ?_
  refine fill_cat (o := 104) (s := 1) (vs := [.int .i64 k]) (by kernel_rfl) (Cf.c_length hx) rfl rfl (Nat.le_of_ble_eq_true (by kernel_rfl)) ?_
  refine fill_cat (o := 105) (s := 67) (vs := b.c) (by kernel_rfl) (by rw [List.nil_append, List.length_append, Cf.c_length hx]; rfl) rfl (Bl.c_length hb) (Nat.le_of_ble_eq_true (by kernel_rfl)) ?_
  refine fill_cat (o := 172) (s := 1) (vs := [s]) (by kernel_rfl) (by rw [List.nil_append, List.length_append, List.length_append, Cf.c_length hx, Bl.c_length hb]; rfl) hs rfl (Nat.le_of_ble_eq_true (by kernel_rfl)) ?_
  exact fill_end (by kernel_rfl) (by rw [lkC, List.nil_append, List.append_assoc, List.append_assoc]; rfl)

/-- What is asked of blocks: roots of 32 bytes; not too many transactions, not too long. -/
def Bok (b : Bl) : Prop := b.h.ok ∧ b.t.length ≤ 100000 ∧ ∀ x ∈ b.t, x.length ≤ 100000000

theorem chain_Check_ (c : Cf) (hc : c.ok) (l : List Bl) (hlb : ∀ b ∈ l, Bok b) (hn : l.length ≤ 100000) (A : Option Addr) (cap : Nat) (D : Nat → Prop) (w : World) (hD : ∀ k, D k → k < w.heap.size) (hs : Sl 67 A l.length cap (bl l) D w) (ht : Txs l D w) :
    Calls PP N_chain_Check #[ag c.c, .slice A l.length cap] w (PR w (ag (fltC (chkF c l)))) := by
  refine enter f_chain_Check rfl n_chain_Check rfl (M.init PP w D [] [Sl 67 A l.length cap (bl l), Txs l] ⟨Sl.stable, Txs.stable, trivial⟩ hD ⟨hs, ht, trivial⟩) ?_
  refine seq (region (box rfl rfl rfl fun b0 => alloc z_api_Fault rfl rfl fun b1 => nilS ?_))   -- region 0
  refine seq ?_
  refine block ?_   -- block 0
  refine seq (region (det rfl (mv rfl) (det rfl (lenS u_sl_api_Block rfl) (det rfl (eql rfl rfl) (det rfl (asg rfl) (nilS ?_))))))   -- region 1
  refine cond rfl (fun h => ?_) (fun h => ?_)   -- on t12
  · have h := of_decide_eq_true h
    refine seq (region (det rfl (fltC_fill1 rfl 6 rfl) (stoA 0 rfl rfl rfl s_api_Fault rfl rfl rfl (nilS ?_))))   -- region 2
    rw [show chkF c l = (6, 0) by rw [chkF, if_pos (by omega)]]
    exact ret (retFlt rfl 0 rfl rfl rfl pr)
  · have h1 := of_decide_eq_false h
    refine seq (region (det rfl (mv rfl) (det rfl (lenS u_sl_api_Block rfl) (det rfl (gtr rfl rfl) (det rfl (asg rfl) (nilS ?_))))))   -- region 3
    refine cond rfl (fun h => ?_) (fun h => ?_)   -- on t17
    · have h := of_decide_eq_true h
      refine seq (region (det rfl (fltC_fill rfl (4, 1024) rfl) (stoA 0 rfl rfl rfl s_api_Fault rfl rfl rfl (nilS ?_))))   -- region 4
      rw [show chkF c l = (4, 1024) by rw [chkF, if_neg (by omega), if_pos (by omega)]]
      exact ret (retFlt rfl 0 rfl rfl rfl pr)
    · have h2 := of_decide_eq_false h
      rw [show chkF c l = chkGo c l l.length 0 by rw [chkF, if_neg (by omega), if_neg (by omega)]]
      refine skip ?_
      show Tr _ _ _ _ _ _ _
      refine seq (region (det rfl (asg rfl) (nilS ?_)))   -- region 5
      refine seq ?_
      refine seq (region (det rfl (mv rfl) (det rfl (lenS u_sl_api_Block rfl) (det rfl (mv rfl) (nilS ?_)))))   -- region 6
      refine block ?_   -- block 1
      refine loopV (ι := Nat × Option Addr × Nat) (fun (k, _, _) => k ≤ l.length ∧ chkGo c l l.length 0 = chkGo c l (l.length - k) k) (fun (k, B, q) => [(2, .pointer (some ⟨b0, 0, none⟩)), (4, .pointer (some ⟨b1, 0, none⟩)), (5, .slice B (vecA c.t l k).length q), (22, .slice A l.length cap), (23, .int .i64 l.length), (24, .int .i64 k)]) (fun _ => [.blk b1 (ob (fltC (0, 0)) T_api_Fault), .blk b0 (ob c.c T_api_Config)]) (fun (k, B, q) => [Sl 67 A l.length cap (bl l), Txs l, Sl 32 B (vecA c.t l k).length q (hl (vecA c.t l k))]) (fun (k, _, _) => l.length - k) (0, none, 0) ⟨by omega, rfl⟩ ⟨rfl, rfl, rfl, rfl, rfl, rfl, trivial⟩ (fun w hm => hm.refact ⟨Sl.stable, Txs.stable, Sl.stable, trivial⟩ fun D h => ⟨h.1, h.2.1, Sl.nil, trivial⟩) ?_
      rintro ⟨k, B, q⟩ σ ⟨hk, hck⟩
      dsimp only at hk hck ⊢
      refine seq (region (det rfl (lss rfl rfl) (nilS ?_)))   -- region 7
      refine seq ?_
      refine cond rfl (fun h => ?_) (fun h => ?_)   -- on t25
      · have h := of_decide_eq_true h
        have hk2 : k < l.length := by omega
        have hb0 := hlb _ (List.getElem_mem hk2)
        obtain ⟨b, hbk⟩ : ∃ b, l[k] = b := ⟨_, rfl⟩
        have hgb : l.getD k bl0 = b := by rw [getB hk2, hbk]
        have hbm : b ∈ l := by rw [← hbk]; exact List.getElem_mem hk2
        rw [hbk] at hb0
        obtain ⟨hb, htn, htx⟩ := hb0
        obtain ⟨v, hvk⟩ : ∃ v, vecA c.t l k = v := ⟨_, rfl⟩
        have hvok := vecA_ok c.t l k
        rw [hvk] at hvok ⊢
        refine skipS ?_
        refine seq ?_
        refine block ?_   -- block 2
        refine seq (region (det rfl (mv rfl) (det rfl (ixS 0 rfl rfl u_sl_api_Block s_api_Block rfl (by omega) (by omega)) (det rfl (Det.to (ldSA 0 rfl rfl g_api_Block (bl_at (j := k) (by omega) hk2)) (v' := ag b.c) (by rw [hbk])) (alloc z_api_Block rfl rfl fun b2 => det rfl (asg rfl) (stoA 0 rfl rfl rfl s_api_Block (Bl.c_length hb) (Bl.c_one _) rfl (nilS ?_)))))))   -- region 8
        refine seq (region (det rfl (ldAll 2 rfl rfl g_api_Config (Cf.c_length hc)) (det rfl (mv rfl) (det rfl (ldAll 0 rfl rfl g_api_Block (Bl.c_length hb)) (det rfl (mv rfl) (det rfl (bldLk rfl c hc k b hb _ rfl) (alloc z_chain_look rfl rfl fun b3 => stoA 0 rfl rfl rfl s_chain_look (lkC_length hc hb) lkC_one rfl (nilS ?_))))))))   -- region 9
        refine seq ?_
        have hll := lkC_length (i := k) (v := .slice B v.length q) hc hb
        refine seq (region (det rfl (ldAll 0 rfl rfl g_chain_look hll) (det rfl (mkF rfl rfl) (det rfl (ldAll 0 rfl rfl g_chain_look hll) (det rfl (mkF rfl rfl) (det rfl (ldAll 0 rfl rfl g_chain_look hll) (det rfl (mkF rfl rfl) (bsl rfl (bsm u_sl_fn__to_api_Errno z_fn__to_api_Errno s_fn__to_api_Errno (xs := fnV (lkC c k b (.slice B v.length q))) rfl rfl rfl (by decide) (by decide)) fun b4 => det rfl (lenS u_sl_fn__to_api_Errno rfl) (det rfl (mv rfl) (nilS ?_))))))))))   -- region 10
        refine block ?_   -- block 3
        refine loopV (ι := Nat) (fun j => j ≤ 3 ∧ ∀ i < j, askF c k b v i = 0) (fun j => [(2, .pointer (some ⟨b0, 0, none⟩)), (4, .pointer (some ⟨b1, 0, none⟩)), (5, .slice B v.length q), (6, .int .i64 k), (7, .pointer (some ⟨b2, 0, none⟩)), (22, .slice A l.length cap), (23, .int .i64 l.length), (24, .int .i64 k), (40, .slice (some ⟨b4, 0, none⟩) 3 3), (41, .int .i64 3), (42, .int .i64 j)]) (fun _ => [.blk b4 (ob (fnV (lkC c k b (.slice B v.length q))) T_fn__to_api_Errno), .blk b3 (ob (lkC c k b (.slice B v.length q)) T_chain_look), .blk b2 (ob b.c T_api_Block), .blk b1 (ob (fltC (0, 0)) T_api_Fault), .blk b0 (ob c.c T_api_Config)]) (fun _ => [Sl 67 A l.length cap (bl l), Txs l, Sl 32 B v.length q (hl v)]) (fun j => 3 - j) 0 ⟨by omega, fun i hi => by omega⟩ ⟨rfl, rfl, rfl, rfl, rfl, rfl, rfl, rfl, rfl, rfl, rfl, trivial⟩ (fun w hm => hm) ?_
        rintro j σ ⟨hj, hj0⟩
        refine seq (region (det rfl (lss rfl rfl) (nilS ?_)))   -- region 11
        refine seq ?_
        refine cond rfl (fun h => ?_) (fun h => ?_)   -- on t43
        · have h := of_decide_eq_true h
          have hj3 : j < 3 := by omega
          refine skipS ?_
          refine seq ?_
          refine block ?_   -- block 4
          refine seq (region (det rfl (ixB rfl rfl u_sl_fn__to_api_Errno s_fn__to_api_Errno (by omega) (by omega)) (det rfl (ldB 0 rfl rfl o_fn__to_api_Errno (fnV_at (j := j) (by omega) hj3)) (det rfl (asg rfl) (nilS ?_)))))   -- region 12
          refine seq (region (det rfl (mv rfl) (callM (ask_fn j hj3) rfl rfl rfl (fun w hm => by
            obtain ⟨D, d1, d2, hD, d4, d5⟩ := hm.data
            exact ask_ j hj3 c hc k (by omega) b hb v (by omega) hvok.2 htn htx B q D w hD d5.2.2.1 (d5.2.1 b hbm)) (det rfl (asg rfl) (nilS ?_)))))   -- region 13
          refine seq (region (det rfl (mv rfl) (det rfl (neq rfl rfl) (nilS ?_))))   -- region 14
          refine cond rfl (fun h => ?_) (fun h => ?_)   -- on t49
          · have h : askF c k b v j ≠ 0 := by simpa using h
            refine seq (region (det rfl (mv rfl) (det rfl (mv rfl) (det rfl (fltC_fill rfl (askF c k b v j, (k : Int)) rfl) (stoA 3 rfl rfl rfl s_api_Fault rfl rfl rfl (nilS ?_))))))   -- region 15
            have e : chkGo c l l.length 0 = (askF c k b v j, (k : Int)) := by
              rw [hck, show l.length - k = (l.length - k - 1) + 1 by omega, chkGo]
              have := ask3_of c l k j hj3 (by rw [hgb, hvk]; exact hj0) (by rw [hgb, hvk]; exact h)
              rw [hgb, hvk] at this
              rw [this, if_pos h]
            rw [e]
            exact ret (retFlt rfl 3 rfl rfl rfl pr)
          · have h : askF c k b v j = 0 := by simpa using h
            refine skip ?_
            show Tr _ _ _ _ _ _ _
            refine region (det rfl (addI rfl rfl (by omega) (by omega)) (det rfl (mv rfl) (nil ?_)))   -- region 16
            refine again (j + 1) ⟨by omega, fun i hi => ?_⟩ ⟨rfl, rfl, rfl, rfl, rfl, rfl, rfl, rfl, rfl, rfl, rfl, trivial⟩ (fun w hm => hm) (by (first | omega | (dsimp only; omega)))
            by_cases e : i = j
            · rw [e]; exact h
            · exact hj0 i (by omega)
        · have h := of_decide_eq_false h
          have hj3 : j = 3 := by omega
          subst hj3
          refine exit ?_   -- 3
          show Tr _ _ _ _ _ _ _
          refine region (det rfl (fadr rfl u_api_Config rfl s_api_Hash) (det rfl (ldA 4 rfl rfl g_api_Hash (Cf.at_t' hc) (by rw [b8_length]; exact hc.2)) (det rfl (mv rfl) (det rfl (ldAll 2 rfl rfl g_api_Block (Bl.c_length hb)) (det rfl (mv rfl) (callS k_chain_behind rfl rfl (fun w hm => by
            obtain ⟨D, hD, hs⟩ := hm.sl (k := 2) rfl
            exact chain_behind_ c.t hc.2 v (by omega) hvok.2 b hb k B q D w hD hs) fun B' q' => (det rfl (asg rfl) (nil ?_))))))))   -- region 17
          show Tr _ _ _ _ _ _ _
          refine region (det rfl (addI rfl rfl (by omega) (by omega)) (det rfl (mv rfl) (nil ?_)))   -- region 18
          have ev1 : vecA c.t l (k + 1) = behindS c.t v b k := by rw [vecA, hgb, hvk]
          refine again (k + 1, B', q') ⟨by (first | omega | (dsimp only; omega)), ?_⟩ ⟨rfl, rfl, by dsimp only; rw [ev1]; exact congrArg (fun n => Value.slice B' n q') (hl_length _), rfl, rfl, rfl, trivial⟩ (fun w hm => ?_) (by (first | omega | (dsimp only; omega)))
          · dsimp only
            rw [hck, show l.length - k = (l.length - k - 1) + 1 by omega, chkGo, if_neg (fun x => x (ask3_zero c l k (by rw [hgb, hvk]; exact hj0))), show l.length - k - 1 = l.length - (k + 1) by omega]
          · dsimp only
            refine M.refact (drop1 (drop1 (drop1 hm))) ⟨Sl.stable, Txs.stable, Sl.stable, trivial⟩ fun D h => ⟨h.2.1, h.2.2.1, ?_, trivial⟩
            have := h.1
            rw [hl_length] at this
            rw [ev1]; exact this
      · have h := of_decide_eq_false h
        refine exit ?_   -- 1
        show Tr _ _ _ _ _ _ _
        refine seq (region (det rfl (bldZ z_api_Fault u_api_Fault (fun w => run_placesS PP w (by kernel_rfl))) (stoA 0 rfl rfl rfl s_api_Fault rfl rfl rfl (nilS ?_))))   -- region 19
        rw [hck, show l.length - k = 0 by omega]
        exact ret (retFlt (x := (0, 0)) rfl 0 rfl rfl rfl pr)
end Go.Proofs.YtmcapgjdflohfaaGreat.L

namespace Go.Proofs.YtmcapgjdflohfaaGreat.L
open Go Go.RowKit
set_option linter.unusedVariables false

section
variable {c : Cx} {n : Nat} {Q : Exit → Env → World → Prop} {σ : Env} {H : List Res} {K : List Fact}
variable {d : Option Tmp} {t : TypeId} {p : String} {af : Array Edge} {g : Option (Nat × Bool)}
/-- The address of an element of a row of the call's own; what lies there. -/
theorem ixR {x y : Operand} {s e e' : TypeId} {A : Option Addr} {m cap sz sz' : Nat} {xs : List Value} {kk : IntKind} {i : Int} (k : Nat) (hx : ev σ x = .slice A m cap) (hy : ev σ y = .int kk i) (hs : c.P.underlying s = some (.slice e))
    (hz : (c.P.info? e).map (·.size) = some sz) (hk : H[k]? = some (.row (.slice A m cap) e' sz' m xs)) (h0 : 0 ≤ i) (h1 : i < m) : Det c σ H K ⟨d, .indexAddr s x y, t, p, af, g⟩ (at_ A (i.toNat * sz)) := fun w hm => by
  have h := hm.get hk
  rcases h.2 with ⟨h2, _⟩ | ⟨gg, cap', cur, h2, _⟩
  · cases h2; omega
  · cases h2
    simp [execOp, hx, hy, Instr.indexAt, asIntOf, run_und hs, h0, h1, run_size hz, add0, at_]
theorem ldRO {x : Operand} {tx e : TypeId} {A : Option Addr} {m cap i o : Nat} {xs : List Value} {v : Value} (k : Nat) (hx : ev σ x = at_ A o) (hk : H[k]? = some (.row (.slice A m cap) e 1 m xs)) (hu : isOne c.P tx) (ho : o = i) (hl : xs[i]? = some v) :
    Det c σ H K ⟨d, .load tx x, t, p, af, g⟩ v := fun w hm => by
  subst ho
  have h := hm.get hk
  rcases h.2 with ⟨h2, h3⟩ | ⟨gg, cap', cur, h2, _⟩
  · cases h2; have := h.1; simp at this; subst this; cases hl
  · cases h2
    have hcell := World.ownsRow.cells h (g := gg) rfl o v hl
    rw [add0] at hcell
    simp only [execOp, hx, at_, Option.map_some, Instr.loadAt, Instr.sureAddr, Sem.run_bind, Sem.run_pure, Result.andThen_ok]
    rw [run_loadOne hu (by simpa using hcell)]; rfl
end

/-- A slice of hashes as a value. -/
structure Vc where
  A : Option Addr
  cap : Nat
  xs : List (List UInt8)
def Vc.s (v : Vc) : Value := .slice v.A v.xs.length v.cap
def vl (L : List Vc) : List (List Value) := L.map fun v => [v.s]
theorem vl_length (L : List Vc) : (vl L).length = L.length := by simp [vl]
theorem vl_ok (L : List Vc) : ∀ l ∈ vl L, l.length = 1 ∧ one l = true := by
  intro l h; obtain ⟨x, _, rfl⟩ := List.mem_map.1 h; exact ⟨rfl, rfl⟩
theorem vl_app (a : List Vc) (b : Vc) : (vl (a ++ [b])).flatten = (vl a).flatten ++ [b.s] := by simp [vl]
theorem vl_flat (L : List Vc) : (vl L).flatten = L.map Vc.s := by
  induction L with
  | nil => rfl
  | cons x r ih => simp only [vl, List.map_cons, List.flatten_cons] at *; rw [ih]; rfl
theorem vl_at {L : List Vc} {o j : Nat} (ho : o = j) (h : j < L.length) : (vl L)[o]? = some [(L[j]).s] := by
  subst ho; simp [vl, h]
def Vs (L : List Vc) : Fact := fun D w => ∀ v ∈ L, Sl 32 v.A v.xs.length v.cap (hl v.xs) D w
theorem Vs.stable {L : List Vc} : Stable (Vs L) := fun D D' w w' hD hw h v hv => Sl.stable D D' w w' hD hw (h v hv)
/-- A slice of slices of hashes. -/
def VV (A : Option Addr) (n cap : Nat) (L : List Vc) : Fact := fun D w => Sl 1 A n cap (vl L) D w ∧ Vs L D w
theorem VV.stable {A : Option Addr} {n cap : Nat} {L : List Vc} : Stable (VV A n cap L) := fun D D' w w' hD hw h => ⟨Sl.stable D D' w w' hD hw h.1, Vs.stable D D' w w' hD hw h.2⟩
abbrev RV (w : World) (vs : List (List (List UInt8))) : Ending → World → Prop := fun e w' =>
  ∃ A cap L, L.map Vc.xs = vs ∧ e = .returned (.slice A vs.length cap) ∧ Below w.heap.size w w' ∧ VV A vs.length cap L (fun k => w.heap.size ≤ k ∧ k < w'.heap.size) w'

/-- A call that hands back a slice of slices of its own. -/
theorem callV {c : Cx} {n : Nat} {Q : Exit → Env → World → Prop} {σ : Env} {H : List Res} {K : List Fact} {t : TypeId} {p : String} {af : Array Edge} {ops : Array Oper} {d : Nat} {f : FuncId} {args : Array Operand} {ats : Array TypeId} {vs : List Value} {l : List Oper} {ls : List (List (List UInt8))} (hf : Fn c.P f) (ha : args.toList.map (ev σ) = vs) (hd : Nat.blt d n = true)
    (spec : ∀ w, M c H K w → Calls c.P f vs.toArray w (RV w ls)) (h : ∀ A cap L, L.map Vc.xs = ls → TL c n ops l Q (upd σ d (.slice A ls.length cap)) H (VV A ls.length cap L :: K)) :
    TL c n ops (⟨some d, .call { callee := .value (.func f), args := args, argTypes := ats }, t, p, af, none⟩ :: l) Q σ H K := by
  intro w hm a hr
  refine wpList_run rfl ?_
  rw [hr.eval, hf.run, map_args ha]
  refine (spec w hm).mono ?_
  rintro e w' ⟨A, cap, L, hL, rfl, hb, hs⟩
  exact h A cap L hL w' (hm.learn VV.stable (grown_below hb) (fun D _ => VV.stable _ _ _ _ (fun k hk => .inr hk) (fun _ _ _ => rfl) hs)) _ (hr.put d _ (by simp [Nat.blt] at hd; omega))

def vecsA (t : List UInt8) (l : List Bl) (k : Nat) : List (List (List UInt8)) := (List.range (k + 1)).map (vecA t l)
theorem vecsA_succ (t : List UInt8) (l : List Bl) (k : Nat) : vecsA t l (k + 1) = vecsA t l k ++ [vecA t l (k + 1)] := by
  rw [vecsA, List.range_succ, List.map_append, vecsA]; rfl
theorem vecsA_length (t : List UInt8) (l : List Bl) (k : Nat) : (vecsA t l k).length = k + 1 := by simp [vecsA]

theorem chain_Vectors_ (t : List UInt8) (ht : t.length = 32) (l : List Bl) (hn : l.length ≤ 100000) (hx : ∀ b ∈ l, b.h.ok) (A : Option Addr) (cap : Nat) (D : Nat → Prop) (w : World) (hD : ∀ k, D k → k < w.heap.size) (hs : Sl 67 A l.length cap (bl l) D w) :
    Calls PP N_chain_Vectors #[ag (b8 t), .slice A l.length cap] w (RV w (vecsA t l l.length)) := by
  refine enter f_chain_Vectors rfl n_chain_Vectors rfl (M.init1 PP w Sl.stable hD hs) ?_
  refine seq (region (box rfl rfl rfl fun b0 => det rfl (asg rfl) (nilS ?_)))   -- region 0
  refine seq (region (bsl rfl (bs1 u_sl_sl_api_Hash z_sl_api_Hash s_sl_api_Hash (cs := [.slice none 0 0]) rfl rfl rfl (by decide) (by decide)) fun b1 => det rfl (asg rfl) (nilS ?_)))   -- region 1
  refine seq ?_
  refine seq (region (det rfl (mv rfl) (det rfl (lenS u_sl_api_Block rfl) (det rfl (mv rfl) (nilS ?_)))))   -- region 2
  refine block ?_   -- block 0
  refine loopV (ι := Nat × Option Addr × Nat × List Vc) (fun (k, _, _, L) => k ≤ l.length ∧ L.length = k + 1 ∧ L.map Vc.xs = vecsA t l k) (fun (k, B, q, _) => [(2, .pointer (some ⟨b0, 0, none⟩)), (5, .slice B (k + 1) q), (9, .slice A l.length cap), (10, .int .i64 l.length), (11, .int .i64 k)]) (fun (k, B, q, L) => [.row (.slice B (k + 1) q) T_sl_api_Hash 1 (k + 1) (vl L).flatten, .blk b0 (ob (b8 t) T_api_Hash)]) (fun (_, _, _, L) => [Sl 67 A l.length cap (bl l), Fr w.heap.size (Vs L)]) (fun (k, _, _, _) => l.length - k) (0, some ⟨b1, 0, none⟩, 1, [⟨none, 0, []⟩]) ⟨by omega, rfl, rfl⟩ ⟨rfl, rfl, rfl, rfl, rfl, trivial⟩ (fun w hm => ?_) ?_
  · exact M.refact (hm.asRow 0 rfl rfl (m := 1) (sz := 1) rfl (by simp [maxLen])) ⟨Sl.stable, Fr.stable Vs.stable, trivial⟩ fun D h => ⟨h.1, fun v hv => by rw [List.mem_singleton.1 hv]; exact Sl.nil, trivial⟩
  rintro ⟨k, B, q, L⟩ σ ⟨hk, hL, hLv⟩
  dsimp only at hk hL hLv ⊢
  refine seq (region (det rfl (lss rfl rfl) (nilS ?_)))   -- region 3
  refine seq ?_
  refine cond rfl (fun h => ?_) (fun h => ?_)   -- on t12
  · have h := of_decide_eq_true h
    have hk2 : k < l.length := by omega
    obtain ⟨b, hbk⟩ : ∃ b, l[k] = b := ⟨_, rfl⟩
    have hgb : l.getD k bl0 = b := by rw [getB hk2, hbk]
    have hb : b.h.ok := by rw [← hbk]; exact hx _ (List.getElem_mem hk2)
    obtain ⟨v, hv⟩ : ∃ v, L[k]? = some v := ⟨_, List.getElem?_eq_getElem (by omega)⟩
    have hvm : v ∈ L := List.mem_of_getElem? hv
    have hvx : v.xs = vecA t l k := by
      have : (L.map Vc.xs)[k]? = (vecsA t l k)[k]? := by rw [hLv]
      rw [List.getElem?_map, hv, vecsA, List.getElem?_map, List.getElem?_range (by omega)] at this
      exact Option.some.inj this
    have hvok := vecA_ok t l k
    rw [← hvx] at hvok
    have hat : (vl L).flatten[k]? = some (.slice v.A v.xs.length v.cap) := by rw [vl_flat, List.getElem?_map, hv]; rfl
    refine skipS ?_
    refine seq ?_
    refine block ?_   -- block 1
    refine seq (region (det rfl (mv rfl) (det rfl (ixS 0 rfl rfl u_sl_api_Block s_api_Block rfl (by omega) (by omega)) (det rfl (Det.to (ldSA 0 rfl rfl g_api_Block (bl_at (j := k) (by omega) hk2)) (v' := ag b.c) (by rw [hbk])) (alloc z_api_Block rfl rfl fun b2 => det rfl (asg rfl) (stoA 0 rfl rfl rfl s_api_Block (Bl.c_length hb) (Bl.c_one _) rfl (nilS ?_)))))))   -- region 4
    refine draw (m := 10) mix (by kernel_rfl) (take 0 rfl (by kernel_rfl) rfl (mv rfl) (take 1 rfl (by kernel_rfl) rfl (ldAll 2 rfl rfl g_api_Hash (by rw [b8_length]; exact ht)) (take 2 rfl (by kernel_rfl) rfl (mv rfl) (take 3 rfl (by kernel_rfl) rfl (mv rfl) (take 4 rfl (by kernel_rfl) rfl (ixR 1 rfl rfl u_sl_sl_api_Hash s_sl_api_Hash rfl (by omega) (by omega)) (take 5 rfl (by kernel_rfl) rfl (ldRO 1 rfl rfl o_sl_api_Hash (i := k) (by omega) hat) (take 6 rfl (by kernel_rfl) rfl (ldAll 0 rfl rfl g_api_Block (Bl.c_length hb)) (take 7 rfl (by kernel_rfl) rfl (mv rfl) (onlySN 8 rfl (by kernel_rfl) rfl k_chain_behind rfl rfl (fun w hm => by
      obtain ⟨D, d1, d2, hD, d4, d5⟩ := hm.data
      exact chain_behind_ t ht v.xs (by omega) hvok.2 b hb k v.A v.cap D w hD ((d5.2.1 v hvm).mono fun k hk => hk.1)) fun B' q' => (onlyE (β := Nat) (fun b => .slice (some ⟨b, 0, none⟩) 1 1) (fun b9 => .blk b9 (ob [.slice B' (hl (behindS t v.xs b k)).length q'] T_sl_api_Hash) :: _) (fun _ => _) 9 rfl (by kernel_rfl) rfl rfl (run_bsl (bs1 u_sl_sl_api_Hash z_sl_api_Hash s_sl_api_Hash rfl rfl rfl (by decide) (by decide))) (fun _ _ => drop1) fun b3 => (tail (by kernel_rfl) rfl (appB 2 0 u_sl_sl_api_Hash i_sl_api_Hash rfl (by decide) rfl rfl rfl rfl rfl rfl (by simp only [maxLen]; omega) (by omega) rfl fun A' cap' => det rfl (asg rfl) (nil ?_)))))))))))))   -- region 5
    show Tr _ _ _ _ _ _ _
    refine region (det rfl (addI rfl rfl (by omega) (by omega)) (det rfl (mv rfl) (nil ?_)))   -- region 6
    have ev1 : vecA t l (k + 1) = behindS t v.xs b k := by rw [vecA, hgb, hvx]
    refine again (k + 1, A', cap', L ++ [⟨B', q', behindS t v.xs b k⟩]) ⟨by (first | omega | (dsimp only; omega)), by simp [hL], by dsimp only; rw [List.map_append, hLv, vecsA_succ, ev1]; rfl⟩ ⟨rfl, rfl, rfl, rfl, rfl, trivial⟩ (fun w hm => ?_) (by (first | omega | (dsimp only; omega)))
    dsimp only
    rw [vl_app]
    have hm := drop1 (drop1 hm)
    have e1 : Value.slice B' (hl (behindS t v.xs b k)).length q' = (⟨B', q', behindS t v.xs b k⟩ : Vc).s := congrArg (fun n => Value.slice B' n q') (hl_length _)
    rw [← e1]
    refine M.refact hm ⟨Sl.stable, Fr.stable Vs.stable, trivial⟩ fun D h => ⟨h.2.1, fun y hy => ?_, trivial⟩
    rcases List.mem_append.1 hy with hy | hy
    · exact h.2.2.1 y hy
    · rw [List.mem_singleton.1 hy]
      have := h.1
      rw [hl_length] at this
      exact this
  · have h := of_decide_eq_false h
    have e : k = l.length := by omega
    subst e
    refine exit ?_   -- 0
    show Tr _ _ _ _ _ _ _
    refine seq (region (det rfl (mv rfl) (det rfl (asg rfl) (nilS ?_))))   -- region 7
    refine ret fun w' hm => ?_
    obtain ⟨B1, q1, e1, hsl⟩ := row_sl (ls := vl L) (hm.get (i := 0) rfl) (vl_ok L) (by rw [vl_length, hL])
    cases e1
    obtain ⟨D, d1, d2, d3, d4, d5⟩ := hm.data
    refine ⟨.slice B (l.length + 1) q, fun a ha => by rw [results_tmp rfl, ha.val]; rfl, B, q, L, hLv, by rw [vecsA_length], hm.below rfl, ?_, ?_⟩
    · rw [vecsA_length]
      refine hsl _ fun b hb => ?_
      have := hm.mine b (mem_places.2 ⟨_, List.mem_cons_self .., hb⟩)
      exact ⟨by simpa using this.1, this.2⟩
    · exact Vs.stable _ _ _ _ (fun k hk => ⟨hk.2, d3 k hk.1⟩) (fun _ _ _ => rfl) d5.2.1
end Go.Proofs.YtmcapgjdflohfaaGreat.L

namespace Go.Proofs.YtmcapgjdflohfaaGreat.L
open Go Go.RowKit
set_option linter.unusedVariables false

theorem near_Near_ (l : List Int) (hn : l.length ≤ 1000000) (a lv : Int) (A : Option Addr) (cap : Nat) (D : Nat → Prop) (w : World) (hD : ∀ k, D k → k < w.heap.size) (hs : Sl 1 A l.length cap (il l) D w) :
    Calls PP N_near_Near #[.slice A l.length cap, .int .i64 a, .int .i64 lv] w (PR w (.int .i64 (Mp.near l a lv))) := by
  refine enter f_near_Near rfl n_near_Near rfl (M.init1 PP w Sl.stable hD hs) ?_
  refine seq (region (det rfl (asg rfl) (nilS ?_)))   -- region 0
  refine seq ?_
  refine seq (region (det rfl (mv rfl) (det rfl (maxI rfl rfl) (det rfl (mv rfl) (det rfl (lenS u_sl_int rfl) (det rfl (minI rfl rfl) (det rfl (subI rfl rfl (by omega) (by omega)) (det rfl (asg rfl) (nilS ?_)))))))))   -- region 1
  refine block ?_   -- block 0
  refine loopV (ι := Nat) (fun k => k ≤ l.length ∧ Mp.nearN l lv k = Mp.near l a lv) (fun k => [(0, .slice A l.length cap), (2, .int .i64 lv), (7, .int .i64 ((k : Int) - 1))]) (fun _ => []) (fun _ => [Sl 1 A l.length cap (il l)]) (fun k => k) (min (max a 0) (l.length : Int)).toNat ⟨by omega, by rw [Mp.near]⟩ ⟨rfl, rfl, vi (by omega), trivial⟩ (fun w hm => hm) ?_
  intro k σ hk
  refine seq ?_
  refine seq (region (det rfl (mv rfl) (det rfl (geq rfl rfl) (nilS ?_))))   -- region 2
  refine cond rfl (fun h => ?_) (fun h => ?_)   -- on t15
  · have h := of_decide_eq_true h
    refine skipS ?_
    refine seq ?_
    refine block ?_   -- block 1
    refine seq (region (det rfl (mv rfl) (det rfl (mv rfl) (det rfl (ixS 0 rfl rfl u_sl_int s_int rfl (by omega) (by omega)) (det rfl (ldSO 0 rfl rfl o_int (il_at (j := k - 1) (by omega) (by omega))) (det rfl (mv rfl) (det rfl (geq rfl rfl) (nilS ?_))))))))   -- region 4
    obtain ⟨m, rfl⟩ : ∃ m, k = m + 1 := ⟨k - 1, by omega⟩
    rw [Nat.add_sub_cancel]
    refine cond rfl (fun h => ?_) (fun h => ?_)   -- on t23
    · have h := of_decide_eq_true h
      refine seq (region (det rfl (mv rfl) (det rfl (asg rfl) (nilS ?_))))   -- region 5
      refine ret (retT rfl rfl (pr' ?_))
      rw [← hk.2, Mp.nearN, if_pos h]; exact vi (by omega)
    · have h := of_decide_eq_false h
      refine skip ?_
      show Tr _ _ _ _ _ _ _
      refine region (det rfl (mv rfl) (det rfl (subI rfl rfl (by omega) (by omega)) (det rfl (asg rfl) (nil ?_))))   -- region 3
      refine again m ⟨by omega, by rw [← hk.2, Mp.nearN, if_neg h]⟩ ⟨rfl, rfl, vi (by omega), trivial⟩ (fun w hm => hm) (by (first | omega | (dsimp only; omega)))
  · have h := of_decide_eq_false h
    refine exit ?_   -- 0
    show Tr _ _ _ _ _ _ _
    refine seq (region (det rfl (asg rfl) (nilS ?_)))   -- region 6
    refine ret (retT rfl rfl (pr' ?_))
    have : k = 0 := by omega
    subst this
    rw [← hk.2]; rfl

theorem near_All_ (l : List Int) (hn : l.length ≤ 1000000) (a : Int) (A : Option Addr) (cap : Nat) (D : Nat → Prop) (w : World) (hD : ∀ k, D k → k < w.heap.size) (hs : Sl 1 A l.length cap (il l) D w) :
    Calls PP N_near_All #[.slice A l.length cap, .int .i64 a] w (RS w 1 (il (Mp.all l a))) := by
  refine enter f_near_All rfl n_near_All rfl (M.init1 PP w Sl.stable hD hs) ?_
  refine seq (region (det rfl (asg rfl) (nilS ?_)))   -- region 0
  refine seq (region (det rfl (asg rfl) (nilS ?_)))   -- region 1
  refine seq ?_
  by_cases hc : a < 1 ∨ (l.length : Int) < a
  · have e : Mp.all l a = [] := by rw [Mp.all, if_pos hc]
    rw [e]
    refine seq (region (det rfl (mv rfl) (det rfl (lss rfl rfl) (det rfl (mv rfl) ?_))))
    by_cases c1 : a < 1
    · repeat (first | refine guardF rfl (vb (decide_eq_true c1)) rfl ?_ | refine guardU rfl rfl rfl ?_)
      refine det rfl (pick (vb (decide_eq_true c1)) rfl) (nilS ?_)
      refine condT rfl ?_
      refine seq (region (det rfl (mv rfl) (det rfl (asg rfl) (nilS ?_))))   -- region 3
      exact ret (retNil rfl rfl rfl)
    · have c2 : (l.length : Int) < a := by omega
      refine guardT rfl (vb (decide_eq_false c1)) (det rfl (mv rfl) ?_)
      refine guardT rfl (vb (decide_eq_false c1)) (det rfl (mv rfl) ?_)
      refine guardT rfl (vb (decide_eq_false c1)) (det rfl (lenS u_sl_int rfl) ?_)
      refine guardT rfl (vb (decide_eq_false c1)) (det rfl (gtr rfl rfl) ?_)
      refine det rfl (pick (vb (decide_eq_false c1)) (vb (decide_eq_true c2))) (nilS ?_)
      refine condT rfl ?_
      refine seq (region (det rfl (mv rfl) (det rfl (asg rfl) (nilS ?_))))   -- region 3
      exact ret (retNil rfl rfl rfl)
  · have c1 : ¬ a < 1 := fun h => hc (.inl h)
    have c2 : ¬ (l.length : Int) < a := fun h => hc (.inr h)
    have e : Mp.all l a = Mp.allFrom l a 257 0 := by rw [Mp.all, if_neg hc]
    refine seq (region (det rfl (mv rfl) (det rfl (lss rfl rfl) (det rfl (mv rfl) ?_))))
    refine guardT rfl (vb (decide_eq_false c1)) (det rfl (mv rfl) ?_)
    refine guardT rfl (vb (decide_eq_false c1)) (det rfl (mv rfl) ?_)
    refine guardT rfl (vb (decide_eq_false c1)) (det rfl (lenS u_sl_int rfl) ?_)
    refine guardT rfl (vb (decide_eq_false c1)) (det rfl (gtr rfl rfl) ?_)
    refine det rfl (pick (vb (decide_eq_false c1)) (vb (decide_eq_false c2))) (nilS ?_)
    refine condF rfl ?_
    refine skipS ?_
    refine seq ?_
    refine seq (region (det rfl (mv rfl) (nilS ?_)))   -- region 4
    refine block ?_   -- block 0
    refine loopV (ι := List Int × Option Addr × Nat) (fun (y, _, _) => y.length ≤ 257 ∧ y ++ Mp.allFrom l a (257 - y.length) y.length = Mp.all l a) (fun (y, B, q) => [(0, .slice A l.length cap), (1, .int .i64 a), (5, .slice B y.length q), (17, .int .i64 y.length)]) (fun (y, B, q) => [.row (.slice B y.length q) T_int 1 y.length (il y).flatten]) (fun _ => [Sl 1 A l.length cap (il l)]) (fun (y, _, _) => 257 - y.length) ([], none, 0) ⟨by decide, by rw [e]; rfl⟩ ⟨rfl, rfl, rfl, rfl, trivial⟩ (fun w hm => hm.nilRow _ _) ?_
    rintro ⟨y, B, q⟩ σ ⟨hy, hc⟩
    dsimp only at hy hc ⊢
    refine seq (region (det rfl (lss rfl rfl) (nilS ?_)))   -- region 5
    refine seq ?_
    refine cond rfl (fun h => ?_) (fun h => ?_)   -- on t18
    · have h := of_decide_eq_true h
      rw [show 257 - y.length = (256 - y.length) + 1 by omega, Mp.allFrom] at hc
      refine skipS ?_
      refine seq ?_
      refine block ?_   -- block 1
      refine seq (region (det rfl (mv rfl) (det rfl (asg rfl) (nilS ?_))))   -- region 6
      refine seq (region (det rfl (mv rfl) (det rfl (mv rfl) (det rfl (mv rfl) (call k_near_Near rfl rfl (fun w hm => by
        obtain ⟨D, hD, hs⟩ := hm.sl (k := 0) rfl
        exact near_Near_ l hn a y.length A cap D w hD hs) (det rfl (asg rfl) (nilS ?_)))))))   -- region 7
      refine seq ?_
      refine seq (region (det rfl (mv rfl) (det rfl (lss rfl rfl) (nilS ?_))))   -- region 8
      refine cond rfl (fun h => ?_) (fun h => ?_)   -- on t25
      · have h := of_decide_eq_true h
        rw [if_pos h, List.append_nil] at hc
        subst hc
        refine exit ?_   -- 0
        show Tr _ _ _ _ _ _ _
        refine seq (region (det rfl (mv rfl) (det rfl (asg rfl) (nilS ?_))))   -- region 12
        exact ret (retRow (i := 0) rfl rfl rfl rfl (il_length _) (il_ok _))
      · have h0 := of_decide_eq_false h
        rw [if_neg h0] at hc
        refine skipS ?_
        refine seq (region (det rfl (mv rfl) (det rfl (mv rfl) (bsl rfl (bs1 u_sl_int z_int s_int (cs := [.int .i64 (Mp.near l a y.length)]) rfl rfl rfl (by decide) (by decide)) fun b0 => appB 1 0 u_sl_int i_int rfl (by decide) rfl rfl rfl rfl rfl rfl (by simp only [maxLen]; omega) (by omega) rfl fun A cap => det rfl (asg rfl) (nilS ?_)))))   -- region 9
        refine seq (region (det rfl (mv rfl) (det rfl (eql rfl rfl) (nilS ?_))))   -- region 10
        refine cond rfl (fun h => ?_) (fun h => ?_)   -- on t31
        · have h := of_decide_eq_true h
          rw [if_pos h] at hc
          refine exit ?_   -- 0
          show Tr _ _ _ _ _ _ _
          refine seq (region (det rfl (mv rfl) (det rfl (asg rfl) (nilS ?_))))   -- region 12
          rw [← hc]
          refine ret (retRow (i := 1) rfl rfl rfl (by rw [il_app]; rfl) (by simp [il_length]) (il_ok _))
        · have h := of_decide_eq_false h
          rw [if_neg h] at hc
          refine skip ?_
          show Tr _ _ _ _ _ _ _
          refine region (det rfl (addI rfl rfl (by omega) (by omega)) (det rfl (mv rfl) (nil ?_)))   -- region 11
          have el : (y ++ [Mp.near l a y.length]).length = y.length + 1 := by simp
          refine again (y ++ [Mp.near l a y.length], _, _) ⟨by dsimp only; omega, ?_⟩ ⟨rfl, rfl, by dsimp only; rw [el]; rfl, vi (by dsimp only; omega), trivial⟩ (fun w hm => ?_) (by (first | omega | (dsimp only; omega)))
          · dsimp only
            rw [el, ← hc, show 257 - (y.length + 1) = 256 - y.length by omega]; simp
          · dsimp only
            rw [el, il_app]; exact drop1 hm
    · have h := of_decide_eq_false h
      rw [show 257 - y.length = 0 by omega, Mp.allFrom, List.append_nil] at hc
      subst hc
      refine exit ?_   -- 0
      show Tr _ _ _ _ _ _ _
      refine seq (region (det rfl (mv rfl) (det rfl (asg rfl) (nilS ?_))))   -- region 12
      exact ret (retRow (i := 0) rfl rfl rfl rfl (il_length _) (il_ok _))
end Go.Proofs.YtmcapgjdflohfaaGreat.L

namespace Go.Proofs.YtmcapgjdflohfaaGreat.L
open Go Go.RowKit
set_option linter.unusedVariables false

section
variable {c : Cx} {n : Nat} {Q : Exit → Env → World → Prop} {σ : Env} {H : List Res} {K : List Fact}
/-- A guarded operation, whether it runs or not. -/
theorem guardI {ops : Array Oper} {d : Nat} {op : Op} {t : TypeId} {p : String} {af : Array Edge} {l : List Oper} {j s : Nat} {b g : Bool} {v : Value}
    (hj : (ops[j]?).bind (·.dst) = some s) (hs : σ s = .bool b) (hd : Nat.blt d n = true) (hv : b = g → Det c σ H K ⟨some d, op, t, p, af, none⟩ v) (h : TL c n ops l Q (upd σ d (bif (b == g) then v else undef)) H K) :
    TL c n ops (⟨some d, op, t, p, af, some (j, g)⟩ :: l) Q σ H K := by
  by_cases e : b = g
  · subst e
    rw [beq_self_eq_true] at h
    exact guardT hj hs (det hd (hv rfl) h)
  · have e2 : b = !g := (by decide : ∀ b g : Bool, ¬ b = g → b = !g) b g e
    have e3 : (b == g) = false := (by decide : ∀ b g : Bool, ¬ b = g → (b == g) = false) b g e
    rw [e3] at h
    exact guardF hj (by rw [hs, e2]) hd h
theorem bift {b g : Bool} {v w : Value} (h : b = g) (hv : v = w) : (bif (b == g) then v else undef) = w := by rw [h, beq_self_eq_true, hv]; rfl
theorem pickA {b : Bool} {v : Value} {x : Bool} (h : v = .bool x) : (bif b then (bif (b == true) then v else undef) else .bool false) = .bool (b && x) := by cases b <;> simp [h]
theorem pickO {b : Bool} {v : Value} {x : Bool} (h : v = .bool x) : (bif b then .bool true else (bif (b == false) then v else undef)) = .bool (b || x) := by cases b <;> simp [h]
end

/-- A block that is known reads as a slice. -/
theorem blk_sl {w : World} {b sz n : Nat} {e : TypeId} {ls : List (List Value)} (h : w.heap[b]? = some (ob ls.flatten e)) (hl : ∀ l ∈ ls, l.length = sz ∧ one l = true) (hn : ls.length = n) (hm : n ≤ maxLen) : Sl sz (some ⟨b, 0, none⟩) n n ls (fun k => k = b) w := by
  refine ⟨hn, Nat.le_refl _, hm, hl, fun _ => ⟨b, 0, rfl, rfl, fun i l hil j u hju => ?_⟩⟩
  have hls : ∀ l ∈ ls, l.length = sz := fun l h => (hl l h).1
  rw [cell_ob h, Nat.zero_add]
  have hi : i < ls.length := (List.getElem?_eq_some_iff.1 hil).1
  have h4 : (ls.flatten.drop (i * sz))[j]? = ls.flatten[i * sz + j]? := by rw [List.getElem?_drop]
  have hlen : l.length = sz := hls l (List.mem_of_getElem? hil)
  have hj : j < l.length := (List.getElem?_eq_some_iff.1 hju).1
  rw [← h4, flat_drop hls, List.drop_eq_getElem_cons hi, List.flatten_cons]
  have : ls[i] = l := by have := List.getElem?_eq_some_iff.1 hil; exact this.2
  rw [this, List.getElem?_append_left hj, hju]

theorem same22_ (x y : List Int) (hn : x.length ≤ 1000000) (A B : Option Addr) (cap q : Nat) (D : Nat → Prop) (w : World) (hD : ∀ k, D k → k < w.heap.size) (hs : Sl 1 A x.length cap (il x) D w) (hs2 : Sl 1 B y.length q (il y) D w) :
    Calls PP N_milepostref22_Same #[.slice A x.length cap, .slice B y.length q] w (PR w (.bool (decide (x = y)))) := by
  refine enter f_milepostref22_Same rfl n_milepostref22_Same rfl (M.init PP w D [] [Sl 1 A x.length cap (il x), Sl 1 B y.length q (il y)] ⟨Sl.stable, Sl.stable, trivial⟩ hD ⟨hs, hs2, trivial⟩) ?_
  refine seq (region (det rfl (asg rfl) (nilS ?_)))   -- region 0
  refine seq ?_
  refine seq (region (det rfl (mv rfl) (det rfl (lenS u_sl_int rfl) (det rfl (mv rfl) (det rfl (lenS u_sl_int rfl) (det rfl (neq rfl rfl) (nilS ?_)))))))   -- region 1
  refine cond rfl (fun h => ?_) (fun h => ?_)   -- on t10
  · have h : ¬ ((x.length : Int) = y.length) := by simpa using h
    refine seq (region (det rfl (asg rfl) (nilS ?_)))   -- region 2
    exact ret (retT rfl rfl (pr' (vb (Eq.symm (decide_eq_false fun e => h (by rw [e]))))))
  · have h : x.length = y.length := by have : ((x.length : Int) = y.length) := by simpa using h
                                       omega
    refine skipS ?_
    refine seq ?_
    refine seq (region (det rfl (asg rfl) (nilS ?_)))   -- region 3
    refine block ?_   -- block 0
    refine loopV (ι := Nat) (fun k => k ≤ x.length ∧ x.take k = y.take k) (fun k => [(0, .slice A x.length cap), (1, .slice B y.length q), (5, .int .i64 k)]) (fun _ => []) (fun _ => [Sl 1 A x.length cap (il x), Sl 1 B y.length q (il y)]) (fun k => x.length - k) 0 ⟨by omega, by simp⟩ ⟨rfl, rfl, rfl, trivial⟩ (fun w hm => hm) ?_
    rintro k σ ⟨hk, hkt⟩
    refine seq ?_
    refine seq (region (det rfl (mv rfl) (det rfl (mv rfl) (det rfl (lenS u_sl_int rfl) (det rfl (lss rfl rfl) (nilS ?_))))))   -- region 4
    refine cond rfl (fun h => ?_) (fun h => ?_)   -- on t14
    · have h := of_decide_eq_true h
      have hk1 : k < x.length := by omega
      have hk2 : k < y.length := by omega
      refine skipS ?_
      refine seq ?_
      refine block ?_   -- block 1
      refine seq (draw (m := 9) mix (by kernel_rfl) (take 0 rfl (by kernel_rfl) rfl (mv rfl) (take 1 rfl (by kernel_rfl) rfl (mv rfl) (take 2 rfl (by kernel_rfl) rfl (ixS 0 rfl rfl u_sl_int s_int rfl (by omega) (by omega)) (take 3 rfl (by kernel_rfl) rfl (ldSO 0 rfl rfl o_int (il_at (j := k) (by omega) hk1)) (take 4 rfl (by kernel_rfl) rfl (mv rfl) (take 5 rfl (by kernel_rfl) rfl (mv rfl) (take 6 rfl (by kernel_rfl) rfl (ixS 1 rfl rfl u_sl_int s_int rfl (by omega) (by omega)) (take 7 rfl (by kernel_rfl) rfl (ldSO 1 rfl rfl o_int (il_at (j := k) (by omega) hk2)) (take 8 rfl (by kernel_rfl) rfl (neq rfl rfl) ((tail (by kernel_rfl) rfl (nilS ?_)))))))))))))   -- region 6
      refine cond rfl (fun h => ?_) (fun h => ?_)   -- on t25
      · have h : ¬ (x.getD k 0 = y.getD k 0) := by simpa using h
        refine seq (region (det rfl (asg rfl) (nilS ?_)))   -- region 7
        exact ret (retT rfl rfl (pr' (vb (Eq.symm (decide_eq_false fun e => h (by rw [e]))))))
      · have h : x.getD k 0 = y.getD k 0 := by simpa using h
        refine skip ?_
        show Tr _ _ _ _ _ _ _
        refine region (det rfl (mv rfl) (det rfl (addI rfl rfl (by omega) (by omega)) (det rfl (asg rfl) (nil ?_))))   -- region 5
        refine again (k + 1) ⟨by omega, ?_⟩ ⟨rfl, rfl, rfl, trivial⟩ (fun w hm => hm) (by (first | omega | (dsimp only; omega)))
        rw [List.take_succ_eq_append_getElem hk1, List.take_succ_eq_append_getElem hk2, hkt]
        have : x[k] = y[k] := by simpa [hk1, hk2] using h
        rw [this]
    · have h := of_decide_eq_false h
      have e : k = x.length := by omega
      subst e
      refine exit ?_   -- 0
      show Tr _ _ _ _ _ _ _
      refine seq (region (det rfl (asg rfl) (nilS ?_)))   -- region 8
      refine ret (retT rfl rfl (pr' (vb (Eq.symm (decide_eq_true ?_)))))
      rw [List.take_length] at hkt
      rw [hkt, List.take_of_length_le (by omega)]

/-! ### Much -/
def nOf (xs : List (List UInt8)) : Nat := xs.foldl (fun n x => min (n + 1 + x.length) 1048576) 0
theorem nOf_app (xs : List (List UInt8)) (x : List UInt8) : nOf (xs ++ [x]) = min (nOf xs + 1 + x.length) 1048576 := by simp [nOf]
theorem nOf_le (xs : List (List UInt8)) : nOf xs ≤ 1048576 := by
  have key : ∀ (xs : List (List UInt8)) (n : Nat), n ≤ 1048576 → xs.foldl (fun n x => min (n + 1 + x.length) 1048576) n ≤ 1048576 := by
    intro xs
    induction xs with
    | nil => intro n h; exact h
    | cons x r ih => intro n h; rw [List.foldl_cons]; exact ih _ (by omega)
  exact key xs 0 (by omega)
theorem nOf_mem (xs : List (List UInt8)) (h : nOf xs ≤ 6000) : ∀ x ∈ xs, x.length ≤ 6000 := by
  have key : ∀ (xs : List (List UInt8)) (n : Nat), n ≤ 1048576 → n ≤ xs.foldl (fun n x => min (n + 1 + x.length) 1048576) n ∧ (xs.foldl (fun n x => min (n + 1 + x.length) 1048576) n ≤ 6000 → ∀ x ∈ xs, x.length ≤ 6000) := by
    intro xs
    induction xs with
    | nil => intro n h; exact ⟨Nat.le_refl _, fun _ x hx => by cases hx⟩
    | cons x r ih =>
      intro n hn
      have := ih (min (n + 1 + x.length) 1048576) (by omega)
      rw [List.foldl_cons]
      refine ⟨by omega, fun h y hy => ?_⟩
      rcases List.mem_cons.1 hy with rfl | hy
      · omega
      · exact this.2 h y hy
  exact (key xs 0 (by omega)).2 h
def much22 (xs : List (List UInt8)) : Bool := (decide (60 < xs.length) && decide (xs.length ≤ 1024)) || decide (1050 < xs.length) || decide (6000 < nOf (xs.take 1100))
theorem much22_false {xs : List (List UInt8)} (h : much22 xs = false) : xs.length ≤ 1050 ∧ ∀ x ∈ xs, x.length ≤ 6000 := by
  simp only [much22, Bool.or_eq_false_iff, Bool.and_eq_false_iff, decide_eq_false_iff_not] at h
  have h1 : xs.length ≤ 1050 := by omega
  refine ⟨h1, ?_⟩
  have : xs.take 1100 = xs := List.take_of_length_le (by omega)
  rw [this] at h
  exact nOf_mem xs (by omega)
theorem much22_ (xs : List (List UInt8)) (hx : ∀ x ∈ xs, x.length ≤ 140737488355328) (A : Option Addr) (cap : Nat) (D : Nat → Prop) (w : World) (hD : ∀ k, D k → k < w.heap.size) (hs : Sl 1 A xs.length cap (tl xs) D w) :
    Calls PP N_milepostlaw22_Much #[.slice A xs.length cap] w (PR w (.bool (much22 xs))) := by
  have hmax : xs.length ≤ maxLen := Nat.le_trans hs.2.1 hs.2.2.1
  simp only [maxLen] at hmax
  refine enter f_milepostlaw22_Much rfl n_milepostlaw22_Much rfl (M.init1 PP w Sl.stable hD hs) ?_
  refine seq (region (det rfl (asg rfl) (nilS ?_)))   -- region 0
  refine seq (region (det rfl (asg rfl) (nilS ?_)))   -- region 1
  refine seq ?_
  refine seq (region (det rfl (asg rfl) (nilS ?_)))   -- region 2
  refine block ?_   -- block 0
  refine loopV (ι := Nat) (fun k => k ≤ xs.length ∧ k ≤ 1100) (fun k => [(0, .slice A xs.length cap), (3, .int .i64 (nOf (xs.take k))), (4, .int .i64 k)]) (fun _ => []) (fun _ => [Sl 1 A xs.length cap (tl xs)]) (fun k => 1100 - k) 0 ⟨by omega, by omega⟩ ⟨rfl, rfl, rfl, trivial⟩ (fun w hm => hm) ?_
  rintro k σ ⟨hk, hk1100⟩
  refine seq ?_
  refine seq (region (det rfl (mv rfl) (det rfl (mv rfl) (det rfl (lenS u_sl_string rfl) (det rfl (lss rfl rfl) (det rfl (mv rfl) (guardI rfl rfl rfl (fun _ => mv rfl) (guardI rfl rfl rfl (fun hb => lss (bift hb rfl) rfl) (det rfl (pick (b := decide ((k : Int) < xs.length)) rfl (pickA rfl)) (nilS ?_))))))))))   -- region 3
  refine cond rfl (fun h => ?_) (fun h => ?_)   -- on t12
  · have h := Bool.and_eq_true_iff.1 h
    have h1 := of_decide_eq_true h.1
    have h2 := of_decide_eq_true h.2
    have hk2 : k < xs.length := by omega
    have hxk := hx _ (List.getElem_mem hk2)
    have hng := nOf_le (xs.take k)
    have eg : xs.getD k [] = xs[k] := by simp [hk2]
    refine skipS ?_
    refine seq ?_
    refine block ?_   -- block 1
    refine region (det rfl (mv rfl) (det rfl (addI rfl rfl (by omega) (by omega)) (det rfl (mv rfl) (det rfl (mv rfl) (det rfl (ixS 0 rfl rfl u_sl_string s_string rfl (by omega) (by omega)) (det rfl (ldSO 0 rfl rfl o_string (tl_at (j := k) (by omega) hk2)) (det rfl (lenT u_string rfl) (det rfl (addI rfl rfl (by rw [eg]; omega) (by rw [eg]; omega)) (det rfl (minI rfl rfl) (det rfl (asg rfl) (nil ?_)))))))))))   -- region 5
    show Tr _ _ _ _ _ _ _
    refine region (det rfl (mv rfl) (det rfl (addI rfl rfl (by omega) (by omega)) (det rfl (asg rfl) (nil ?_))))   -- region 4
    refine again (k + 1) ⟨by omega, by omega⟩ ⟨rfl, vi ?_, rfl, trivial⟩ (fun w hm => hm) (by (first | omega | (dsimp only; omega)))
    rw [List.take_succ_eq_append_getElem hk2, nOf_app, eg]
    omega
  · refine exit ?_   -- 0
    show Tr _ _ _ _ _ _ _
    have hout : xs.take k = xs.take 1100 := by
      rcases Bool.and_eq_false_iff.1 h with h | h
      · have := of_decide_eq_false h
        rw [List.take_of_length_le (by omega), List.take_of_length_le (by omega)]
      · have := of_decide_eq_false h
        rw [show k = 1100 by omega]
    rw [hout]
    refine seq (region (det rfl (mv rfl) (det rfl (lenS u_sl_string rfl) (det rfl (gtr rfl rfl) (det rfl (mv rfl) (guardI rfl rfl rfl (fun _ => mv rfl) (guardI rfl rfl rfl (fun hb => lenS u_sl_string (bift hb rfl)) (guardI rfl rfl rfl (fun hb => leq (bift hb rfl) rfl) (det rfl (pick rfl (pickA rfl)) (det rfl (mv rfl) (guardI rfl rfl rfl (fun _ => mv rfl) (guardI rfl rfl rfl (fun hb => lenS u_sl_string (bift hb rfl)) (guardI rfl rfl rfl (fun hb => gtr (bift hb rfl) rfl) (det rfl (pick rfl (pickO rfl)) (det rfl (mv rfl) (guardI rfl rfl rfl (fun _ => mv rfl) (guardI rfl rfl rfl (fun hb => gtr (bift hb rfl) rfl) (det rfl (pick rfl (pickO rfl)) (det rfl (asg rfl) (nilS ?_))))))))))))))))))))   -- region 6
    refine ret (retT rfl rfl (pr' (vb ?_)))
    rw [much22, Bool.eq_iff_iff]
    simp only [Bool.or_eq_true, Bool.and_eq_true, decide_eq_true_eq]
    omega

/-! ### Much of blocks -/
def sumT (l : List Bl) : Nat := l.foldl (fun n b => n + b.t.length) 0
theorem sumT_app (l : List Bl) (b : Bl) : sumT (l ++ [b]) = sumT l + b.t.length := by simp [sumT]
def much24 (l : List Bl) : Bool := (l.take 30).any (fun b => much22 b.t) || (decide (24 < l.length) || decide (100 < sumT (l.take 30)))
theorem much24_false {l : List Bl} (h : much24 l = false) : l.length ≤ 24 ∧ ∀ b ∈ l, much22 b.t = false := by
  simp only [much24, Bool.or_eq_false_iff, decide_eq_false_iff_not] at h
  have h1 : l.length ≤ 24 := by omega
  refine ⟨h1, fun b hb => ?_⟩
  have e : l.take 30 = l := List.take_of_length_le (by omega)
  rw [e, List.any_eq_false] at h
  simpa using h.1 b hb
theorem much24_ (l : List Bl) (hl1 : ∀ b ∈ l, b.h.ok) (hx : ∀ b ∈ l, ∀ x ∈ b.t, x.length ≤ 140737488355328) (A : Option Addr) (cap : Nat) (D : Nat → Prop) (w : World) (hD : ∀ k, D k → k < w.heap.size) (hs : Sl 67 A l.length cap (bl l) D w) (hts : Txs l D w) :
    Calls PP N_milepostlaw24_Much #[.slice A l.length cap] w (PR w (.bool (much24 l))) := by
  have hmax : l.length ≤ maxLen := Nat.le_trans hs.2.1 hs.2.2.1
  simp only [maxLen] at hmax
  refine enter f_milepostlaw24_Much rfl n_milepostlaw24_Much rfl (M.init PP w D [] [Sl 67 A l.length cap (bl l), Txs l] ⟨Sl.stable, Txs.stable, trivial⟩ hD ⟨hs, hts, trivial⟩) ?_
  refine seq (region (det rfl (asg rfl) (nilS ?_)))   -- region 0
  refine seq (region (det rfl (asg rfl) (nilS ?_)))   -- region 1
  refine seq ?_
  refine seq (region (det rfl (asg rfl) (nilS ?_)))   -- region 2
  refine block ?_   -- block 0
  refine loopV (ι := Nat) (fun k => k ≤ l.length ∧ k ≤ 30 ∧ sumT (l.take k) ≤ 1050 * k ∧ (l.take k).any (fun b => much22 b.t) = false) (fun k => [(0, .slice A l.length cap), (3, .int .i64 (sumT (l.take k))), (4, .int .i64 k)]) (fun _ => []) (fun _ => [Sl 67 A l.length cap (bl l), Txs l]) (fun k => 30 - k) 0 ⟨by omega, by omega, by simp [sumT], by simp⟩ ⟨rfl, rfl, rfl, trivial⟩ (fun w hm => hm) ?_
  rintro k σ ⟨hk, hk30, hsum, hany⟩
  refine seq ?_
  refine seq (region (det rfl (mv rfl) (det rfl (mv rfl) (det rfl (lenS u_sl_api_Block rfl) (det rfl (lss rfl rfl) (det rfl (mv rfl) (guardI rfl rfl rfl (fun _ => mv rfl) (guardI rfl rfl rfl (fun hb => lss (bift hb rfl) rfl) (det rfl (pick (b := decide ((k : Int) < l.length)) rfl (pickA rfl)) (nilS ?_))))))))))   -- region 3
  refine cond rfl (fun h => ?_) (fun h => ?_)   -- on t12
  · have h := Bool.and_eq_true_iff.1 h
    have h1 := of_decide_eq_true h.1
    have h2 := of_decide_eq_true h.2
    have hk2 : k < l.length := by omega
    obtain ⟨b, hbk⟩ : ∃ b, l[k] = b := ⟨_, rfl⟩
    have hbm : b ∈ l := by rw [← hbk]; exact List.getElem_mem hk2
    have hb := hl1 b hbm
    have hxb := hx b hbm
    have hat : (bl l)[k]? = some b.c := by rw [bl_at (j := k) rfl hk2, hbk]
    refine skipS ?_
    refine seq ?_
    refine block ?_   -- block 1
    refine seq ?_
    refine seq (region (det rfl (mv rfl) (det rfl (mv rfl) (det rfl (ixS 0 rfl rfl u_sl_api_Block s_api_Block rfl (by omega) (by omega)) (det rfl (fadrS 0 rfl u_api_Block rfl s_sl_string rfl (by omega)) (det rfl (Det.to (ldSQ 0 (i := k) rfl rfl o_sl_string hat (Bl.at_s hb)) (v' := .slice b.A b.t.length b.cap) rfl) (call k_milepostlaw22_Much rfl rfl (fun w hm => by
      obtain ⟨D, d1, d2, hD, d4, d5⟩ := hm.data
      exact much22_ b.t hxb b.A b.cap D w hD (d5.2.1 b hbm)) (nilS ?_))))))))   -- region 5
    refine cond rfl (fun h => ?_) (fun h => ?_)   -- on t20
    · refine seq (region (det rfl (asg rfl) (nilS ?_)))   -- region 6
      refine ret (retT rfl rfl (pr' (vb ?_)))
      have : (l.take 30).any (fun b => much22 b.t) = true := by
        rw [List.any_eq_true]
        refine ⟨b, ?_, h⟩
        rw [← hbk]
        exact List.mem_take_iff_getElem.2 ⟨k, by omega, rfl⟩
      rw [much24, this]; rfl
    · have hbl := (much22_false h).1
      refine skipS ?_
      refine also (f := Sl 1 b.A b.t.length b.cap (tl b.t)) Sl.stable (fun D w hK => hK.2.1 b hbm) ?_
      refine region (det rfl (mv rfl) (det rfl (mv rfl) (det rfl (mv rfl) (det rfl (ixS 1 rfl rfl u_sl_api_Block s_api_Block rfl (by omega) (by omega)) (det rfl (fadrS 1 rfl u_api_Block rfl s_sl_string rfl (by omega)) (det rfl (Det.to (ldSQ 1 (i := k) rfl rfl o_sl_string hat (Bl.at_s hb)) (v' := .slice b.A b.t.length b.cap) rfl) (det rfl (lenS u_sl_string rfl) (det rfl (addI rfl rfl (by omega) (by omega)) (det rfl (asg rfl) (nil ?_))))))))))   -- region 7
      show Tr _ _ _ _ _ _ _
      refine region (det rfl (mv rfl) (det rfl (addI rfl rfl (by omega) (by omega)) (det rfl (asg rfl) (nil ?_))))   -- region 4
      have es : sumT (l.take (k + 1)) = sumT (l.take k) + b.t.length := by rw [List.take_succ_eq_append_getElem hk2, sumT_app, hbk]
      refine again (k + 1) ⟨by omega, by omega, by rw [es]; omega, by rw [List.take_succ_eq_append_getElem hk2, List.any_append, hany, hbk]; simpa using h⟩ ⟨rfl, vi (by rw [es]; omega), rfl, trivial⟩ (fun w hm => hm.more) (by (first | omega | (dsimp only; omega)))
  · refine exit ?_   -- 0
    show Tr _ _ _ _ _ _ _
    have hout : l.take k = l.take 30 := by
      rcases Bool.and_eq_false_iff.1 h with h | h
      · have := of_decide_eq_false h
        rw [List.take_of_length_le (by omega), List.take_of_length_le (by omega)]
      · have := of_decide_eq_false h
        rw [show k = 30 by omega]
    rw [hout] at hany ⊢
    refine seq (region (det rfl (mv rfl) (det rfl (lenS u_sl_api_Block rfl) (det rfl (gtr rfl rfl) (det rfl (mv rfl) (guardI rfl rfl rfl (fun _ => mv rfl) (guardI rfl rfl rfl (fun hb => gtr (bift hb rfl) rfl) (det rfl (pick rfl (pickO rfl)) (det rfl (asg rfl) (nilS ?_))))))))))   -- region 8
    refine ret (retT rfl rfl (pr' (vb ?_)))
    rw [much24, hany, Bool.eq_iff_iff]
    simp only [Bool.or_eq_true, decide_eq_true_eq, Bool.false_eq_true, false_or]
    omega
end Go.Proofs.YtmcapgjdflohfaaGreat.L

namespace Go.Proofs.YtmcapgjdflohfaaGreat.L
open Go Go.RowKit
set_option linter.unusedVariables false

def idsA (l : List Bl) : List (List UInt8) := l.map fun b => idL b.h
theorem idsA_length (l : List Bl) : (idsA l).length = l.length := by simp [idsA]
theorem idsA_get {l : List Bl} {k : Nat} (h : k < l.length) : (idsA l).getD k [] = idL (l.getD k bl0).h := by simp [idsA, h]
theorem levs_get {t : List UInt8} {l : List Bl} {k : Nat} (h : k < l.length) : (levs t l).getD k 0 = levF1 t k (l.getD k bl0) := by simp [levs, h]
theorem vecA_vec (t : List UInt8) (l : List Bl) (k : Nat) (hk : k ≤ l.length) : vecA t l k = Mp.vec [] (idsA l) (levs t l) k := by
  induction k with
  | zero => rfl
  | succ k ih =>
    rw [vecA, Mp.vec, behindS, ih (by omega)]
    by_cases h0 : k = 0
    · subst h0; rw [if_pos rfl, if_pos rfl, idsA_get (by omega)]
    · rw [if_neg h0, if_neg h0, idsA_get (by omega), levs_get (by omega), levF1, if_neg h0]

theorem okW_lev {i t : List UInt8} (h : okW i t = true) : 0 ≤ levW i t := by
  have h := of_decide_eq_true h
  unfold levW
  rw [show (256 : Nat) = 255 + 1 from rfl, levF, shrN, if_pos rfl, if_neg (by omega)]
  have := levF_range (ofN i 4) (ofN t 4) 255 1
  simp only [Nat.zero_add]
  omega
theorem chkGo_zero (c : Cf) (l : List Bl) (r k : Nat) (h : (chkGo c l r k).1 = 0) : ∀ j, k ≤ j → j < k + r → ask3 c l j = 0 := by
  induction r generalizing k with
  | zero => intro j h1 h2; omega
  | succ r ih =>
    intro j h1 h2
    rw [chkGo] at h
    by_cases e : ask3 c l k = 0
    · rw [if_neg (fun x => x e)] at h
      by_cases ej : j = k
      · rw [ej]; exact e
      · exact ih (k + 1) h j (by omega) (by omega)
    · rw [if_pos e] at h; exact absurd h e
theorem ask3_work {c : Cf} {l : List Bl} {k : Nat} (h : ask3 c l k = 0) : askF c k (l.getD k bl0) (vecA c.t l k) 0 = 0 ∧ askF c k (l.getD k bl0) (vecA c.t l k) 1 = 0 ∧ askF c k (l.getD k bl0) (vecA c.t l k) 2 = 0 := by
  unfold ask3 at h
  dsimp only at h
  split at h
  · rename_i h1; exact absurd h h1
  · split at h
    · rename_i h1; exact absurd h h1
    · rename_i h1 h2
      exact ⟨Decidable.not_not.1 h1, Decidable.not_not.1 h2, h⟩
/-- What a chain that may be is. -/
structure Chn (c : Cf) (l : List Bl) : Prop where
  pos : 0 < l.length
  le : l.length ≤ 1024
  ask : ∀ k, k < l.length → ask3 c l k = 0
theorem chk_chn {c : Cf} {l : List Bl} (h : (chkF c l).1 = 0) : Chn c l := by
  unfold chkF at h
  split at h
  · cases h
  · split at h
    · cases h
    · exact ⟨by omega, by omega, fun k hk => chkGo_zero c l _ 0 h k (by omega) (by omega)⟩
theorem Chn.work {c : Cf} {l : List Bl} (h : Chn c l) {k : Nat} (hk : k < l.length) : okW (idL (l.getD k bl0).h) c.t = true := by
  have := (ask3_work (h.ask k hk)).2.2
  simp only [askF, workF] at this
  rw [if_neg (by decide), if_neg (by decide)] at this
  by_cases e : okW (idL (l.getD k bl0).h) c.t = true
  · exact e
  · rw [if_neg e] at this; cases this
theorem Chn.levels {c : Cf} {l : List Bl} (h : Chn c l) : Mp.ChainLevels (levs c.t l) := by
  refine ⟨fun _ => by rw [levs_get h.pos, levF1, if_pos rfl], fun i h0 hi => ?_⟩
  rw [levs_length] at hi
  rw [levs_get hi, levF1, if_neg (by omega)]
  exact ⟨okW_lev (h.work hi), (levW_range _ _).2⟩
/-- The vectors by what is near. -/
theorem Chn.vec {c : Cf} {l : List Bl} (h : Chn c l) {k : Nat} (hk : k ≤ l.length) : vecA c.t l k = (Mp.all (levs c.t l) k).map fun p => (idsA l).getD p.toNat [] := by
  rw [vecA_vec _ _ _ hk, Mp.vec_eq _ _ _ h.levels _ (by rw [levs_length]; exact hk)]
end Go.Proofs.YtmcapgjdflohfaaGreat.L

namespace Go.Proofs.YtmcapgjdflohfaaGreat.L
open Go Go.RowKit
set_option linter.unusedVariables false

/-- So many of the first operations have come up. -/
def pref (n i : Nat) : Array Bool := (List.replicate i true ++ List.replicate (n - i) false).toArray
theorem pref_zero (n : Nat) : pref n 0 = Array.replicate n false := by simp [pref]
theorem pref_set {n i : Nat} (h : i < n) : (pref n i).setIfInBounds i true = pref n (i + 1) := by
  obtain ⟨k, hk⟩ : ∃ k, n - i = k + 1 := ⟨n - i - 1, by omega⟩
  have hk2 : n - (i + 1) = k := by omega
  apply Array.toList_inj.1
  simp only [pref, Array.toList_setIfInBounds, hk, hk2]
  rw [List.set_append_right _ _ (by simp), List.length_replicate, Nat.sub_self, List.replicate_succ, List.set_cons_zero, List.replicate_succ' (n := i), List.append_assoc]
  rfl

def okAt (ops : Array Oper) (m : Nat) (calls : List Nat) (i : Nat) : Bool :=
  if calls.contains i then Nat.blt i m && (Region.ready .any ops (pref ops.size i) == [i]) else okTake ops m i (pref ops.size i)
/-- What is asked of a region, once: each operation may be taken first, or is the only one, in the text's order. -/
def okIn (ops : Array Oper) (m : Nat) (calls : List Nat) : Bool := (List.range m).all (okAt ops m calls) && Region.seqB .any ops (ops.size - m) m (pref ops.size m)

section
variable {c : Cx} {n : Nat} {Q : Exit → Env → World → Prop} {σ : Env} {H : List Res} {K : List Fact}
variable {ops : Array Oper} {m i : Nat} {calls : List Nat} {l : List Oper}

def HI (c : Cx) (n : Nat) (ops : Array Oper) (Q : Exit → Env → World → Prop) (m : Nat) (calls : List Nat) (i : Nat) (l : List Oper) (σ : Env) (H : List Res) (K : List Fact) : Prop :=
  ops.toList.drop i = l → okIn ops m calls = true → m ≤ ops.size → HD c n ops Q m (m - i) (pref ops.size i) σ H K

theorem drawI {id : Nat} {l : List Oper} (m : Nat) (calls : List Nat) (hm : c.P.follows .mixedOrders = true) (hok : okDraw l.toArray m = true) (hin : okIn l.toArray m calls = true)
    (h : HI c n l.toArray Q m calls 0 l σ H K) : Tr c n (.region id l.toArray true) Q σ H K := by
  refine draw hm hok ?_
  have hle : m ≤ l.toArray.size := by
    simp only [okDraw, Bool.and_eq_true] at hok
    exact Nat.le_of_ble_eq_true hok.1.2
  have := h (by simp) hin hle
  rw [pref_zero] at this
  simpa using this

theorem HI.at {o : Oper} {r : List Oper} (h : ops.toList.drop i = o :: r) : ops[i]? = some o ∧ ops.toList.drop (i + 1) = r := by
  have h1 : (ops.toList.drop i)[0]? = some o := by rw [h]; rfl
  rw [List.getElem?_drop, Nat.add_zero] at h1
  refine ⟨by simpa using h1, ?_⟩
  rw [← List.drop_drop, h]; rfl
theorem okIn.at (h : okIn ops m calls = true) (hi : i < m) : okAt ops m calls i = true := by
  simp only [okIn, Bool.and_eq_true] at h
  exact List.all_eq_true.1 h.1 i (List.mem_range.2 hi)
theorem okIn.take (h : okIn ops m calls = true) (hi : i < m) (hc : calls.contains i = false) : okTake ops m i (pref ops.size i) = true := by
  have := okIn.at h hi
  rw [okAt, hc] at this; exact this
theorem okIn.only (h : okIn ops m calls = true) (hi : i < m) (hc : calls.contains i = true) : Region.ready .any ops (pref ops.size i) = [i] := by
  have := okIn.at h hi
  rw [okAt, hc, if_pos rfl, Bool.and_eq_true] at this
  simpa using this.2

theorem blt_lt {a b : Nat} (h : Nat.blt a b = true) : a < b := by simp [Nat.blt] at h; omega
/-- One that yields a value. -/
theorem nI [NoP Q] {d : Nat} {op : Op} {t : TypeId} {p : String} {af : Array Edge} {v : Value} (him : Nat.blt i m = true) (hc : calls.contains i = false) (hd : Nat.blt d n = true)
    (hv : Det c σ H K ⟨some d, op, t, p, af, none⟩ v) (h : HI c n ops Q m calls (i + 1) l (upd σ d v) H K) : HI c n ops Q m calls i (⟨some d, op, t, p, af, none⟩ :: l) σ H K := by
  intro hl hok hms
  have hi := blt_lt him
  obtain ⟨h1, h2⟩ := HI.at hl
  have := h h2 hok hms
  rw [← pref_set (show i < ops.size by omega)] at this
  rw [show m - i = (m - (i + 1)) + 1 by omega]
  exact take i h1 (okIn.take hok hi hc) hd hv this
/-- One that its guard lets run. -/
theorem gI [NoP Q] {d j s : Nat} {b : Bool} {op : Op} {t : TypeId} {p : String} {af : Array Edge} {v : Value} (him : Nat.blt i m = true) (hc : calls.contains i = false) (hj : (ops[j]?).bind (·.dst) = some s) (hs : σ s = .bool b) (hd : Nat.blt d n = true)
    (hv : Det c σ H K ⟨some d, op, t, p, af, some (j, b)⟩ v) (h : HI c n ops Q m calls (i + 1) l (upd σ d v) H K) : HI c n ops Q m calls i (⟨some d, op, t, p, af, some (j, b)⟩ :: l) σ H K := by
  intro hl hok hms
  have hi := blt_lt him
  obtain ⟨h1, h2⟩ := HI.at hl
  have := h h2 hok hms
  rw [← pref_set (show i < ops.size by omega)] at this
  rw [show m - i = (m - (i + 1)) + 1 by omega]
  exact takeG i h1 hj hs (okIn.take hok hi hc) hd hv this
/-- One that its guard does not let run. -/
theorem uI [NoP Q] {d j s : Nat} {b : Bool} {op : Op} {t : TypeId} {p : String} {af : Array Edge} (him : Nat.blt i m = true) (hc : calls.contains i = false) (hj : (ops[j]?).bind (·.dst) = some s) (hs : σ s = .bool (!b) ∨ σ s = undef) (hd : Nat.blt d n = true)
    (h : HI c n ops Q m calls (i + 1) l (upd σ d undef) H K) : HI c n ops Q m calls i (⟨some d, op, t, p, af, some (j, b)⟩ :: l) σ H K := by
  intro hl hok hms
  have hi := blt_lt him
  obtain ⟨h1, h2⟩ := HI.at hl
  have := h h2 hok hms
  rw [← pref_set (show i < ops.size by omega)] at this
  rw [show m - i = (m - (i + 1)) + 1 by omega]
  exact takeU i h1 hj hs (okIn.take hok hi hc) hd this
/-- A call, the only one that may come up. -/
theorem cI [NoP Q] {β : Type} (V : β → Value) (H' : β → List Res) (K' : β → List Fact) {d : Nat} {fid : FuncId} {args : Array Operand} {ats : Array TypeId} {vs : List Value} {t : TypeId} {p : String} {af : Array Edge}
    (him : Nat.blt i m = true) (hc : calls.contains i = true) (hf : Fn c.P fid) (ha : args.toList.map (ev σ) = vs) (hd : Nat.blt d n = true)
    (spec : ∀ w, M c H K w → Calls c.P fid vs.toArray w fun e w' => ∃ b, e = .returned (V b) ∧ M c (H' b) (K' b) w')
    (hw : ∀ b w, M c (H' b) (K' b) w → M c H K w)
    (h : ∀ b, HI c n ops Q m calls (i + 1) l (upd σ d (V b)) (H' b) (K' b)) : HI c n ops Q m calls i (⟨some d, .call { callee := .value (.func fid), args := args, argTypes := ats }, t, p, af, none⟩ :: l) σ H K := by
  intro hl hok hms
  have hi := blt_lt him
  obtain ⟨h1, h2⟩ := HI.at hl
  rw [show m - i = (m - (i + 1)) + 1 by omega]
  refine onlyC V H' K' i h1 (okIn.only hok hi hc) him hf ha hd spec hw fun b => ?_
  have := h b h2 hok hms
  rw [← pref_set (show i < ops.size by omega)] at this
  exact this
theorem pI [NoP Q] {d : Nat} {fid : FuncId} {args : Array Operand} {ats : Array TypeId} {vs : List Value} {t : TypeId} {p : String} {af : Array Edge} {v : Value}
    (him : Nat.blt i m = true) (hc : calls.contains i = true) (hf : Fn c.P fid) (ha : args.toList.map (ev σ) = vs) (hd : Nat.blt d n = true)
    (spec : ∀ w, M c H K w → Calls c.P fid vs.toArray w fun e w' => e = .returned v ∧ Below w.heap.size w w') (h : HI c n ops Q m calls (i + 1) l (upd σ d v) H K) :
    HI c n ops Q m calls i (⟨some d, .call { callee := .value (.func fid), args := args, argTypes := ats }, t, p, af, none⟩ :: l) σ H K :=
  cI (β := Unit) (fun _ => v) (fun _ => H) (fun _ => K) him hc hf ha hd (fun w hm => (spec w hm).mono fun e w' ⟨he, hb⟩ => ⟨(), he, hm.pure (grown_below hb)⟩) (fun _ _ hm => hm) (fun _ => h)
/-- A call that hands back a slice. -/
theorem sI [NoP Q] {d : Nat} {fid : FuncId} {args : Array Operand} {ats : Array TypeId} {vs : List Value} {t : TypeId} {p : String} {af : Array Edge} {sz k : Nat} {ls : List (List Value)} (hk : ls.length = k)
    (him : Nat.blt i m = true) (hc : calls.contains i = true) (hf : Fn c.P fid) (ha : args.toList.map (ev σ) = vs) (hd : Nat.blt d n = true)
    (spec : ∀ w, M c H K w → Calls c.P fid vs.toArray w (RS w sz ls))
    (h : ∀ A cap, HI c n ops Q m calls (i + 1) l (upd σ d (.slice A k cap)) H (Sl sz A k cap ls :: K)) : HI c n ops Q m calls i (⟨some d, .call { callee := .value (.func fid), args := args, argTypes := ats }, t, p, af, none⟩ :: l) σ H K := by
  subst hk
  exact cI (β := Option Addr × Nat) (fun p => .slice p.1 ls.length p.2) (fun _ => H) (fun p => Sl sz p.1 ls.length p.2 ls :: K) him hc hf ha hd
    (fun w hm => (spec w hm).mono fun e w' ⟨A, cap, he, hb, hs⟩ => ⟨(A, cap), he, hm.learn Sl.stable (grown_below hb) (fun D _ => hs.mono fun k hk => .inr hk)⟩)
    (fun _ _ hm => hm.more) (fun p => h p.1 p.2)
/-- A call that hands back a slice of slices. -/
theorem vI [NoP Q] {d : Nat} {fid : FuncId} {args : Array Operand} {ats : Array TypeId} {vs : List Value} {t : TypeId} {p : String} {af : Array Edge} {k : Nat} {ls : List (List (List UInt8))} (hk : ls.length = k)
    (him : Nat.blt i m = true) (hc : calls.contains i = true) (hf : Fn c.P fid) (ha : args.toList.map (ev σ) = vs) (hd : Nat.blt d n = true)
    (spec : ∀ w, M c H K w → Calls c.P fid vs.toArray w (RV w ls))
    (h : ∀ A cap (L : {L : List Vc // L.map Vc.xs = ls}), HI c n ops Q m calls (i + 1) l (upd σ d (.slice A k cap)) H (VV A k cap L.1 :: K)) : HI c n ops Q m calls i (⟨some d, .call { callee := .value (.func fid), args := args, argTypes := ats }, t, p, af, none⟩ :: l) σ H K := by
  subst hk
  exact cI (β := Option Addr × Nat × {L : List Vc // L.map Vc.xs = ls}) (fun p => .slice p.1 ls.length p.2.1) (fun _ => H) (fun p => VV p.1 ls.length p.2.1 p.2.2.1 :: K) him hc hf ha hd
    (fun w hm => (spec w hm).mono fun e w' ⟨A, cap, L, hL, he, hb, hs⟩ => ⟨(A, cap, ⟨L, hL⟩), he, hm.learn VV.stable (grown_below hb) (fun D _ => VV.stable _ _ _ _ (fun k hk => .inr hk) (fun _ _ _ => rfl) hs)⟩)
    (fun _ _ hm => hm.more) (fun p => h p.1 p.2.1 p.2.2)
/-- One that makes memory, the only one. -/
theorem mI [NoP Q] {β : Type} (V : β → Value) (H' : β → List Res) (K' : β → List Fact) {d : Nat} {op : Op} {t : TypeId} {p : String} {af : Array Edge} (him : Nat.blt i m = true) (hc : calls.contains i = true) (hd : Nat.blt d n = true)
    (he : ∀ w, M c H K w → ∃ b w', (execOp (ev σ) ⟨some d, op, t, p, af, none⟩).run c.P w = .ok (.value (V b)) w' ∧ M c (H' b) (K' b) w')
    (hw : ∀ b w, M c (H' b) (K' b) w → M c H K w)
    (h : ∀ b, HI c n ops Q m calls (i + 1) l (upd σ d (V b)) (H' b) (K' b)) : HI c n ops Q m calls i (⟨some d, op, t, p, af, none⟩ :: l) σ H K := by
  intro hl hok hms
  have hi := blt_lt him
  obtain ⟨h1, h2⟩ := HI.at hl
  rw [show m - i = (m - (i + 1)) + 1 by omega]
  refine onlyE V H' K' i h1 (okIn.only hok hi hc) him hd he hw fun b => ?_
  have := h b h2 hok hms
  rw [← pref_set (show i < ops.size by omega)] at this
  exact this
/-- The head is done. -/
theorem endI (him : i = m) (h : TL c n ops l Q σ H K) : HI c n ops Q m calls i l σ H K := by
  subst him
  intro hl hok hms
  rw [Nat.sub_self]
  refine tail ?_ hl h
  simp only [okIn, Bool.and_eq_true] at hok
  exact hok.2

/-- The only one, a call that its guard lets run. -/
theorem onlyCG [NoP Q] {f : Nat} {listed : Array Bool} {β : Type} (V : β → Value) (H' : β → List Res) (K' : β → List Fact) (i : Nat) {d j s : Nat} {b : Bool} {fid : FuncId} {args : Array Operand} {ats : Array TypeId} {vs : List Value} {t : TypeId} {p : String} {af : Array Edge}
    (hi : ops[i]? = some ⟨some d, .call { callee := .value (.func fid), args := args, argTypes := ats }, t, p, af, some (j, b)⟩) (hj : (ops[j]?).bind (·.dst) = some s) (hs : σ s = .bool b)
    (hr1 : Region.ready .any ops listed = [i]) (him : Nat.blt i m = true) (hf : Fn c.P fid) (ha : args.toList.map (ev σ) = vs) (hd : Nat.blt d n = true)
    (spec : ∀ w, M c H K w → Calls c.P fid vs.toArray w fun e w' => ∃ b, e = .returned (V b) ∧ M c (H' b) (K' b) w')
    (hw : ∀ b w, M c (H' b) (K' b) w → M c H K w)
    (h : ∀ b, HD c n ops Q m f (listed.setIfInBounds i true) (upd σ d (V b)) (H' b) (K' b)) : HD c n ops Q m (f + 1) listed σ H K := by
  intro hok inv w hM a hr
  have him' : i < m := by simp [Nat.blt] at him; omega
  refine ⟨by rw [hr1]; simp, fun l hl => ?_⟩
  have hlr := hl
  rw [hr1] at hl
  have hli : l = i := by simpa using hl
  subst hli
  refine ⟨him', ?_⟩
  have hwant : Region.wanted ⟨some d, .call { callee := .value (.func fid), args := args, argTypes := ats }, t, p, af, some (j, b)⟩ (yielded ops a.tmps) = true := by
    have hv := hr.val s
    rw [hs] at hv
    have hlt : s < a.tmps.size := by
      rcases Nat.lt_or_ge s a.tmps.size with h' | h'
      · exact h'
      · simp [Array.getElem?_eq_none h', undef] at hv
    have : a.tmps[s]? = some (.bool b) := by
      rw [Array.getElem?_eq_getElem hlt]
      simpa [hlt] using hv
    simp [Region.wanted, yielded, hj, this]
  unfold wpOp
  simp only [hi, hwant, if_true]
  refine .inl ?_
  unfold Oper.wp
  have e : execOp (ev σ) ⟨some d, .call { callee := .value (.func fid), args := args, argTypes := ats }, t, p, af, some (j, b)⟩ = execOp (ev σ) ⟨some d, .call { callee := .value (.func fid), args := args, argTypes := ats }, t, p, af, none⟩ := rfl
  rw [hr.eval, e, hf.run, map_args ha]
  refine (spec w hM).mono ?_
  rintro e w' ⟨b, rfl, hM'⟩
  exact ⟨hw b w' hM', wpHd_mono (hw b) f _ _ _ (h b hok (inv.set hlr him') w' hM' _ (hr.put d _ (by simp [Nat.blt] at hd; omega)))⟩
theorem cgI [NoP Q] {β : Type} (V : β → Value) (H' : β → List Res) (K' : β → List Fact) {d j s : Nat} {b : Bool} {fid : FuncId} {args : Array Operand} {ats : Array TypeId} {vs : List Value} {t : TypeId} {p : String} {af : Array Edge}
    (him : Nat.blt i m = true) (hc : calls.contains i = true) (hj : (ops[j]?).bind (·.dst) = some s) (hs : σ s = .bool b) (hf : Fn c.P fid) (ha : args.toList.map (ev σ) = vs) (hd : Nat.blt d n = true)
    (spec : ∀ w, M c H K w → Calls c.P fid vs.toArray w fun e w' => ∃ b, e = .returned (V b) ∧ M c (H' b) (K' b) w')
    (hw : ∀ b w, M c (H' b) (K' b) w → M c H K w)
    (h : ∀ b, HI c n ops Q m calls (i + 1) l (upd σ d (V b)) (H' b) (K' b)) : HI c n ops Q m calls i (⟨some d, .call { callee := .value (.func fid), args := args, argTypes := ats }, t, p, af, some (j, b)⟩ :: l) σ H K := by
  intro hl hok hms
  have hi := blt_lt him
  obtain ⟨h1, h2⟩ := HI.at hl
  rw [show m - i = (m - (i + 1)) + 1 by omega]
  refine onlyCG V H' K' i h1 hj hs (okIn.only hok hi hc) him hf ha hd spec hw fun b => ?_
  have := h b h2 hok hms
  rw [← pref_set (show i < ops.size by omega)] at this
  exact this
theorem pgI [NoP Q] {d j s : Nat} {b : Bool} {fid : FuncId} {args : Array Operand} {ats : Array TypeId} {vs : List Value} {t : TypeId} {p : String} {af : Array Edge} {v : Value}
    (him : Nat.blt i m = true) (hc : calls.contains i = true) (hj : (ops[j]?).bind (·.dst) = some s) (hs : σ s = .bool b) (hf : Fn c.P fid) (ha : args.toList.map (ev σ) = vs) (hd : Nat.blt d n = true)
    (spec : ∀ w, M c H K w → Calls c.P fid vs.toArray w fun e w' => e = .returned v ∧ Below w.heap.size w w') (h : HI c n ops Q m calls (i + 1) l (upd σ d v) H K) :
    HI c n ops Q m calls i (⟨some d, .call { callee := .value (.func fid), args := args, argTypes := ats }, t, p, af, some (j, b)⟩ :: l) σ H K :=
  cgI (β := Unit) (fun _ => v) (fun _ => H) (fun _ => K) him hc hj hs hf ha hd (fun w hm => (spec w hm).mono fun e w' ⟨he, hb⟩ => ⟨(), he, hm.pure (grown_below hb)⟩) (fun _ _ hm => hm) (fun _ => h)
theorem sgI [NoP Q] {d j s : Nat} {b : Bool} {fid : FuncId} {args : Array Operand} {ats : Array TypeId} {vs : List Value} {t : TypeId} {p : String} {af : Array Edge} {sz k : Nat} {ls : List (List Value)} (hk : ls.length = k)
    (him : Nat.blt i m = true) (hc : calls.contains i = true) (hj : (ops[j]?).bind (·.dst) = some s) (hs : σ s = .bool b) (hf : Fn c.P fid) (ha : args.toList.map (ev σ) = vs) (hd : Nat.blt d n = true)
    (spec : ∀ w, M c H K w → Calls c.P fid vs.toArray w (RS w sz ls))
    (h : ∀ A cap, HI c n ops Q m calls (i + 1) l (upd σ d (.slice A k cap)) H (Sl sz A k cap ls :: K)) : HI c n ops Q m calls i (⟨some d, .call { callee := .value (.func fid), args := args, argTypes := ats }, t, p, af, some (j, b)⟩ :: l) σ H K := by
  subst hk
  exact cgI (β := Option Addr × Nat) (fun p => .slice p.1 ls.length p.2) (fun _ => H) (fun p => Sl sz p.1 ls.length p.2 ls :: K) him hc hj hs hf ha hd
    (fun w hm => (spec w hm).mono fun e w' ⟨A, cap, he, hb, hs⟩ => ⟨(A, cap), he, hm.learn Sl.stable (grown_below hb) (fun D _ => hs.mono fun k hk => .inr hk)⟩)
    (fun _ _ hm => hm.more) (fun p => h p.1 p.2)
end
end Go.Proofs.YtmcapgjdflohfaaGreat.L

namespace Go.Proofs.YtmcapgjdflohfaaGreat.L
open Go Go.RowKit
set_option linter.unusedVariables false

section
variable {c : Cx} {n : Nat} {Q : Exit → Env → World → Prop} {σ : Env} {H : List Res} {K : List Fact}
variable {t : TypeId} {p : String} {af : Array Edge}
/-- Facts that follow, in place of those that are known. -/
theorem refactT {x : Code} {K' : List Fact} (hs : KStable K') (hf : ∀ (D : Nat → Prop) w, KAll K D w → KAll K' D w) (h : Tr c n x Q σ H K') : Tr c n x Q σ H K :=
  fun w hm => h w (hm.refact hs fun D hD => hf D w hD)
theorem callS' {ops : Array Oper} {d : Nat} {f : FuncId} {args : Array Operand} {ats : Array TypeId} {vs : List Value} {l : List Oper} {sz m : Nat} {ls : List (List Value)} (hm : ls.length = m) (hf : Fn c.P f) (ha : args.toList.map (ev σ) = vs) (hd : Nat.blt d n = true)
    (spec : ∀ w, M c H K w → Calls c.P f vs.toArray w (RS w sz ls)) (h : ∀ A cap, TL c n ops l Q (upd σ d (.slice A m cap)) H (Sl sz A m cap ls :: K)) :
    TL c n ops (⟨some d, .call { callee := .value (.func f), args := args, argTypes := ats }, t, p, af, none⟩ :: l) Q σ H K := by
  subst hm; exact callS hf ha hd spec h
/-- A call of which it is told that there is something that it hands back. -/
theorem callX {β : Type} (V : β → Value) (H' : β → List Res) (K' : β → List Fact) {ops : Array Oper} {d : Nat} {f : FuncId} {args : Array Operand} {ats : Array TypeId} {vs : List Value} {l : List Oper} (hf : Fn c.P f) (ha : args.toList.map (ev σ) = vs) (hd : Nat.blt d n = true)
    (spec : ∀ w, M c H K w → Calls c.P f vs.toArray w fun e w' => ∃ b, e = .returned (V b) ∧ M c (H' b) (K' b) w') (h : ∀ b, TL c n ops l Q (upd σ d (V b)) (H' b) (K' b)) :
    TL c n ops (⟨some d, .call { callee := .value (.func f), args := args, argTypes := ats }, t, p, af, none⟩ :: l) Q σ H K := by
  intro w hm a hr
  refine wpList_run rfl ?_
  rw [hr.eval, hf.run, map_args ha]
  refine (spec w hm).mono ?_
  rintro e w' ⟨b, rfl, hm'⟩
  exact h b w' hm' _ (hr.put d _ (by simp [Nat.blt] at hd; omega))
/-- The only one in a drawn region: a call that hands back a slice; a slice of slices. -/
theorem onlyS [NoP Q] {ops : Array Oper} {m f : Nat} {listed : Array Bool} (i : Nat) {d : Nat} {fid : FuncId} {args : Array Operand} {ats : Array TypeId} {vs : List Value} {t : TypeId} {p : String} {af : Array Edge} {sz k : Nat} {ls : List (List Value)} (hk : ls.length = k)
    (hi : ops[i]? = some ⟨some d, .call { callee := .value (.func fid), args := args, argTypes := ats }, t, p, af, none⟩)
    (hr1 : Region.ready .any ops listed = [i]) (him : Nat.blt i m = true) (hf : Fn c.P fid) (ha : args.toList.map (ev σ) = vs) (hd : Nat.blt d n = true)
    (spec : ∀ w, M c H K w → Calls c.P fid vs.toArray w (RS w sz ls))
    (h : ∀ A cap, HD c n ops Q m f (listed.setIfInBounds i true) (upd σ d (.slice A k cap)) H (Sl sz A k cap ls :: K)) : HD c n ops Q m (f + 1) listed σ H K := by
  subst hk
  exact onlyC (β := Option Addr × Nat) (fun p => .slice p.1 ls.length p.2) (fun _ => H) (fun p => Sl sz p.1 ls.length p.2 ls :: K) i hi hr1 him hf ha hd
    (fun w hm => (spec w hm).mono fun e w' ⟨A, cap, he, hb, hs⟩ => ⟨(A, cap), he, hm.learn Sl.stable (grown_below hb) (fun D _ => hs.mono fun k hk => .inr hk)⟩)
    (fun _ _ hm => hm.more) (fun p => h p.1 p.2)
theorem onlyV [NoP Q] {ops : Array Oper} {m f : Nat} {listed : Array Bool} (i : Nat) {d : Nat} {fid : FuncId} {args : Array Operand} {ats : Array TypeId} {vs : List Value} {t : TypeId} {p : String} {af : Array Edge} {k : Nat} {ls : List (List (List UInt8))} (hk : ls.length = k)
    (hi : ops[i]? = some ⟨some d, .call { callee := .value (.func fid), args := args, argTypes := ats }, t, p, af, none⟩)
    (hr1 : Region.ready .any ops listed = [i]) (him : Nat.blt i m = true) (hf : Fn c.P fid) (ha : args.toList.map (ev σ) = vs) (hd : Nat.blt d n = true)
    (spec : ∀ w, M c H K w → Calls c.P fid vs.toArray w (RV w ls))
    (h : ∀ A cap (L : {L : List Vc // L.map Vc.xs = ls}), HD c n ops Q m f (listed.setIfInBounds i true) (upd σ d (.slice A k cap)) H (VV A k cap L.1 :: K)) : HD c n ops Q m (f + 1) listed σ H K := by
  subst hk
  exact onlyC (β := Option Addr × Nat × {L : List Vc // L.map Vc.xs = ls}) (fun p => .slice p.1 ls.length p.2.1) (fun _ => H) (fun p => VV p.1 ls.length p.2.1 p.2.2.1 :: K) i hi hr1 him hf ha hd
    (fun w hm => (spec w hm).mono fun e w' ⟨A, cap, L, hL, he, hb, hs⟩ => ⟨(A, cap, ⟨L, hL⟩), he, hm.learn VV.stable (grown_below hb) (fun D _ => VV.stable _ _ _ _ (fun k hk => .inr hk) (fun _ _ _ => rfl) hs)⟩)
    (fun _ _ hm => hm.more) (fun p => h p.1 p.2.1 p.2.2)
end

theorem il_flat (xs : List Int) : (il xs).flatten = xs.map fun x => .int .i64 x := by
  induction xs with
  | nil => rfl
  | cons x r ih => simp only [il, List.map_cons, List.flatten_cons] at *; rw [ih]; rfl
theorem lit_sl {w : World} {b : Nat} {e : TypeId} {xs : List Int} {n : Nat} (h : w.heap[b]? = some (ob (xs.map fun x => .int .i64 x) e)) (hn : xs.length = n) (hm : n ≤ maxLen) : Sl 1 (some ⟨b, 0, none⟩) n n (il xs) (fun k => k = b) w :=
  blk_sl (by rw [il_flat]; exact h) (il_ok xs) (by rw [il_length, hn]) hm

theorem Bok_of_much {l : List Bl} (h : much24 l = false) (hl1 : ∀ b ∈ l, b.h.ok) : ∀ b ∈ l, Bok b := fun b hb => by
  have := much22_false ((much24_false h).2 b hb)
  exact ⟨hl1 b hb, by omega, fun x hx => by have := this.2 x hx; omega⟩
theorem eqH (a b : List UInt8) (ha : a.length = 32) (hb : b.length = 32) (w : World) : (Op.equalIn 10000 T_api_Hash (ag (b8 a)) (ag (b8 b))).run PP w = .ok (decide (a = b)) w :=
  eqHash u_api_Hash u_uint8 s_uint8 9998 a b ha hb w
theorem idsA_ok (l : List Bl) : ∀ y ∈ idsA l, y.length = 32 := fun y hy => by obtain ⟨b, _, rfl⟩ := List.mem_map.1 hy; exact idL_length _

end Go.Proofs.YtmcapgjdflohfaaGreat.L

namespace Go.Proofs.YtmcapgjdflohfaaGreat.L
open Go Go.RowKit Go.Shelf
attribute [local go_sem] Oper.semAt_some

theorem info_int : (Tryz.prog.info? T_int).map (fun i => (i.zero, i.size, i.bytes)) = some (some (.int .i64 0), 1, 8) := i_int

set_option maxHeartbeats 4000000 in
theorem up_each_in (n : Nat) (A : Option Addr) (len cap : Nat) (fr lv : Int) (w : World) :
    CallsIn Fence.wide n Tryz.prog 87 #[.slice A len cap, .int .i64 fr, .int .i64 lv] w fun e w' => e = .returned (.func (.func 122) #[] #[.pointer (some ⟨w.heap.size + 1, 0, none⟩), .pointer (some ⟨w.heap.size, 0, none⟩), .pointer (some ⟨w.heap.size + 2, 0, none⟩)]) ∧
      w' = ((w.alloc (.cells #[.slice A len cap] T_sl_int)).alloc (.cells #[.int .i64 fr] T_int)).alloc (.cells #[.int .i64 lv] T_int) := by
  refine callsIn_of_wp Tryz.func87 rfl trivial ?_ rfl
  simp only [Tryz.ntmps87, List.size_toArray, List.length_cons, List.length_nil, Nat.reduceAdd, Nat.reduceSub, Array.replicate_succ, Array.replicate_zero, List.push_toArray, List.append_toArray, List.nil_append, List.cons_append]
  gi_wp2
  go_ret
  exact ⟨rfl, rfl⟩

theorem up_each_stops (n : Nat) (hn : 1 ≤ n) (B1 B2 B3 n₀ : Nat) (l : List Int) (hl : l.length ≤ 1000000) (A : Option Addr) (cap : Nat) (fr lv : Int) (w : World) (hn₀ : n₀ ≤ w.heap.size) (hb1 : B1 < w.heap.size) (hb2 : B2 < w.heap.size) (hb3 : B3 < w.heap.size)
    (h1 : w.cell? ⟨B1, 0, none⟩ = some (.int .i64 fr)) (h2 : w.cell? ⟨B2, 0, none⟩ = some (.slice A l.length cap)) (h3 : w.cell? ⟨B3, 0, none⟩ = some (.int .i64 lv))
    (hc : ∀ j, j < l.length → ∃ b off, A = some ⟨b, off, none⟩ ∧ b < n₀ ∧ w.cell? ⟨b, off + j, none⟩ = some (.int .i64 (l.getD j 0))) :
    SeqStopsK Fence.wide n Tryz.prog 122 #[.pointer (some ⟨B1, 0, none⟩), .pointer (some ⟨B2, 0, none⟩), .pointer (some ⟨B3, 0, none⟩)] (fun x : Int => #[Value.int .i64 x]) (Kq n₀ B1 B2 B3) (fun ys => ys = Mp.places l fr lv) (fun _ => True) l.length w := fun y J Jx W hW hJ _ hY h0 => by
  have up : ∀ (b : Nat) off v, b < w.heap.size → w.cell? ⟨b, off, none⟩ = some v → W.cell? ⟨b, off, none⟩ = some v := fun b off v hb h => (hW.cell (p := ⟨b, off, none⟩) hb).trans h
  exact up_each_1_in n hn y B1 B2 B3 n₀ l hl A cap fr lv J Jx (fun s X h => hJ s X _ none h ⟨rfl, rfl, rfl, Nat.le_refl _, fun _ _ _ => rfl⟩ (fun r e => by cases e)) hY W (up _ _ _ hb1 h1) (up _ _ _ hb2 h2) (up _ _ _ hb3 h3)
    (fun j hj => by obtain ⟨b, off, e, hb, h⟩ := hc j hj; exact ⟨b, off, e, hb, up _ _ _ (by omega) h⟩) h0

theorem row_low {w : World} {base base' : Nat} {e : TypeId} {sz n : Nat} {v : Value} {xs : List Value} (h : w.ownsRow base e sz v n xs) (hb : base' ≤ base) : w.ownsRow base' e sz v n xs := by
  refine ⟨h.1, ?_⟩
  rcases h.2 with h2 | ⟨g, cap, cur, h1, h2, h3⟩
  · exact .inl h2
  · exact .inr ⟨g, cap, cur, h1, Nat.le_trans hb h2, h3⟩
theorem row_not {w : World} {base B : Nat} {e : TypeId} {sz n : Nat} {v : Value} {xs : List Value} (h : w.ownsRow base e sz v n xs) (hB : B < base) : some B ≠ v.ownBlock := by
  rcases h.2 with ⟨rfl, _⟩ | ⟨g, cap, cur, rfl, h2, h3⟩
  · simp [Value.ownBlock]
  · simp [Value.ownBlock]; omega
theorem row_high {w : World} {base base' : Nat} {e : TypeId} {sz n : Nat} {v : Value} {xs : List Value} (h : w.ownsRow base' e sz v n xs) (hb : ∀ b, v.ownBlock = some b → base ≤ b) : w.ownsRow base e sz v n xs := by
  refine ⟨h.1, ?_⟩
  rcases h.2 with h2 | ⟨g, cap, cur, h1, h2, h3⟩
  · exact .inl h2
  · exact .inr ⟨g, cap, cur, h1, hb g (by rw [h1]; rfl), h3⟩
theorem row_own {w : World} {base : Nat} {e : TypeId} {sz n : Nat} {v : Value} {xs : List Value} (h : w.ownsRow base e sz v n xs) : ∀ b, v.ownBlock = some b → base ≤ b := by
  intro b hb
  rcases h.2 with ⟨rfl, _⟩ | ⟨g, cap, cur, rfl, h2, h3⟩
  · cases hb
  · simp only [Value.ownBlock, Option.some.injEq] at hb; omega

set_option maxRecDepth 100000 in
set_option maxHeartbeats 8000000 in
theorem up_PlacesO_ (l : List Int) (hl : l.length ≤ 1000000) (fr lv : Int) (A : Option Addr) (cap : Nat) (D : Nat → Prop) (w : World) (hD : ∀ k, D k → k < w.heap.size) (hs : Sl 1 A l.length cap (il l) D w) :
    Calls PP N_up_Places #[.slice A l.length cap, .int .i64 fr, .int .i64 lv] w (RO w T_int 1 (Mp.places l fr lv).length (il (Mp.places l fr lv)).flatten) := by
  have h1 : 1 ≤ 3 := by omega
  obtain ⟨i0, hi, hz0, hz1, hz2⟩ := info_parts info_int
  refine (callsIn_wide (n := 5)).1 ?_
  refine callsIn_of_wp_marks Tryz.func49 rfl trivial ?_ rfl
  simp only [Tryz.ntmps49, List.size_toArray, List.length_cons, List.length_nil, Nat.reduceAdd, Nat.reduceSub, Array.replicate_succ, Array.replicate_zero, List.push_toArray, List.append_toArray, List.nil_append, List.cons_append]
  gi_wp2_with (refine ⟨trivial, ?_⟩; gi_at_call 87; refine (up_each_in 4 A l.length cap fr lv _).mono ?_; rintro e w' ⟨rfl, rfl⟩)
  have bO := Boxed.new w T_sl_int (.slice none 0 0)
  obtain ⟨w1, hw1⟩ : ∃ w1, w.alloc (.cells #[.slice none 0 0] T_sl_int) = w1 := ⟨_, rfl⟩
  have bA := Boxed.new w1 T_sl_int (.slice A l.length cap)
  obtain ⟨w2, hw2⟩ : ∃ w2, w1.alloc (.cells #[.slice A l.length cap] T_sl_int) = w2 := ⟨_, rfl⟩
  have bF := Boxed.new w2 T_int (.int .i64 fr)
  obtain ⟨w3, hw3⟩ : ∃ w3, w2.alloc (.cells #[.int .i64 fr] T_int) = w3 := ⟨_, rfl⟩
  have bL := Boxed.new w3 T_int (.int .i64 lv)
  obtain ⟨w4, hw4⟩ : ∃ w4, w3.alloc (.cells #[.int .i64 lv] T_int) = w4 := ⟨_, rfl⟩
  have s1 : w1.heap.size = w.heap.size + 1 := by rw [← hw1]; simp
  have s2 : w2.heap.size = w.heap.size + 2 := by rw [← hw2]; simp [s1]
  have s3 : w3.heap.size = w.heap.size + 3 := by rw [← hw3]; simp [s2]
  have s4 : w4.heap.size = w.heap.size + 4 := by rw [← hw4]; simp [s3]
  have g1 : Below w.heap.size w w1 := by rw [← hw1]; exact (Below.refl _ w).alloc (Nat.le_refl _) _
  have g2 : Below w.heap.size w w2 := by rw [← hw2]; exact g1.alloc (by omega) _
  have g3 : Below w.heap.size w w3 := by rw [← hw3]; exact g2.alloc (by omega) _
  have g4 : Below w.heap.size w w4 := by rw [← hw4]; exact g3.alloc (by omega) _
  rw [hw1] at bO
  rw [hw2] at bA
  rw [hw3] at bF
  rw [hw4] at bL
  have bO4 : Boxed w4 w.heap.size T_sl_int (.slice none 0 0) := by rw [← hw4, ← hw3, ← hw2]; exact ((bO.alloc _).alloc _).alloc _
  have bA4 : Boxed w4 (w.heap.size + 1) T_sl_int (.slice A l.length cap) := by rw [s1] at bA; rw [← hw4, ← hw3]; exact (bA.alloc _).alloc _
  have bF4 : Boxed w4 (w.heap.size + 2) T_int (.int .i64 fr) := by rw [s2] at bF; rw [← hw4]; exact bF.alloc _
  have bL4 : Boxed w4 (w.heap.size + 3) T_int (.int .i64 lv) := by rw [s3] at bL; exact bL
  rw [hw1, hw2, hw3, hw4]
  clear hw1 hw2 hw3
  have hpl : (Mp.places l fr lv).length ≤ l.length := by rw [← plN_all]; exact plN_len _ _ _ _
  refine wpIn_rangeFunc_ownG rfl (by omega) (gf := 122) (lb := #[.pointer (some ⟨w.heap.size + 2, 0, none⟩), .pointer (some ⟨w.heap.size + 1, 0, none⟩), .pointer (some ⟨w.heap.size + 3, 0, none⟩)]) rfl trivial (enters_of Tryz.func122 (by kernel_rfl) rfl)
    (up_each_stops 4 (by omega) (w.heap.size + 2) (w.heap.size + 1) (w.heap.size + 3) w.heap.size l hl A cap fr lv w4 (by omega) (by omega) (by omega) (by omega) bF4.cell bA4.cell bL4.cell (fun j hj => by
      obtain ⟨b, off, e, hb, hc⟩ := hs.2.2.2.2 (by omega)
      have hcell := hc j [.int .i64 (l.getD j 0)] (il_at rfl hj) 0 _ rfl
      exact ⟨b, off, e, hD b hb, (g4.cell (p := ⟨b, off + j, none⟩) (hD b hb)).trans (by simpa using hcell)⟩))
    (fun h k => h.trans k) (fun W q o o' hq hW h1 h2 => ⟨belowK_b (w := w4) (n₀ := w.heap.size) (by omega) W q o o' hq hW h1 h2, World.putObj_heap_other (by omega), World.putObj_heap_other (by omega), World.putObj_heap_other (by omega)⟩) (Below.refl _ _) (fun _ => rfl)
    (fun pre W => (∃ v, Boxed W w.heap.size T_sl_int v ∧ W.ownsRow w.heap.size T_int 1 v pre.length (pre.map (Value.int .i64)) ∧ (∀ b, v.ownBlock = some b → w4.heap.size ≤ b)) ∧ Below w.heap.size w W ∧ w4.heap.size ≤ W.heap.size)
    (fun _ _ _ => False)
    (OwnFrom.and (Own.from (holdsRow_own w.heap.size w.heap.size T_sl_int T_int 1 (fun pre : List Int => pre.length) (fun pre => pre.map (Value.int .i64)) (fun _ v => ∀ b, v.ownBlock = some b → w4.heap.size ≤ b)) _) (OwnFrom.and (ownFrom_below (Nat.le_refl _) (by omega)) (fun s W W' row h hg _ => Nat.le_trans h hg.size)))
    (fun _ _ _ _ _ hs _ _ => hs)
    ⟨⟨_, bO4, World.ownsRow_nil _ _ _ _, fun b h => by cases h⟩, g4, Nat.le_refl _⟩
    (fun x => { tmps := #[.slice A l.length cap, .int .i64 fr, .int .i64 lv, undef, undef, undef, .slice none 0 0, .pointer (some ⟨w.heap.size, 0, none⟩), .int .i64 x, .slice A l.length cap, .int .i64 fr, .int .i64 lv, .func (.func 122) #[] #[.pointer (some ⟨w.heap.size + 2, 0, none⟩), .pointer (some ⟨w.heap.size + 1, 0, none⟩), .pointer (some ⟨w.heap.size + 3, 0, none⟩)], .int .i64 x, undef, undef, undef, undef, undef], defers := [] }) ?assign ?body ?done ?stop
  case assign =>
    intro q x W K hK
    gi_wp2
    exact hK
  case body =>
    rintro q pre x W ⟨⟨v, hv, hrow, hbk⟩, hB, hsz⟩ hlt
    have hc := hv.cell
    have hrow4 := row_high hrow hbk
    gi_wp2_with (gi_at_builtin; refine wpListIn_append_own _ rfl _ _ T_sl_int rfl w4.heap.size T_int i0 (.int .i64 0) 1 8 u_sl_int hi hz0 hz1 hz2 rfl (by decide) _ _ _ rfl (hrow4.alloc _) ⟨W.heap.size, 0, none⟩ 1 1 [.int .i64 x] rfl rfl (cell_one_new _ _ _) (by simp [Value.oneCell']) (by simp only [maxLen]; omega) (by omega) (by simp; omega) ?_; intro v' w5 hown' hgrow _; obtain ⟨g', cap', rfl⟩ := ownsRow_succ hown'; have hown0 := row_low hown' (base' := w.heap.size) (by omega); obtain ⟨hv1, hv2, hr2, hk2, hb2⟩ := hv.appended (by decide) hrow hB.size (Nat.le_refl _) hown0 hgrow; have hc1 := hv1.cell; have hf1 := hv1.frozen)
    have blk : ∀ B, B < w4.heap.size → B ≠ w.heap.size → (w5.setCell ⟨w.heap.size, 0, none⟩ (.slice (some ⟨g', 0, none⟩) (pre.length + 1) cap')).heap[B]? = W.heap[B]? := fun B h1 h2 => by
      rw [(grownBy_setCell' w5 w.heap.size _).block B (by have := hgrow.size; simp at this; omega) (by simp; omega), hgrow.block B (by simp; omega) (row_not hrow4 h1)]
      exact Below.heap_alloc _ _ _ (by omega)
    exact ⟨hk2.from _, ⟨hb2, blk _ (by omega) (by omega), blk _ (by omega) (by omega), blk _ (by omega) (by omega)⟩, ⟨_, hv2, by simpa using hr2, row_own hown'⟩, hB.trans hb2, by have := hk2.size; omega⟩
  case done =>
    rintro D ys W hD rfl ⟨⟨v, hv, hrow, hbk⟩, hB, hsz⟩ hK
    have hc := hv.cell
    gi_wp2
    refine ⟨by simp, .inl ⟨_, _, rfl, run_takeDeferred hK, ?_⟩⟩
    refine ⟨_, results_tmp rfl _ _ _, v, rfl, hB.trans (belowK_b (w := w) (Nat.le_refl _) W D _ _ (by omega) hK rfl rfl), ?_⟩
    rw [il_flat]
    exact ownsRow_putObj hrow _ hK rfl
  case stop =>
    rintro D c pre W _ _ h _
    exact h.elim

theorem up_Places_ (l : List Int) (hl : l.length ≤ 1000000) (fr lv : Int) (A : Option Addr) (cap : Nat) (D : Nat → Prop) (w : World) (hD : ∀ k, D k → k < w.heap.size) (hs : Sl 1 A l.length cap (il l) D w) :
    Calls PP N_up_Places #[.slice A l.length cap, .int .i64 fr, .int .i64 lv] w (RS w 1 (il (Mp.places l fr lv))) :=
  (up_PlacesO_ l hl fr lv A cap D w hD hs).mono fun e w' h => RO.rs (il_length _) (il_ok _) e w' h
end Go.Proofs.YtmcapgjdflohfaaGreat.L

namespace Mp

def limb (v i : Nat) : Nat := v / 2 ^ (64 * i) % 2 ^ 64
theorem limb_lt (v i : Nat) : limb v i < 2 ^ 64 := Nat.mod_lt _ (by decide)
theorem limb_mod (v i k : Nat) (h : i < k) : limb (v % 2 ^ (64 * k)) i = limb v i := by
  unfold limb
  obtain ⟨d, hd⟩ : ∃ d, k = i + 1 + d := ⟨k - (i + 1), by omega⟩
  subst hd
  rw [show 64 * (i + 1 + d) = 64 * i + (64 + 64 * d) by omega, Nat.pow_add, Nat.mod_mul_right_div_self, Nat.pow_add, Nat.mod_mul_right_mod]
/-- The first so many limbs as a number. -/
def low (v k : Nat) : Nat := v % 2 ^ (64 * k)
theorem low_succ (v k : Nat) : low v (k + 1) = low v k + 2 ^ (64 * k) * limb v k := by
  unfold low limb
  rw [show 64 * (k + 1) = 64 * k + 64 by omega, Nat.pow_add, Nat.mod_mul]
theorem low_zero (v : Nat) : low v 0 = 0 := by simp [low, Nat.mod_one]

/-- half: the carry behind so many limbs. -/
def carH (v y k : Nat) : Nat := low v k * y / 2 ^ (64 * k)
theorem carH_step (v y k : Nat) : limb v k * y + carH v y k = low v (k + 1) * y / 2 ^ (64 * k) := by
  rw [low_succ, Nat.add_mul, carH, Nat.mul_assoc, Nat.add_mul_div_left _ _ (Nat.pow_pos (by decide))]
  omega
theorem carH_lt (v y k : Nat) (hy : y < 2 ^ 32) : carH v y k < 2 ^ 32 := by
  unfold carH
  have h1 : low v k < 2 ^ (64 * k) := Nat.mod_lt _ (Nat.pow_pos (by decide))
  rw [Nat.div_lt_iff_lt_mul (Nat.pow_pos (by decide))]
  calc low v k * y ≤ 2 ^ (64 * k) * y := Nat.mul_le_mul_right _ (by omega)
    _ < 2 ^ (64 * k) * 2 ^ 32 := (Nat.mul_lt_mul_left (Nat.pow_pos (by decide))).2 hy
    _ = 2 ^ 32 * 2 ^ (64 * k) := Nat.mul_comm _ _
theorem carH_succ (v y k : Nat) : carH v y (k + 1) = (limb v k * y + carH v y k) / 2 ^ 64 := by
  rw [carH_step, carH, Nat.div_div_eq_div_mul, ← Nat.pow_add]; rfl
theorem limb_half (v y k : Nat) : limb (v * y) k = (limb v k * y + carH v y k) % 2 ^ 64 := by
  have e : v * y % 2 ^ (64 * (k + 1)) = low v (k + 1) * y % 2 ^ (64 * (k + 1)) := by
    rw [Nat.mul_mod, Nat.mul_mod (low v (k + 1)), low, Nat.mod_mod]
  rw [carH_step, ← limb_mod (v * y) k (k + 1) (by omega), e, limb_mod _ _ _ (by omega)]
  rfl
end Mp

namespace Mp
set_option exponentiation.threshold 500

theorem pow64_pos (k : Nat) : 0 < 2 ^ (64 * k) := Nat.pow_pos (by decide)
theorem low_lt (v k : Nat) : low v k < 2 ^ (64 * k) := Nat.mod_lt _ (pow64_pos k)
/-- Both halves of a limb together. -/
theorem comb (h l : Nat) : (h + l / 4294967296) % 4294967296 * 4294967296 + l % 4294967296 = (4294967296 * h + l) % 18446744073709551616 := by omega
theorem comb_car (h l : Nat) : (h + l / 4294967296) / 4294967296 = (4294967296 * h + l) / 18446744073709551616 := by omega

/-! ### Add -/
def carA (v u k : Nat) : Nat := (low v k + low u k) / 2 ^ (64 * k)
theorem carA_zero (v u : Nat) : carA v u 0 = 0 := by simp [carA, low_zero]
theorem carH_zero (v y : Nat) : carH v y 0 = 0 := by simp [carH, low_zero]
theorem carA_step (v u k : Nat) : limb v k + limb u k + carA v u k = (low v (k + 1) + low u (k + 1)) / 2 ^ (64 * k) := by
  rw [low_succ, low_succ, carA]
  have e : low v k + 2 ^ (64 * k) * limb v k + (low u k + 2 ^ (64 * k) * limb u k) = (low v k + low u k) + 2 ^ (64 * k) * (limb v k + limb u k) := by
    rw [Nat.mul_add]; omega
  rw [e, Nat.add_mul_div_left _ _ (pow64_pos k)]
  omega
theorem carA_le (v u k : Nat) : carA v u k ≤ 1 := by
  unfold carA
  have h1 := low_lt v k
  have h2 := low_lt u k
  have : (low v k + low u k) / 2 ^ (64 * k) < 2 := by
    rw [Nat.div_lt_iff_lt_mul (pow64_pos k)]; omega
  omega
theorem carA_succ (v u k : Nat) : carA v u (k + 1) = (limb v k + limb u k + carA v u k) / 2 ^ 64 := by
  rw [carA_step, carA, Nat.div_div_eq_div_mul, ← Nat.pow_add]; rfl
theorem limb_add (v u k : Nat) : limb (v + u) k = (limb v k + limb u k + carA v u k) % 2 ^ 64 := by
  have e : (v + u) % 2 ^ (64 * (k + 1)) = (low v (k + 1) + low u (k + 1)) % 2 ^ (64 * (k + 1)) := by
    unfold low
    rw [← Nat.add_mod]
  rw [carA_step, ← limb_mod (v + u) k (k + 1) (by omega), e, limb_mod _ _ _ (by omega)]
  rfl
theorem low_of {v k : Nat} (h : v < 2 ^ (64 * k)) : low v k = v := Nat.mod_eq_of_lt h
theorem carA_five {v u : Nat} (hv : v < 2 ^ 320) (hu : u < 2 ^ 320) : carA v u 5 = 0 ↔ v + u < 2 ^ 320 := by
  unfold carA
  rw [low_of hv, low_of hu, Nat.div_eq_zero_iff]
  constructor
  · rintro (h | h)
    · exact absurd h (Nat.ne_of_gt (pow64_pos 5))
    · exact h
  · exact .inr
theorem carH_five {v y : Nat} (hv : v < 2 ^ 320) : carH v y 5 = 0 ↔ v * y < 2 ^ 320 := by
  unfold carH
  rw [low_of hv, Nat.div_eq_zero_iff]
  constructor
  · rintro (h | h)
    · exact absurd h (Nat.ne_of_gt (pow64_pos 5))
    · exact h
  · exact .inr

/-! ### Shl -/
theorem carH_lt' (v y k : Nat) (hy : 0 < y) : carH v y k < y := by
  unfold carH
  rw [Nat.div_lt_iff_lt_mul (pow64_pos k), Nat.mul_comm y]
  exact (Nat.mul_lt_mul_right hy).2 (low_lt v k)
theorem pow_split {q : Nat} (hq : q ≤ 64) : (2 : Nat) ^ 64 = 2 ^ q * 2 ^ (64 - q) := by
  rw [← Nat.pow_add]; congr 1; omega
theorem carH_shl (v q k : Nat) (hq : q ≤ 64) : carH v (2 ^ q) (k + 1) = limb v k / 2 ^ (64 - q) := by
  rw [carH_succ, pow_split hq, ← Nat.div_div_eq_div_mul, Nat.mul_comm (limb v k), Nat.mul_add_div (Nat.pow_pos (by decide)), Nat.div_eq_of_lt (carH_lt' v (2 ^ q) k (Nat.pow_pos (by decide))), Nat.add_zero]
theorem limb_shl (v q k : Nat) (hq : q ≤ 64) : limb (v * 2 ^ q) k = 2 ^ q * (limb v k % 2 ^ (64 - q)) + carH v (2 ^ q) k := by
  rw [limb_half]
  have hc := carH_lt' v (2 ^ q) k (Nat.pow_pos (by decide))
  have e : limb v k * 2 ^ q = 2 ^ 64 * (limb v k / 2 ^ (64 - q)) + 2 ^ q * (limb v k % 2 ^ (64 - q)) := by
    rw [pow_split hq, Nat.mul_assoc, ← Nat.mul_add, Nat.div_add_mod, Nat.mul_comm]
  have hlt : 2 ^ q * (limb v k % 2 ^ (64 - q)) + carH v (2 ^ q) k < 2 ^ 64 := by
    have h1 : limb v k % 2 ^ (64 - q) < 2 ^ (64 - q) := Nat.mod_lt _ (Nat.pow_pos (by decide))
    have h2 : 2 ^ q * (limb v k % 2 ^ (64 - q) + 1) ≤ 2 ^ q * 2 ^ (64 - q) := Nat.mul_le_mul_left _ h1
    rw [← pow_split hq, Nat.mul_add] at h2
    omega
  rw [e, Nat.add_assoc, Nat.mul_add_mod, Nat.mod_eq_of_lt hlt]
theorem shl_mod (a q : Nat) (hq : q ≤ 64) : a * 2 ^ q % 2 ^ 64 = 2 ^ q * (a % 2 ^ (64 - q)) := by
  rw [pow_split hq, Nat.mul_comm a, Nat.mul_mod_mul_left]
theorem limb_skip (v s i : Nat) : limb (v * 2 ^ (64 * s)) (s + i) = limb v i := by
  unfold limb
  rw [Nat.mul_add, Nat.pow_add, Nat.mul_comm v, Nat.mul_div_mul_left _ _ (pow64_pos s)]
theorem limb_below (v s i : Nat) (h : i < s) : limb (v * 2 ^ (64 * s)) i = 0 := by
  unfold limb
  obtain ⟨d, rfl⟩ : ∃ d, s = i + 1 + d := ⟨s - (i + 1), by omega⟩
  have e : v * 2 ^ (64 * (i + 1 + d)) = 2 ^ (64 * i) * (2 ^ 64 * (2 ^ (64 * d) * v)) := by
    rw [show 64 * (i + 1 + d) = 64 * i + (64 + 64 * d) by omega, Nat.pow_add, Nat.pow_add, Nat.mul_comm v, Nat.mul_assoc, Nat.mul_assoc]
  rw [e, Nat.mul_div_cancel_left _ (pow64_pos i), Nat.mul_mod_right]
theorem shl_split (v n : Nat) : v * 2 ^ n = v * 2 ^ (n % 64) * 2 ^ (64 * (n / 64)) := by
  rw [Nat.mul_assoc, ← Nat.pow_add]; congr 2; omega

/-! ### Bit lengths -/
def blen (v : Nat) : Nat := if v = 0 then 0 else Nat.log2 v + 1
theorem blen_le (v n : Nat) : blen v ≤ n ↔ v < 2 ^ n := by
  unfold blen
  split
  · rename_i h; subst h; simp [Nat.pow_pos]
  · rename_i h
    rw [← Nat.log2_lt h]; omega
theorem blen_div {v m : Nat} (h : v / 2 ^ m ≠ 0) : blen v = m + blen (v / 2 ^ m) := by
  have key : ∀ n, blen v ≤ n ↔ m + blen (v / 2 ^ m) ≤ n := by
    intro n
    rw [blen_le]
    by_cases hn : m ≤ n
    · obtain ⟨d, rfl⟩ : ∃ d, n = m + d := ⟨n - m, by omega⟩
      rw [show (m + blen (v / 2 ^ m) ≤ m + d) ↔ blen (v / 2 ^ m) ≤ d by omega, blen_le, Nat.div_lt_iff_lt_mul (Nat.pow_pos (by decide)), Nat.pow_add, Nat.mul_comm]
    · constructor
      · intro hv
        exfalso; apply h
        refine Nat.div_eq_of_lt (Nat.lt_of_lt_of_le hv (Nat.pow_le_pow_right (by decide) (by omega)))
      · intro hv; omega
  have h1 := (key (m + blen (v / 2 ^ m))).2 (Nat.le_refl _)
  have h2 := (key (blen v)).1 (Nat.le_refl _)
  omega
theorem blen_fit (v n m : Nat) (hv : v ≠ 0) : v * 2 ^ n < 2 ^ m ↔ blen v + n ≤ m := by
  rw [← blen_le]
  have e : blen (v * 2 ^ n) = n + blen v := by
    have hd : v * 2 ^ n / 2 ^ n = v := Nat.mul_div_cancel _ (Nat.pow_pos (by decide))
    rw [blen_div (v := v * 2 ^ n) (m := n) (by rw [hd]; exact hv), hd]
  rw [e]; omega

/-! ### Order -/
def cmpV (v u : Nat) : Int := if v < u then -1 else if v = u then 0 else 1
theorem div_limb (v k : Nat) : v / 2 ^ (64 * k) = v / 2 ^ (64 * (k + 1)) * 2 ^ 64 + limb v k := by
  unfold limb
  rw [show 64 * (k + 1) = 64 * k + 64 by omega, Nat.pow_add, ← Nat.div_div_eq_div_mul]
  have := Nat.div_add_mod (v / 2 ^ (64 * k)) (2 ^ 64)
  rw [Nat.mul_comm] at this
  exact this.symm
theorem cmp_step {v u k : Nat} (h : v / 2 ^ (64 * (k + 1)) = u / 2 ^ (64 * (k + 1))) :
    (limb v k < limb u k → cmpV v u = -1) ∧ (limb u k < limb v k → cmpV v u = 1) ∧ (limb v k = limb u k → v / 2 ^ (64 * k) = u / 2 ^ (64 * k)) := by
  have e1 := div_limb v k
  have e2 := div_limb u k
  rw [h] at e1
  have hdiv : v / 2 ^ (64 * k) < u / 2 ^ (64 * k) → v < u := fun hlt => by
    rcases Nat.lt_or_ge v u with h' | h'
    · exact h'
    · have := Nat.div_le_div_right (c := 2 ^ (64 * k)) h'
      omega
  have hdiv' : u / 2 ^ (64 * k) < v / 2 ^ (64 * k) → u < v := fun hlt => by
    rcases Nat.lt_or_ge u v with h' | h'
    · exact h'
    · have := Nat.div_le_div_right (c := 2 ^ (64 * k)) h'
      omega
  refine ⟨fun hl => ?_, fun hl => ?_, fun hl => ?_⟩
  · rw [cmpV, if_pos (hdiv (by omega))]
  · have := hdiv' (by omega)
    rw [cmpV, if_neg (by omega), if_neg (by omega)]
  · omega
end Mp

namespace Go.Proofs.YtmcapgjdflohfaaGreat.L
open Go Go.RowKit

theorem wrap64 (a : Nat) : IntKind.u64.wrap (a : Int) = ((a % 2 ^ 64 : Nat) : Int) := by
  simp only [IntKind.wrap, IntKind.bits, IntKind.signed]
  simp
  try omega
theorem wrap64_in {a : Nat} (h : a < 2 ^ 64) : IntKind.u64.wrap (a : Int) = a := by rw [wrap64, Nat.mod_eq_of_lt h]
theorem ofInt64 (a : Nat) : BitVec.ofInt IntKind.u64.bits (a : Int) = BitVec.ofNat 64 a := by
  show BitVec.ofInt 64 (a : Int) = BitVec.ofNat 64 a
  exact BitVec.ofInt_natCast 64 a
theorem band_mask {a : Nat} (h : a < 2 ^ 64) (k : Nat) (hk : k ≤ 64) : band .u64 (a : Int) ((2 ^ k - 1 : Nat) : Int) = ((a % 2 ^ k : Nat) : Int) := by
  have hp : 2 ^ k ≤ 2 ^ 64 := Nat.pow_le_pow_right (by decide) hk
  have hp0 : 0 < 2 ^ k := Nat.pow_pos (by decide)
  unfold band
  rw [ofInt64, ofInt64]
  have e : (BitVec.ofNat 64 a &&& BitVec.ofNat 64 (2 ^ k - 1)).toNat = a % 2 ^ k := by
    rw [BitVec.toNat_and, BitVec.toNat_ofNat, BitVec.toNat_ofNat, Nat.mod_eq_of_lt h, Nat.mod_eq_of_lt (show 2 ^ k - 1 < 2 ^ 64 by omega), Nat.and_two_pow_sub_one_eq_mod]
  show IntKind.u64.wrap ((BitVec.ofNat 64 a &&& BitVec.ofNat 64 (2 ^ k - 1)).toNat : Int) = _
  rw [e, wrap64_in]
  have := Nat.mod_lt a hp0
  omega
theorem bor_add {a b k : Nat} (hb : b < 2 ^ k) (h : 2 ^ k * a + b < 2 ^ 64) : bor .u64 ((2 ^ k * a : Nat) : Int) (b : Int) = ((2 ^ k * a + b : Nat) : Int) := by
  unfold bor
  rw [ofInt64, ofInt64]
  have e : (BitVec.ofNat 64 (2 ^ k * a) ||| BitVec.ofNat 64 b).toNat = 2 ^ k * a + b := by
    rw [BitVec.toNat_or, BitVec.toNat_ofNat, BitVec.toNat_ofNat, Nat.mod_eq_of_lt (by omega), Nat.mod_eq_of_lt (by omega), Nat.two_pow_add_eq_or_of_lt hb]
  show IntKind.u64.wrap ((BitVec.ofNat 64 (2 ^ k * a) ||| BitVec.ofNat 64 b).toNat : Int) = _
  rw [e, wrap64_in h]
theorem bshr_div (a : Nat) (s : Nat) (hs : s ≤ 64) : bshr .u64 (a : Int) s = ((a / 2 ^ s : Nat) : Int) := by
  unfold bshr
  rw [show min s IntKind.u64.bits = s from Nat.min_eq_left hs]
  rw [show ((2 : Int) ^ s) = ((2 ^ s : Nat) : Int) by norm_cast]
  rw [Int.fdiv_eq_ediv_of_nonneg _ (Int.natCast_nonneg _)]
  norm_cast
theorem bshl_mod (a : Nat) (s : Nat) (hs : s ≤ 64) : bshl .u64 (a : Int) s = ((a * 2 ^ s % 2 ^ 64 : Nat) : Int) := by
  unfold bshl
  rw [show min s IntKind.u64.bits = s from Nat.min_eq_left hs]
  rw [show ((2 : Int) ^ s) = ((2 ^ s : Nat) : Int) by norm_cast]
  rw [show (a : Int) * ((2 ^ s : Nat) : Int) = ((a * 2 ^ s : Nat) : Int) by norm_cast, wrap64]
end Go.Proofs.YtmcapgjdflohfaaGreat.L

namespace Go.Proofs.YtmcapgjdflohfaaGreat.L
open Go Go.RowKit Mp
set_option linter.unusedVariables false
set_option exponentiation.threshold 500

/-- The results are a block and a slot. -/
theorem retBig {c : Cx} {n : Nat} {σ : Env} {H : List Res} {K : List Fact} {fn : Func} {R : Ending → World → Prop} {s ty u b : Nat} {e : TypeId} {l : List Value} {v : Value} (i : Nat) (hr : fn.results = #[.cell s ty, .tmp u]) (hv : σ s = .pointer (some ⟨b, 0, none⟩)) (hi : H[i]? = some (.blk b (ob l e))) (hu : isAg c.P ty l.length) (hv' : σ u = v)
    (h : ∀ w, M c H K w → R (.returned (.tuple #[ag l, v])) w) : ∀ w, M c H K w → post c.P fn n R .ret σ w := fun w hm =>
  ⟨.tuple #[ag l, v], fun a ha => by
    have hb := hm.blk i hi
    have hl := run_loadAg (P := c.P) (w := w) (t := ty) (b := b) (off := 0) (l := l) hu (fun j u hj => by rw [Nat.zero_add, cell_ob hb]; exact hj)
    rw [results_cell_tmp hr, ha.val, ha.val, hv, hv']
    simp only [asAddr, Sem.run_pure, Result.andThen_ok]
    rw [hl]; rfl, h w hm⟩

/-- Five limbs. -/
def lmF (f : Nat → Nat) : List Value := [.int .u64 (f 0 : Nat), .int .u64 (f 1 : Nat), .int .u64 (f 2 : Nat), .int .u64 (f 3 : Nat), .int .u64 (f 4 : Nat)]
theorem lmF_at {f : Nat → Nat} {o k : Nat} (ho : o = k) (h : k < 5) : (lmF f)[o]? = some (.int .u64 (f k : Nat)) := by
  subst ho
  match o, h with
  | 0, _ => rfl
  | 1, _ => rfl
  | 2, _ => rfl
  | 3, _ => rfl
  | 4, _ => rfl
theorem lmF_set {f : Nat → Nat} {k x : Nat} (h : k < 5) : (lmF f).set k (.int .u64 (x : Nat)) = lmF (fun i => if i = k then x else f i) := by
  match k, h with
  | 0, _ => rfl
  | 1, _ => rfl
  | 2, _ => rfl
  | 3, _ => rfl
  | 4, _ => rfl
theorem lmF_congr {f g : Nat → Nat} (h : ∀ i, i < 5 → f i = g i) : lmF f = lmF g := by
  unfold lmF
  rw [h 0 (by decide), h 1 (by decide), h 2 (by decide), h 3 (by decide), h 4 (by decide)]
theorem lmF_length (f : Nat → Nat) : (lmF f).length = 5 := rfl
/-- The number as five limbs. -/
def lm (v : Nat) : List Value := lmF (limb v)
theorem lm_at {v o k : Nat} (ho : o = k) (h : k < 5) : (lm v)[o]? = some (.int .u64 (limb v k : Nat)) := lmF_at ho h
theorem lm_zero : lm 0 = lmF (fun _ => 0) := lmF_congr fun i _ => by simp [limb]
/-- The first so many limbs are done. -/
def lmU (g : Nat → Nat) (k : Nat) : List Value := lmF fun i => if i < k then g i else 0
theorem lmU_zero (g : Nat → Nat) : lmU g 0 = lmF (fun _ => 0) := lmF_congr fun i _ => by simp
theorem lmU_set {g : Nat → Nat} {k x : Nat} (h : k < 5) (hx : x = g k) : (lmU g k).set k (.int .u64 (x : Nat)) = lmU g (k + 1) := by
  rw [lmU, lmF_set h]
  refine lmF_congr fun i _ => ?_
  subst hx
  by_cases e : i = k
  · subst e; simp
  · simp only [e, if_false]
    by_cases e2 : i < k
    · rw [if_pos e2, if_pos (by omega)]
    · rw [if_neg e2, if_neg (by omega)]
theorem lmU_five (v : Nat) : lmU (limb v) 5 = lm v := lmF_congr fun i h => by simp [h]

theorem wadd {a b : Nat} (h : a + b < 2 ^ 64) : IntKind.u64.wrap ((a : Int) + (b : Int)) = ((a + b : Nat) : Int) := by
  rw [show (a : Int) + (b : Int) = ((a + b : Nat) : Int) by norm_cast, wrap64_in h]
theorem wmul {a b : Nat} (h : a * b < 2 ^ 64) : IntKind.u64.wrap ((a : Int) * (b : Int)) = ((a * b : Nat) : Int) := by
  rw [show (a : Int) * (b : Int) = ((a * b : Nat) : Int) by norm_cast, wrap64_in h]
theorem wand {a : Nat} (h : a < 2 ^ 64) : band .u64 (a : Int) 4294967295 = ((a % 4294967296 : Nat) : Int) := band_mask h 32 (by decide)
theorem wshr (a : Nat) : bshr .u64 (a : Int) (32 : Int).toNat = ((a / 4294967296 : Nat) : Int) := bshr_div a 32 (by decide)
theorem wshl (a : Nat) : bshl .u64 (a : Int) (32 : Int).toNat = ((a * 4294967296 % 18446744073709551616 : Nat) : Int) := bshl_mod a 32 (by decide)
theorem wor (h l : Nat) : bor .u64 (((h + l / 4294967296) * 4294967296 % 18446744073709551616 : Nat) : Int) ((l % 4294967296 : Nat) : Int) = (((4294967296 * h + l) % 18446744073709551616 : Nat) : Int) := by
  have e : (h + l / 4294967296) * 4294967296 % 18446744073709551616 = 2 ^ 32 * ((h + l / 4294967296) % 4294967296) := by omega
  rw [e, bor_add (by omega) (by omega)]
  have := comb h l
  congr 1
  omega
theorem half_nums {a y c : Nat} (ha : a < 2 ^ 64) (hy : y < 2 ^ 32) (hc : c < 2 ^ 32) :
    a % 4294967296 * y < 2 ^ 64 ∧ a % 4294967296 * y + c < 2 ^ 64 ∧ a / 4294967296 * y < 2 ^ 64 ∧ a / 4294967296 * y + (a % 4294967296 * y + c) / 4294967296 < 2 ^ 64 ∧ 4294967296 * (a / 4294967296 * y) + (a % 4294967296 * y + c) = a * y + c := by
  have h1 : a % 4294967296 * y ≤ 4294967295 * 4294967295 := Nat.mul_le_mul (by omega) (by omega)
  have h2 : a / 4294967296 * y ≤ 4294967295 * 4294967295 := Nat.mul_le_mul (by omega) (by omega)
  have h3 : a * y = 4294967296 * (a / 4294967296 * y) + a % 4294967296 * y := by
    rw [← Nat.mul_assoc, ← Nat.add_mul, Nat.div_add_mod]
  refine ⟨by omega, by omega, by omega, by omega, by omega⟩

theorem large_half_ (v y : Nat) (hy : y < 2 ^ 32) : Pure PP N_large_half #[ag (lm v), .int .u64 (y : Nat)] (.tuple #[ag (lm (v * y)), .bool (decide (carH v y 5 = 0))]) := by
  refine enter0 f_large_half rfl n_large_half rfl fun w => ?_
  refine seq (region (box rfl rfl rfl fun b0 => alloc z_large_N rfl rfl fun b1 => det rfl (asg rfl) (nilS ?_)))   -- region 0
  refine seq (region (alloc z_large_N rfl rfl fun b2 => nilS ?_))   -- region 1
  refine seq (region (det rfl (asg rfl) (nilS ?_)))   -- region 2
  refine seq ?_
  refine seq (region (det rfl (mv rfl) (nilS ?_)))   -- region 3
  refine block ?_   -- block 0
  refine loopV (ι := Nat) (fun k => k ≤ 5) (fun k => [(1, .int .u64 (y : Nat)), (2, .pointer (some ⟨b0, 0, none⟩)), (4, .pointer (some ⟨b1, 0, none⟩)), (6, .pointer (some ⟨b2, 0, none⟩)), (7, .int .u64 (carH v y k : Nat)), (11, .int .i64 k)]) (fun k => [.blk b2 (ob (lmU (limb (v * y)) k) T_large_N), .blk b1 (ob (lm 0) T_large_N), .blk b0 (ob (lm v) T_large_N)]) (fun _ => []) (fun k => 5 - k) 0 (by omega) ⟨rfl, rfl, rfl, rfl, vi (by rw [carH_zero]; rfl), rfl, trivial⟩ (fun w hm => by rw [lmU_zero, lm_zero]; exact hm) ?_
  intro k σ hk
  refine seq (region (det rfl (lss rfl rfl) (nilS ?_)))   -- region 4
  refine seq ?_
  refine cond rfl (fun h => ?_) (fun h => ?_)   -- on t12
  · have h := of_decide_eq_true h
    have hk5 : k < 5 := by omega
    obtain ⟨a, ha⟩ : ∃ a, limb v k = a := ⟨_, rfl⟩
    obtain ⟨c, hc⟩ : ∃ c, carH v y k = c := ⟨_, rfl⟩
    have hal : a < 2 ^ 64 := ha ▸ limb_lt v k
    have hcl : c < 2 ^ 32 := hc ▸ carH_lt v y k hy
    obtain ⟨n1, n2, n3, n4, n5⟩ := half_nums hal hy hcl
    have hlim : (4294967296 * (a / 4294967296 * y) + (a % 4294967296 * y + c)) % 18446744073709551616 = limb (v * y) k := by
      rw [n5, limb_half, ha, hc]
    have hcar : (a / 4294967296 * y + (a % 4294967296 * y + c) / 4294967296) / 4294967296 = carH v y (k + 1) := by
      rw [comb_car, n5, carH_succ, ha, hc]
    refine skipS ?_
    refine seq ?_
    refine block ?_   -- block 1
    refine seq (region (det rfl (mv rfl) (det rfl (asg rfl) (nilS ?_))))   -- region 5
    refine seq (region (det rfl (mv rfl) (det rfl (iadr rfl rfl u_large_N s_uint64 (by omega) (by omega)) (det rfl (ldB 2 (v := .int .u64 (a : Nat)) rfl rfl o_uint64 (by rw [← ha]; exact lm_at (by omega) hk5)) (det rfl (Det.to (and rfl rfl) (vi (wand hal))) (det rfl (mv rfl) (det rfl (Det.to (mul rfl rfl) (vi (wmul n1))) (det rfl (Det.to (mv rfl) (v' := .int .u64 (c : Nat)) (show Value.int .u64 (carH v y k : Nat) = _ by rw [hc])) (det rfl (Det.to (add rfl rfl) (vi (wadd n2))) (det rfl (asg rfl) (nilS ?_)))))))))))   -- region 6
    refine seq (region (det rfl (mv rfl) (det rfl (iadr rfl rfl u_large_N s_uint64 (by omega) (by omega)) (det rfl (ldB 2 (v := .int .u64 (a : Nat)) rfl rfl o_uint64 (by rw [← ha]; exact lm_at (by omega) hk5)) (det rfl (Det.to (shr rfl rfl (by decide)) (vi (wshr a))) (det rfl (mv rfl) (det rfl (Det.to (mul rfl rfl) (vi (wmul n3))) (det rfl (mv rfl) (det rfl (Det.to (shr rfl rfl (by decide)) (vi (wshr _))) (det rfl (Det.to (add rfl rfl) (vi (wadd n4))) (det rfl (asg rfl) (nilS ?_))))))))))))   -- region 7
    refine seq (region (det rfl (mv rfl) (det rfl (mv rfl) (det rfl (Det.to (shl rfl rfl (by decide)) (vi (wshl _))) (det rfl (mv rfl) (det rfl (Det.to (and rfl rfl) (vi (wand n2))) (det rfl (Det.to (or rfl rfl) (vi (wor _ _))) (det rfl (iadr rfl rfl u_large_N s_uint64 (by omega) (by omega)) (sto1 0 k rfl rfl rfl s_uint64 rfl (by omega) (by rw [lmU, lmF_length]; omega) (lmU_set hk5 hlim) (nilS ?_))))))))))   -- region 8
    refine region (det rfl (mv rfl) (det rfl (Det.to (shr rfl rfl (by decide)) (vi (wshr _))) (det rfl (asg rfl) (nil ?_))))   -- region 9
    show Tr _ _ _ _ _ _ _
    refine region (det rfl (addI rfl rfl (by omega) (by omega)) (det rfl (mv rfl) (nil ?_)))   -- region 10
    exact again (k + 1) (by omega) ⟨rfl, rfl, rfl, rfl, vi (by rw [← hcar]), rfl, trivial⟩ (fun w hm => hm) (by (first | omega | (dsimp only; omega)))
  · have h := of_decide_eq_false h
    obtain rfl : k = 5 := by omega
    refine exit ?_   -- 0
    show Tr _ _ _ _ _ _ _
    refine seq (region (det rfl (Det.to (ldAll 0 rfl rfl g_large_N rfl) (v' := ag (lm (v * y))) (by rw [lmU_five])) (det rfl (mv rfl) (det rfl (eql rfl rfl) (stoA 1 rfl rfl rfl s_large_N rfl rfl rfl (det rfl (asg rfl) (nilS ?_)))))))   -- region 11
    exact ret (retBig 1 rfl rfl rfl g_large_N rfl (pr' (by
      have : decide (((carH v y 5 : Nat) : Int) = 0) = decide (carH v y 5 = 0) := by congr 1; exact propext ⟨fun h => by omega, fun h => by omega⟩
      rw [← this]; rfl)))

theorem add_nums {a b c : Nat} (ha : a < 2 ^ 64) (hb : b < 2 ^ 64) (hc : c ≤ 1) :
    a % 4294967296 + b % 4294967296 < 2 ^ 64 ∧ a % 4294967296 + b % 4294967296 + c < 2 ^ 64 ∧ a / 4294967296 + b / 4294967296 < 2 ^ 64 ∧ a / 4294967296 + b / 4294967296 + (a % 4294967296 + b % 4294967296 + c) / 4294967296 < 2 ^ 64 ∧ 4294967296 * (a / 4294967296 + b / 4294967296) + (a % 4294967296 + b % 4294967296 + c) = a + b + c := by
  refine ⟨by omega, by omega, by omega, by omega, by omega⟩
def addR (v u : Nat) : Value := if v + u < 2 ^ 320 then .tuple #[ag (lm (v + u)), .bool true] else .tuple #[ag (lm 0), .bool false]
theorem addR_ok {v u : Nat} (h : v + u < 2 ^ 320) : Value.tuple #[ag (lm (v + u)), .bool true] = addR v u := (if_pos h).symm
theorem addR_no {v u : Nat} (h : ¬ v + u < 2 ^ 320) : Value.tuple #[ag (lm 0), .bool false] = addR v u := (if_neg h).symm

theorem large_Add_ (v u : Nat) (hv : v < 2 ^ 320) (hu : u < 2 ^ 320) : Pure PP N_large_Add #[ag (lm v), ag (lm u)] (addR v u) := by
  refine enter0 f_large_Add rfl n_large_Add rfl fun w => ?_
  refine seq (region (box rfl rfl rfl fun b0 => box rfl rfl rfl fun b1 => alloc z_large_N rfl rfl fun b2 => det rfl (asg rfl) (nilS ?_)))   -- region 0
  refine seq (region (alloc z_large_N rfl rfl fun b3 => nilS ?_))   -- region 1
  refine seq (region (det rfl (asg rfl) (nilS ?_)))   -- region 2
  refine seq ?_
  refine seq (region (det rfl (mv rfl) (nilS ?_)))   -- region 3
  refine block ?_   -- block 0
  refine loopV (ι := Nat) (fun k => k ≤ 5) (fun k => [(2, .pointer (some ⟨b0, 0, none⟩)), (3, .pointer (some ⟨b1, 0, none⟩)), (4, .pointer (some ⟨b2, 0, none⟩)), (6, .pointer (some ⟨b3, 0, none⟩)), (7, .int .u64 (carA v u k : Nat)), (11, .int .i64 k)]) (fun k => [.blk b3 (ob (lmU (limb (v + u)) k) T_large_N), .blk b2 (ob (lm 0) T_large_N), .blk b1 (ob (lm u) T_large_N), .blk b0 (ob (lm v) T_large_N)]) (fun _ => []) (fun k => 5 - k) 0 (by omega) ⟨rfl, rfl, rfl, rfl, vi (by rw [carA_zero]; rfl), rfl, trivial⟩ (fun w hm => by rw [lmU_zero, lm_zero]; exact hm) ?_
  intro k σ hk
  refine seq (region (det rfl (lss rfl rfl) (nilS ?_)))   -- region 4
  refine seq ?_
  refine cond rfl (fun h => ?_) (fun h => ?_)   -- on t12
  · have h := of_decide_eq_true h
    have hk5 : k < 5 := by omega
    obtain ⟨a, ha⟩ : ∃ a, limb v k = a := ⟨_, rfl⟩
    obtain ⟨b, hb⟩ : ∃ b, limb u k = b := ⟨_, rfl⟩
    obtain ⟨c, hc⟩ : ∃ c, carA v u k = c := ⟨_, rfl⟩
    have hal : a < 2 ^ 64 := ha ▸ limb_lt v k
    have hbl : b < 2 ^ 64 := hb ▸ limb_lt u k
    have hcl : c ≤ 1 := hc ▸ carA_le v u k
    obtain ⟨n1, n2, n3, n4, n5⟩ := add_nums hal hbl hcl
    have hlim : (4294967296 * (a / 4294967296 + b / 4294967296) + (a % 4294967296 + b % 4294967296 + c)) % 18446744073709551616 = limb (v + u) k := by
      rw [n5, limb_add, ha, hb, hc]
    have hcar : (a / 4294967296 + b / 4294967296 + (a % 4294967296 + b % 4294967296 + c) / 4294967296) / 4294967296 = carA v u (k + 1) := by
      rw [comb_car, n5, carA_succ, ha, hb, hc]
    refine skipS ?_
    refine seq ?_
    refine block ?_   -- block 1
    refine seq (region (det rfl (mv rfl) (det rfl (asg rfl) (nilS ?_))))   -- region 5
    refine seq (draw (m := 12) mix (by kernel_rfl) (take 0 rfl (by kernel_rfl) rfl (mv rfl) (take 1 rfl (by kernel_rfl) rfl (iadr rfl rfl u_large_N s_uint64 (by omega) (by omega)) (take 2 rfl (by kernel_rfl) rfl (ldB 3 (v := .int .u64 (a : Nat)) rfl rfl o_uint64 (by rw [← ha]; exact lm_at (by omega) hk5)) (take 3 rfl (by kernel_rfl) rfl (Det.to (and rfl rfl) (vi (wand hal))) (take 4 rfl (by kernel_rfl) rfl (mv rfl) (take 5 rfl (by kernel_rfl) rfl (iadr rfl rfl u_large_N s_uint64 (by omega) (by omega)) (take 6 rfl (by kernel_rfl) rfl (ldB 2 (v := .int .u64 (b : Nat)) rfl rfl o_uint64 (by rw [← hb]; exact lm_at (by omega) hk5)) (take 7 rfl (by kernel_rfl) rfl (Det.to (and rfl rfl) (vi (wand hbl))) (take 8 rfl (by kernel_rfl) rfl (Det.to (add rfl rfl) (vi (wadd n1))) (take 9 rfl (by kernel_rfl) rfl (Det.to (mv rfl) (v' := .int .u64 (c : Nat)) (show Value.int .u64 (carA v u k : Nat) = _ by rw [hc])) (take 10 rfl (by kernel_rfl) rfl (Det.to (add rfl rfl) (vi (wadd n2))) (take 11 rfl (by kernel_rfl) rfl (asg rfl) ((tail (by kernel_rfl) rfl (nilS ?_))))))))))))))))   -- region 6
    refine seq (draw (m := 13) mix (by kernel_rfl) (take 0 rfl (by kernel_rfl) rfl (mv rfl) (take 1 rfl (by kernel_rfl) rfl (iadr rfl rfl u_large_N s_uint64 (by omega) (by omega)) (take 2 rfl (by kernel_rfl) rfl (ldB 3 (v := .int .u64 (a : Nat)) rfl rfl o_uint64 (by rw [← ha]; exact lm_at (by omega) hk5)) (take 3 rfl (by kernel_rfl) rfl (Det.to (shr rfl rfl (by decide)) (vi (wshr a))) (take 4 rfl (by kernel_rfl) rfl (mv rfl) (take 5 rfl (by kernel_rfl) rfl (iadr rfl rfl u_large_N s_uint64 (by omega) (by omega)) (take 6 rfl (by kernel_rfl) rfl (ldB 2 (v := .int .u64 (b : Nat)) rfl rfl o_uint64 (by rw [← hb]; exact lm_at (by omega) hk5)) (take 7 rfl (by kernel_rfl) rfl (Det.to (shr rfl rfl (by decide)) (vi (wshr b))) (take 8 rfl (by kernel_rfl) rfl (Det.to (add rfl rfl) (vi (wadd n3))) (take 9 rfl (by kernel_rfl) rfl (mv rfl) (take 10 rfl (by kernel_rfl) rfl (Det.to (shr rfl rfl (by decide)) (vi (wshr _))) (take 11 rfl (by kernel_rfl) rfl (Det.to (add rfl rfl) (vi (wadd n4))) (take 12 rfl (by kernel_rfl) rfl (asg rfl) ((tail (by kernel_rfl) rfl (nilS ?_)))))))))))))))))   -- region 7
    refine seq (region (det rfl (mv rfl) (det rfl (mv rfl) (det rfl (Det.to (shl rfl rfl (by decide)) (vi (wshl _))) (det rfl (mv rfl) (det rfl (Det.to (and rfl rfl) (vi (wand n2))) (det rfl (Det.to (or rfl rfl) (vi (wor _ _))) (det rfl (iadr rfl rfl u_large_N s_uint64 (by omega) (by omega)) (sto1 0 k rfl rfl rfl s_uint64 rfl (by omega) (by rw [lmU, lmF_length]; omega) (lmU_set hk5 hlim) (nilS ?_))))))))))   -- region 8
    refine region (det rfl (mv rfl) (det rfl (Det.to (shr rfl rfl (by decide)) (vi (wshr _))) (det rfl (asg rfl) (nil ?_))))   -- region 9
    show Tr _ _ _ _ _ _ _
    refine region (det rfl (addI rfl rfl (by omega) (by omega)) (det rfl (mv rfl) (nil ?_)))   -- region 10
    exact again (k + 1) (by omega) ⟨rfl, rfl, rfl, rfl, vi (by rw [← hcar]), rfl, trivial⟩ (fun w hm => hm) (by (first | omega | (dsimp only; omega)))
  · have h := of_decide_eq_false h
    obtain rfl : k = 5 := by omega
    have h5 := carA_five hv hu
    refine exit ?_   -- 0
    show Tr _ _ _ _ _ _ _
    refine seq ?_
    refine seq (region (det rfl (mv rfl) (det rfl (neq rfl rfl) (nilS ?_))))   -- region 11
    refine cond rfl (fun h => ?_) (fun h => ?_)   -- on t48
    · have h : ¬ ((carA v u 5 : Nat) : Int) = 0 := by simpa using h
      refine seq (region (det rfl (bldE z_large_N u_large_N s_uint64) (stoA 1 (rs := lm 0) rfl (by rw [lm_zero]; rfl) rfl s_large_N rfl rfl rfl (det rfl (asg rfl) (nilS ?_)))))   -- region 12
      exact ret (retBig 1 (l := lm 0) rfl rfl rfl g_large_N rfl (pr' (addR_no fun h' => h (by rw [h5.2 h']; rfl))))
    · have h : ((carA v u 5 : Nat) : Int) = 0 := by simpa using h
      refine skipS ?_
      refine seq (region (det rfl (Det.to (ldAll 0 rfl rfl g_large_N rfl) (v' := ag (lm (v + u))) (by rw [lmU_five])) (stoA 1 rfl rfl rfl s_large_N rfl rfl rfl (det rfl (asg rfl) (nilS ?_)))))   -- region 13
      exact ret (retBig 1 (l := lm (v + u)) rfl rfl rfl g_large_N rfl (pr' (addR_ok (h5.1 (by omega)))))

theorem bldP {c : Cx} {σ : Env} {H : List Res} {K : List Fact} {d : Option Tmp} {t : TypeId} {p : String} {af : Array Edge} {g : Option (Nat × Bool)} {tt e : TypeId} {m sz : Nat} {parts : Array (Nat × Operand)} {ps : List (Nat × Value)} {z cs : List Value} (hz : (c.P.info? tt).map (·.zero) = some (some (ag z))) (ht : c.P.underlying tt = some (.array m e)) (hs : (c.P.info? e).map (·.size) = some sz)
    (hps : (parts.toList.map fun (i, x) => (i, ev σ x)) = ps) (hf : Instr.fill (fun i => some (i * sz, sz)) z.toArray ps = some cs.toArray) : Det c σ H K ⟨d, .build tt parts, t, p, af, g⟩ (ag cs) :=
  bldA hz ht hs (by rw [← hps]; simp) hf

theorem large_Of_ (x : Nat) (hx : x < 2 ^ 64) : Pure PP N_large_Of #[.int .u64 (x : Nat)] (ag (lm x)) := by
  refine enter0 f_large_Of rfl n_large_Of rfl fun w => ?_
  refine seq (region (alloc z_large_N rfl rfl fun b0 => nilS ?_))   -- region 0
  have e : ag [.int .u64 (x : Nat), .int .u64 0, .int .u64 0, .int .u64 0, .int .u64 0] = ag (lm x) := by
    have hz : ∀ k, 1 ≤ k → limb x k = 0 := fun k hk => by
      unfold limb
      rw [Nat.div_eq_of_lt (Nat.lt_of_lt_of_le hx (Nat.pow_le_pow_right (by decide) (by omega)))]
    have h0 : limb x 0 = x := by
      unfold limb
      rw [Nat.mul_zero, Nat.pow_zero, Nat.div_one, Nat.mod_eq_of_lt hx]
    unfold lm lmF
    rw [h0, hz 1 (by decide), hz 2 (by decide), hz 3 (by decide), hz 4 (by decide)]; rfl
  refine seq (region (det rfl (mv rfl) (det rfl (Det.to (bldP (ps := [(0, .int .u64 (x : Nat))]) z_large_N u_large_N s_uint64 rfl rfl) e) (stoA 0 rfl rfl rfl s_large_N rfl rfl rfl (nilS ?_)))))   -- region 1
  exact ret (retC 0 rfl rfl rfl g_large_N pr)

theorem large_Cmp_ (v u : Nat) (hv : v < 2 ^ 320) (hu : u < 2 ^ 320) : Pure PP N_large_Cmp #[ag (lm v), ag (lm u)] (.int .i64 (cmpV v u)) := by
  refine enter0 f_large_Cmp rfl n_large_Cmp rfl fun w => ?_
  refine seq (region (box rfl rfl rfl fun b0 => box rfl rfl rfl fun b1 => det rfl (asg rfl) (nilS ?_)))   -- region 0
  refine seq ?_
  refine seq (region (det rfl (mv rfl) (nilS ?_)))   -- region 1
  refine block ?_   -- block 0
  refine loopV (ι := Nat) (fun k => k ≤ 5 ∧ v / 2 ^ (64 * (5 - k)) = u / 2 ^ (64 * (5 - k))) (fun k => [(2, .pointer (some ⟨b0, 0, none⟩)), (3, .pointer (some ⟨b1, 0, none⟩)), (8, .int .i64 k)]) (fun k => [.blk b1 (ob (lm u) T_large_N), .blk b0 (ob (lm v) T_large_N)]) (fun _ => []) (fun k => 5 - k) 0 ⟨by omega, by rw [Nat.div_eq_of_lt hv, Nat.div_eq_of_lt hu]⟩ ⟨rfl, rfl, rfl, trivial⟩ (fun w hm => hm) ?_
  intro k σ ⟨hk, hq⟩
  refine seq (region (det rfl (lss rfl rfl) (nilS ?_)))   -- region 2
  refine seq ?_
  refine cond rfl (fun h => ?_) (fun h => ?_)   -- on t9
  · have h := of_decide_eq_true h
    have hk5 : 4 - k < 5 := by omega
    obtain ⟨a, ha⟩ : ∃ a, limb v (4 - k) = a := ⟨_, rfl⟩
    obtain ⟨b, hb⟩ : ∃ b, limb u (4 - k) = b := ⟨_, rfl⟩
    rw [show 5 - k = 4 - k + 1 by omega] at hq
    obtain ⟨c1, c2, c3⟩ := cmp_step hq
    rw [ha, hb] at c1 c2 c3
    refine skipS ?_
    refine seq ?_
    refine block ?_   -- block 1
    refine seq (region (det rfl (mv rfl) (det rfl (asg rfl) (nilS ?_))))   -- region 3
    refine seq (draw (m := 10) mix (by kernel_rfl) (take 0 rfl (by kernel_rfl) rfl (mv rfl) (take 1 rfl (by kernel_rfl) rfl (subI rfl rfl (by omega) (by omega)) (take 2 rfl (by kernel_rfl) rfl (iadr rfl rfl u_large_N s_uint64 (by omega) (by omega)) (take 3 rfl (by kernel_rfl) rfl (ldB 1 (v := .int .u64 (a : Nat)) rfl rfl o_uint64 (by rw [← ha]; exact lm_at (by omega) hk5)) (take 4 rfl (by kernel_rfl) rfl (mv rfl) (take 5 rfl (by kernel_rfl) rfl (subI rfl rfl (by omega) (by omega)) (take 6 rfl (by kernel_rfl) rfl (iadr rfl rfl u_large_N s_uint64 (by omega) (by omega)) (take 7 rfl (by kernel_rfl) rfl (ldB 0 (v := .int .u64 (b : Nat)) rfl rfl o_uint64 (by rw [← hb]; exact lm_at (by omega) hk5)) (take 8 rfl (by kernel_rfl) rfl (asg rfl) (take 9 rfl (by kernel_rfl) rfl (asg rfl) ((tail (by kernel_rfl) rfl (nilS ?_))))))))))))))   -- region 4
    refine seq (region (det rfl (mv rfl) (det rfl (mv rfl) (det rfl (neq rfl rfl) (nilS ?_)))))   -- region 5
    refine cond rfl (fun h => ?_) (fun h => ?_)   -- on t21
    · have h1 : ¬ ((a : Int) = (b : Int)) := by simpa using h
      refine seq ?_
      refine seq (region (det rfl (mv rfl) (det rfl (mv rfl) (det rfl (lss rfl rfl) (nilS ?_)))))   -- region 6
      refine cond rfl (fun h => ?_) (fun h => ?_)   -- on t24
      · have h : (a : Int) < (b : Int) := of_decide_eq_true h
        refine seq (region (det rfl (asg rfl) (nilS ?_)))   -- region 7
        exact ret (retT rfl rfl (pr' (vi (by rw [c1 (by omega)]))))
      · have h : ¬ (a : Int) < (b : Int) := of_decide_eq_false h
        refine skipS ?_
        refine seq (region (det rfl (asg rfl) (nilS ?_)))   -- region 8
        exact ret (retT rfl rfl (pr' (vi (by rw [c2 (by omega)]))))
    · have h1 : (a : Int) = (b : Int) := by simpa using h
      refine skip ?_
      show Tr _ _ _ _ _ _ _
      refine region (det rfl (addI rfl rfl (by omega) (by omega)) (det rfl (mv rfl) (nil ?_)))   -- region 9
      exact again (k + 1) ⟨by omega, by rw [show 5 - (k + 1) = 4 - k by omega]; exact c3 (by omega)⟩ ⟨rfl, rfl, rfl, trivial⟩ (fun w hm => hm) (by (first | omega | (dsimp only; omega)))
  · have h := of_decide_eq_false h
    obtain rfl : k = 5 := by omega
    have hvu : v = u := by simpa using hq
    refine exit ?_   -- 0
    show Tr _ _ _ _ _ _ _
    refine seq (region (det rfl (asg rfl) (nilS ?_)))   -- region 10
    exact ret (retT rfl rfl (pr' (vi (by rw [cmpV, if_neg (by omega), if_pos hvu]))))
end Go.Proofs.YtmcapgjdflohfaaGreat.L

namespace Go.Proofs.YtmcapgjdflohfaaGreat.L
open Go Go.RowKit Mp
set_option linter.unusedVariables false
set_option exponentiation.threshold 500

theorem blen_of {a n : Nat} (h1 : a < 2 ^ (n + 1)) (h2 : a / 2 ^ n ≠ 0) : blen a = n + 1 := by
  have h3 := (blen_le a (n + 1)).2 h1
  have h4 : ¬ blen a ≤ n := fun h => h2 (Nat.div_eq_of_lt ((blen_le a n).1 h))
  omega

theorem word_Lead_ (a : Nat) (ha : a < 2 ^ 64) : Pure PP N_word_Lead #[.int .u64 (a : Nat)] (.int .i64 (64 - (blen a : Nat))) := by
  refine enter0 f_word_Lead rfl n_word_Lead rfl fun w => ?_
  refine seq (region (det rfl (asg rfl) (nilS ?_)))   -- region 0
  refine seq (region (det rfl (asg rfl) (nilS ?_)))   -- region 1
  refine seq ?_
  refine seq (region (det rfl (mv rfl) (nilS ?_)))   -- region 2
  refine block ?_   -- block 0
  refine loopV (ι := Nat) (fun k => k ≤ 64 ∧ a < 2 ^ (64 - k)) (fun k => [(0, .int .u64 (a : Nat)), (3, .int .i64 k), (5, .int .i64 k)]) (fun _ => []) (fun _ => []) (fun k => 64 - k) 0 ⟨by omega, ha⟩ ⟨rfl, rfl, rfl, trivial⟩ (fun w hm => hm) ?_
  intro k σ ⟨hk, hq⟩
  refine seq (region (det rfl (lss rfl rfl) (nilS ?_)))   -- region 3
  refine seq ?_
  refine cond rfl (fun h => ?_) (fun h => ?_)   -- on t6
  · have h := of_decide_eq_true h
    refine skipS ?_
    refine seq ?_
    refine block ?_   -- block 1
    refine seq (region (det rfl (mv rfl) (det rfl (asg rfl) (nilS ?_))))   -- region 4
    refine seq ?_
    have hw : IntKind.u64.wrap (63 - (k : Int)) = ((63 - k : Nat) : Int) := by
      rw [show (63 : Int) - (k : Int) = ((63 - k : Nat) : Int) by omega, wrap64_in (by omega)]
    refine seq (region (det rfl (mv rfl) (det rfl (mv rfl) (det rfl (subI rfl rfl (by omega) (by omega)) (det rfl (Det.to (conv u_int u_uint rfl) (vi hw)) (det rfl (Det.to (shr rfl rfl (by omega)) (v' := .int .u64 (a / 2 ^ (63 - k) : Nat)) (vi (bshr_div a (63 - k) (by omega)))) (det rfl (neq rfl rfl) (nilS ?_))))))))   -- region 5
    refine cond rfl (fun h => ?_) (fun h => ?_)   -- on t13
    · have h : ¬ ((a / 2 ^ (63 - k) : Nat) : Int) = 0 := by simpa using h
      refine exit ?_   -- 0
      show Tr _ _ _ _ _ _ _
      have e : blen a = 63 - k + 1 := blen_of (by rw [show 63 - k + 1 = 64 - k by omega]; exact hq) (by omega)
      refine seq (region (det rfl (mv rfl) (det rfl (asg rfl) (nilS ?_))))   -- region 8
      exact ret (retT rfl rfl (pr' (vi (by rw [e]; omega))))
    · have h : ((a / 2 ^ (63 - k) : Nat) : Int) = 0 := by simpa using h
      have hz : a / 2 ^ (63 - k) = 0 := by omega
      have hlt : a < 2 ^ (64 - (k + 1)) := by
        rw [show 64 - (k + 1) = 63 - k by omega]
        rcases Nat.div_eq_zero_iff.1 hz with h' | h'
        · exact absurd h' (Nat.ne_of_gt (Nat.pow_pos (by decide)))
        · exact h'
      refine skipS ?_
      refine region (det rfl (mv rfl) (det rfl (addI rfl rfl (by omega) (by omega)) (det rfl (asg rfl) (nil ?_))))   -- region 6
      show Tr _ _ _ _ _ _ _
      refine region (det rfl (addI rfl rfl (by omega) (by omega)) (det rfl (mv rfl) (nil ?_)))   -- region 7
      exact again (k + 1) ⟨by omega, hlt⟩ ⟨rfl, rfl, rfl, trivial⟩ (fun w hm => hm) (by (first | omega | (dsimp only; omega)))
  · have h := of_decide_eq_false h
    obtain rfl : k = 64 := by omega
    have e : blen a = 0 := by
      have : a = 0 := by simpa using hq
      rw [this]; rfl
    refine exit ?_   -- 0
    show Tr _ _ _ _ _ _ _
    refine seq (region (det rfl (mv rfl) (det rfl (asg rfl) (nilS ?_))))   -- region 8
    exact ret (retT rfl rfl (pr' (vi (by rw [e]; rfl))))

theorem large_Len_ (v : Nat) (hv : v < 2 ^ 320) : Pure PP N_large_Len #[ag (lm v)] (.int .i64 (blen v : Nat)) := by
  refine enter0 f_large_Len rfl n_large_Len rfl fun w => ?_
  refine seq (region (box rfl rfl rfl fun b0 => det rfl (asg rfl) (nilS ?_)))   -- region 0
  refine seq ?_
  refine seq (region (det rfl (mv rfl) (nilS ?_)))   -- region 1
  refine block ?_   -- block 0
  refine loopV (ι := Nat) (fun k => k ≤ 5 ∧ v < 2 ^ (64 * (5 - k))) (fun k => [(1, .pointer (some ⟨b0, 0, none⟩)), (5, .int .i64 k)]) (fun _ => [.blk b0 (ob (lm v) T_large_N)]) (fun _ => []) (fun k => 5 - k) 0 ⟨by omega, hv⟩ ⟨rfl, rfl, trivial⟩ (fun w hm => hm) ?_
  intro k σ ⟨hk, hq⟩
  refine seq (region (det rfl (lss rfl rfl) (nilS ?_)))   -- region 2
  refine seq ?_
  refine cond rfl (fun h => ?_) (fun h => ?_)   -- on t6
  · have h := of_decide_eq_true h
    have hk5 : 4 - k < 5 := by omega
    obtain ⟨a, ha⟩ : ∃ a, limb v (4 - k) = a := ⟨_, rfl⟩
    have hal : a < 2 ^ 64 := ha ▸ limb_lt v (4 - k)
    have hva : v / 2 ^ (64 * (4 - k)) = a := by
      rw [div_limb, Nat.div_eq_of_lt (by rw [show 4 - k + 1 = 5 - k by omega]; exact hq), ha]; omega
    refine skipS ?_
    refine seq ?_
    refine block ?_   -- block 1
    refine seq (region (det rfl (mv rfl) (det rfl (asg rfl) (nilS ?_))))   -- region 3
    refine seq (region (det rfl (mv rfl) (det rfl (subI rfl rfl (by omega) (by omega)) (det rfl (iadr rfl rfl u_large_N s_uint64 (by omega) (by omega)) (det rfl (ldB 0 (v := .int .u64 (a : Nat)) rfl rfl o_uint64 (by rw [← ha]; exact lm_at (by omega) hk5)) (det rfl (asg rfl) (nilS ?_)))))))   -- region 4
    refine seq (region (det rfl (mv rfl) (det rfl (neq rfl rfl) (nilS ?_))))   -- region 5
    refine cond rfl (fun h => ?_) (fun h => ?_)   -- on t13
    · have h : ¬ ((a : Nat) : Int) = 0 := by simpa using h
      have e : blen v = 64 * (4 - k) + blen a := by rw [← hva]; exact blen_div (by omega)
      have hb : blen a ≤ 64 := (blen_le a 64).2 hal
      refine seq (region (det rfl (mv rfl) (det rfl (mulI rfl rfl (by omega) (by omega)) (det rfl (subI rfl rfl (by omega) (by omega)) (det rfl (mv rfl) (call k_word_Lead rfl rfl (fun w _ => word_Lead_ a hal w) (det rfl (subI rfl rfl (by omega) (by omega)) (det rfl (asg rfl) (nilS ?_)))))))))   -- region 6
      exact ret (retT rfl rfl (pr' (vi (by rw [e]; omega))))
    · have h : ((a : Nat) : Int) = 0 := by simpa using h
      have hlt : v < 2 ^ (64 * (5 - (k + 1))) := by
        rw [show 5 - (k + 1) = 4 - k by omega]
        rcases Nat.div_eq_zero_iff.1 (show v / 2 ^ (64 * (4 - k)) = 0 by omega) with h' | h'
        · exact absurd h' (Nat.ne_of_gt (Nat.pow_pos (by decide)))
        · exact h'
      refine skip ?_
      show Tr _ _ _ _ _ _ _
      refine region (det rfl (addI rfl rfl (by omega) (by omega)) (det rfl (mv rfl) (nil ?_)))   -- region 7
      exact again (k + 1) ⟨by omega, hlt⟩ ⟨rfl, rfl, trivial⟩ (fun w hm => hm) (by (first | omega | (dsimp only; omega)))
  · have h := of_decide_eq_false h
    obtain rfl : k = 5 := by omega
    have e : blen v = 0 := by
      have : v = 0 := by simpa using hq
      rw [this]; rfl
    refine exit ?_   -- 0
    show Tr _ _ _ _ _ _ _
    refine seq (region (det rfl (asg rfl) (nilS ?_)))   -- region 8
    exact ret (retT rfl rfl (pr' (vi (by rw [e]; rfl))))
end Go.Proofs.YtmcapgjdflohfaaGreat.L

namespace Go.Proofs.YtmcapgjdflohfaaGreat.L
open Go Go.RowKit Mp
set_option linter.unusedVariables false
set_option exponentiation.threshold 500

/-- The first so many limbs are done, and one more is `x`. -/
def lmW (g : Nat → Nat) (k x : Nat) : List Value := lmF fun i => if i = k then x else if i < k then g i else 0
theorem lmU_setW {g : Nat → Nat} {k x : Nat} (h : k < 5) : (lmU g k).set k (.int .u64 (x : Nat)) = lmW g k x := lmF_set h
theorem lmW_done {g : Nat → Nat} {k x : Nat} (hx : x = g k) : lmW g k x = lmU g (k + 1) := lmF_congr fun i _ => by
  subst hx
  by_cases e : i = k
  · subst e; simp
  · simp only [e, if_false]
    by_cases e2 : i < k
    · rw [if_pos e2, if_pos (by omega)]
    · rw [if_neg e2, if_neg (by omega)]
theorem lmW_set {g : Nat → Nat} {k x y : Nat} (h : k < 5) (hy : y = g k) : (lmW g k x).set k (.int .u64 (y : Nat)) = lmU g (k + 1) := by
  rw [← lmW_done hy, lmW, lmF_set h]
  refine lmF_congr fun i _ => ?_
  by_cases e : i = k
  · subst e; simp
  · simp [e]
theorem lmW_at {g : Nat → Nat} {k o x : Nat} (ho : o = k) (h : k < 5) : (lmW g k x)[o]? = some (.int .u64 (x : Nat)) := by
  rw [lmW, lmF_at ho h, if_pos rfl]
theorem lmU_none {g : Nat → Nat} {k : Nat} (h : ∀ i, i < k → g i = 0) : lmU g k = lm 0 := by
  rw [lm_zero]
  exact lmF_congr fun i _ => by
    by_cases e : i < k
    · rw [if_pos e, h i e]
    · rw [if_neg e]

def shlR (v n : Nat) : Value := if v * 2 ^ n < 2 ^ 320 then .tuple #[ag (lm (v * 2 ^ n)), .bool true] else .tuple #[ag (lm 0), .bool false]
theorem shlR_ok {v n : Nat} (h : v * 2 ^ n < 2 ^ 320) : Value.tuple #[ag (lm (v * 2 ^ n)), .bool true] = shlR v n := (if_pos h).symm
theorem shlR_no {v n : Nat} (h : ¬ v * 2 ^ n < 2 ^ 320) : Value.tuple #[ag (lm 0), .bool false] = shlR v n := (if_neg h).symm

set_option maxRecDepth 8000 in
theorem large_Shl_ (v n : Nat) (hv : v < 2 ^ 320) (hn : n ≤ 100000) : Pure PP N_large_Shl #[ag (lm v), .int .i64 (n : Nat)] (shlR v n) := by
  refine enter0 f_large_Shl rfl n_large_Shl rfl fun w => ?_
  refine seq (region (box rfl rfl rfl fun b0 => alloc z_large_N rfl rfl fun b1 => det rfl (asg rfl) (nilS ?_)))   -- region 0
  have hb : blen v ≤ 320 := (blen_le v 320).2 hv
  refine seq ?_
  by_cases hv0 : v = 0
  · have e0 : blen v = 0 := by rw [hv0]; rfl
    refine seq (region (det rfl (mv rfl) (det rfl (Det.to (lss rfl rfl) (v' := .bool false) (vb (decide_eq_false (by omega)))) (det rfl (mv rfl) (guardT rfl rfl (det rfl (ldAll 1 rfl rfl g_large_N rfl) (guardT rfl rfl (call k_large_Len rfl rfl (fun w _ => large_Len_ v hv w) (guardT rfl rfl (det rfl (Det.to (gtr rfl rfl) (v' := .bool false) (vb (decide_eq_false (by omega)))) (guardT rfl rfl (det rfl (mv rfl) (guardF rfl rfl rfl (guardF rfl rfl rfl (guardF rfl rfl rfl (guardF rfl rfl rfl (guardF rfl rfl rfl (guardT rfl rfl (det rfl (pick (b := false) rfl rfl) (det rfl (pick (b := false) rfl rfl) (nilS ?_)))))))))))))))))))))   -- region 1
    refine condF rfl ?_
    refine skipS ?_
    refine seq ?_
    refine seq (region (det rfl (ldAll 1 rfl rfl g_large_N rfl) (call k_large_Len rfl rfl (fun w _ => large_Len_ v hv w) (det rfl (Det.to (eql rfl rfl) (v' := .bool true) (vb (decide_eq_true (by omega)))) (nilS ?_)))))   -- region 3
    refine condT rfl ?_
    refine seq (region (det rfl (bldE z_large_N u_large_N s_uint64) (stoA 0 (rs := lm 0) rfl (by rw [lm_zero]; rfl) rfl s_large_N rfl rfl rfl (det rfl (asg rfl) (nilS ?_)))))   -- region 4
    have e : Value.tuple #[ag (lm 0), .bool true] = shlR v n := by
      have := shlR_ok (v := v) (n := n) (by rw [hv0, Nat.zero_mul]; exact Nat.pow_pos (by decide))
      rw [hv0, Nat.zero_mul] at this
      rw [hv0]; exact this
    exact ret (retBig 0 (l := lm 0) rfl rfl rfl g_large_N rfl (pr' e))
  · have hb0 : 0 < blen v := by
      rcases Nat.eq_zero_or_pos (blen v) with h | h
      · exact absurd ((blen_le v 0).1 (by omega)) (by simp; omega)
      · exact h
    have hf := blen_fit v n 320 hv0
    refine seq (region (det rfl (mv rfl) (det rfl (Det.to (lss rfl rfl) (v' := .bool false) (vb (decide_eq_false (by omega)))) (det rfl (mv rfl) (guardT rfl rfl (det rfl (ldAll 1 rfl rfl g_large_N rfl) (guardT rfl rfl (call k_large_Len rfl rfl (fun w _ => large_Len_ v hv w) (guardT rfl rfl (det rfl (Det.to (gtr rfl rfl) (v' := .bool true) (vb (decide_eq_true (by omega)))) (guardT rfl rfl (det rfl (mv rfl) (guardT rfl rfl (det rfl (mv rfl) (guardT rfl rfl (det rfl (ldAll 1 rfl rfl g_large_N rfl) (guardT rfl rfl (call k_large_Len rfl rfl (fun w _ => large_Len_ v hv w) (guardT rfl rfl (det rfl (subI rfl rfl (by omega) (by omega)) (guardT rfl rfl (det rfl (Det.to (gtr rfl rfl) (v' := .bool (decide (320 - (blen v : Int) < n))) rfl) (guardT rfl rfl (det rfl (pick (b := true) rfl rfl) (det rfl (pick (b := false) rfl rfl) (nilS ?_))))))))))))))))))))))))))   -- region 1
    refine cond rfl (fun h => ?_) (fun h => ?_)   -- on t23
    · have h : 320 - (blen v : Int) < n := of_decide_eq_true h
      refine seq (region (det rfl (bldE z_large_N u_large_N s_uint64) (stoA 0 (rs := lm 0) rfl (by rw [lm_zero]; rfl) rfl s_large_N rfl rfl rfl (det rfl (asg rfl) (nilS ?_)))))   -- region 2
      exact ret (retBig 0 (l := lm 0) rfl rfl rfl g_large_N rfl (pr' (shlR_no fun h' => by have := hf.1 h'; omega)))
    · have h : ¬ 320 - (blen v : Int) < n := of_decide_eq_false h
      have hfit : v * 2 ^ n < 2 ^ 320 := hf.2 (by omega)
      have hn5 : n < 320 := by omega
      clear h
      refine skipS ?_
      refine seq ?_
      refine seq (region (det rfl (ldAll 1 rfl rfl g_large_N rfl) (call k_large_Len rfl rfl (fun w _ => large_Len_ v hv w) (det rfl (Det.to (eql rfl rfl) (v' := .bool false) (vb (decide_eq_false (by omega)))) (nilS ?_)))))   -- region 3
      refine condF rfl ?_
      refine skipS ?_
      refine seq (region (alloc z_large_N rfl rfl fun b2 => nilS ?_))   -- region 5
      obtain ⟨s, hs⟩ : ∃ s, n / 64 = s := ⟨_, rfl⟩
      obtain ⟨q, hq⟩ : ∃ q, n % 64 = q := ⟨_, rfl⟩
      have hq6 : q < 64 := by omega
      have hs5 : s < 5 := by omega
      obtain ⟨g, hg⟩ : ∃ g, limb (v * 2 ^ n) = g := ⟨_, rfl⟩
      have hg1 : ∀ i, i < s → g i = 0 := fun i hi => by rw [← hg, shl_split, hs]; exact limb_below _ _ _ hi
      have hg2 : ∀ j, g (s + j) = 2 ^ q * (limb v j % 2 ^ (64 - q)) + carH v (2 ^ q) j := fun j => by rw [← hg, shl_split, hs, hq, limb_skip, limb_shl _ _ _ (by omega)]
      have hgl : ∀ j, g j < 2 ^ 64 := fun j => by rw [← hg]; exact limb_lt _ _
      refine seq (region (det rfl (mv rfl) (det rfl (Det.to (quo rfl rfl (by decide)) (vi (show _ = ((s : Nat) : Int) by rw [tdiv_nat n (by omega), hs]))) (det rfl (mv rfl) (det rfl (Det.to (rem rfl rfl (by decide)) (vi (show _ = ((q : Nat) : Int) by rw [tmod_nat n, hq]))) (det rfl (Det.to (conv u_int u_uint rfl) (vi (wrap_u64_nat (q : Int) (by omega) (by omega)))) (det rfl (asg rfl) (det rfl (asg rfl) (nilS ?_)))))))))   -- region 6
      refine seq ?_
      refine seq (region (det rfl (mv rfl) (det rfl (asg rfl) (nilS ?_))))   -- region 7
      refine block ?_   -- block 0
      refine loopV (ι := Nat) (fun k => s ≤ k ∧ k ≤ 5) (fun k => [(2, .pointer (some ⟨b0, 0, none⟩)), (4, .pointer (some ⟨b1, 0, none⟩)), (6, .pointer (some ⟨b2, 0, none⟩)), (7, .int .i64 (s : Nat)), (8, .int .u64 (q : Nat)), (9, .int .i64 (k : Nat))]) (fun k => [.blk b2 (ob (lmU g k) T_large_N), .blk b1 (ob (lm 0) T_large_N), .blk b0 (ob (lm v) T_large_N)]) (fun _ => []) (fun k => 5 - k) s ⟨by omega, by omega⟩ ⟨rfl, rfl, rfl, rfl, rfl, rfl, trivial⟩ (fun w hm => by rw [lmU_none hg1, lm_zero]; exact hm) ?_
      intro k σ ⟨hk1, hk2⟩
      refine seq ?_
      refine seq (region (det rfl (mv rfl) (det rfl (lss rfl rfl) (nilS ?_))))   -- region 8
      refine cond rfl (fun h => ?_) (fun h => ?_)   -- on t36
      · have h := of_decide_eq_true h
        have hk5 : k < 5 := by omega
        obtain ⟨a, ha⟩ : ∃ a, limb v (k - s) = a := ⟨_, rfl⟩
        have hal : a < 2 ^ 64 := ha ▸ limb_lt _ _
        obtain ⟨x, hx⟩ : ∃ x, 2 ^ q * (a % 2 ^ (64 - q)) = x := ⟨_, rfl⟩
        have hgk : g k = x + carH v (2 ^ q) (k - s) := by
          have := hg2 (k - s)
          rw [show s + (k - s) = k by omega, ha, hx] at this
          exact this
        have hshl : bshl .u64 ((a : Nat) : Int) q = ((x : Nat) : Int) := by rw [bshl_mod a q (by omega), shl_mod a q (by omega), hx]
        refine skipS ?_
        refine seq ?_
        refine block ?_   -- block 1
        refine seq (region (det rfl (mv rfl) (det rfl (mv rfl) (det rfl (mv rfl) (det rfl (subI rfl rfl (by omega) (by omega)) (det rfl (iadr rfl rfl u_large_N s_uint64 (by omega) (by omega)) (det rfl (ldB 2 (v := .int .u64 (a : Nat)) rfl rfl o_uint64 (by rw [← ha]; exact lm_at (by omega) (by omega))) (det rfl (mv rfl) (det rfl (Det.to (shl rfl rfl (by omega)) (v' := .int .u64 (x : Nat)) (vi hshl)) (det rfl (iadr rfl rfl u_large_N s_uint64 (by omega) (by omega)) (sto1 0 k rfl rfl rfl s_uint64 rfl (by omega) (by rw [lmU, lmF_length]; omega) (lmU_setW hk5) (nilS ?_))))))))))))   -- region 10
        by_cases c1 : 0 < q
        · by_cases c2 : s < k
          · refine seq (region (det rfl (mv rfl) (det rfl (Det.to (gtr rfl rfl) (v' := .bool true) (vb (decide_eq_true (by omega)))) (det rfl (mv rfl) (guardT rfl rfl (det rfl (mv rfl) (guardT rfl rfl (det rfl (mv rfl) (guardT rfl rfl (det rfl (Det.to (gtr rfl rfl) (v' := .bool true) (vb (decide_eq_true (by omega)))) (det rfl (pick (b := true) rfl rfl) (nilS ?_))))))))))))   -- region 11
            refine condT rfl ?_
            obtain ⟨b, hbb⟩ : ∃ b, limb v (k - s - 1) = b := ⟨_, rfl⟩
            have hbl : b < 2 ^ 64 := hbb ▸ limb_lt _ _
            have hcar : carH v (2 ^ q) (k - s) = b / 2 ^ (64 - q) := by
              rw [← hbb, ← carH_shl v q (k - s - 1) (by omega)]; congr 1; omega
            have hcl : b / 2 ^ (64 - q) < 2 ^ q := by rw [← hcar]; exact carH_lt' _ _ _ (Nat.pow_pos (by decide))
            have hw : IntKind.u64.wrap (64 - ((q : Nat) : Int)) = ((64 - q : Nat) : Int) := by
              rw [show (64 : Int) - (q : Int) = ((64 - q : Nat) : Int) by omega, wrap64_in (by omega)]
            have hor : bor .u64 ((x : Nat) : Int) ((b / 2 ^ (64 - q) : Nat) : Int) = ((g k : Nat) : Int) := by
              have h1 := hgl k
              rw [hgk, hcar] at h1 ⊢
              rw [← hx] at h1 ⊢
              exact bor_add hcl h1
            refine draw (m := 14) mix (by kernel_rfl) (take 0 rfl (by kernel_rfl) rfl (mv rfl) (take 1 rfl (by kernel_rfl) rfl (iadr rfl rfl u_large_N s_uint64 (by omega) (by omega)) (take 2 rfl (by kernel_rfl) rfl (ldB 0 (v := .int .u64 (x : Nat)) rfl rfl o_uint64 (lmW_at (by omega) hk5)) (take 3 rfl (by kernel_rfl) rfl (mv rfl) (take 4 rfl (by kernel_rfl) rfl (mv rfl) (take 5 rfl (by kernel_rfl) rfl (subI rfl rfl (by omega) (by omega)) (take 6 rfl (by kernel_rfl) rfl (subI rfl rfl (by omega) (by omega)) (take 7 rfl (by kernel_rfl) rfl (iadr rfl rfl u_large_N s_uint64 (by omega) (by omega)) (take 8 rfl (by kernel_rfl) rfl (ldB 2 (v := .int .u64 (b : Nat)) rfl rfl o_uint64 (by rw [← hbb]; exact lm_at (by omega) (by omega))) (take 9 rfl (by kernel_rfl) rfl (mv rfl) (take 10 rfl (by kernel_rfl) rfl (Det.to (sub rfl rfl) (vi hw)) (take 11 rfl (by kernel_rfl) rfl (Det.to (shr rfl rfl (by omega)) (v' := .int .u64 (b / 2 ^ (64 - q) : Nat)) (vi (bshr_div b (64 - q) (by omega)))) (take 12 rfl (by kernel_rfl) rfl (Det.to (or rfl rfl) (vi hor)) (take 13 rfl (by kernel_rfl) rfl (iadr rfl rfl u_large_N s_uint64 (by omega) (by omega)) ((tail (by kernel_rfl) rfl (sto1 0 k rfl rfl rfl s_uint64 rfl (by omega) (by rw [lmW, lmF_length]; omega) (lmW_set hk5 rfl) (nil ?_))))))))))))))))))   -- region 12
            show Tr _ _ _ _ _ _ _
            refine region (det rfl (mv rfl) (det rfl (addI rfl rfl (by omega) (by omega)) (det rfl (asg rfl) (nil ?_))))   -- region 9
            exact again (k + 1) ⟨by omega, by omega⟩ ⟨rfl, rfl, rfl, rfl, rfl, rfl, trivial⟩ (fun w hm => hm) (by (first | omega | (dsimp only; omega)))
          · refine seq (region (det rfl (mv rfl) (det rfl (Det.to (gtr rfl rfl) (v' := .bool true) (vb (decide_eq_true (by omega)))) (det rfl (mv rfl) (guardT rfl rfl (det rfl (mv rfl) (guardT rfl rfl (det rfl (mv rfl) (guardT rfl rfl (det rfl (Det.to (gtr rfl rfl) (v' := .bool false) (vb (decide_eq_false (by omega)))) (det rfl (pick (b := true) rfl rfl) (nilS ?_))))))))))))   -- region 11
            refine condF rfl ?_
            refine skip ?_
            show Tr _ _ _ _ _ _ _
            refine region (det rfl (mv rfl) (det rfl (addI rfl rfl (by omega) (by omega)) (det rfl (asg rfl) (nil ?_))))   -- region 9
            exact again (k + 1) ⟨by omega, by omega⟩ ⟨rfl, rfl, rfl, rfl, rfl, rfl, trivial⟩ (fun w hm => by
              rw [← lmW_done (x := x) (by rw [hgk, show k - s = 0 by omega, carH_zero]; rfl)]; exact hm) (by (first | omega | (dsimp only; omega)))
        · refine seq (region (det rfl (mv rfl) (det rfl (Det.to (gtr rfl rfl) (v' := .bool false) (vb (decide_eq_false (by omega)))) (det rfl (mv rfl) (guardF rfl rfl rfl (guardF rfl rfl rfl (guardF rfl rfl rfl (det rfl (pick (b := false) rfl rfl) (nilS ?_)))))))))   -- region 11
          refine condF rfl ?_
          refine skip ?_
          show Tr _ _ _ _ _ _ _
          refine region (det rfl (mv rfl) (det rfl (addI rfl rfl (by omega) (by omega)) (det rfl (asg rfl) (nil ?_))))   -- region 9
          have hc0 : carH v (2 ^ q) (k - s) = 0 := by
            have := carH_lt' v (2 ^ q) (k - s) (Nat.pow_pos (by decide))
            rw [show q = 0 by omega] at this ⊢
            omega
          exact again (k + 1) ⟨by omega, by omega⟩ ⟨rfl, rfl, rfl, rfl, rfl, rfl, trivial⟩ (fun w hm => by
            rw [← lmW_done (x := x) (by rw [hgk, hc0]; rfl)]; exact hm) (by (first | omega | (dsimp only; omega)))
      · have h := of_decide_eq_false h
        obtain rfl : k = 5 := by omega
        refine exit ?_   -- 0
        show Tr _ _ _ _ _ _ _
        refine seq (region (det rfl (Det.to (ldAll 0 rfl rfl g_large_N rfl) (v' := ag (lm (v * 2 ^ n))) (by rw [← hg, lmU_five])) (stoA 1 rfl rfl rfl s_large_N rfl rfl rfl (det rfl (asg rfl) (nilS ?_)))))   -- region 13
        exact ret (retBig 1 (l := lm (v * 2 ^ n)) rfl rfl rfl g_large_N rfl (pr' (shlR_ok hfit)))
end Go.Proofs.YtmcapgjdflohfaaGreat.L

namespace Go.Proofs.YtmcapgjdflohfaaGreat.L
open Go Go.RowKit Mp
set_option linter.unusedVariables false
set_option exponentiation.threshold 500

def mulR (v y : Nat) : Value := if v * y < 2 ^ 320 then .tuple #[ag (lm (v * y)), .bool true] else .tuple #[ag (lm 0), .bool false]
theorem mulR_ok {v y : Nat} (h : v * y < 2 ^ 320) : mulR v y = .tuple #[ag (lm (v * y)), .bool true] := if_pos h
theorem mulR_no {v y : Nat} (h : ¬ v * y < 2 ^ 320) : Value.tuple #[ag (lm 0), .bool false] = mulR v y := (if_neg h).symm

theorem half_b (v y : Nat) (hv : v < 2 ^ 320) (hy : y < 2 ^ 32) (b : Bool) (hb : (v * y < 2 ^ 320) ↔ b = true) (w : World) : Calls PP N_large_half #[ag (lm v), .int .u64 (y : Nat)] w (PR w (.tuple #[ag (lm (v * y)), .bool b])) := by
  have h := large_half_ v y hy w
  rw [show decide (carH v y 5 = 0) = b by
    have := carH_five (v := v) (y := y) hv
    cases b
    · exact decide_eq_false fun h => by simp at hb; have := this.1 h; omega
    · exact decide_eq_true (this.2 (hb.2 rfl))] at h
  exact h

set_option maxRecDepth 8000 in
theorem large_Mul_ (v y : Nat) (hv : v < 2 ^ 320) (hy : y < 2 ^ 64) : Pure PP N_large_Mul #[ag (lm v), .int .u64 (y : Nat)] (mulR v y) := by
  obtain ⟨y0, h0⟩ : ∃ y0, y % 4294967296 = y0 := ⟨_, rfl⟩
  obtain ⟨y1, h1⟩ : ∃ y1, y / 4294967296 = y1 := ⟨_, rfl⟩
  have hs : v * y = v * y0 + v * y1 * 2 ^ 32 := by
    rw [Nat.mul_assoc, ← Nat.mul_add]; congr 1; omega
  have hle : v * y1 ≤ v * y1 * 2 ^ 32 := Nat.le_mul_of_pos_right _ (by decide)
  have hy0 : y0 < 2 ^ 32 := by omega
  have hy1 : y1 < 2 ^ 32 := by omega
  refine enter0 f_large_Mul rfl n_large_Mul rfl fun w => ?_
  refine seq (region (box rfl rfl rfl fun b0 => alloc z_large_N rfl rfl fun b1 => det rfl (asg rfl) (nilS ?_)))   -- region 0
  by_cases c1 : v * y0 < 2 ^ 320
  · refine seq (region (det rfl (ldAll 1 rfl rfl g_large_N rfl) (det rfl (mv rfl) (det rfl (Det.to (and rfl rfl) (v' := .int .u64 (y0 : Nat)) (vi (by rw [← h0]; exact wand hy))) (call k_large_half rfl rfl (fun w _ => half_b v y0 hv hy0 true (by simp [c1]) w) (det rfl (mv rfl) (det rfl (extr rfl rfl) (det rfl (extr rfl rfl) (alloc z_large_N rfl rfl fun b2 => stoA 0 rfl rfl rfl s_large_N rfl rfl rfl (det rfl (asg rfl) (nilS ?_)))))))))))   -- region 1
    refine seq ?_
    refine seq (region (det rfl (mv rfl) (det rfl (notB rfl) (nilS ?_))))   -- region 2
    refine condF rfl ?_
    refine skipS ?_
    by_cases c2 : v * y1 < 2 ^ 320
    · refine seq (region (det rfl (ldAll 2 rfl rfl g_large_N rfl) (det rfl (mv rfl) (det rfl (Det.to (shr rfl rfl (by decide)) (v' := .int .u64 (y1 : Nat)) (vi (by rw [← h1]; exact wshr y))) (call k_large_half rfl rfl (fun w _ => half_b v y1 hv hy1 true (by simp [c2]) w) (det rfl (mv rfl) (det rfl (extr rfl rfl) (det rfl (extr rfl rfl) (alloc z_large_N rfl rfl fun b3 => stoA 0 rfl rfl rfl s_large_N rfl rfl rfl (det rfl (asg rfl) (nilS ?_)))))))))))   -- region 4
      refine seq ?_
      refine seq (region (det rfl (mv rfl) (det rfl (notB rfl) (nilS ?_))))   -- region 5
      refine condF rfl ?_
      refine skipS ?_
      by_cases c3 : v * y1 * 2 ^ 32 < 2 ^ 320
      · refine seq (region (det rfl (ldAll 0 rfl rfl g_large_N rfl) (call k_large_Shl rfl rfl (fun w _ => shlR_ok c3 ▸ large_Shl_ (v * y1) 32 c2 (by decide) w) (det rfl (mv rfl) (det rfl (extr rfl rfl) (det rfl (extr rfl rfl) (stoA 0 rfl rfl rfl s_large_N rfl rfl rfl (det rfl (asg rfl) (nilS ?_)))))))))   -- region 7
        refine seq ?_
        refine seq (region (det rfl (mv rfl) (det rfl (notB rfl) (nilS ?_))))   -- region 8
        refine condF rfl ?_
        refine skipS ?_
        have hA : ∃ u b, addR (v * y0) (v * y1 * 2 ^ 32) = .tuple #[ag (lm u), .bool b] ∧ mulR v y = .tuple #[ag (lm u), .bool b] := by
          unfold addR mulR
          rw [← hs]
          split
          · exact ⟨_, _, rfl, rfl⟩
          · exact ⟨_, _, rfl, rfl⟩
        obtain ⟨u, b, hA1, hA2⟩ := hA
        refine seq (region (det rfl (ldAll 1 rfl rfl g_large_N rfl) (det rfl (ldAll 0 rfl rfl g_large_N rfl) (call k_large_Add rfl rfl (fun w _ => hA1 ▸ large_Add_ (v * y0) (v * y1 * 2 ^ 32) c1 c3 w) (det rfl (extr rfl rfl) (det rfl (extr rfl rfl) (stoA 2 rfl rfl rfl s_large_N rfl rfl rfl (det rfl (asg rfl) (nilS ?_)))))))))   -- region 10
        exact ret (retBig 2 (l := lm u) rfl rfl rfl g_large_N rfl (pr' hA2.symm))
      · refine seq (region (det rfl (ldAll 0 rfl rfl g_large_N rfl) (call k_large_Shl rfl rfl (fun w _ => shlR_no c3 ▸ large_Shl_ (v * y1) 32 c2 (by decide) w) (det rfl (mv rfl) (det rfl (extr rfl rfl) (det rfl (extr rfl rfl) (stoA 0 rfl rfl rfl s_large_N rfl rfl rfl (det rfl (asg rfl) (nilS ?_)))))))))   -- region 7
        refine seq ?_
        refine seq (region (det rfl (mv rfl) (det rfl (notB rfl) (nilS ?_))))   -- region 8
        refine condT rfl ?_
        refine seq (region (det rfl (bldE z_large_N u_large_N s_uint64) (stoA 2 (rs := lm 0) rfl (by rw [lm_zero]; rfl) rfl s_large_N rfl rfl rfl (det rfl (asg rfl) (nilS ?_)))))   -- region 9
        exact ret (retBig 2 (l := lm 0) rfl rfl rfl g_large_N rfl (pr' (mulR_no (by omega))))
    · refine seq (region (det rfl (ldAll 2 rfl rfl g_large_N rfl) (det rfl (mv rfl) (det rfl (Det.to (shr rfl rfl (by decide)) (v' := .int .u64 (y1 : Nat)) (vi (by rw [← h1]; exact wshr y))) (call k_large_half rfl rfl (fun w _ => half_b v y1 hv hy1 false (by simp [c2]) w) (det rfl (mv rfl) (det rfl (extr rfl rfl) (det rfl (extr rfl rfl) (alloc z_large_N rfl rfl fun b3 => stoA 0 rfl rfl rfl s_large_N rfl rfl rfl (det rfl (asg rfl) (nilS ?_)))))))))))   -- region 4
      refine seq ?_
      refine seq (region (det rfl (mv rfl) (det rfl (notB rfl) (nilS ?_))))   -- region 5
      refine condT rfl ?_
      refine seq (region (det rfl (bldE z_large_N u_large_N s_uint64) (stoA 2 (rs := lm 0) rfl (by rw [lm_zero]; rfl) rfl s_large_N rfl rfl rfl (det rfl (asg rfl) (nilS ?_)))))   -- region 6
      exact ret (retBig 2 (l := lm 0) rfl rfl rfl g_large_N rfl (pr' (mulR_no (by omega))))
  · refine seq (region (det rfl (ldAll 1 rfl rfl g_large_N rfl) (det rfl (mv rfl) (det rfl (Det.to (and rfl rfl) (v' := .int .u64 (y0 : Nat)) (vi (by rw [← h0]; exact wand hy))) (call k_large_half rfl rfl (fun w _ => half_b v y0 hv hy0 false (by simp [c1]) w) (det rfl (mv rfl) (det rfl (extr rfl rfl) (det rfl (extr rfl rfl) (alloc z_large_N rfl rfl fun b2 => stoA 0 rfl rfl rfl s_large_N rfl rfl rfl (det rfl (asg rfl) (nilS ?_)))))))))))   -- region 1
    refine seq ?_
    refine seq (region (det rfl (mv rfl) (det rfl (notB rfl) (nilS ?_))))   -- region 2
    refine condT rfl ?_
    refine seq (region (det rfl (bldE z_large_N u_large_N s_uint64) (stoA 1 (rs := lm 0) rfl (by rw [lm_zero]; rfl) rfl s_large_N rfl rfl rfl (det rfl (asg rfl) (nilS ?_)))))   -- region 3
    exact ret (retBig 1 (l := lm 0) rfl rfl rfl g_large_N rfl (pr' (mulR_no (by omega))))
end Go.Proofs.YtmcapgjdflohfaaGreat.L

namespace Go.Proofs.YtmcapgjdflohfaaGreat.L
open Go Go.RowKit
set_option linter.unusedVariables false
section
variable {c : Cx} {n : Nat} {Q : Exit → Env → World → Prop} {σ : Env} {H Hs : List Res} {K : List Fact}
variable {ops : Array Oper} {m f : Nat} {listed : Array Bool}

/-- The judgement in a head; `Hs` is what is only read. -/
def HDi (Hs : List Res) (c : Cx) (n : Nat) (ops : Array Oper) (Q : Exit → Env → World → Prop) (m f : Nat) (listed : Array Bool) (σ : Env) (H : List Res) (K : List Fact) : Prop :=
  okDraw ops m = true → HeadInv .any ops m listed → ∀ w, M c H K w → ∀ a, Rep n a σ → wpHd c.P .any ops (lift n Q) (M c Hs K) m (LT c n ops Q m) f listed a w

theorem drawW {id m : Nat} {l : List Oper} (Hs : List Res) (hm : c.P.follows .mixedOrders = true) (hok : okDraw l.toArray m = true)
    (h : HDi Hs c n l.toArray Q m m (Array.replicate l.length false) σ H K) : Tr c n (.region id l.toArray true) Q σ H K := by
  intro w hM a hr
  refine wp_region_any hm ?_
  have hok0 := hok
  simp only [okDraw, Bool.and_eq_true] at hok
  obtain ⟨⟨_, hle⟩, _⟩ := hok
  have hle : m ≤ l.toArray.size := Nat.le_of_ble_eq_true hle
  have inv0 : HeadInv .any l.toArray m (Array.replicate l.toArray.size false) :=
    ⟨by simp, fun j oj _ hl => (by rw [getD_replicate_false] at hl; cases hl), fun t _ ht => getD_in (by simpa using ht) (getD_replicate_false _ _)⟩
  have hM' : M c H K { w with drawn := w.drawn + 1 } := hM.pure ⟨rfl, rfl, rfl, Nat.le_refl _, fun _ _ _ => rfl⟩
  have H1 := h hok0 (by simpa using inv0) _ hM' a hr
  have := wpAny_of_hd (Q := lift n Q) (S := M c Hs K) (g := l.toArray.size - m) (L := LT c n l.toArray Q m) (fun listed a' w' hL => by
    have := wpAny_of_seq (P := c.P) (ops := l.toArray) (md := .any) (Q' := lift n Q) (l.drop m) m listed a' w' (fun j => by simp [List.getElem?_drop]) (by
      have e : (l.drop m).length = l.toArray.size - m := by simp
      rw [e]; exact hL.1) (by have := hL.2; simpa using this)
    have e : (l.drop m).length = l.toArray.size - m := by simp
    rwa [e] at this) _ _ _ _ H1
  rw [show m + (l.toArray.size - m) = l.toArray.size by omega] at this
  simpa using this

theorem takeW [q : NoP Q] (i : Nat) {d : Nat} {op : Op} {t : TypeId} {p : String} {af : Array Edge} {v : Value} (hi : ops[i]? = some ⟨some d, op, t, p, af, none⟩) (ht : okTake ops m i listed = true) (hd : Nat.blt d n = true)
    (hs : Hs.Sublist H) (hv : Det c σ Hs K ⟨some d, op, t, p, af, none⟩ v) (h : HDi Hs c n ops Q m f (listed.setIfInBounds i true) (upd σ d v) H K) : HDi Hs c n ops Q m (f + 1) listed σ H K := by
  intro hok0 inv w hM a hr
  have hok := hok0
  simp only [okTake, Bool.and_eq_true] at ht
  simp only [okDraw, Bool.and_eq_true, Bool.or_eq_true] at hok
  have him : i < m := by have := ht.1.1; simp [Nat.blt] at this; omega
  have hri : i ∈ Region.ready .any ops listed := by simpa using ht.1.2
  refine wpHd_first hi (Region.noSelect_spec hok.1.1) ?_ (fun hlt => by
      rcases hok.2 with h' | h'
      · have := Nat.le_of_ble_eq_true h'; omega
      · exact h') him (fun listed' a' w' hL => seqB_ready hL.1) f listed a w inv (Region.free_spec hi ht.2) hri (.inl ⟨by simp [Region.wanted], fun w' hw' => by rw [hr.eval]; exact hv w' hw'⟩) (hM.sub hs)
    (h hok0 (inv.set hri him) w hM _ (hr.put d v (by simp [Nat.blt] at hd; omega)))
  rintro ch a' w' ⟨σ', hr', hq⟩
  refine ⟨fun i => a'.tmps.getD i undef, ⟨hr'.defers, by have := hr'.size; simpa [Act.put] using this, fun _ => rfl⟩, q.h ch σ' _ w' hq⟩

/-- The only one: a store of a whole block that is not among those that are only read. -/
theorem stoW (i k : Nat) {tx e : TypeId} {x y : Operand} {t : TypeId} {p : String} {af : Array Edge} {b mm : Nat} {ls rs : List Value} (hi : ops[i]? = some ⟨none, .store tx x y, t, p, af, none⟩)
    (hr1 : Region.ready .any ops listed = [i]) (him : Nat.blt i m = true)
    (hx : ev σ x = .pointer (some ⟨b, 0, none⟩)) (hy : ev σ y = ag rs) (hk : H[k]? = some (.blk b (ob ls e))) (hsz : (c.P.info? tx).map (·.size) = some mm) (hm : rs.length = mm) (h1 : one rs = true) (hl : ls.length = mm)
    (hs : Hs.Sublist (H.set k (.blk b (ob rs e)))) (h : HDi Hs c n ops Q m f (listed.setIfInBounds i true) σ (H.set k (.blk b (ob rs e))) K) : HDi Hs c n ops Q m (f + 1) listed σ H K := by
  intro hok inv w hM a hr
  have him' : i < m := by simp [Nat.blt] at him; omega
  refine ⟨by rw [hr1]; simp, fun j hj => ?_⟩
  have hjr := hj
  rw [hr1] at hj
  have hji : j = i := by simpa using hj
  subst hji
  refine ⟨him', ?_⟩
  unfold wpOp
  simp only [hi, Region.wanted, if_true]
  refine .inl ?_
  unfold Oper.wp
  have hb := hM.blk k hk
  have hst := run_storeCells_at (P := c.P) b 0 e rs 0 ls.toArray w hb (by simp; omega) (fun u hu => List.all_eq_true.1 h1 u hu)
  have hcat : ls.take 0 ++ rs ++ ls.drop (0 + rs.length) = rs := by rw [Nat.zero_add, hm, ← hl]; simp
  have hrun : (execOp a.eval ⟨none, .store tx x y, t, p, af, none⟩).run c.P w = .ok .skip (w.setRow b rs.toArray) := by
    simp only [execOp, hr.eval, hx, hy, Instr.storeAt, Instr.sureAddr, Sem.run_bind, Sem.run_pure, Result.andThen_ok, storeVar, run_size (show (c.P.info? tx).map (·.size) = some rs.length by rw [hsz, hm]), show (ag rs).cells = rs.toArray from rfl]
    simp only [List.size_toArray, ne_eq, not_true_eq_false, if_false]
    rw [hst, Nat.add_zero]
    have : ls.drop rs.length = [] := List.drop_of_length_le (by omega)
    simp [this]
  rw [hrun]
  have hM' : M c (H.set k (.blk b (ob rs e))) K (w.setRow b rs.toArray) := hM.change k hk (grownBy_setRow w b _) (setRow_heap w b _ _ e _ hb) (.inl rfl)
  exact ⟨hM'.sub hs, h hok (inv.set hjr him') _ hM' _ hr⟩

/-- All have come up. -/
theorem doneW (hs : Region.seqB .any ops (ops.size - m) m listed = true) {l : List Oper} (hl : ops.toList.drop m = l) (h : TL c n ops l Q σ H K) : HDi Hs c n ops Q m 0 listed σ H K := by
  intro _ _ w hM a hr
  exact ⟨hs, by rw [hl]; exact h w hM a hr⟩
end
end Go.Proofs.YtmcapgjdflohfaaGreat.L

namespace Go.Proofs.YtmcapgjdflohfaaGreat.L
open Go Go.RowKit Mp
set_option linter.unusedVariables false
set_option exponentiation.threshold 500

theorem results_cct {fn : Func} {p q u : Tmp} {ty ty' : TypeId} (h : fn.results = #[.cell p ty, .cell q ty', .tmp u]) (tmps : Array Value) (P : Program) (w : World) :
    (results fn tmps).run P w =
      ((asAddr (tmps.getD p undef)).run P w).andThen fun a w₁ => ((loadVar ty a).run P w₁).andThen fun v w₂ =>
      ((asAddr (tmps.getD q undef)).run P w₂).andThen fun a' w₃ => ((loadVar ty' a').run P w₃).andThen fun v' w₄ => .ok (.tuple #[v, v', tmps.getD u undef]) w₄ := by
  simp only [results, h]
  simp [Sem.run_bind, Result.andThen]
/-- The results are two blocks and a slot. -/
theorem retTwo {c : Cx} {n : Nat} {σ : Env} {H : List Res} {K : List Fact} {fn : Func} {R : Ending → World → Prop} {s ty s' ty' u b b' : Nat} {e e' : TypeId} {l l' : List Value} {v : Value} (i i' : Nat) (hr : fn.results = #[.cell s ty, .cell s' ty', .tmp u]) (hv : σ s = .pointer (some ⟨b, 0, none⟩)) (hi : H[i]? = some (.blk b (ob l e))) (hu : isAg c.P ty l.length)
    (hvb : σ s' = .pointer (some ⟨b', 0, none⟩)) (hi' : H[i']? = some (.blk b' (ob l' e'))) (hu' : isAg c.P ty' l'.length) (hv' : σ u = v)
    (h : ∀ w, M c H K w → R (.returned (.tuple #[ag l, ag l', v])) w) : ∀ w, M c H K w → post c.P fn n R .ret σ w := fun w hm =>
  ⟨.tuple #[ag l, ag l', v], fun a ha => by
    have hb := hm.blk i hi
    have hb' := hm.blk i' hi'
    have hl := run_loadAg (P := c.P) (w := w) (t := ty) (b := b) (off := 0) (l := l) hu (fun j u hj => by rw [Nat.zero_add, cell_ob hb]; exact hj)
    have hl' := run_loadAg (P := c.P) (w := w) (t := ty') (b := b') (off := 0) (l := l') hu' (fun j u hj => by rw [Nat.zero_add, cell_ob hb']; exact hj)
    rw [results_cct hr, ha.val, ha.val, ha.val, hv, hv', hvb]
    simp only [asAddr, Sem.run_pure, Result.andThen_ok]
    rw [hl]
    simp only [Result.andThen_ok]
    rw [hl']; rfl, h w hm⟩

def mayR (a b : Int) : Bool := decide (0 < a) && decide (a < b) && decide (b ≤ 65536)
theorem mayR_iff {a b : Int} : mayR a b = true ↔ 0 < a ∧ a < b ∧ b ≤ 65536 := by simp [mayR, and_assoc]

theorem ratio_May_ (a b : Int) : Pure PP N_ratio_May #[.int .i64 a, .int .i64 b] (.bool (mayR a b)) := by
  refine enter0 f_ratio_May rfl n_ratio_May rfl fun w => ?_
  refine seq (region (det rfl (asg rfl) (nilS ?_)))   -- region 0
  by_cases c1 : 0 < a
  · by_cases c2 : a < b
    · refine seq (region (det rfl (mv rfl) (det rfl (Det.to (gtr rfl rfl) (v' := .bool true) (vb (decide_eq_true c1))) (det rfl (mv rfl) (guardT rfl rfl (det rfl (mv rfl) (guardT rfl rfl (det rfl (mv rfl) (guardT rfl rfl (det rfl (Det.to (lss rfl rfl) (v' := .bool true) (vb (decide_eq_true c2))) (det rfl (pick (b := true) rfl rfl) (det rfl (mv rfl) (guardT rfl rfl (det rfl (mv rfl) (guardT rfl rfl (det rfl (leq rfl rfl) (det rfl (pick (b := true) rfl rfl) (det rfl (asg rfl) (nilS ?_)))))))))))))))))))   -- region 1
      exact ret (retT rfl rfl (pr' (vb (show decide (b ≤ 65536) = _ by simp [mayR, c1, c2]))))
    · refine seq (region (det rfl (mv rfl) (det rfl (Det.to (gtr rfl rfl) (v' := .bool true) (vb (decide_eq_true c1))) (det rfl (mv rfl) (guardT rfl rfl (det rfl (mv rfl) (guardT rfl rfl (det rfl (mv rfl) (guardT rfl rfl (det rfl (Det.to (lss rfl rfl) (v' := .bool false) (vb (decide_eq_false c2))) (det rfl (pick (b := true) rfl rfl) (det rfl (mv rfl) (guardF rfl rfl rfl (guardF rfl rfl rfl (det rfl (pick (b := false) rfl rfl) (det rfl (asg rfl) (nilS ?_)))))))))))))))))   -- region 1
      exact ret (retT rfl rfl (pr' (vb (show false = _ by simp [mayR, c1, c2]))))
  · refine seq (region (det rfl (mv rfl) (det rfl (Det.to (gtr rfl rfl) (v' := .bool false) (vb (decide_eq_false c1))) (det rfl (mv rfl) (guardF rfl rfl rfl (guardF rfl rfl rfl (guardF rfl rfl rfl (det rfl (pick (b := false) rfl rfl) (det rfl (mv rfl) (guardF rfl rfl rfl (guardF rfl rfl rfl (det rfl (pick (b := false) rfl rfl) (det rfl (asg rfl) (nilS ?_))))))))))))))   -- region 1
    exact ret (retT rfl rfl (pr' (vb (show false = _ by simp [mayR, c1]))))

def prodR (n b : Nat) (up : Int) : Value := if 0 ≤ up ∧ up ≤ 255 then .tuple #[ag (lm (n * b * 2 ^ up.toNat)), .bool true] else .tuple #[ag (lm 0), .bool false]
theorem prod_fit {n b u : Nat} (hn : n < 2 ^ 32) (hb : b < 2 ^ 32) (hu : u ≤ 255) : n * b * 2 ^ u < 2 ^ 320 := by
  have h1 : n * b < 2 ^ 64 := by
    have : n * b ≤ 4294967295 * 4294967295 := Nat.mul_le_mul (by omega) (by omega)
    omega
  calc n * b * 2 ^ u ≤ n * b * 2 ^ 255 := Nat.mul_le_mul_left _ (Nat.pow_le_pow_right (by decide) hu)
    _ < 2 ^ 64 * 2 ^ 255 := (Nat.mul_lt_mul_right (Nat.pow_pos (by decide))).2 h1
    _ ≤ 2 ^ 320 := by rw [← Nat.pow_add]; exact Nat.pow_le_pow_right (by decide) (by decide)
theorem conv64 {a : Nat} (h : a < 2 ^ 32) : IntKind.u64.wrap ((a : Nat) : Int) = ((a : Nat) : Int) := wrap64_in (by omega)

set_option maxRecDepth 8000 in
theorem ratio_Product_ (n b : Nat) (hn : n < 2 ^ 32) (hb : b < 2 ^ 32) (up : Int) : Pure PP N_ratio_Product #[.int .u32 (n : Nat), .int .u32 (b : Nat), .int .i64 up] (prodR n b up) := by
  have hx := prod_fit hn hb (u := 0) (by decide)
  rw [Nat.pow_zero, Nat.mul_one] at hx
  have hn' : n < 2 ^ 320 := Nat.lt_of_lt_of_le hn (Nat.pow_le_pow_right (by decide) (by decide))
  refine enter0 f_ratio_Product rfl n_ratio_Product rfl fun w => ?_
  refine seq (region (alloc z_large_N rfl rfl fun b0 => det rfl (asg rfl) (nilS ?_)))   -- region 0
  refine seq (region (det rfl (mv rfl) (det rfl (Det.to (conv u_uint32 u_uint64 rfl) (vi (conv64 hn))) (call k_large_Of rfl rfl (fun w _ => large_Of_ n (by omega) w) (det rfl (mv rfl) (det rfl (Det.to (conv u_uint32 u_uint64 rfl) (vi (conv64 hb))) (call k_large_Mul rfl rfl (fun w _ => mulR_ok hx ▸ large_Mul_ n b hn' (by omega) w) (det rfl (mv rfl) (det rfl (extr rfl rfl) (det rfl (extr rfl rfl) (alloc z_large_N rfl rfl fun b1 => stoA 0 rfl rfl rfl s_large_N rfl rfl rfl (det rfl (asg rfl) (nilS ?_)))))))))))))   -- region 1
  refine seq ?_
  by_cases c1 : up < 0
  · refine seq (region (det rfl (mv rfl) (det rfl (Det.to (lss rfl rfl) (v' := .bool true) (vb (decide_eq_true c1))) (det rfl (mv rfl) (guardF rfl rfl rfl (guardF rfl rfl rfl (det rfl (pick (b := true) rfl rfl) (nilS ?_))))))))   -- region 2
    refine condT rfl ?_
    refine seq (region (det rfl (bldE z_large_N u_large_N s_uint64) (stoA 1 (rs := lm 0) rfl (by rw [lm_zero]; rfl) rfl s_large_N rfl rfl rfl (det rfl (asg rfl) (nilS ?_)))))   -- region 3
    exact ret (retBig 1 (l := lm 0) rfl rfl rfl g_large_N rfl (pr' (if_neg (by omega) : prodR n b up = _).symm))
  · by_cases c2 : 255 < up
    · refine seq (region (det rfl (mv rfl) (det rfl (Det.to (lss rfl rfl) (v' := .bool false) (vb (decide_eq_false c1))) (det rfl (mv rfl) (guardT rfl rfl (det rfl (mv rfl) (guardT rfl rfl (det rfl (Det.to (gtr rfl rfl) (v' := .bool true) (vb (decide_eq_true c2))) (det rfl (pick (b := false) rfl rfl) (nilS ?_))))))))))   -- region 2
      refine condT rfl ?_
      refine seq (region (det rfl (bldE z_large_N u_large_N s_uint64) (stoA 1 (rs := lm 0) rfl (by rw [lm_zero]; rfl) rfl s_large_N rfl rfl rfl (det rfl (asg rfl) (nilS ?_)))))   -- region 3
      exact ret (retBig 1 (l := lm 0) rfl rfl rfl g_large_N rfl (pr' (if_neg (by omega) : prodR n b up = _).symm))
    · obtain ⟨u, rfl⟩ : ∃ u : Nat, up = (u : Int) := ⟨up.toNat, by omega⟩
      have hf := prod_fit hn hb (u := u) (by omega)
      refine seq (region (det rfl (mv rfl) (det rfl (Det.to (lss rfl rfl) (v' := .bool false) (vb (decide_eq_false c1))) (det rfl (mv rfl) (guardT rfl rfl (det rfl (mv rfl) (guardT rfl rfl (det rfl (Det.to (gtr rfl rfl) (v' := .bool false) (vb (decide_eq_false c2))) (det rfl (pick (b := false) rfl rfl) (nilS ?_))))))))))   -- region 2
      refine condF rfl ?_
      refine skipS ?_
      refine seq (region (det rfl (ldAll 0 rfl rfl g_large_N rfl) (det rfl (mv rfl) (call k_large_Shl rfl rfl (fun w _ => shlR_ok hf ▸ large_Shl_ (n * b) u hx (by omega) w) (det rfl (extr rfl rfl) (det rfl (extr rfl rfl) (stoA 1 rfl rfl rfl s_large_N rfl rfl rfl (det rfl (asg rfl) (nilS ?_)))))))))   -- region 4
      exact ret (retBig 1 (l := lm (n * b * 2 ^ u)) rfl rfl rfl g_large_N rfl (pr' (if_pos (by omega) : prodR n b (u : Int) = _).symm))

theorem conv32 {a : Int} (h0 : 0 ≤ a) (h : a ≤ 65536) : IntKind.u32.wrap a = ((a.toNat : Nat) : Int) := by
  simp only [IntKind.wrap, IntKind.bits, IntKind.signed]
  simp
  omega
/-- Both sides of a comparison. -/
def sidesR (n o : Nat) (up a b : Int) : Nat × Nat × Bool :=
  if mayR a b then (if 0 ≤ up ∧ up ≤ 255 then (n * b.toNat * 2 ^ up.toNat, o * (b - a).toNat, true) else (0, o * (b - a).toNat, false)) else (0, 0, false)
def sidesV (x : Nat × Nat × Bool) : Value := .tuple #[ag (lm x.1), ag (lm x.2.1), .bool x.2.2]
theorem sidesR_fit {n o : Nat} (hn : n < 2 ^ 32) (ho : o < 2 ^ 32) (up a b : Int) : (sidesR n o up a b).1 < 2 ^ 320 ∧ (sidesR n o up a b).2.1 < 2 ^ 320 := by
  have h0 : 0 < 2 ^ 320 := Nat.pow_pos (by decide)
  unfold sidesR
  split
  · rename_i hm
    have hm := mayR_iff.1 hm
    have h1 := prod_fit (n := o) (b := (b - a).toNat) (u := 0) ho (by omega) (by decide)
    rw [Nat.pow_zero, Nat.mul_one] at h1
    split
    · exact ⟨prod_fit hn (by omega) (by omega), h1⟩
    · exact ⟨h0, h1⟩
  · exact ⟨h0, h0⟩

set_option maxRecDepth 8000 in
theorem ratio_sides_ (n o : Nat) (hn : n < 2 ^ 32) (ho : o < 2 ^ 32) (up a b : Int) : Pure PP N_ratio_sides #[.int .u32 (n : Nat), .int .u32 (o : Nat), .int .i64 up, .int .i64 a, .int .i64 b] (sidesV (sidesR n o up a b)) := by
  refine enter0 f_ratio_sides rfl n_ratio_sides rfl fun w => ?_
  refine seq (region (alloc z_large_N rfl rfl fun b0 => alloc z_large_N rfl rfl fun b1 => det rfl (asg rfl) (nilS ?_)))   -- region 0
  refine seq ?_
  by_cases c : mayR a b = true
  · obtain ⟨m1, m2, m3⟩ := mayR_iff.1 c
    refine seq (region (det rfl (mv rfl) (det rfl (mv rfl) (call k_ratio_May rfl rfl (fun w _ => c ▸ ratio_May_ a b w) (det rfl (notB rfl) (nilS ?_))))))   -- region 1
    refine condF rfl ?_
    refine skipS ?_
    obtain ⟨x, ok, hx, hr⟩ : ∃ x ok, prodR n b.toNat up = .tuple #[ag (lm x), .bool ok] ∧ sidesR n o up a b = (x, o * (b - a).toNat, ok) := by
      unfold prodR sidesR
      rw [if_pos c]
      split
      · exact ⟨_, _, rfl, rfl⟩
      · exact ⟨_, _, rfl, rfl⟩
    have hy : prodR o (b - a).toNat 0 = .tuple #[ag (lm (o * (b - a).toNat)), .bool true] := by
      unfold prodR
      rw [if_pos (by omega)]
      have : o * (b - a).toNat * 2 ^ (0 : Int).toNat = o * (b - a).toNat := by
        show o * (b - a).toNat * 2 ^ 0 = _
        rw [Nat.pow_zero, Nat.mul_one]
      rw [this]
    refine seq (region (det rfl (mv rfl) (det rfl (mv rfl) (det rfl (Det.to (conv u_int u_uint32 rfl) (vi (conv32 (by omega) m3))) (det rfl (mv rfl) (call k_ratio_Product rfl rfl (fun w _ => hx ▸ ratio_Product_ n b.toNat hn (by omega) up w) (det rfl (mv rfl) (det rfl (extr rfl rfl) (det rfl (extr rfl rfl) (alloc z_large_N rfl rfl fun b2 => stoA 0 rfl rfl rfl s_large_N rfl rfl rfl (det rfl (asg rfl) (nilS ?_))))))))))))   -- region 3
    refine seq (region (det rfl (mv rfl) (det rfl (mv rfl) (det rfl (mv rfl) (det rfl (subI rfl rfl (by omega) (by omega)) (det rfl (Det.to (conv u_int u_uint32 rfl) (vi (conv32 (by omega) (by omega)))) (call k_ratio_Product rfl rfl (fun w _ => hy ▸ ratio_Product_ o (b - a).toNat ho (by omega) 0 w) (det rfl (mv rfl) (det rfl (extr rfl rfl) (det rfl (extr rfl rfl) (alloc z_large_N rfl rfl fun b3 => stoA 0 rfl rfl rfl s_large_N rfl rfl rfl (det rfl (asg rfl) (nilS ?_)))))))))))))   -- region 4
    refine seq (drawW (m := 6) [.blk b3 (ob (lm (o * (b - a).toNat)) T_large_N), .blk b2 (ob (lm x) T_large_N)] mix (by kernel_rfl) ?_)   -- region 5
    refine takeW 0 rfl (by kernel_rfl) rfl (by simp) (ldAll 1 rfl rfl g_large_N rfl) ?_
    refine takeW 1 rfl (by kernel_rfl) rfl (by simp) (ldAll 0 rfl rfl g_large_N rfl) ?_
    refine takeW 2 rfl (by kernel_rfl) rfl (by simp) (mv rfl) ?_
    refine stoW 3 3 rfl (by kernel_rfl) rfl rfl rfl rfl s_large_N rfl rfl rfl (by simp) ?_
    refine stoW 4 2 rfl (by kernel_rfl) rfl rfl rfl rfl s_large_N rfl rfl rfl (by simp) ?_
    refine takeW 5 rfl (by kernel_rfl) rfl (by simp) (asg rfl) ?_
    refine doneW (by kernel_rfl) rfl (nilS ?_)
    rw [hr]
    exact ret (retTwo (l := lm x) (l' := lm (o * (b - a).toNat)) 3 2 rfl rfl rfl g_large_N rfl rfl g_large_N rfl pr)
  · refine seq (region (det rfl (mv rfl) (det rfl (mv rfl) (call k_ratio_May rfl rfl (fun w _ => Bool.eq_false_iff.2 c ▸ ratio_May_ a b w) (det rfl (notB rfl) (nilS ?_))))))   -- region 1
    refine condT rfl ?_
    refine seq (region (det rfl (bldE z_large_N u_large_N s_uint64) (det rfl (bldE z_large_N u_large_N s_uint64) (stoA 1 (rs := lm 0) rfl (by rw [lm_zero]; rfl) rfl s_large_N rfl rfl rfl (stoA 0 (rs := lm 0) rfl (by rw [lm_zero]; rfl) rfl s_large_N rfl rfl rfl (det rfl (asg rfl) (nilS ?_)))))))   -- region 2
    rw [show sidesR n o up a b = (0, 0, false) from if_neg c]
    exact ret (retTwo (l := lm 0) (l' := lm 0) 1 0 rfl rfl rfl g_large_N rfl rfl g_large_N rfl pr)

def aboveR (n o : Nat) (up a b : Int) : Bool := mayR a b && decide (0 ≤ up ∧ up ≤ 255) && decide (o * (b - a).toNat < n * b.toNat * 2 ^ up.toNat)
def leastR (n o : Nat) (up a b : Int) : Bool := mayR a b && decide (0 ≤ up ∧ up ≤ 255) && decide (o * (b - a).toNat ≤ n * b.toNat * 2 ^ up.toNat)
theorem aboveR_eq (n o : Nat) (up a b : Int) : aboveR n o up a b = ((sidesR n o up a b).2.2 && decide ((sidesR n o up a b).2.1 < (sidesR n o up a b).1)) := by
  unfold aboveR sidesR
  by_cases h1 : mayR a b = true
  · by_cases h2 : 0 ≤ up ∧ up ≤ 255 <;> simp [h1, h2]
  · simp [h1]
theorem leastR_eq (n o : Nat) (up a b : Int) : leastR n o up a b = ((sidesR n o up a b).2.2 && decide ((sidesR n o up a b).2.1 ≤ (sidesR n o up a b).1)) := by
  unfold leastR sidesR
  by_cases h1 : mayR a b = true
  · by_cases h2 : 0 ≤ up ∧ up ≤ 255 <;> simp [h1, h2]
  · simp [h1]
theorem cmpV_gt (v u : Nat) : decide (0 < cmpV v u) = decide (u < v) := by
  unfold cmpV
  by_cases h1 : v < u
  · rw [if_pos h1]; simp; omega
  · rw [if_neg h1]
    by_cases h2 : v = u
    · rw [if_pos h2]; simp [h2]
    · rw [if_neg h2]; simp; omega
theorem cmpV_ge (v u : Nat) : decide (0 ≤ cmpV v u) = decide (u ≤ v) := by
  unfold cmpV
  by_cases h1 : v < u
  · rw [if_pos h1]; simp; omega
  · rw [if_neg h1]
    by_cases h2 : v = u
    · rw [if_pos h2]; simp [h2]
    · rw [if_neg h2]; simp; omega

set_option maxRecDepth 8000 in
theorem ratio_Above_ (n o : Nat) (hn : n < 2 ^ 32) (ho : o < 2 ^ 32) (up a b : Int) : Pure PP N_ratio_Above #[.int .u32 (n : Nat), .int .u32 (o : Nat), .int .i64 up, .int .i64 a, .int .i64 b] (.bool (aboveR n o up a b)) := by
  obtain ⟨f1, f2⟩ := sidesR_fit hn ho up a b
  have hq := aboveR_eq n o up a b
  have hs := ratio_sides_ n o hn ho up a b
  obtain ⟨⟨x, y, ok⟩, he⟩ : ∃ x, sidesR n o up a b = x := ⟨_, rfl⟩
  rw [he] at f1 f2 hq hs
  refine enter0 f_ratio_Above rfl n_ratio_Above rfl fun w => ?_
  refine seq (region (det rfl (asg rfl) (nilS ?_)))   -- region 0
  refine seq (region (det rfl (mv rfl) (det rfl (mv rfl) (det rfl (mv rfl) (det rfl (mv rfl) (det rfl (mv rfl) (call k_ratio_sides rfl rfl (fun w _ => hs w) (det rfl (mv rfl) (det rfl (extr rfl rfl) (det rfl (extr rfl rfl) (det rfl (extr rfl rfl) (alloc z_large_N rfl rfl fun b0 => alloc z_large_N rfl rfl fun b1 => stoA 1 rfl rfl rfl s_large_N rfl rfl rfl (stoA 0 rfl rfl rfl s_large_N rfl rfl rfl (det rfl (asg rfl) (nilS ?_)))))))))))))))   -- region 1
  cases ok
  · refine seq (region (det rfl (mv rfl) (det rfl (mv rfl) (guardF rfl rfl rfl (guardF rfl rfl rfl (guardF rfl rfl rfl (guardF rfl rfl rfl (det rfl (pick (b := false) rfl rfl) (det rfl (asg rfl) (nilS ?_))))))))))   -- region 2
    exact ret (retT rfl rfl (pr' (vb (show false = _ by rw [hq]; rfl))))
  · refine seq (region (det rfl (mv rfl) (det rfl (mv rfl) (guardT rfl rfl (det rfl (ldAll 1 rfl rfl g_large_N rfl) (guardT rfl rfl (det rfl (ldAll 0 rfl rfl g_large_N rfl) (guardT rfl rfl (call k_large_Cmp rfl rfl (fun w _ => large_Cmp_ x y f1 f2 w) (guardT rfl rfl (det rfl (gtr rfl rfl) (det rfl (pick (b := true) rfl rfl) (det rfl (asg rfl) (nilS ?_))))))))))))))   -- region 2
    exact ret (retT rfl rfl (pr' (vb (show decide (0 < cmpV x y) = _ by rw [hq, cmpV_gt]; rfl))))

set_option maxRecDepth 8000 in
theorem ratio_Least_ (n o : Nat) (hn : n < 2 ^ 32) (ho : o < 2 ^ 32) (up a b : Int) : Pure PP N_ratio_Least #[.int .u32 (n : Nat), .int .u32 (o : Nat), .int .i64 up, .int .i64 a, .int .i64 b] (.bool (leastR n o up a b)) := by
  obtain ⟨f1, f2⟩ := sidesR_fit hn ho up a b
  have hq := leastR_eq n o up a b
  have hs := ratio_sides_ n o hn ho up a b
  obtain ⟨⟨x, y, ok⟩, he⟩ : ∃ x, sidesR n o up a b = x := ⟨_, rfl⟩
  rw [he] at f1 f2 hq hs
  refine enter0 f_ratio_Least rfl n_ratio_Least rfl fun w => ?_
  refine seq (region (det rfl (asg rfl) (nilS ?_)))   -- region 0
  refine seq (region (det rfl (mv rfl) (det rfl (mv rfl) (det rfl (mv rfl) (det rfl (mv rfl) (det rfl (mv rfl) (call k_ratio_sides rfl rfl (fun w _ => hs w) (det rfl (mv rfl) (det rfl (extr rfl rfl) (det rfl (extr rfl rfl) (det rfl (extr rfl rfl) (alloc z_large_N rfl rfl fun b0 => alloc z_large_N rfl rfl fun b1 => stoA 1 rfl rfl rfl s_large_N rfl rfl rfl (stoA 0 rfl rfl rfl s_large_N rfl rfl rfl (det rfl (asg rfl) (nilS ?_)))))))))))))))   -- region 1
  cases ok
  · refine seq (region (det rfl (mv rfl) (det rfl (mv rfl) (guardF rfl rfl rfl (guardF rfl rfl rfl (guardF rfl rfl rfl (guardF rfl rfl rfl (det rfl (pick (b := false) rfl rfl) (det rfl (asg rfl) (nilS ?_))))))))))   -- region 2
    exact ret (retT rfl rfl (pr' (vb (show false = _ by rw [hq]; rfl))))
  · refine seq (region (det rfl (mv rfl) (det rfl (mv rfl) (guardT rfl rfl (det rfl (ldAll 1 rfl rfl g_large_N rfl) (guardT rfl rfl (det rfl (ldAll 0 rfl rfl g_large_N rfl) (guardT rfl rfl (call k_large_Cmp rfl rfl (fun w _ => large_Cmp_ x y f1 f2 w) (guardT rfl rfl (det rfl (geq rfl rfl) (det rfl (pick (b := true) rfl rfl) (det rfl (asg rfl) (nilS ?_))))))))))))))   -- region 2
    exact ret (retT rfl rfl (pr' (vb (show decide (0 ≤ cmpV x y) = _ by rw [hq, cmpV_ge]; rfl))))
end Go.Proofs.YtmcapgjdflohfaaGreat.L

namespace Go.Proofs.YtmcapgjdflohfaaGreat.L
open Go Go.RowKit
set_option linter.unusedVariables false

theorem fold_take (tt : Int) (l : List Int) (k : Nat) (hk : k < l.length) : (l.take (k + 1)).foldl (Mp.farStep tt) (0, false) = Mp.farStep tt ((l.take k).foldl (Mp.farStep tt) (0, false)) (l.getD k 0) := by
  rw [List.take_succ_eq_append_getElem hk, List.foldl_append]; simp [hk]

theorem down_far_ (l : List Int) (hn : l.length ≤ 1000000) (tt : Int) (A : Option Addr) (cap : Nat) (D : Nat → Prop) (w : World) (hD : ∀ k, D k → k < w.heap.size) (hs : Sl 1 A l.length cap (il l) D w) :
    Calls PP N_down_far #[.slice A l.length cap, .int .i64 tt] w (PR w (.tuple #[.int .i64 (Mp.far l tt).1, .bool (Mp.far l tt).2])) := by
  refine enter f_down_far rfl n_down_far rfl (M.init1 PP w Sl.stable hD hs) ?_
  refine seq (region (det rfl (asg rfl) (det rfl (asg rfl) (nilS ?_))))   -- region 0
  refine seq (region (det rfl (asg rfl) (det rfl (asg rfl) (nilS ?_))))   -- region 1
  refine seq ?_
  refine seq (region (det rfl (mv rfl) (det rfl (lenS u_sl_int rfl) (det rfl (mv rfl) (nilS ?_)))))   -- region 2
  refine block ?_   -- block 0
  refine loopV (ι := Nat × Int × Bool) (fun (k, x, b) => k ≤ l.length ∧ (l.take k).foldl (Mp.farStep tt) (0, false) = (x, b)) (fun (k, x, b) => [(1, .int .i64 tt), (6, .int .i64 x), (7, .bool b), (10, .slice A l.length cap), (11, .int .i64 l.length), (12, .int .i64 k)]) (fun _ => []) (fun _ => [Sl 1 A l.length cap (il l)]) (fun (k, _, _) => l.length - k) (0, 0, false) ⟨by omega, rfl⟩ ⟨rfl, rfl, rfl, rfl, rfl, rfl, trivial⟩ (fun w hm => hm) ?_
  rintro ⟨k, x, b⟩ σ ⟨hk, hf⟩
  dsimp only at hk hf ⊢
  refine seq (region (det rfl (lss rfl rfl) (nilS ?_)))   -- region 3
  refine seq ?_
  refine cond rfl (fun h => ?_) (fun h => ?_)   -- on t13
  · have h := of_decide_eq_true h
    have hk2 : k < l.length := by omega
    have hstep := fold_take tt l k hk2
    rw [hf, Mp.farStep] at hstep
    dsimp only at hstep
    refine skipS ?_
    refine seq ?_
    refine block ?_   -- block 1
    refine seq (region (det rfl (ixS 0 rfl rfl u_sl_int s_int rfl (by omega) (by omega)) (det rfl (ldSO 0 rfl rfl o_int (il_at (j := k) (by omega) hk2)) (det rfl (asg rfl) (nilS ?_)))))   -- region 4
    obtain ⟨v, hv⟩ : ∃ v, l.getD k 0 = v := ⟨_, rfl⟩
    rw [hv] at hstep ⊢
    by_cases hc : tt ≤ v ∧ (b = false ∨ v < x)
    · rw [if_pos hc] at hstep
      refine seq (region (det rfl (mv rfl) (det rfl (mv rfl) (det rfl (geq rfl rfl) (det rfl (mv rfl) ?_)))))
      refine guardT rfl (vb (decide_eq_true hc.1)) (det rfl (mv rfl) ?_)
      refine guardT rfl (vb (decide_eq_true hc.1)) (det rfl (notB rfl) ?_)
      refine guardT rfl (vb (decide_eq_true hc.1)) (det rfl (mv rfl) ?_)
      cases b with
      | false =>
        refine guardF rfl rfl rfl ?_
        refine guardF rfl rfl rfl ?_
        refine guardF rfl rfl rfl ?_
        refine guardT rfl (vb (decide_eq_true hc.1)) (det rfl (pick rfl rfl) ?_)
        refine det rfl (pick (vb (decide_eq_true hc.1)) rfl) (nilS ?_)
        refine condT rfl ?_
        refine region (det rfl (mv rfl) (det rfl (asg rfl) (det rfl (asg rfl) (nil ?_))))   -- region 6
        show Tr _ _ _ _ _ _ _
        refine region (det rfl (addI rfl rfl (by omega) (by omega)) (det rfl (mv rfl) (nil ?_)))   -- region 7
        exact again (k + 1, v, true) ⟨by dsimp only; omega, hstep⟩ ⟨rfl, rfl, rfl, rfl, rfl, rfl, trivial⟩ (fun w hm => hm) (by (first | omega | (dsimp only; omega)))
      | true =>
        have hc2 : v < x := by rcases hc.2 with h | h; cases h; exact h
        refine guardT rfl rfl (det rfl (mv rfl) ?_)
        refine guardT rfl rfl (det rfl (mv rfl) ?_)
        refine guardT rfl rfl (det rfl (lss rfl rfl) ?_)
        refine guardT rfl (vb (decide_eq_true hc.1)) (det rfl (pick rfl (vb (decide_eq_true hc2))) ?_)
        refine det rfl (pick (vb (decide_eq_true hc.1)) rfl) (nilS ?_)
        refine condT rfl ?_
        refine region (det rfl (mv rfl) (det rfl (asg rfl) (det rfl (asg rfl) (nil ?_))))   -- region 6
        show Tr _ _ _ _ _ _ _
        refine region (det rfl (addI rfl rfl (by omega) (by omega)) (det rfl (mv rfl) (nil ?_)))   -- region 7
        exact again (k + 1, v, true) ⟨by dsimp only; omega, hstep⟩ ⟨rfl, rfl, rfl, rfl, rfl, rfl, trivial⟩ (fun w hm => hm) (by (first | omega | (dsimp only; omega)))
    · rw [if_neg hc] at hstep
      refine seq (region (det rfl (mv rfl) (det rfl (mv rfl) (det rfl (geq rfl rfl) (det rfl (mv rfl) ?_)))))
      by_cases c1 : tt ≤ v
      · have hb : b = true := by
          cases b with
          | false => exact absurd ⟨c1, .inl rfl⟩ hc
          | true => rfl
        subst hb
        have c2 : ¬ v < x := fun h => hc ⟨c1, .inr h⟩
        refine guardT rfl (vb (decide_eq_true c1)) (det rfl (mv rfl) ?_)
        refine guardT rfl (vb (decide_eq_true c1)) (det rfl (notB rfl) ?_)
        refine guardT rfl (vb (decide_eq_true c1)) (det rfl (mv rfl) ?_)
        refine guardT rfl rfl (det rfl (mv rfl) ?_)
        refine guardT rfl rfl (det rfl (mv rfl) ?_)
        refine guardT rfl rfl (det rfl (lss rfl rfl) ?_)
        refine guardT rfl (vb (decide_eq_true c1)) (det rfl (pick rfl (vb (decide_eq_false c2))) ?_)
        refine det rfl (pick (vb (decide_eq_true c1)) rfl) (nilS ?_)
        refine condF rfl ?_
        refine skip ?_
        show Tr _ _ _ _ _ _ _
        refine region (det rfl (addI rfl rfl (by omega) (by omega)) (det rfl (mv rfl) (nil ?_)))   -- region 7
        exact again (k + 1, x, true) ⟨by dsimp only; omega, hstep⟩ ⟨rfl, rfl, rfl, rfl, rfl, rfl, trivial⟩ (fun w hm => hm) (by (first | omega | (dsimp only; omega)))
      · repeat (first | refine guardF rfl (vb (decide_eq_false c1)) rfl ?_ | refine guardU rfl rfl rfl ?_)
        refine det rfl (pick (vb (decide_eq_false c1)) rfl) (nilS ?_)
        refine condF rfl ?_
        refine skip ?_
        show Tr _ _ _ _ _ _ _
        refine region (det rfl (addI rfl rfl (by omega) (by omega)) (det rfl (mv rfl) (nil ?_)))   -- region 7
        exact again (k + 1, x, b) ⟨by dsimp only; omega, hstep⟩ ⟨rfl, rfl, rfl, rfl, rfl, rfl, trivial⟩ (fun w hm => hm) (by (first | omega | (dsimp only; omega)))
  · have h := of_decide_eq_false h
    have e : k = l.length := by omega
    subst e
    rw [List.take_length] at hf
    refine exit ?_   -- 0
    show Tr _ _ _ _ _ _ _
    refine seq (region (det rfl (mv rfl) (det rfl (mv rfl) (det rfl (asg rfl) (det rfl (asg rfl) (nilS ?_))))))   -- region 8
    have e1 : Mp.far l tt = (x, b) := hf
    rw [e1]
    exact ret (ret2 rfl rfl rfl pr)

theorem down_Index_ (l : List Int) (hn : l.length ≤ 1000000) (a x : Int) (A : Option Addr) (cap : Nat) (D : Nat → Prop) (w : World) (hD : ∀ k, D k → k < w.heap.size) (hs : Sl 1 A l.length cap (il l) D w) (hl : (Mp.all l a).length ≤ 1000) :
    Calls PP N_down_Index #[.slice A l.length cap, .int .i64 a, .int .i64 x] w (PR w (.int .i64 (Mp.index l a x))) := by
  obtain ⟨y, hy⟩ : ∃ y, Mp.all l a = y := ⟨_, rfl⟩
  refine enter f_down_Index rfl n_down_Index rfl (M.init1 PP w Sl.stable hD hs) ?_
  refine seq (region (det rfl (asg rfl) (nilS ?_)))   -- region 0
  refine seq ?_
  refine seq (region (det rfl (mv rfl) (det rfl (mv rfl) (callS k_near_All rfl rfl (fun w hm => by
    obtain ⟨D, hD, hs⟩ := hm.sl (k := 0) rfl
    exact near_All_ l hn a A cap D w hD hs) fun B q => det rfl (lenS u_sl_int rfl) (det rfl (mv rfl) (nilS ?_))))))   -- region 1
  rw [il_length, Mp.index, hy]
  rw [hy] at hl
  refine block ?_   -- block 0
  refine loopV (ι := Nat) (fun k => k ≤ y.length ∧ Mp.indexFrom x (y.drop k) k = Mp.indexFrom x y 0) (fun k => [(2, .int .i64 x), (11, .slice B y.length q), (12, .int .i64 y.length), (13, .int .i64 k)]) (fun _ => []) (fun _ => [Sl 1 B y.length q (il y)]) (fun k => y.length - k) 0 ⟨by omega, rfl⟩ ⟨rfl, rfl, rfl, rfl, trivial⟩ (fun w hm => by
    obtain ⟨D, d1, d2, d3, d4, d5⟩ := hm.data
    exact ⟨hm.os, hm.tape, hm.output, hm.size, hm.frame, hm.holds, hm.mine, hm.nodup, ⟨Sl.stable, trivial⟩, D, d1, d2, d3, d4, d5.1, trivial⟩) ?_
  intro k σ ⟨hk, hc⟩
  refine seq (region (det rfl (lss rfl rfl) (nilS ?_)))   -- region 2
  refine seq ?_
  refine cond rfl (fun h => ?_) (fun h => ?_)   -- on t14
  · have h := of_decide_eq_true h
    have hk2 : k < y.length := by omega
    rw [List.drop_eq_getElem_cons hk2, Mp.indexFrom] at hc
    refine skipS ?_
    refine seq ?_
    refine block ?_   -- block 1
    refine seq (region (det rfl (mv rfl) (det rfl (ixS 0 rfl rfl u_sl_int s_int rfl (by omega) (by omega)) (det rfl (ldSO 0 rfl rfl o_int (il_at (j := k) (by omega) hk2)) (det rfl (asg rfl) (det rfl (asg rfl) (nilS ?_)))))))   -- region 3
    have e : y.getD k 0 = y[k] := by simp [hk2]
    rw [e]
    refine seq (region (det rfl (mv rfl) (det rfl (mv rfl) (det rfl (eql rfl rfl) (nilS ?_)))))   -- region 4
    refine cond rfl (fun h => ?_) (fun h => ?_)   -- on t20
    · have h := of_decide_eq_true h
      refine seq (region (det rfl (mv rfl) (det rfl (asg rfl) (nilS ?_))))   -- region 5
      exact ret (retT rfl rfl (pr' (vi (by rw [← hc, if_pos h]))))
    · have h := of_decide_eq_false h
      refine skip ?_
      show Tr _ _ _ _ _ _ _
      refine region (det rfl (addI rfl rfl (by omega) (by omega)) (det rfl (mv rfl) (nil ?_)))   -- region 6
      exact again (k + 1) ⟨by omega, by rw [← hc, if_neg h]; rfl⟩ ⟨rfl, rfl, rfl, rfl, trivial⟩ (fun w hm => hm) (by (first | omega | (dsimp only; omega)))
  · have h := of_decide_eq_false h
    refine exit ?_   -- 0
    show Tr _ _ _ _ _ _ _
    refine seq (region (det rfl (asg rfl) (nilS ?_)))   -- region 7
    have e : k = y.length := by omega
    rw [e, List.drop_length] at hc
    exact ret (retT rfl rfl (pr' (vi (by rw [← hc]; rfl))))

theorem down_WalkO_ (l : List Int) (hn : l.length ≤ 1000000) (a tt : Int) (A : Option Addr) (cap : Nat) (D : Nat → Prop) (w : World) (hD : ∀ k, D k → k < w.heap.size) (hs : Sl 1 A l.length cap (il l) D w) (hall : ∀ x, (Mp.all l x).length ≤ 1000) :
    Calls PP N_down_Walk #[.slice A l.length cap, .int .i64 a, .int .i64 tt] w (RO w T_int 1 (Mp.walk l a tt).length (il (Mp.walk l a tt)).flatten) := by
  refine enter f_down_Walk rfl n_down_Walk rfl (M.init1 PP w Sl.stable hD hs) ?_
  refine seq (region (det rfl (asg rfl) (nilS ?_)))   -- region 0
  refine seq ?_
  refine seq (region (det rfl (mv rfl) (det rfl (lss rfl rfl) (det rfl (mv rfl) ?_))))
  by_cases c1 : tt < 0
  · repeat (first | refine guardF rfl (vb (decide_eq_true c1)) rfl ?_ | refine guardU rfl rfl rfl ?_)
    refine det rfl (pick (vb (decide_eq_true c1)) rfl) (det rfl (mv rfl) ?_)
    repeat (first | refine guardF rfl (vb (rfl : true = !false)) rfl ?_ | refine guardU rfl rfl rfl ?_)
    refine det rfl (pick rfl rfl) (nilS ?_)
    refine condT rfl ?_
    refine seq (region (det rfl (asg rfl) (nilS ?_)))   -- region 2
    have e : Mp.walk l a tt = [] := by rw [Mp.walk, if_pos (.inl c1)]
    rw [e]; exact ret (retOwn0 rfl rfl rfl)
  refine guardT rfl (vb (decide_eq_false c1)) (det rfl (mv rfl) ?_)
  refine guardT rfl (vb (decide_eq_false c1)) (det rfl (mv rfl) ?_)
  refine guardT rfl (vb (decide_eq_false c1)) (det rfl (lss rfl rfl) ?_)
  by_cases c2 : a < tt
  · refine det rfl (pick (vb (decide_eq_false c1)) (vb (decide_eq_true c2))) (det rfl (mv rfl) ?_)
    repeat (first | refine guardF rfl (vb (rfl : true = !false)) rfl ?_ | refine guardU rfl rfl rfl ?_)
    refine det rfl (pick rfl rfl) (nilS ?_)
    refine condT rfl ?_
    refine seq (region (det rfl (asg rfl) (nilS ?_)))   -- region 2
    have e : Mp.walk l a tt = [] := by rw [Mp.walk, if_pos (.inr (.inl c2))]
    rw [e]; exact ret (retOwn0 rfl rfl rfl)
  refine det rfl (pick (vb (decide_eq_false c1)) (vb (decide_eq_false c2))) (det rfl (mv rfl) ?_)
  refine guardT rfl rfl (det rfl (mv rfl) ?_)
  refine guardT rfl rfl (det rfl (mv rfl) ?_)
  refine guardT rfl rfl (det rfl (lenS u_sl_int rfl) ?_)
  refine guardT rfl rfl (det rfl (geq rfl rfl) ?_)
  by_cases c3 : (l.length : Int) ≤ a
  · refine det rfl (pick rfl (vb (decide_eq_true c3))) (nilS ?_)
    refine condT rfl ?_
    refine seq (region (det rfl (asg rfl) (nilS ?_)))   -- region 2
    have e : Mp.walk l a tt = [] := by rw [Mp.walk, if_pos (.inr (.inr c3))]
    rw [e]; exact ret (retOwn0 rfl rfl rfl)
  refine det rfl (pick rfl (vb (decide_eq_false c3))) (nilS ?_)
  refine condF rfl ?_
  refine skipS ?_
  have ew : Mp.walk l a tt = Mp.walkN l tt ((a - tt).toNat + 1) a [a] := by rw [Mp.walk, if_neg (by omega)]
  refine seq (region (det rfl (mv rfl) (bsl rfl (bs1 u_sl_int z_int s_int (cs := [.int .i64 a]) rfl rfl rfl (by decide) (by decide)) fun b0 => det rfl (asg rfl) (nilS ?_))))   -- region 3
  refine seq ?_
  refine block ?_   -- block 0
  refine loopV (ι := Int × List Int × Nat × Option Addr × Nat) (fun (fr, y, k, _, _) => Mp.walkN l tt k fr y = Mp.walk l a tt ∧ tt ≤ fr ∧ fr < l.length ∧ fr - tt < k ∧ (y.length : Int) + (fr - tt) ≤ 1 + (a - tt)) (fun (fr, y, k, B, q) => [(0, .slice A l.length cap), (1, .int .i64 fr), (2, .int .i64 tt), (7, .slice B y.length q)])
    (fun (fr, y, k, B, q) => [.row (.slice B y.length q) T_int 1 y.length (il y).flatten]) (fun _ => [Sl 1 A l.length cap (il l)]) (fun (fr, _, _, _, _) => (fr - tt).toNat) (a, [a], (a - tt).toNat + 1, some ⟨b0, 0, none⟩, 1) ⟨ew.symm, by omega, by omega, by omega, by simp⟩ ⟨rfl, rfl, rfl, rfl, trivial⟩ (fun w hm => hm.asRow 0 rfl rfl rfl (by simp [maxLen])) ?_
  rintro ⟨fr, y, k, B, q⟩ σ ⟨hw, h1, h2, h3, h4⟩
  dsimp only at hw h1 h2 h3 h4 ⊢
  obtain ⟨k, rfl⟩ : ∃ m, k = m + 1 := ⟨k - 1, by omega⟩
  rw [Mp.walkN] at hw
  refine seq ?_
  refine seq (region (det rfl (mv rfl) (det rfl (mv rfl) (det rfl (gtr rfl rfl) (nilS ?_)))))   -- region 4
  refine cond rfl (fun h => ?_) (fun h => ?_)   -- on t27
  · have h := of_decide_eq_true h
    rw [if_pos h] at hw
    refine skipS ?_
    refine block ?_   -- block 1
    refine seq (region (det rfl (mv rfl) (det rfl (mv rfl) (callS k_near_All rfl rfl (fun w hm => by
      obtain ⟨D, hD, hs⟩ := hm.sl (k := 0) rfl
      exact near_All_ l hn fr A cap D w hD hs) fun B2 q2 => det rfl (mv rfl) (call k_down_far rfl rfl (fun w hm => by
      obtain ⟨D, hD, hs⟩ := hm.sl (k := 0) rfl
      rw [il_length] at hs ⊢
      exact down_far_ (Mp.all l fr) (by have := hall fr; omega) tt B2 q2 D w hD hs) (det rfl (mv rfl) (det rfl (extr rfl rfl) (det rfl (extr rfl rfl) (det rfl (asg rfl) (det rfl (asg rfl) (nilS ?_)))))))))))   -- region 5
    obtain ⟨f, hf⟩ : ∃ f, Mp.far (Mp.all l fr) tt = f := ⟨_, rfl⟩
    obtain ⟨f1, f2⟩ := f
    rw [hf] at hw ⊢
    dsimp only at hw ⊢
    refine seq ?_
    refine seq (region (det rfl (mv rfl) (det rfl (notB rfl) (nilS ?_))))   -- region 6
    cases f2 with
    | false =>
      refine condT rfl ?_
      refine seq (region (det rfl (asg rfl) (nilS ?_)))   -- region 7
      rw [if_neg (by decide)] at hw
      rw [← hw]; exact ret (retOwn0 rfl rfl rfl)
    | true =>
      rw [if_pos rfl] at hw
      have hs1 := Mp.far_some (Mp.all l fr) tt (by rw [hf])
      rw [hf] at hs1
      have hlt := Mp.all_lt l fr f1 hs1.2
      have hge : tt ≤ f1 := hs1.1
      have el : (y ++ [f1]).length = y.length + 1 := by simp
      refine condF rfl ?_
      refine skipS ?_
      refine region (det rfl (mv rfl) (det rfl (mv rfl) (bsl rfl (bs1 u_sl_int z_int s_int (cs := [.int .i64 f1]) rfl rfl rfl (by decide) (by decide)) fun b1 => appB 1 0 u_sl_int i_int rfl (by decide) rfl rfl rfl rfl rfl rfl (by simp only [maxLen]; omega) (by omega) rfl fun A cap => det rfl (mv rfl) (det rfl (asg rfl) (det rfl (asg rfl) (nil ?_))))))   -- region 8
      refine again (f1, y ++ [f1], k, _, _) ⟨hw, hge, by dsimp only; omega, by dsimp only; omega, by dsimp only; rw [el]; omega⟩ ⟨rfl, rfl, rfl, by dsimp only; rw [el]; rfl, trivial⟩ (fun w hm => ?_) (by dsimp only; omega)
      dsimp only
      rw [el, il_app]; exact drop1 hm.more
  · have h := of_decide_eq_false h
    rw [if_neg (by omega)] at hw
    refine exit ?_   -- 0
    show Tr _ _ _ _ _ _ _
    refine seq (region (det rfl (mv rfl) (det rfl (asg rfl) (nilS ?_))))   -- region 9
    rw [← hw]
    exact ret (retOwn (i := 0) rfl rfl rfl rfl)
theorem down_Walk_ (l : List Int) (hn : l.length ≤ 1000000) (a tt : Int) (A : Option Addr) (cap : Nat) (D : Nat → Prop) (w : World) (hD : ∀ k, D k → k < w.heap.size) (hs : Sl 1 A l.length cap (il l) D w) (hall : ∀ x, (Mp.all l x).length ≤ 1000) :
    Calls PP N_down_Walk #[.slice A l.length cap, .int .i64 a, .int .i64 tt] w (RS w 1 (il (Mp.walk l a tt))) :=
  (down_WalkO_ l hn a tt A cap D w hD hs hall).mono (RO.rs (il_length _) (il_ok _))
end Go.Proofs.YtmcapgjdflohfaaGreat.L

namespace Mp

theorem allFrom_len (l : List Int) (a : Int) (k : Nat) (lv : Int) : (allFrom l a k lv).length ≤ k := by
  induction k generalizing lv with
  | zero => simp [allFrom]
  | succ k ih =>
    simp only [allFrom]
    split
    · simp
    · split
      · simp
      · have := ih (lv + 1)
        simp only [List.length_cons]; omega
theorem all_len (l : List Int) (a : Int) : (all l a).length ≤ 257 := by
  unfold all
  split
  · simp
  · exact allFrom_len l a 257 0
theorem goes_at {l : List Int} {tt a : Int} {w : List Int} (h : Goes l tt a w) : 0 < w.length ∧ w.getD 0 0 = a ∧ w.getD (w.length - 1) 0 = tt ∧ tt ≤ a ∧ (w.length : Int) ≤ a - tt + 1 ∧
    (∀ j, j < w.length → tt ≤ w.getD j 0 ∧ w.getD j 0 ≤ a) ∧ ∀ j, j + 1 < w.length → w.getD (j + 1) 0 ∈ all l (w.getD j 0) := by
  induction h with
  | here => exact ⟨by simp, by simp, by simp, Int.le_refl _, by simp, fun j hj => by simp at hj; subst hj; simp, fun j hj => by simp at hj⟩
  | @step a b r h hb ht ih =>
    obtain ⟨h1, h2, h3, h4, h5, h6, h7⟩ := ih
    have hlt := all_lt l a b h
    refine ⟨by simp, by simp, ?_, by omega, by simp only [List.length_cons]; omega, fun j hj => ?_, fun j hj => ?_⟩
    · obtain ⟨m, hm⟩ : ∃ m, r.length = m + 1 := ⟨r.length - 1, by omega⟩
      have : (a :: r).length - 1 = m + 1 := by simp only [List.length_cons]; omega
      rw [this, List.getD_cons_succ, ← h3, hm]; rfl
    · cases j with
      | zero => simp only [List.getD_cons_zero]; omega
      | succ j =>
        rw [List.getD_cons_succ]
        have := h6 j (by simp only [List.length_cons] at hj; omega)
        omega
    · cases j with
      | zero =>
        rw [List.getD_cons_succ, List.getD_cons_zero, h2]; exact h
      | succ j =>
        rw [List.getD_cons_succ, List.getD_cons_succ]
        exact h7 j (by simp only [List.length_cons] at hj; omega)
end Mp

namespace Go.Proofs.YtmcapgjdflohfaaGreat.L
open Go Go.RowKit
set_option linter.unusedVariables false

theorem ref22_Near_ (l : List Int) (hn : l.length ≤ 1000000) (a lv : Int) (A : Option Addr) (cap : Nat) (D : Nat → Prop) (w : World) (hD : ∀ k, D k → k < w.heap.size) (hs : Sl 1 A l.length cap (il l) D w) :
    Calls PP N_milepostref22_Near #[.slice A l.length cap, .int .i64 a, .int .i64 lv] w (PR w (.int .i64 (Mp.near l a lv))) := by
  refine enter f_milepostref22_Near rfl n_milepostref22_Near rfl (M.init1 PP w Sl.stable hD hs) ?_
  refine seq (region (det rfl (asg rfl) (nilS ?_)))   -- region 0
  refine seq (region (det rfl (asg rfl) (nilS ?_)))   -- region 1
  refine seq ?_
  refine seq (region (det rfl (asg rfl) (nilS ?_)))   -- region 2
  refine block ?_   -- block 0
  refine loopV (ι := Nat) (fun k => k ≤ l.length ∧ (k : Int) ≤ max a 0) (fun k => [(0, .slice A l.length cap), (1, .int .i64 a), (2, .int .i64 lv), (7, .int .i64 (Mp.nearN l lv k)), (8, .int .i64 k)]) (fun _ => []) (fun _ => [Sl 1 A l.length cap (il l)]) (fun k => l.length - k) 0 ⟨by omega, by omega⟩ ⟨rfl, rfl, rfl, rfl, rfl, trivial⟩ (fun w hm => hm) ?_
  rintro k σ ⟨hk, hka⟩
  refine seq ?_
  refine seq (region (det rfl (mv rfl) (det rfl (mv rfl) (det rfl (lenS u_sl_int rfl) (det rfl (lss rfl rfl) (det rfl (mv rfl) (guardI rfl rfl rfl (fun _ => mv rfl) (guardI rfl rfl rfl (fun _ => mv rfl) (guardI rfl rfl rfl (fun hb => lss (bift hb rfl) (bift hb rfl)) (det rfl (pick rfl (pickA rfl)) (nilS ?_)))))))))))   -- region 3
  refine cond rfl (fun h => ?_) (fun h => ?_)   -- on t17
  · have h := Bool.and_eq_true_iff.1 h
    have h1 := of_decide_eq_true h.1
    have h2 := of_decide_eq_true h.2
    have hk2 : k < l.length := by omega
    refine skipS ?_
    refine seq ?_
    refine block ?_   -- block 1
    refine seq (region (det rfl (mv rfl) (det rfl (mv rfl) (det rfl (ixS 0 rfl rfl u_sl_int s_int rfl (by omega) (by omega)) (det rfl (ldSO 0 (i := k) rfl rfl o_int (il_at rfl hk2)) (det rfl (mv rfl) (det rfl (geq rfl rfl) (nilS ?_))))))))   -- region 5
    refine cond rfl (fun h => ?_) (fun h => ?_)   -- on t25
    · have h := of_decide_eq_true h
      refine region (det rfl (mv rfl) (det rfl (asg rfl) (nil ?_)))   -- region 6
      show Tr _ _ _ _ _ _ _
      refine region (det rfl (mv rfl) (det rfl (addI rfl rfl (by omega) (by omega)) (det rfl (asg rfl) (nil ?_))))   -- region 4
      exact again (k + 1) ⟨by omega, by omega⟩ ⟨rfl, rfl, rfl, vi (by rw [Mp.nearN, if_pos h]), rfl, trivial⟩ (fun w hm => hm) (by (first | omega | (dsimp only; omega)))
    · have h := of_decide_eq_false h
      refine skip ?_
      show Tr _ _ _ _ _ _ _
      refine region (det rfl (mv rfl) (det rfl (addI rfl rfl (by omega) (by omega)) (det rfl (asg rfl) (nil ?_))))   -- region 4
      exact again (k + 1) ⟨by omega, by omega⟩ ⟨rfl, rfl, rfl, vi (by rw [Mp.nearN, if_neg h]), rfl, trivial⟩ (fun w hm => hm) (by (first | omega | (dsimp only; omega)))
  · refine exit ?_   -- 0
    show Tr _ _ _ _ _ _ _
    refine seq (region (det rfl (mv rfl) (det rfl (asg rfl) (nilS ?_))))   -- region 7
    refine ret (retT rfl rfl (pr' (vi ?_)))
    rw [Mp.near]
    congr 1
    rcases Bool.and_eq_false_iff.1 h with h | h
    · have := of_decide_eq_false h; omega
    · have := of_decide_eq_false h; omega

theorem ref22_All_ (l : List Int) (hn : l.length ≤ 1000000) (a : Int) (A : Option Addr) (cap : Nat) (D : Nat → Prop) (w : World) (hD : ∀ k, D k → k < w.heap.size) (hs : Sl 1 A l.length cap (il l) D w) :
    Calls PP N_milepostref22_All #[.slice A l.length cap, .int .i64 a] w (RS w 1 (il (Mp.all l a))) := by
  refine enter f_milepostref22_All rfl n_milepostref22_All rfl (M.init1 PP w Sl.stable hD hs) ?_
  refine seq (region (det rfl (asg rfl) (nilS ?_)))   -- region 0
  refine seq (region (det rfl (asg rfl) (nilS ?_)))   -- region 1
  refine seq ?_
  refine seq (region (det rfl (mv rfl) (det rfl (lss rfl rfl) (det rfl (mv rfl) (guardI rfl rfl rfl (fun _ => mv rfl) (guardI rfl rfl rfl (fun _ => mv rfl) (guardI rfl rfl rfl (fun hb => lenS u_sl_int (bift hb rfl)) (guardI rfl rfl rfl (fun hb => gtr (bift hb rfl) (bift hb rfl)) (det rfl (pick rfl (pickO rfl)) (nilS ?_))))))))))   -- region 2
  refine cond rfl (fun h => ?_) (fun h => ?_)   -- on t15
  · have h : a < 1 ∨ (l.length : Int) < a := by
      rcases Bool.or_eq_true_iff.1 h with h | h
      · exact .inl (of_decide_eq_true h)
      · exact .inr (of_decide_eq_true h)
    refine seq (region (det rfl (asg rfl) (nilS ?_)))   -- region 3
    have e : Mp.all l a = [] := by rw [Mp.all, if_pos h]
    rw [e]; exact ret (retNil rfl rfl rfl)
  · have hc0 : ¬ (a < 1 ∨ (l.length : Int) < a) := by
      have h := Bool.or_eq_false_iff.1 h
      have h1 := of_decide_eq_false h.1
      have h2 := of_decide_eq_false h.2
      omega
    have e : Mp.all l a = Mp.allFrom l a 257 0 := by rw [Mp.all, if_neg hc0]
    refine skipS ?_
    refine seq ?_
    refine seq (region (det rfl (asg rfl) (nilS ?_)))   -- region 4
    refine block ?_   -- block 0
    refine loopV (ι := List Int × Option Addr × Nat) (fun (y, _, _) => y.length ≤ 257 ∧ y ++ Mp.allFrom l a (257 - y.length) y.length = Mp.all l a) (fun (y, B, q) => [(0, .slice A l.length cap), (1, .int .i64 a), (5, .slice B y.length q), (6, .int .i64 y.length)]) (fun (y, B, q) => [.row (.slice B y.length q) T_int 1 y.length (il y).flatten]) (fun _ => [Sl 1 A l.length cap (il l)]) (fun (y, _, _) => 257 - y.length) ([], none, 0) ⟨by simp, by simp [e]⟩ ⟨rfl, rfl, rfl, rfl, trivial⟩ (fun w hm => hm.nilRow _ _) ?_
    rintro ⟨y, B, q⟩ σ ⟨hy, hc⟩
    dsimp only at hy hc ⊢
    refine seq ?_
    refine seq (region (det rfl (mv rfl) (det rfl (lss rfl rfl) (nilS ?_))))   -- region 5
    refine cond rfl (fun h => ?_) (fun h => ?_)   -- on t17
    · have h := of_decide_eq_true h
      rw [show 257 - y.length = (256 - y.length) + 1 by omega, Mp.allFrom] at hc
      refine skipS ?_
      refine seq ?_
      refine block ?_   -- block 1
      refine seq (region (det rfl (mv rfl) (det rfl (mv rfl) (det rfl (mv rfl) (call k_milepostref22_Near rfl rfl (fun w hm => by
        obtain ⟨D, hD, hs⟩ := hm.sl (k := 0) rfl
        exact ref22_Near_ l hn a y.length A cap D w hD hs) (det rfl (asg rfl) (nilS ?_)))))))   -- region 7
      refine seq ?_
      refine seq (region (det rfl (mv rfl) (det rfl (lss rfl rfl) (nilS ?_))))   -- region 8
      refine cond rfl (fun h => ?_) (fun h => ?_)   -- on t25
      · have h := of_decide_eq_true h
        rw [if_pos h, List.append_nil] at hc
        subst hc
        refine seq (region (det rfl (mv rfl) (det rfl (asg rfl) (nilS ?_))))   -- region 9
        exact ret (retRow (i := 0) rfl rfl rfl rfl (il_length _) (il_ok _))
      · have h0 := of_decide_eq_false h
        rw [if_neg h0] at hc
        refine skipS ?_
        refine seq (region (det rfl (mv rfl) (det rfl (mv rfl) (bsl rfl (bs1 u_sl_int z_int s_int (cs := [.int .i64 (Mp.near l a y.length)]) rfl rfl rfl (by decide) (by decide)) fun b0 => appB 1 0 u_sl_int i_int rfl (by decide) rfl rfl rfl rfl rfl rfl (by simp only [maxLen]; omega) (by omega) rfl fun A cap => det rfl (asg rfl) (nilS ?_)))))   -- region 10
        refine seq (region (det rfl (mv rfl) (det rfl (eql rfl rfl) (nilS ?_))))   -- region 11
        refine cond rfl (fun h => ?_) (fun h => ?_)   -- on t32
        · have h := of_decide_eq_true h
          rw [if_pos h] at hc
          refine seq (region (det rfl (mv rfl) (det rfl (asg rfl) (nilS ?_))))   -- region 12
          rw [← hc]
          exact ret (retRow (i := 1) rfl rfl rfl (by rw [il_app]; rfl) (by simp [il_length]) (il_ok _))
        · have h := of_decide_eq_false h
          rw [if_neg h] at hc
          refine skip ?_
          show Tr _ _ _ _ _ _ _
          refine region (det rfl (mv rfl) (det rfl (addI rfl rfl (by omega) (by omega)) (det rfl (asg rfl) (nil ?_))))   -- region 6
          have el : (y ++ [Mp.near l a y.length]).length = y.length + 1 := by simp
          refine again (y ++ [Mp.near l a y.length], _, _) ⟨by dsimp only; omega, ?_⟩ ⟨rfl, rfl, by dsimp only; rw [el]; rfl, vi (by dsimp only; omega), trivial⟩ (fun w hm => ?_) (by (first | omega | (dsimp only; omega)))
          · dsimp only
            rw [el, ← hc, show 257 - (y.length + 1) = 256 - y.length by omega]; simp
          · dsimp only
            rw [el, il_app]; exact drop1 hm
    · have h := of_decide_eq_false h
      rw [show 257 - y.length = 0 by omega, Mp.allFrom, List.append_nil] at hc
      subst hc
      refine exit ?_   -- 0
      show Tr _ _ _ _ _ _ _
      refine seq (region (det rfl (mv rfl) (det rfl (asg rfl) (nilS ?_))))   -- region 13
      exact ret (retRow (i := 0) rfl rfl rfl rfl (il_length _) (il_ok _))

/-- What the reference holds of the least place that is far enough. -/
def bestI (x : Int × Bool) : Int := if x.2 = true then x.1 else -1
theorem best_step (tt y : Int) (s : Int × Bool) (h0 : 0 ≤ tt) (hs : s.2 = true → 0 ≤ s.1) : bestI (Mp.farStep tt s y) = (if (decide (tt ≤ y) && (decide (bestI s < 0) || decide (y < bestI s))) = true then y else bestI s) ∧ ((Mp.farStep tt s y).2 = true → 0 ≤ (Mp.farStep tt s y).1) := by
  obtain ⟨b, is⟩ := s
  cases is with
  | false =>
    simp only [Mp.farStep, bestI]
    by_cases h : tt ≤ y
    · simp [h]; omega
    · simp [h]
  | true =>
    have hb := hs rfl
    simp only at hb
    simp only [Mp.farStep, bestI]
    by_cases h : tt ≤ y
    · by_cases h2 : y < b
      · simp [h, h2]; omega
      · simp [h, h2]; omega
    · simp [h, hb]
theorem best_pos (tt : Int) (l : List Int) (h0 : 0 ≤ tt) (k : Nat) : ((l.take k).foldl (Mp.farStep tt) (0, false)).2 = true → 0 ≤ ((l.take k).foldl (Mp.farStep tt) (0, false)).1 := by
  induction k with
  | zero => intro h; simp at h
  | succ k ih =>
    by_cases hk : k < l.length
    · rw [fold_take tt l k hk]
      exact (best_step tt _ _ h0 ih).2
    · rw [List.take_of_length_le (by omega)]
      rw [List.take_of_length_le (by omega)] at ih
      exact ih

theorem ref22_Walk_ (l : List Int) (hn : l.length ≤ 1000000) (a tt : Int) (A : Option Addr) (cap : Nat) (D : Nat → Prop) (w : World) (hD : ∀ k, D k → k < w.heap.size) (hs : Sl 1 A l.length cap (il l) D w) :
    Calls PP N_milepostref22_Walk #[.slice A l.length cap, .int .i64 a, .int .i64 tt] w (RS w 1 (il (Mp.walk l a tt))) := by
  refine enter f_milepostref22_Walk rfl n_milepostref22_Walk rfl (M.init1 PP w Sl.stable hD hs) ?_
  refine seq (region (det rfl (asg rfl) (nilS ?_)))   -- region 0
  refine seq ?_
  refine seq (region (det rfl (mv rfl) (det rfl (lss rfl rfl) (det rfl (mv rfl) (guardI rfl rfl rfl (fun _ => mv rfl) (guardI rfl rfl rfl (fun _ => mv rfl) (guardI rfl rfl rfl (fun hb => lss (bift hb rfl) (bift hb rfl)) (det rfl (pick rfl (pickO rfl)) (det rfl (mv rfl) (guardI rfl rfl rfl (fun _ => mv rfl) (guardI rfl rfl rfl (fun _ => mv rfl) (guardI rfl rfl rfl (fun hb => lenS u_sl_int (bift hb rfl)) (guardI rfl rfl rfl (fun hb => geq (bift hb rfl) (bift hb rfl)) (det rfl (pick rfl (pickO rfl)) (nilS ?_)))))))))))))))   -- region 1
  refine cond rfl (fun h => ?_) (fun h => ?_)   -- on t23
  · have h : tt < 0 ∨ a < tt ∨ (l.length : Int) ≤ a := by
      rcases Bool.or_eq_true_iff.1 h with h | h
      · rcases Bool.or_eq_true_iff.1 h with h | h
        · exact .inl (of_decide_eq_true h)
        · exact .inr (.inl (of_decide_eq_true h))
      · exact .inr (.inr (of_decide_eq_true h))
    refine seq (region (det rfl (asg rfl) (nilS ?_)))   -- region 2
    have e : Mp.walk l a tt = [] := by rw [Mp.walk, if_pos h]
    rw [e]; exact ret (retNil rfl rfl rfl)
  · have hc0 : ¬ (tt < 0 ∨ a < tt ∨ (l.length : Int) ≤ a) := by
      have h := Bool.or_eq_false_iff.1 h
      have h' := Bool.or_eq_false_iff.1 h.1
      have h1 := of_decide_eq_false h'.1
      have h2 := of_decide_eq_false h'.2
      have h3 := of_decide_eq_false h.2
      omega
    have ew : Mp.walk l a tt = Mp.walkN l tt ((a - tt).toNat + 1) a [a] := by rw [Mp.walk, if_neg hc0]
    refine skipS ?_
    refine seq (region (det rfl (mv rfl) (bsl rfl (bs1 u_sl_int z_int s_int (cs := [.int .i64 a]) rfl rfl rfl (by decide) (by decide)) fun b0 => det rfl (asg rfl) (nilS ?_))))   -- region 3
    refine seq ?_
    refine block ?_   -- block 0
    refine loopV (ι := Int × List Int × Nat × Option Addr × Nat) (fun (fr, y, k, _, _) => Mp.walkN l tt k fr y = Mp.walk l a tt ∧ tt ≤ fr ∧ fr < l.length ∧ fr - tt < k ∧ (y.length : Int) + (fr - tt) ≤ 1 + (a - tt)) (fun (fr, y, k, B, q) => [(0, .slice A l.length cap), (1, .int .i64 fr), (2, .int .i64 tt), (7, .slice B y.length q)])
      (fun (fr, y, k, B, q) => [.row (.slice B y.length q) T_int 1 y.length (il y).flatten]) (fun _ => [Sl 1 A l.length cap (il l)]) (fun (fr, _, _, _, _) => (fr - tt).toNat) (a, [a], (a - tt).toNat + 1, some ⟨b0, 0, none⟩, 1) ⟨ew.symm, by omega, by omega, by omega, by simp⟩ ⟨rfl, rfl, rfl, rfl, trivial⟩ (fun w hm => hm.asRow 0 rfl rfl rfl (by simp [maxLen])) ?_
    rintro ⟨fr, y, k, B, q⟩ σ ⟨hw, h1, h2, h3, h4⟩
    dsimp only at hw h1 h2 h3 h4 ⊢
    obtain ⟨k, rfl⟩ : ∃ m, k = m + 1 := ⟨k - 1, by omega⟩
    rw [Mp.walkN] at hw
    refine seq ?_
    refine seq (region (det rfl (mv rfl) (det rfl (mv rfl) (det rfl (gtr rfl rfl) (nilS ?_)))))   -- region 4
    refine cond rfl (fun h => ?_) (fun h => ?_)   -- on t28
    · have h := of_decide_eq_true h
      rw [if_pos h] at hw
      obtain ⟨al, hal⟩ : ∃ al, Mp.all l fr = al := ⟨_, rfl⟩
      have hlen := Mp.all_len l fr
      have hlt := Mp.all_lt l fr
      rw [hal] at hw hlen hlt
      refine skipS ?_
      refine block ?_   -- block 1
      refine seq (region (det rfl (mv rfl) (det rfl (mv rfl) (callS' (m := al.length) (il_length al) k_milepostref22_All rfl rfl (fun w hm => by
        obtain ⟨D, hD, hs⟩ := hm.sl (k := 0) rfl
        have := ref22_All_ l hn fr A cap D w hD hs
        rw [hal] at this
        exact this) fun B2 q2 => (det rfl (asg rfl) (nilS ?_))))))   -- region 5
      refine seq (region (det rfl (asg rfl) (nilS ?_)))   -- region 6
      refine seq ?_
      refine seq (region (det rfl (asg rfl) (nilS ?_)))   -- region 7
      refine block ?_   -- block 2
      refine loopV (ι := Nat) (fun j => j ≤ al.length) (fun j => [(0, .slice A l.length cap), (2, .int .i64 tt), (7, .slice B y.length q), (8, .slice B2 al.length q2), (9, .int .i64 (bestI ((al.take j).foldl (Mp.farStep tt) (0, false)))), (10, .int .i64 j)]) (fun _ => [.row (.slice B y.length q) T_int 1 y.length (il y).flatten]) (fun _ => [Sl 1 B2 al.length q2 (il al), Sl 1 A l.length cap (il l)]) (fun j => al.length - j) 0 (by omega) ⟨rfl, rfl, rfl, rfl, rfl, rfl, trivial⟩ (fun w hm => hm) ?_
      intro j σ hj
      refine seq ?_
      refine seq (region (det rfl (mv rfl) (det rfl (mv rfl) (det rfl (lenS u_sl_int rfl) (det rfl (lss rfl rfl) (nilS ?_))))))   -- region 8
      refine cond rfl (fun h => ?_) (fun h => ?_)   -- on t35
      · have h := of_decide_eq_true h
        have hj2 : j < al.length := by omega
        have hst := (best_step tt (al.getD j 0) ((al.take j).foldl (Mp.farStep tt) (0, false)) (by omega) (best_pos tt al (by omega) j)).1
        rw [← fold_take tt al j hj2] at hst
        obtain ⟨bb, hbb⟩ : ∃ bb, bestI ((al.take j).foldl (Mp.farStep tt) (0, false)) = bb := ⟨_, rfl⟩
        rw [hbb] at hst ⊢
        have hat : (il al)[j]? = some [.int .i64 (al.getD j 0)] := il_at rfl hj2
        obtain ⟨yj, hyj⟩ : ∃ yj, al.getD j 0 = yj := ⟨_, rfl⟩
        rw [hyj] at hst hat
        refine skipS ?_
        refine seq ?_
        refine block ?_   -- block 3
        by_cases c1 : tt ≤ yj
        · refine seq (region (det rfl (mv rfl) (det rfl (mv rfl) (det rfl (ixS 0 rfl rfl u_sl_int s_int rfl (by omega) (by omega)) (det rfl (ldSO 0 (i := j) rfl rfl o_int hat) (det rfl (mv rfl) (det rfl (Det.to (geq rfl rfl) (v' := .bool true) (vb (decide_eq_true c1))) (det rfl (mv rfl) (guardT rfl rfl (det rfl (mv rfl) (guardT rfl rfl (det rfl (lss rfl rfl) (guardT rfl rfl (det rfl (mv rfl) (guardI rfl rfl rfl (fun _ => mv rfl) (guardI rfl rfl rfl (fun _ => mv rfl) (guardI rfl rfl rfl (fun hb => ixS 0 (bift hb rfl) (bift hb rfl) u_sl_int s_int rfl (by omega) (by omega)) (guardI rfl rfl rfl (fun hb => ldSO 0 (i := j) (bift hb rfl) rfl o_int hat) (guardI rfl rfl rfl (fun _ => mv rfl) (guardI rfl rfl rfl (fun hb => lss (bift hb rfl) (bift hb rfl)) (guardT rfl rfl (det rfl (pick rfl (pickO rfl)) (det rfl (pick (b := true) rfl rfl) (nilS ?_))))))))))))))))))))))))
          rw [decide_eq_true c1, Bool.true_and] at hst
          refine cond rfl (fun h => ?_) (fun h => ?_)   -- on t55
          · refine region (det rfl (mv rfl) (det rfl (mv rfl) (det rfl (ixS 0 rfl rfl u_sl_int s_int rfl (by omega) (by omega)) (det rfl (ldSO 0 (i := j) rfl rfl o_int hat) (det rfl (asg rfl) (nil ?_))))))   -- region 11
            show Tr _ _ _ _ _ _ _
            refine region (det rfl (mv rfl) (det rfl (addI rfl rfl (by omega) (by omega)) (det rfl (asg rfl) (nil ?_))))   -- region 9
            exact again (j + 1) (by omega) ⟨rfl, rfl, rfl, rfl, vi (by rw [hst, if_pos h]), rfl, trivial⟩ (fun w hm => hm) (by (first | omega | (dsimp only; omega)))
          · refine skip ?_
            show Tr _ _ _ _ _ _ _
            refine region (det rfl (mv rfl) (det rfl (addI rfl rfl (by omega) (by omega)) (det rfl (asg rfl) (nil ?_))))   -- region 9
            exact again (j + 1) (by omega) ⟨rfl, rfl, rfl, rfl, vi (by rw [hst, if_neg (by rw [h]; decide)]), rfl, trivial⟩ (fun w hm => hm) (by (first | omega | (dsimp only; omega)))
        · refine seq (region (det rfl (mv rfl) (det rfl (mv rfl) (det rfl (ixS 0 rfl rfl u_sl_int s_int rfl (by omega) (by omega)) (det rfl (ldSO 0 (i := j) rfl rfl o_int hat) (det rfl (mv rfl) (det rfl (Det.to (geq rfl rfl) (v' := .bool false) (vb (decide_eq_false c1))) (det rfl (mv rfl) ?_))))))))
          repeat (first | refine guardF rfl (vb (rfl : false = !true)) rfl ?_ | refine guardU rfl rfl rfl ?_)
          refine det rfl (pick (b := false) rfl rfl) (nilS ?_)
          refine condF rfl ?_
          refine skip ?_
          show Tr _ _ _ _ _ _ _
          refine region (det rfl (mv rfl) (det rfl (addI rfl rfl (by omega) (by omega)) (det rfl (asg rfl) (nil ?_))))   -- region 9
          rw [decide_eq_false c1, Bool.false_and] at hst
          exact again (j + 1) (by omega) ⟨rfl, rfl, rfl, rfl, vi (by rw [hst, if_neg (by decide)]), rfl, trivial⟩ (fun w hm => hm) (by (first | omega | (dsimp only; omega)))
      · have h := of_decide_eq_false h
        have ej : j = al.length := by omega
        subst ej
        refine exit ?_   -- 2
        show Tr _ _ _ _ _ _ _
        rw [List.take_length, show List.foldl (Mp.farStep tt) (0, false) al = Mp.far al tt from rfl]
        obtain ⟨f1, f2, hf⟩ : ∃ f1 f2, Mp.far al tt = (f1, f2) := ⟨_, _, rfl⟩
        have hpos := best_pos tt al (by omega) al.length
        rw [List.take_length, show List.foldl (Mp.farStep tt) (0, false) al = Mp.far al tt from rfl, hf] at hpos
        rw [hf] at hw ⊢
        dsimp only at hw hpos
        refine seq ?_
        cases f2 with
        | false =>
          refine seq (region (det rfl (mv rfl) (det rfl (Det.to (lss rfl rfl) (v' := .bool true) (vb (decide_eq_true (show (-1 : Int) < 0 by decide)))) (nilS ?_))))   -- region 12
          refine condT rfl ?_
          refine seq (region (det rfl (asg rfl) (nilS ?_)))   -- region 13
          rw [if_neg (by decide)] at hw
          rw [← hw]; exact ret (retNil rfl rfl rfl)
        | true =>
          rw [if_pos rfl] at hw
          have hs1 := Mp.far_some al tt (by rw [hf])
          rw [hf] at hs1
          have hlt2 := hlt f1 hs1.2
          have hge : tt ≤ f1 := hs1.1
          have el : (y ++ [f1]).length = y.length + 1 := by simp
          refine seq (region (det rfl (mv rfl) (det rfl (Det.to (lss rfl rfl) (v' := .bool false) (vb (decide_eq_false (by show ¬ f1 < 0; omega)))) (nilS ?_))))   -- region 12
          refine condF rfl ?_
          refine skipS ?_
          refine seq (region (det rfl (Det.to (mv rfl) (v' := .int .i64 f1) rfl) (det rfl (asg rfl) (nilS ?_))))   -- region 14
          refine region (det rfl (mv rfl) (det rfl (mv rfl) (bsl rfl (bs1 u_sl_int z_int s_int (cs := [.int .i64 f1]) rfl rfl rfl (by decide) (by decide)) fun b1 => appB 1 0 u_sl_int i_int rfl (by decide) rfl rfl rfl rfl rfl rfl (by simp only [maxLen]; omega) (by omega) rfl fun A cap => det rfl (asg rfl) (nil ?_))))   -- region 15
          refine again (f1, y ++ [f1], k, _, _) ⟨hw, hge, by dsimp only; omega, by dsimp only; omega, by dsimp only; rw [el]; omega⟩ ⟨rfl, rfl, rfl, by dsimp only; rw [el]; rfl, trivial⟩ (fun w hm => ?_) (by dsimp only; omega)
          dsimp only
          rw [el, il_app]; exact drop1 hm.more
    · have h := of_decide_eq_false h
      rw [if_neg (by omega)] at hw
      refine exit ?_   -- 0
      show Tr _ _ _ _ _ _ _
      refine seq (region (det rfl (mv rfl) (det rfl (asg rfl) (nilS ?_))))   -- region 16
      rw [← hw]
      exact ret (retRow (i := 0) rfl rfl rfl rfl (il_length _) (il_ok _))
end Go.Proofs.YtmcapgjdflohfaaGreat.L

namespace Go.Proofs.YtmcapgjdflohfaaGreat.L
open Go Go.RowKit
set_option linter.unusedVariables false

section
variable {c : Cx} {n : Nat} {Q : Exit → Env → World → Prop} {σ : Env} {H : List Res} {K : List Fact}
variable {t : TypeId} {p : String} {af : Array Edge}
/-- A row that is not empty is a block of one's own. -/
theorem M.asBlk {w : World} (hm : M c H K w) (i : Nat) {A : Option Addr} {m cap sz : Nat} {e : TypeId} {xs : List Value} (hi : H[i]? = some (.row (.slice A m cap) e sz m xs)) (h0 : 0 < m) :
    ∃ g cells, A = some ⟨g, 0, none⟩ ∧ cells.length = cap * sz ∧ m ≤ cap ∧ cap ≤ maxLen ∧ cells.take (m * sz) = xs ∧ M c (H.set i (.blk g (ob cells e))) K w := by
  have hown := hm.get hi
  rcases hown.2 with ⟨h1, _⟩ | ⟨g, cap', cur, h1, hb, hg, hc1, hc2, hc3, hc4⟩
  · cases h1; omega
  · cases h1
    refine ⟨g, cur.toList, rfl, by simpa using hc3, hc1, hc2, hc4, hm.change i hi ⟨rfl, rfl, rfl, Nat.le_refl _, fun _ _ _ => rfl⟩ ?_ (.inl rfl)⟩
    show w.heap[g]? = some (.cells cur.toList.toArray e)
    rw [hg]
theorem asBlkT {x : Code} (i : Nat) {A : Option Addr} {m cap sz : Nat} {e : TypeId} {xs : List Value} (hi : H[i]? = some (.row (.slice A m cap) e sz m xs)) (h0 : 0 < m)
    (h : ∀ g cells, A = some ⟨g, 0, none⟩ → cells.length = cap * sz → m ≤ cap → cap ≤ maxLen → cells.take (m * sz) = xs → Tr c n x Q σ (H.set i (.blk g (ob cells e))) K) : Tr c n x Q σ H K := by
  intro w hm
  obtain ⟨g, cells, h1, h2, h3, h4, h5, h6⟩ := hm.asBlk i hi h0
  exact h g cells h1 h2 h3 h4 h5 w h6

theorem slCapT {x : Code} {sz m cap : Nat} {A : Option Addr} {ls : List (List Value)} (k : Nat) (hk : K[k]? = some (Sl sz A m cap ls)) (h : m ≤ cap → Tr c n x Q σ H K) : Tr c n x Q σ H K := fun w hm => by
  obtain ⟨D, _, hs⟩ := hm.sl hk
  exact h hs.2.1 w hm
/-- append of a slice that is known onto one in the midst of a block of one's own, elements of one cell. -/
theorem appM {ops : Array Oper} {d : Nat} {s x : Operand} {tt e : TypeId} {l : List Oper} {z : Value} {bytes n' m cap cp b off : Nat} {A : Option Addr} {cells : List Value} {ls : List (List Value)} (i k : Nat)
    (ht : c.P.underlying tt = some (.slice e)) (hinfo : (c.P.info? e).map (fun i => (i.zero, i.size, i.bytes)) = some (some z, 1, bytes)) (hz : z.cells.size = 1)
    (hs : ev σ s = .slice (some ⟨b, off, none⟩) n' cap) (hx : ev σ x = .slice A m cp) (hi : H[i]? = some (.blk b (ob cells e))) (hk : K[k]? = some (Sl 1 A m cp ls)) (hm0 : 0 < m)
    (hn : n' ≤ cap) (hcap : off + cap = cells.length) (hmx : cap ≤ maxLen) (hlen : n' + m ≤ maxLen) (hby : (n' + m) * bytes ≤ 140737488355328) (hd : Nat.blt d n = true)
    (h : ∀ b' off' cap' cells', n' + m ≤ cap' → cap' ≤ maxLen → off' + cap' = cells'.length → (cells'.drop off').take (n' + m) = (cells.drop off).take n' ++ ls.flatten →
      TL c n ops l Q (upd σ d (.slice (some ⟨b', off', none⟩) (n' + m) cap')) (H.set i (.blk b' (ob cells' e))) K) :
    TL c n ops (⟨some d, .call { callee := .builtin .append, args := #[s, x], argTypes := #[tt, tt] }, t, p, af, none⟩ :: l) Q σ H K := by
  intro w hM a hr
  obtain ⟨i0, hi0, hzz⟩ := Option.map_eq_some_iff.1 hinfo
  simp only [Prod.mk.injEq] at hzz
  obtain ⟨hz0, hz1, hz2⟩ := hzz
  have hb := hM.blk i hi
  obtain ⟨D, _, hsl⟩ := hM.sl hk
  have hls : ∀ l ∈ ls, l.length = 1 := fun l hl => (hsl.2.2.2.1 l hl).1
  have h1 : one ls.flatten = true := flat_one fun l hl => (hsl.2.2.2.1 l hl).2
  have hm : ls.flatten.length = m * 1 := by rw [flat_length hls, hsl.1]
  obtain ⟨b2, off2, rfl, hcell⟩ := hsl.flatCells (by decide) hm0
  have hnews : ∀ j u, ls.flatten[j]? = some u → w.cell? ((⟨b2, off2, none⟩ : Addr).add j) = some u := fun j u hj => by rw [add0]; exact hcell j u hj
  have hexec : ∀ v' w', (Builtin.append_ #[tt, tt] t #[.slice (some ⟨b, off, none⟩) n' cap, .slice (some ⟨b2, off2, none⟩) m cp]).run c.P w = .ok v' w' → (execOp (ev σ) ⟨some d, .call { callee := .builtin .append, args := #[s, x], argTypes := #[tt, tt] }, t, p, af, none⟩).run c.P w = .ok (.value v') w' := by
    intro v' w' hrun
    simp only [execOp, resolve, invoke, builtin, Sem.run_bind, Sem.run_pure, Result.andThen_ok, List.map_toArray, List.map_cons, List.map_nil, hs, hx, hrun]
  refine wpList_run rfl ?_
  rw [hr.eval]
  by_cases hroom : n' + m ≤ cap
  · have hfc := run_firstCells_some (P := c.P) w i0.size m ⟨b2, off2, none⟩ m cp ls.flatten (by rw [hz1]; exact hm) hnews
    have hfit : off + n' + 0 + ls.flatten.length ≤ cells.toArray.size := by simp only [List.size_toArray]; omega
    have hst := run_storeCells_at (P := c.P) b (off + n') e ls.flatten 0 cells.toArray w hb hfit (fun u hu => List.all_eq_true.1 h1 u hu)
    have hrun : (Builtin.append_ #[tt, tt] t #[.slice (some ⟨b, off, none⟩) n' cap, .slice (some ⟨b2, off2, none⟩) m cp]).run c.P w = .ok (.slice (some ⟨b, off, none⟩) (n' + m) cap) (w.setRow b (cells.take (off + n') ++ ls.flatten ++ cells.drop (off + n' + m)).toArray) := by
      have hst' : (storeCells ((⟨b, off, none⟩ : Addr).add (n' * i0.size)) ls.flatten 0).run c.P w = .ok () (w.setRow b (cells.take (off + n') ++ ls.flatten ++ cells.drop (off + n' + m)).toArray) := by
        rw [add0, hz1, Nat.mul_one, hst]
        simp only [Nat.add_zero, hm, Nat.mul_one]
      simp [Builtin.append_, run_underlying ht, sizeOf, typeInfo, hi0, Builtin.lenOf, hroom, hfc, hst']
    rw [hexec _ _ hrun]
    refine h b off cap (cells.take (off + n') ++ ls.flatten ++ cells.drop (off + n' + m)) hroom hmx ?_ ?_ _ (hM.change i hi (grownBy_setRow w b _) (setRow_heap w b _ _ e _ hb) (.inl rfl)) _ (hr.put d _ (by simp [Nat.blt] at hd; omega))
    · simp only [List.length_append, List.length_take, List.length_drop, hm]; omega
    · have e1 : (cells.take (off + n')).length = off + n' := by rw [List.length_take]; omega
      rw [List.append_assoc, List.drop_append_of_le_length (by omega), List.drop_take, show off + n' - off = n' by omega]
      rw [List.take_append, List.take_append]
      have e2 : ((cells.drop off).take n').length = n' := by rw [List.length_take, List.length_drop]; omega
      rw [e2, List.take_of_length_le (show ((cells.drop off).take n').length ≤ n' + m by omega), show n' + m - n' = m by omega, List.take_of_length_le (show ls.flatten.length ≤ m by omega), hm, show m - m * 1 = 0 by omega, List.take_zero, List.append_nil]
  · have e2 : ((cells.drop off).take n').length = n' := by rw [List.length_take, List.length_drop]; omega
    obtain ⟨v', w', hrun, hown, hg⟩ := run_append_arg_grows (P := c.P) w tt t e i0 z 1 bytes ht hi0 hz0 hz1 hz2 hz (by decide) ⟨b, off, none⟩ n' cap ((cells.drop off).take n') (by rw [e2]; omega) (fun j u hj => by
      rw [add0, cell_ob hb]
      rw [List.getElem?_take] at hj
      split at hj
      · rw [List.getElem?_drop] at hj; exact hj
      · cases hj) ⟨b2, off2, none⟩ m cp ls.flatten hm hnews (by omega) hlen hby
    rw [hexec _ _ hrun]
    rcases hown.2 with ⟨h2, h3⟩ | ⟨g, cap', cur, h2, hb', hg', hc1, hc2, hc3, hc4⟩
    · omega
    · subst h2
      refine h g 0 cap' cur.toList hc1 hc2 (by simp [hc3]) (by rw [List.drop_zero, ← hc4, Nat.mul_one]) w' (hM.change i hi (r' := .blk g (ob cur.toList e)) ?_ ?_ (.inr (.inr ⟨g, rfl, hb'⟩))) _ (hr.put d _ (by simp [Nat.blt] at hd; omega))
      · exact ⟨hg.os, hg.tape, hg.output, hg.size, fun k hk _ => hg.block k hk (by simp)⟩
      · show w'.heap[g]? = some (.cells cur.toList.toArray e)
        rw [hg']
end

/-! ### Reverse -/
def iv (xs : List Int) : List Value := xs.map fun x => .int .i64 x
theorem iv_length (xs : List Int) : (iv xs).length = xs.length := by simp [iv]
theorem mid_at {pre post : List Value} {ys : List Int} {o k : Nat} (ho : o = pre.length + k) (hk : k < ys.length) : (pre ++ iv ys ++ post)[o]? = some (.int .i64 (ys.getD k 0)) := by
  subst ho
  rw [List.append_assoc, List.getElem?_append_right (by omega), Nat.add_sub_cancel_left, List.getElem?_append_left (by rw [iv_length]; exact hk)]
  simp [iv, hk]
theorem mid_set {pre post : List Value} {ys : List Int} {k : Nat} {x : Int} (hk : k < ys.length) : (pre ++ iv ys ++ post).set (pre.length + k) (.int .i64 x) = pre ++ iv (ys.set k x) ++ post := by
  rw [List.append_assoc, List.set_append_right _ _ (by omega), Nat.add_sub_cancel_left, List.set_append_left _ _ (by rw [iv_length]; exact hk), ← List.append_assoc]
  simp [iv, List.map_set]

theorem put_cells (pre post : List Value) (xs ys : List Int) (h : ys.length = xs.length) : Go.Sort.putCells (Value.int .i64) pre.length ys.toArray (pre ++ iv xs ++ post).toArray = (pre ++ iv ys ++ post).toArray := by
  apply Array.ext_getElem?
  intro k
  simp only [Go.Sort.putCells, Array.getElem?_mapIdx, List.getElem?_toArray, List.size_toArray]
  by_cases h1 : k < pre.length
  · rw [List.append_assoc, List.append_assoc, List.getElem?_append_left h1, List.getElem?_append_left h1]
    rw [List.getElem?_eq_getElem h1, Option.map_some, if_neg (by omega)]
  · by_cases h2 : k < pre.length + ys.length
    · rw [mid_at (o := k) (k := k - pre.length) (by omega) (by omega), mid_at (o := k) (k := k - pre.length) (by omega) (by omega), Option.map_some, if_pos (by omega)]
      congr 2
      have : k - pre.length < ys.length := by omega
      simp [this]
    · have e1 : (pre ++ iv xs).length = pre.length + xs.length := by rw [List.length_append, iv_length]
      have e2 : (pre ++ iv ys).length = pre.length + ys.length := by rw [List.length_append, iv_length]
      rw [List.getElem?_append_right (by omega), List.getElem?_append_right (by omega), e1, e2, h]
      cases hp : post[k - (pre.length + xs.length)]? with
      | none => rfl
      | some v => rw [Option.map_some, if_neg (by omega)]

theorem slices_Reverse_ (b off n cap : Nat) (e : TypeId) (pre post : List Value) (xs : List Int) (hn : xs.length = n) (hn2 : n ≤ 100000000) (ho : pre.length = off) :
    Writes PP N_slices_Reverse_int_int #[.slice (some ⟨b, off, none⟩) n cap] b (ob (pre ++ iv xs ++ post) e) (ob (pre ++ iv xs.reverse ++ post) e) (.tuple #[]) := by
  subst hn ho
  intro w hw
  refine (Any.slices_Reverse_int YtmcapgjdflohfaaGreat.lays112 b pre.length cap xs w (fun j hj => ⟨?_, ?_⟩) (by omega)).mono ?_
  · have hj : j < xs.length := by simpa using hj
    rw [cell_ob hw, mid_at rfl hj]
    simp [hj]
  · exact frozen_of_row w b _ _ e hw
  · rintro x w' ⟨rfl, m, rfl⟩
    refine ⟨rfl, ?_, ⟨rfl, rfl, rfl, ?_, ?_⟩⟩
    · have := put_cells pre post xs xs.reverse (by simp)
      simp only [Go.Sort.putRow, Go.Sort.mapBlock, Go.Sort.ahead, Array.getElem?_modify, if_true, hw, Option.map_some, Go.Sort.onCells]
      rw [this]
    · simp [Go.Sort.putRow, Go.Sort.mapBlock, Go.Sort.ahead]
    · intro k hk hne
      simp only [Go.Sort.putRow, Go.Sort.mapBlock, Go.Sort.ahead, Array.getElem?_modify]
      rw [if_neg (by rintro rfl; exact hne rfl)]

theorem split3 {cells : List Value} {off n : Nat} {xs : List Value} (h : (cells.drop off).take n = xs) : cells = cells.take off ++ xs ++ cells.drop (off + n) := by
  subst h
  rw [List.append_assoc, ← List.drop_drop, List.take_append_drop, List.take_append_drop]
/-- The end: a part of a block of one's own is handed back as a slice. -/
theorem retMid {fn : Func} {c : Cx} {n : Nat} {σ : Env} {H : List Res} {K : List Fact} {s i m cap b : Nat} {e : TypeId} {pre post : List Value} {R : List Int} (hr : fn.results = #[.tmp s]) (hS : c.S = []) (hv : σ s = .slice (some ⟨b, pre.length, none⟩) m cap) (hi : H[i]? = some (.blk b (ob (pre ++ iv R ++ post) e))) (hm0 : R.length = m) (h1 : m ≤ cap) (h2 : cap ≤ maxLen) :
    ∀ w, M c H K w → Go.Proofs.YtmcapgjdflohfaaGreat.L.post c.P fn n (RS c.w0 1 (il R)) .ret σ w := fun w hm => by
  have hb := hm.blk i hi
  refine ⟨_, fun a ha => by rw [results_tmp hr, ha.val, hv], some ⟨b, pre.length, none⟩, cap, by rw [il_length, hm0], hm.below hS, ?_⟩
  rw [il_length, hm0]
  refine ⟨by rw [il_length, hm0], h1, h2, il_ok R, fun _ => ⟨b, pre.length, rfl, ?_, fun k l hl j u hu => ?_⟩⟩
  · have := hm.mine b (mem_places.2 ⟨_, List.mem_of_getElem? hi, rfl⟩)
    rw [hS] at this
    exact ⟨by simpa using this.1, this.2⟩
  · obtain ⟨x, hx, rfl⟩ : ∃ x, R[k]? = some x ∧ [Value.int .i64 x] = l := by
      rw [il, List.getElem?_map] at hl
      exact Option.map_eq_some_iff.1 hl
    have hj : j = 0 := by have := (List.getElem?_eq_some_iff.1 hu).1; simpa using this
    subst hj
    have hk : k < R.length := (List.getElem?_eq_some_iff.1 hx).1
    rw [cell_ob hb, Nat.mul_one, Nat.add_zero, mid_at rfl hk, ← hu]
    rw [List.getElem?_eq_getElem hk] at hx
    simp only [List.getElem?_cons_zero, Option.some.injEq] at hx ⊢
    simp [hk, hx]
end Go.Proofs.YtmcapgjdflohfaaGreat.L

namespace Go.Proofs.YtmcapgjdflohfaaGreat.L
open Go Go.RowKit Mp
set_option linter.unusedVariables false

theorem conv32n {a : Nat} (h : a ≤ 65536) : IntKind.u32.wrap ((a : Nat) : Int) = ((a : Nat) : Int) := conv32 (a := (a : Int)) (by omega) (by omega)

set_option maxRecDepth 8000 in
theorem good_Local_ (n o : Nat) (hn : n ≤ 1024) (ho : o ≤ 1024) (level a b : Int) : Pure PP N_good_Local #[.int .i64 (n : Nat), .int .i64 (o : Nat), .int .i64 level, .int .i64 a, .int .i64 b] (.bool (aboveR n o level a b)) := by
  refine enter0 f_good_Local rfl n_good_Local rfl fun w => ?_
  refine seq (region (det rfl (asg rfl) (nilS ?_)))   -- region 0
  refine seq (region (det rfl (mv rfl) (det rfl (Det.to (geq rfl rfl) (v' := .bool true) (vb (decide_eq_true (by omega)))) (det rfl (mv rfl) (guardT rfl rfl (det rfl (mv rfl) (guardT rfl rfl (det rfl (Det.to (geq rfl rfl) (v' := .bool true) (vb (decide_eq_true (by omega)))) (det rfl (pick (b := true) rfl rfl) (det rfl (mv rfl) (guardT rfl rfl (det rfl (mv rfl) (guardT rfl rfl (det rfl (Det.to (leq rfl rfl) (v' := .bool true) (vb (decide_eq_true (by omega)))) (det rfl (pick (b := true) rfl rfl) (det rfl (mv rfl) (guardT rfl rfl (det rfl (mv rfl) (guardT rfl rfl (det rfl (Det.to (leq rfl rfl) (v' := .bool true) (vb (decide_eq_true (by omega)))) (det rfl (pick (b := true) rfl rfl) (det rfl (mv rfl) (guardT rfl rfl (det rfl (mv rfl) (guardT rfl rfl (det rfl (Det.to (conv u_int u_uint32 rfl) (vi (conv32n (by omega)))) (guardT rfl rfl (det rfl (mv rfl) (guardT rfl rfl (det rfl (Det.to (conv u_int u_uint32 rfl) (vi (conv32n (by omega)))) (guardT rfl rfl (det rfl (mv rfl) (guardT rfl rfl (det rfl (mv rfl) (guardT rfl rfl (det rfl (mv rfl) (guardT rfl rfl (call k_ratio_Above rfl rfl (fun w _ => ratio_Above_ n o (by omega) (by omega) level a b w) (det rfl (pick (b := true) rfl rfl) (det rfl (asg rfl) (nilS ?_)))))))))))))))))))))))))))))))))))))))))   -- region 1
  exact ret (retT rfl rfl pr)

/-- How many of a level, or above, stand ahead of a place. -/
def cntL (l : List Int) (lv : Int) (k : Nat) : Nat := (l.take k).countP fun x => decide (lv ≤ x)
theorem cntL_zero (l : List Int) (lv : Int) : cntL l lv 0 = 0 := by simp [cntL]
theorem cntL_le (l : List Int) (lv : Int) (k : Nat) : cntL l lv k ≤ k := by
  have := List.countP_le_length (p := fun x => decide (lv ≤ x)) (l := l.take k)
  have h2 := List.length_take_le k l
  unfold cntL; omega
theorem cntL_succ {l : List Int} {lv : Int} {k : Nat} (h : k < l.length) : cntL l lv (k + 1) = cntL l lv k + (if lv ≤ l.getD k 0 then 1 else 0) := by
  unfold cntL
  rw [List.take_succ, List.countP_append, List.getElem?_eq_getElem h]
  simp [List.countP_cons, h]
def cntsL (l : List Int) (lv : Int) (k : Nat) : List Int := (List.range (l.length + 1)).map fun i => if i ≤ k then ((cntL l lv i : Nat) : Int) else 0
theorem cntsL_zero (l : List Int) (lv : Int) : iv (cntsL l lv 0) = List.replicate (l.length + 1) (.int .i64 0) := by
  unfold iv cntsL
  rw [List.map_map]
  apply List.ext_getElem
  · simp
  · intro i h1 h2
    simp only [List.getElem_map, List.getElem_range, Function.comp, List.getElem_replicate]
    by_cases h : i = 0
    · subst h; simp [cntL_zero]
    · rw [if_neg (by omega)]
theorem cntsL_at {l : List Int} {lv : Int} {k i o : Nat} (ho : o = i) (hi : i ≤ k) (h : i ≤ l.length) : (iv (cntsL l lv k))[o]? = some (.int .i64 (cntL l lv i : Nat)) := by
  subst ho
  simp [iv, cntsL, show o < l.length + 1 by omega, hi]
theorem cntsL_set {l : List Int} {lv : Int} {k : Nat} (h : k < l.length) : (iv (cntsL l lv k)).set (k + 1) (.int .i64 (cntL l lv (k + 1) : Nat)) = iv (cntsL l lv (k + 1)) := by
  apply List.ext_getElem
  · simp [iv, cntsL]
  · intro i h1 h2
    rw [List.getElem_set]
    simp only [iv, cntsL, List.getElem_map, List.getElem_range]
    by_cases e : k + 1 = i
    · subst e; simp
    · rw [if_neg e]
      by_cases e2 : i ≤ k
      · rw [if_pos e2, if_pos (by omega)]
      · rw [if_neg e2, if_neg (by omega)]
theorem cntsL_length (l : List Int) (lv : Int) (k : Nat) : (cntsL l lv k).length = l.length + 1 := by simp [cntsL]

/-- The end: a block of one's own is handed back as a slice. -/
theorem retBlk {fn : Func} {c : Cx} {n : Nat} {σ : Env} {H : List Res} {K : List Fact} {s i m b : Nat} {e : TypeId} {R : List Int} (hr : fn.results = #[.tmp s]) (hS : c.S = []) (hv : σ s = .slice (some ⟨b, 0, none⟩) m m) (hi : H[i]? = some (.blk b (ob (iv R) e))) (hm0 : R.length = m) (h2 : m ≤ maxLen) :
    ∀ w, M c H K w → Go.Proofs.YtmcapgjdflohfaaGreat.L.post c.P fn n (RS c.w0 1 (il R)) .ret σ w :=
  retMid (i := i) (pre := []) (post := []) hr hS hv (by rw [List.nil_append, List.append_nil]; exact hi) hm0 (Nat.le_refl _) h2

theorem good_counts_ (l : List Int) (hn : l.length ≤ 1000000) (lv : Int) (A : Option Addr) (cap : Nat) (D : Nat → Prop) (w : World) (hD : ∀ k, D k → k < w.heap.size) (hs : Sl 1 A l.length cap (il l) D w) :
    Calls PP N_good_counts #[.slice A l.length cap, .int .i64 lv] w (RS w 1 (il (cntsL l lv l.length))) := by
  refine enter f_good_counts rfl n_good_counts rfl (M.init1 PP w Sl.stable hD hs) ?_
  refine seq (region (det rfl (asg rfl) (nilS ?_)))   -- region 0
  refine seq (region (det rfl (mv rfl) (det rfl (lenS u_sl_int rfl) (det rfl (addI rfl rfl (by omega) (by omega)) (mks (m := l.length + 1) u_sl_int i_int rfl rfl rfl rfl rfl (by omega) (by omega) rfl fun b0 => det rfl (asg rfl) (nilS ?_))))))   -- region 1
  refine seq ?_
  refine seq (region (det rfl (mv rfl) (det rfl (lenS u_sl_int rfl) (det rfl (mv rfl) (nilS ?_)))))   -- region 2
  refine block ?_   -- block 0
  refine loopV (ι := Nat) (fun k => k ≤ l.length) (fun k => [(1, .int .i64 lv), (5, .slice (some ⟨b0, 0, none⟩) (l.length + 1) (l.length + 1)), (12, .slice A l.length cap), (13, .int .i64 l.length), (14, .int .i64 k)]) (fun k => [.blk b0 (ob (iv (cntsL l lv k)) T_int)]) (fun _ => [Sl 1 A l.length cap (il l)]) (fun k => l.length - k) 0 (by omega) ⟨rfl, rfl, rfl, rfl, rfl, trivial⟩ (fun w hm => by rw [cntsL_zero]; exact hm) ?_
  intro k σ hk
  refine seq (region (det rfl (lss rfl rfl) (nilS ?_)))   -- region 3
  refine seq ?_
  refine cond rfl (fun h => ?_) (fun h => ?_)   -- on t15
  · have h := of_decide_eq_true h
    have hkl : k < l.length := by omega
    have hc1 := cntL_succ (lv := lv) hkl
    have hcl := cntL_le l lv (k + 1)
    have hlen : (iv (cntsL l lv k)).length = l.length + 1 := by rw [iv_length, cntsL_length]
    obtain ⟨x, hx⟩ : ∃ x, l.getD k 0 = x := ⟨_, rfl⟩
    rw [hx] at hc1
    refine skipS ?_
    refine seq ?_
    refine block ?_   -- block 1
    refine seq (region (det rfl (mv rfl) (det rfl (ixS 0 rfl rfl u_sl_int s_int rfl (by omega) (by omega)) (det rfl (ldSO 0 (v := .int .i64 x) rfl rfl o_int (by rw [← hx]; exact il_at (by omega) hkl)) (det rfl (asg rfl) (det rfl (asg rfl) (nilS ?_)))))))   -- region 4
    refine seq (region (det rfl (mv rfl) (det rfl (mv rfl) (det rfl (addI rfl rfl (by omega) (by omega)) (det rfl (mv rfl) (det rfl (mv rfl) (det rfl (ixB rfl rfl u_sl_int s_int (by omega) (by omega)) (det rfl (ldB 0 (v := .int .i64 (cntL l lv k : Nat)) rfl rfl o_int (cntsL_at (by omega) (Nat.le_refl _) hk)) (det rfl (ixB rfl rfl u_sl_int s_int (by omega) (by omega)) (sto1 0 (k + 1) rfl rfl rfl s_int rfl (by omega) (by omega) rfl (nilS ?_)))))))))))   -- region 5
    refine seq (region (det rfl (mv rfl) (det rfl (mv rfl) (det rfl (geq rfl rfl) (nilS ?_)))))   -- region 6
    refine cond rfl (fun h => ?_) (fun h => ?_)   -- on t29
    · have h : lv ≤ x := of_decide_eq_true h
      rw [if_pos h] at hc1
      refine region (det rfl (mv rfl) (det rfl (mv rfl) (det rfl (addI rfl rfl (by omega) (by omega)) (det rfl (ixB rfl rfl u_sl_int s_int (by omega) (by omega)) (det rfl (ldB 0 (v := .int .i64 (cntL l lv k : Nat)) rfl rfl o_int (by rw [show (0 + ((k : Int) + 1).toNat * 1) = k + 1 by omega]; exact List.getElem?_set_self (by omega))) (det rfl (addI rfl rfl (by omega) (by omega)) (det rfl (ixB rfl rfl u_sl_int s_int (by omega) (by omega)) (sto1 0 (k + 1) rfl rfl rfl s_int rfl (by omega) (by simp only [List.length_set, iv_length, cntsL_length]; omega) (show ((iv (cntsL l lv k)).set (k + 1) _).set (k + 1) (.int .i64 ((cntL l lv k : Nat) + 1 : Int)) = iv (cntsL l lv (k + 1)) by rw [List.set_set, ← cntsL_set hkl, hc1]; rfl) (nil ?_)))))))))   -- region 7
      show Tr _ _ _ _ _ _ _
      refine region (det rfl (addI rfl rfl (by omega) (by omega)) (det rfl (mv rfl) (nil ?_)))   -- region 8
      exact again (k + 1) (by omega) ⟨rfl, rfl, rfl, rfl, rfl, trivial⟩ (fun w hm => hm) (by (first | omega | (dsimp only; omega)))
    · have h : ¬ lv ≤ x := of_decide_eq_false h
      rw [if_neg h, Nat.add_zero] at hc1
      refine skip ?_
      show Tr _ _ _ _ _ _ _
      refine region (det rfl (addI rfl rfl (by omega) (by omega)) (det rfl (mv rfl) (nil ?_)))   -- region 8
      exact again (k + 1) (by omega) ⟨rfl, rfl, rfl, rfl, rfl, trivial⟩ (fun w hm => by rw [← cntsL_set hkl, hc1]; exact hm) (by (first | omega | (dsimp only; omega)))
  · have h := of_decide_eq_false h
    obtain rfl : k = l.length := by omega
    refine exit ?_   -- 0
    show Tr _ _ _ _ _ _ _
    refine seq (region (det rfl (mv rfl) (det rfl (asg rfl) (nilS ?_))))   -- region 9
    exact ret (retBlk (i := 0) rfl rfl rfl rfl (cntsL_length _ _ _) (by simp only [maxLen]; omega))
end Go.Proofs.YtmcapgjdflohfaaGreat.L

namespace Go.Proofs.YtmcapgjdflohfaaGreat.L
open Go Go.RowKit Mp
set_option linter.unusedVariables false

/-- A stretch that has not enough. -/
def badS (h lo : List Int) (by_ m a b : Int) (i k : Nat) : Bool := decide (i < k) && decide (m ≤ lo.getD k 0 - lo.getD i 0) && !leastR (h.getD k 0 - h.getD i 0).toNat (lo.getD k 0 - lo.getD i 0).toNat by_ a b
def stretchR (h lo : List Int) (by_ m a b : Int) : Bool := (List.range lo.length).all fun i => (List.range lo.length).all fun k => !badS h lo by_ m a b i k
theorem stretch_no {h lo : List Int} {by_ m a b : Int} {i k : Nat} (hi : i < lo.length) (hk : k < lo.length) (hb : badS h lo by_ m a b i k = true) : stretchR h lo by_ m a b = false := by
  rw [Bool.eq_false_iff]
  intro h'
  have h1 := List.all_eq_true.1 h' i (List.mem_range.2 hi)
  have h2 := List.all_eq_true.1 h1 k (List.mem_range.2 hk)
  rw [hb] at h2
  cases h2
theorem stretch_yes {h lo : List Int} {by_ m a b : Int} (hb : ∀ i < lo.length, ∀ k < lo.length, badS h lo by_ m a b i k = false) : stretchR h lo by_ m a b = true :=
  List.all_eq_true.2 fun i hi => List.all_eq_true.2 fun k hk => by rw [hb i (List.mem_range.1 hi) k (List.mem_range.1 hk)]; rfl
/-- Counts rise, and not high. -/
def Rises (x : List Int) : Prop := ∀ i k, i ≤ k → k < x.length → 0 ≤ x.getD i 0 ∧ x.getD i 0 ≤ x.getD k 0 ∧ x.getD k 0 ≤ 1024
theorem cntL_mono (l : List Int) (lv : Int) {i k : Nat} (h : i ≤ k) : cntL l lv i ≤ cntL l lv k := by
  unfold cntL
  exact List.Sublist.countP_le (List.take_sublist_take_left h)
theorem cnts_rise {l : List Int} (hn : l.length ≤ 1024) (lv : Int) : Rises (cntsL l lv l.length) := fun i k hik hk => by
  rw [cntsL_length] at hk
  have e : ∀ j, j ≤ l.length → (cntsL l lv l.length).getD j 0 = ((cntL l lv j : Nat) : Int) := fun j hj => by
    simp [cntsL, hj, show j < l.length + 1 by omega]
  rw [e i (by omega), e k (by omega)]
  have := cntL_mono l lv hik
  have := cntL_le l lv k
  omega

set_option maxRecDepth 8000 in
theorem good_stretches_ (h lo : List Int) (hh : Rises h) (hlo : Rises lo) (hl : h.length = lo.length) (hn : lo.length ≤ 1000000) (by_ m a b : Int) (A B : Option Addr) (cA cB : Nat) (D : Nat → Prop) (w : World) (hD : ∀ k, D k → k < w.heap.size) (hs : Sl 1 A h.length cA (il h) D w) (hs2 : Sl 1 B lo.length cB (il lo) D w) :
    Calls PP N_good_stretches #[.slice A h.length cA, .slice B lo.length cB, .int .i64 by_, .int .i64 m, .int .i64 a, .int .i64 b] w (PR w (.bool (stretchR h lo by_ m a b))) := by
  refine enter f_good_stretches rfl n_good_stretches rfl (M.init PP w D [] [Sl 1 A h.length cA (il h), Sl 1 B lo.length cB (il lo)] ⟨Sl.stable, Sl.stable, trivial⟩ hD ⟨hs, hs2, trivial⟩) ?_
  refine seq (region (det rfl (asg rfl) (nilS ?_)))   -- region 0
  refine seq ?_
  refine seq (region (det rfl (mv rfl) (det rfl (lenS u_sl_int rfl) (det rfl (mv rfl) (nilS ?_)))))   -- region 1
  refine block ?_   -- block 0
  refine loopV (ι := Nat) (fun i => i ≤ lo.length ∧ ∀ j < i, ∀ k < lo.length, badS h lo by_ m a b j k = false) (fun i => [(0, .slice A h.length cA), (1, .slice B lo.length cB), (2, .int .i64 by_), (3, .int .i64 m), (4, .int .i64 a), (5, .int .i64 b), (18, .int .i64 lo.length), (19, .int .i64 i)]) (fun _ => []) (fun _ => [Sl 1 A h.length cA (il h), Sl 1 B lo.length cB (il lo)]) (fun i => lo.length - i) 0 ⟨by omega, fun j hj => by omega⟩ ⟨rfl, rfl, rfl, rfl, rfl, rfl, rfl, rfl, trivial⟩ (fun w hm => hm) ?_
  intro i σ ⟨hi, hbi⟩
  refine seq (region (det rfl (lss rfl rfl) (nilS ?_)))   -- region 2
  refine seq ?_
  refine cond rfl (fun c => ?_) (fun c => ?_)   -- on t20
  · have c := of_decide_eq_true c
    have hil : i < lo.length := by omega
    refine skipS ?_
    refine seq ?_
    refine block ?_   -- block 1
    refine seq (region (det rfl (mv rfl) (det rfl (asg rfl) (nilS ?_))))   -- region 3
    refine seq (region (det rfl (mv rfl) (det rfl (addI rfl rfl (by omega) (by omega)) (det rfl (asg rfl) (nilS ?_)))))   -- region 4
    refine block ?_   -- block 2
    refine loopV (ι := Nat) (fun k => i < k ∧ k ≤ lo.length ∧ ∀ j < k, badS h lo by_ m a b i j = false) (fun k => [(0, .slice A h.length cA), (1, .slice B lo.length cB), (2, .int .i64 by_), (3, .int .i64 m), (4, .int .i64 a), (5, .int .i64 b), (13, .int .i64 i), (14, .int .i64 k), (18, .int .i64 lo.length), (19, .int .i64 i)]) (fun _ => []) (fun _ => [Sl 1 A h.length cA (il h), Sl 1 B lo.length cB (il lo)]) (fun k => lo.length - k) (i + 1) ⟨by omega, by omega, fun j hj => by simp [badS, show ¬ i < j by omega]⟩ ⟨rfl, rfl, rfl, rfl, rfl, rfl, rfl, rfl, rfl, rfl, trivial⟩ (fun w hm => hm) ?_
    intro k σ ⟨hik, hk, hbk⟩
    refine seq ?_
    refine seq (region (det rfl (mv rfl) (det rfl (mv rfl) (det rfl (lenS u_sl_int rfl) (det rfl (lss rfl rfl) (nilS ?_))))))   -- region 5
    refine cond rfl (fun c => ?_) (fun c => ?_)   -- on t27
    · have c := of_decide_eq_true c
      have hkl : k < lo.length := by omega
      obtain ⟨x1, e1⟩ : ∃ x, h.getD k 0 = x := ⟨_, rfl⟩
      obtain ⟨x2, e2⟩ : ∃ x, h.getD i 0 = x := ⟨_, rfl⟩
      obtain ⟨y1, e3⟩ : ∃ x, lo.getD k 0 = x := ⟨_, rfl⟩
      obtain ⟨y2, e4⟩ : ∃ x, lo.getD i 0 = x := ⟨_, rfl⟩
      have r1 := hh i k (by omega) (by omega)
      have r2 := hlo i k (by omega) (by omega)
      rw [e1, e2] at r1
      rw [e3, e4] at r2
      obtain ⟨n, en⟩ : ∃ n : Nat, x1 - x2 = (n : Int) := ⟨(x1 - x2).toNat, by omega⟩
      obtain ⟨o, eo⟩ : ∃ n : Nat, y1 - y2 = (n : Int) := ⟨(y1 - y2).toNat, by omega⟩
      have hb : badS h lo by_ m a b i k = (decide (m ≤ (o : Int)) && !leastR n o by_ a b) := by
        simp only [badS, e1, e2, e3, e4, en, eo, hik, decide_true, Bool.true_and, Int.toNat_natCast]
      refine skipS ?_
      refine seq ?_
      refine block ?_   -- block 3
      refine seq (draw (m := 20) mix (by kernel_rfl) (take 0 rfl (by kernel_rfl) rfl (mv rfl) (take 1 rfl (by kernel_rfl) rfl (mv rfl) (take 2 rfl (by kernel_rfl) rfl (ixS 0 rfl rfl u_sl_int s_int rfl (by omega) (by omega)) (take 3 rfl (by kernel_rfl) rfl (ldSO 0 (v := .int .i64 x1) rfl rfl o_int (by rw [← e1]; exact il_at (by omega) (by omega))) (take 4 rfl (by kernel_rfl) rfl (mv rfl) (take 5 rfl (by kernel_rfl) rfl (mv rfl) (take 6 rfl (by kernel_rfl) rfl (ixS 0 rfl rfl u_sl_int s_int rfl (by omega) (by omega)) (take 7 rfl (by kernel_rfl) rfl (ldSO 0 (v := .int .i64 x2) rfl rfl o_int (by rw [← e2]; exact il_at (by omega) (by omega))) (take 8 rfl (by kernel_rfl) rfl (Det.to (subI rfl rfl (by omega) (by omega)) (vi en)) (take 9 rfl (by kernel_rfl) rfl (mv rfl) (take 10 rfl (by kernel_rfl) rfl (mv rfl) (take 11 rfl (by kernel_rfl) rfl (ixS 1 rfl rfl u_sl_int s_int rfl (by omega) (by omega)) (take 12 rfl (by kernel_rfl) rfl (ldSO 1 (v := .int .i64 y1) rfl rfl o_int (by rw [← e3]; exact il_at (by omega) (by omega))) (take 13 rfl (by kernel_rfl) rfl (mv rfl) (take 14 rfl (by kernel_rfl) rfl (mv rfl) (take 15 rfl (by kernel_rfl) rfl (ixS 1 rfl rfl u_sl_int s_int rfl (by omega) (by omega)) (take 16 rfl (by kernel_rfl) rfl (ldSO 1 (v := .int .i64 y2) rfl rfl o_int (by rw [← e4]; exact il_at (by omega) (by omega))) (take 17 rfl (by kernel_rfl) rfl (Det.to (subI rfl rfl (by omega) (by omega)) (vi eo)) (take 18 rfl (by kernel_rfl) rfl (asg rfl) (take 19 rfl (by kernel_rfl) rfl (asg rfl) ((tail (by kernel_rfl) rfl (nilS ?_))))))))))))))))))))))))   -- region 7
      by_cases c1 : m ≤ (o : Int)
      · obtain ⟨v, ev⟩ : ∃ v, leastR n o by_ a b = v := ⟨_, rfl⟩
        rw [ev, decide_eq_true c1, Bool.true_and] at hb
        refine seq (region (det rfl (mv rfl) (det rfl (mv rfl) (det rfl (Det.to (geq rfl rfl) (v' := .bool true) (vb (decide_eq_true c1))) (det rfl (mv rfl) (guardT rfl rfl (det rfl (mv rfl) (guardT rfl rfl (det rfl (Det.to (conv u_int u_uint32 rfl) (vi (conv32n (by omega)))) (guardT rfl rfl (det rfl (mv rfl) (guardT rfl rfl (det rfl (Det.to (conv u_int u_uint32 rfl) (vi (conv32n (by omega)))) (guardT rfl rfl (det rfl (mv rfl) (guardT rfl rfl (det rfl (mv rfl) (guardT rfl rfl (det rfl (mv rfl) (guardT rfl rfl (call k_ratio_Least rfl rfl (fun w _ => ev ▸ ratio_Least_ n o (by omega) (by omega) by_ a b w) (guardT rfl rfl (det rfl (notB rfl) (det rfl (pick (b := true) rfl rfl) (nilS ?_)))))))))))))))))))))))))   -- region 8
        cases v
        · refine condT rfl ?_
          refine seq (region (det rfl (asg rfl) (nilS ?_)))   -- region 9
          exact ret (retT rfl rfl (pr' (vb (stretch_no hil hkl hb).symm)))
        · refine condF rfl ?_
          refine skip ?_
          show Tr _ _ _ _ _ _ _
          refine region (det rfl (mv rfl) (det rfl (addI rfl rfl (by omega) (by omega)) (det rfl (asg rfl) (nil ?_))))   -- region 6
          exact again (k + 1) ⟨by omega, by omega, fun j hj => by
            rcases Nat.lt_or_ge j k with h' | h'
            · exact hbk j h'
            · rw [show j = k by omega]; exact hb⟩ ⟨rfl, rfl, rfl, rfl, rfl, rfl, rfl, rfl, rfl, rfl, trivial⟩ (fun w hm => hm) (by (first | omega | (dsimp only; omega)))
      · rw [decide_eq_false c1, Bool.false_and] at hb
        refine seq (region (det rfl (mv rfl) (det rfl (mv rfl) (det rfl (Det.to (geq rfl rfl) (v' := .bool false) (vb (decide_eq_false c1))) (det rfl (mv rfl) (guardF rfl rfl rfl (guardF rfl rfl rfl (guardF rfl rfl rfl (guardF rfl rfl rfl (guardF rfl rfl rfl (guardF rfl rfl rfl (guardF rfl rfl rfl (guardF rfl rfl rfl (guardF rfl rfl rfl (det rfl (pick (b := false) rfl rfl) (nilS ?_))))))))))))))))   -- region 8
        refine condF rfl ?_
        refine skip ?_
        show Tr _ _ _ _ _ _ _
        refine region (det rfl (mv rfl) (det rfl (addI rfl rfl (by omega) (by omega)) (det rfl (asg rfl) (nil ?_))))   -- region 6
        exact again (k + 1) ⟨by omega, by omega, fun j hj => by
          rcases Nat.lt_or_ge j k with h' | h'
          · exact hbk j h'
          · rw [show j = k by omega]; exact hb⟩ ⟨rfl, rfl, rfl, rfl, rfl, rfl, rfl, rfl, rfl, rfl, trivial⟩ (fun w hm => hm) (by (first | omega | (dsimp only; omega)))
    · have c := of_decide_eq_false c
      refine exit ?_   -- 2
      show Tr _ _ _ _ _ _ _
      refine region (det rfl (addI rfl rfl (by omega) (by omega)) (det rfl (mv rfl) (nil ?_)))   -- region 10
      exact again (i + 1) ⟨by omega, fun j hj k' hk' => by
        rcases Nat.lt_or_ge j i with h' | h'
        · exact hbi j h' k' hk'
        · rw [show j = i by omega]; exact hbk k' (by omega)⟩ ⟨rfl, rfl, rfl, rfl, rfl, rfl, rfl, rfl, trivial⟩ (fun w hm => hm) (by (first | omega | (dsimp only; omega)))
  · have c := of_decide_eq_false c
    refine exit ?_   -- 0
    show Tr _ _ _ _ _ _ _
    refine seq (region (det rfl (asg rfl) (nilS ?_)))   -- region 11
    exact ret (retT rfl rfl (pr' (vb (stretch_yes fun i' hi' => hbi i' (by omega)).symm)))
end Go.Proofs.YtmcapgjdflohfaaGreat.L
