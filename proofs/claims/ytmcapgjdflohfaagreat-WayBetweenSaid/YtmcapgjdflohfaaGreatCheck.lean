/- Package chain: Check. -/
import Derived.Test.YtmcapgjdflohfaaGreatLook
set_option linter.all false
namespace Go.Proofs.YtmcapgjdflohfaaGreat.L
open Go Go.RowKit
set_option linter.unusedVariables false

def bl0 : Bl := ⟨⟨0, [], [], 0⟩, none, 0, []⟩
theorem getB {l : List Bl} {k : Nat} (h : k < l.length) : l.getD k bl0 = l[k] := by simp [h]
/-- The vector of the block at a place. -/
def vecA (t : List UInt8) (l : List Bl) : Nat → List (List UInt8)
  | 0 => []
  | k + 1 => behindS t (vecA t l k) (l.getD k bl0) k
theorem next_length (v : List (List UInt8)) (x : List UInt8) (lv : Int) (h : v.length ≤ 257) : (Mp.next [] v x lv).length ≤ 257 := by
  unfold Mp.next
  split
  · simp
  · simp only [List.length_map, List.length_range]; omega
theorem next_ok (v : List (List UInt8)) (x : List UInt8) (lv : Int) (hv : ∀ y ∈ v, y.length = 32) (hx : x.length = 32) : ∀ y ∈ Mp.next [] v x lv, y.length = 32 := by
  intro y hy
  unfold Mp.next at hy
  split at hy
  · cases hy
  · rename_i hne
    have hpos : 0 < v.length := List.length_pos_iff.2 hne
    obtain ⟨i, hi, rfl⟩ := List.mem_map.1 hy
    split
    · exact hv _ (getD_mem (by omega))
    · split
      · exact hx
      · split
        · exact hv _ (getD_mem (by omega))
        · exact hv _ (getD_mem (by omega))
theorem vecA_ok (t : List UInt8) (l : List Bl) (k : Nat) : (vecA t l k).length ≤ 257 ∧ ∀ y ∈ vecA t l k, y.length = 32 := by
  induction k with
  | zero => exact ⟨by simp [vecA], fun y h => by cases h⟩
  | succ k ih =>
    simp only [vecA, behindS]
    split
    · exact ⟨by simp, fun y h => by rw [List.mem_singleton.1 h]; exact idL_length _⟩
    · exact ⟨next_length _ _ _ ih.1, next_ok _ _ _ ih.2 (idL_length _)⟩

/-- The blocks' transactions. -/
def Txs (l : List Bl) : Fact := fun D w => ∀ b ∈ l, Sl 1 b.A b.t.length b.cap (tl b.t) D w
theorem Txs.stable {l : List Bl} : Stable (Txs l) := fun D D' w w' hD hw h b hb => Sl.stable D D' w w' hD hw (h b hb)

def ask3 (c : Cf) (l : List Bl) (k : Nat) : Int :=
  let b := l.getD k bl0; let v := vecA c.t l k
  if askF c k b v 0 ≠ 0 then askF c k b v 0 else if askF c k b v 1 ≠ 0 then askF c k b v 1 else askF c k b v 2
def chkGo (c : Cf) (l : List Bl) : Nat → Nat → Int × Int
  | 0, _ => (0, 0)
  | r + 1, k => if ask3 c l k ≠ 0 then (ask3 c l k, k) else chkGo c l r (k + 1)
def chkF (c : Cf) (l : List Bl) : Int × Int := if l.length = 0 then (6, 0) else if 1024 < l.length then (4, 1024) else chkGo c l l.length 0
def fltC (x : Int × Int) : List Value := [.int .i64 x.1, .int .i64 x.2]
theorem ask3_of (c : Cf) (l : List Bl) (k j : Nat) (hj : j < 3) (h0 : ∀ i < j, askF c k (l.getD k bl0) (vecA c.t l k) i = 0) (h : askF c k (l.getD k bl0) (vecA c.t l k) j ≠ 0) : ask3 c l k = askF c k (l.getD k bl0) (vecA c.t l k) j := by
  unfold ask3
  match j, hj with
  | 0, _ => dsimp only; rw [if_pos h]
  | 1, _ => dsimp only; rw [if_neg (by rw [h0 0 (by omega)]; decide), if_pos h]
  | 2, _ => dsimp only; rw [if_neg (by rw [h0 0 (by omega)]; decide), if_neg (by rw [h0 1 (by omega)]; decide)]
theorem ask3_zero (c : Cf) (l : List Bl) (k : Nat) (h0 : ∀ i < 3, askF c k (l.getD k bl0) (vecA c.t l k) i = 0) : ask3 c l k = 0 := by
  unfold ask3
  dsimp only
  rw [if_neg (by rw [h0 0 (by omega)]; decide), if_neg (by rw [h0 1 (by omega)]; decide), h0 2 (by omega)]

def fnV (lk : List Value) : List Value := [.func (.func N_chain_look_anchor) #[ag lk] #[], .func (.func N_chain_look_form) #[ag lk] #[], .func (.func N_chain_look_work) #[ag lk] #[]]
theorem fnV_at {lk : List Value} {o j : Nat} (ho : o = j) (h : j < 3) : (fnV lk)[o]? = some (.func (.func (asks.getD j 0)) [ag lk].toArray #[]) := by
  subst ho
  match o, h with
  | 0, _ => rfl
  | 1, _ => rfl
  | 2, _ => rfl
theorem Cf.at_t' {c : Cf} (h : c.ok) : (c.c.drop (0 + 66)).take 32 = b8 c.t := by have := Cf.at_t h []; rw [List.append_nil] at this; exact this
theorem fltC_fill {c : Cx} {σ : Env} {H : List Res} {K : List Fact} {d : Option Tmp} {t : TypeId} {p : String} {af : Array Edge} {g : Option (Nat × Bool)} {parts : Array (Nat × Operand)} (hc : c.P = PP) (x : Int × Int)
    (hps : (parts.toList.map fun (i, x) => (i, ev σ x)) = [(0, .int .i64 x.1), (1, .int .i64 x.2)]) :
    Det c σ H K ⟨d, .build T_api_Fault parts, t, p, af, g⟩ (ag (fltC x)) := by
  refine bldT (pl := _) (by rw [hc]; exact z_api_Fault) (by rw [hc]; exact u_api_Fault) (fun w => by rw [hc]; exact run_placesS PP w (by kernel_rfl)) hps ?_
  refine fill_cat (o := 0) (s := 1) (vs := [.int .i64 x.1]) (by kernel_rfl) rfl rfl rfl (by simp) ?_
  refine fill_cat (o := 1) (s := 1) (vs := [.int .i64 x.2]) (by kernel_rfl) rfl rfl rfl (by simp) ?_
  exact fill_end (by simp) rfl
theorem fltC_fill1 {c : Cx} {σ : Env} {H : List Res} {K : List Fact} {d : Option Tmp} {t : TypeId} {p : String} {af : Array Edge} {g : Option (Nat × Bool)} {parts : Array (Nat × Operand)} (hc : c.P = PP) (x : Int)
    (hps : (parts.toList.map fun (i, x) => (i, ev σ x)) = [(0, .int .i64 x)]) :
    Det c σ H K ⟨d, .build T_api_Fault parts, t, p, af, g⟩ (ag (fltC (x, 0))) := by
  refine bldT (pl := _) (by rw [hc]; exact z_api_Fault) (by rw [hc]; exact u_api_Fault) (fun w => by rw [hc]; exact run_placesS PP w (by kernel_rfl)) hps ?_
  exact fill_step (off := 0) (size := 1) (vs := [.int .i64 x]) (by kernel_rfl) rfl rfl (by simp) rfl fill_nil
theorem retFlt {fn : Func} {c : Cx} {n : Nat} {σ : Env} {H : List Res} {K : List Fact} {R : Ending → World → Prop} {s : Nat} {b : Nat} {e : TypeId} {x : Int × Int} (hc : c.P = PP) (i : Nat) (hr : fn.results = #[.cell s T_api_Fault]) (hv : σ s = .pointer (some ⟨b, 0, none⟩)) (hi : H[i]? = some (.blk b (ob (fltC x) e)))
    (h : ∀ w, M c H K w → R (.returned (ag (fltC x))) w) : ∀ w, M c H K w → post c.P fn n R .ret σ w :=
  retC i hr hv hi (by rw [hc]; exact g_api_Fault) h

theorem bldLk {c : Cx} {σ : Env} {H : List Res} {K : List Fact} {d : Option Tmp} {t : TypeId} {p : String} {af : Array Edge} {g : Option (Nat × Bool)} {parts : Array (Nat × Operand)} (hP : c.P = PP) (x : Cf) (hx : x.ok) (k : Nat) (b : Bl) (hb : b.h.ok) (s : Value)
    (hps : (parts.toList.map fun (i, x) => (i, ev σ x)) = [(0, ag x.c), (1, .int .i64 k), (2, ag b.c), (3, s)]) (hs : s.cells = [s].toArray := by rfl) :
    Det c σ H K ⟨d, .build T_chain_look parts, t, p, af, g⟩ (ag (lkC x k b s)) := by
  refine bldT (pl := _) (by rw [hP]; exact z_chain_look) (by rw [hP]; exact u_chain_look) (fun w => by rw [hP]; exact run_placesS PP w (by kernel_rfl)) hps ?_
  refine fill_cat (o := 0) (s := 104) (vs := x.c) (by kernel_rfl) rfl rfl (Cf.c_length hx) (Nat.le_of_ble_eq_true (by kernel_rfl)) ?_
  refine fill_cat (o := 104) (s := 1) (vs := [.int .i64 k]) (by kernel_rfl) (Cf.c_length hx) rfl rfl (Nat.le_of_ble_eq_true (by kernel_rfl)) ?_
  refine fill_cat (o := 105) (s := 67) (vs := b.c) (by kernel_rfl) (by rw [List.nil_append, List.length_append, Cf.c_length hx]; rfl) rfl (Bl.c_length hb) (Nat.le_of_ble_eq_true (by kernel_rfl)) ?_
  refine fill_cat (o := 172) (s := 1) (vs := [s]) (by kernel_rfl) (by rw [List.nil_append, List.length_append, List.length_append, Cf.c_length hx, Bl.c_length hb]; rfl) hs rfl (Nat.le_of_ble_eq_true (by kernel_rfl)) ?_
  exact fill_end (by kernel_rfl) (by rw [lkC, List.nil_append, List.append_assoc, List.append_assoc]; rfl)

/-- What is asked of blocks: roots of 32 bytes; not too many transactions, not too long. -/
def Bok (b : Bl) : Prop := b.h.ok ∧ b.t.length ≤ 100000 ∧ ∀ x ∈ b.t, x.length ≤ 100000000

theorem chain_Check_ (c : Cf) (hc : c.ok) (l : List Bl) (hlb : ∀ b ∈ l, Bok b) (hn : l.length ≤ 100000) (A : Option Addr) (cap : Nat) (D : Nat → Prop) (w : World) (hD : ∀ k, D k → k < w.heap.size) (hs : Sl 67 A l.length cap (bl l) D w) (ht : Txs l D w) :
    Calls PP N_chain_Check #[ag c.c, .slice A l.length cap] w (PR w (ag (fltC (chkF c l)))) := by
  refine enter f_chain_Check rfl n_chain_Check rfl (M.init PP w D [] [Sl 67 A l.length cap (bl l), Txs l] ⟨Sl.stable, Txs.stable, trivial⟩ hD ⟨hs, ht, trivial⟩) ?_
  refine seq (region (box rfl rfl rfl fun b0 => alloc z_api_Fault rfl rfl fun b1 => nilS ?_))   -- region 0
  refine seq ?_
  refine block ?_   -- block 0
  refine seq (region (det rfl (mv rfl) (det rfl (lenS u_sl_api_Block rfl) (det rfl (eql rfl rfl) (det rfl (asg rfl) (nilS ?_))))))   -- region 1
  refine cond rfl (fun h => ?_) (fun h => ?_)   -- on t12
  · have h := of_decide_eq_true h
    refine seq (region (det rfl (fltC_fill1 rfl 6 rfl) (stoA 0 rfl rfl rfl s_api_Fault rfl rfl rfl (nilS ?_))))   -- region 2
    rw [show chkF c l = (6, 0) by rw [chkF, if_pos (by omega)]]
    exact ret (retFlt rfl 0 rfl rfl rfl pr)
  · have h1 := of_decide_eq_false h
    refine seq (region (det rfl (mv rfl) (det rfl (lenS u_sl_api_Block rfl) (det rfl (gtr rfl rfl) (det rfl (asg rfl) (nilS ?_))))))   -- region 3
    refine cond rfl (fun h => ?_) (fun h => ?_)   -- on t17
    · have h := of_decide_eq_true h
      refine seq (region (det rfl (fltC_fill rfl (4, 1024) rfl) (stoA 0 rfl rfl rfl s_api_Fault rfl rfl rfl (nilS ?_))))   -- region 4
      rw [show chkF c l = (4, 1024) by rw [chkF, if_neg (by omega), if_pos (by omega)]]
      exact ret (retFlt rfl 0 rfl rfl rfl pr)
    · have h2 := of_decide_eq_false h
      rw [show chkF c l = chkGo c l l.length 0 by rw [chkF, if_neg (by omega), if_neg (by omega)]]
      refine skip ?_
      show Tr _ _ _ _ _ _ _
      refine seq (region (det rfl (asg rfl) (nilS ?_)))   -- region 5
      refine seq ?_
      refine seq (region (det rfl (mv rfl) (det rfl (lenS u_sl_api_Block rfl) (det rfl (mv rfl) (nilS ?_)))))   -- region 6
      refine block ?_   -- block 1
      refine loopV (ι := Nat × Option Addr × Nat) (fun (k, _, _) => k ≤ l.length ∧ chkGo c l l.length 0 = chkGo c l (l.length - k) k) (fun (k, B, q) => [(2, .pointer (some ⟨b0, 0, none⟩)), (4, .pointer (some ⟨b1, 0, none⟩)), (5, .slice B (vecA c.t l k).length q), (22, .slice A l.length cap), (23, .int .i64 l.length), (24, .int .i64 k)]) (fun _ => [.blk b1 (ob (fltC (0, 0)) T_api_Fault), .blk b0 (ob c.c T_api_Config)]) (fun (k, B, q) => [Sl 67 A l.length cap (bl l), Txs l, Sl 32 B (vecA c.t l k).length q (hl (vecA c.t l k))]) (fun (k, _, _) => l.length - k) (0, none, 0) ⟨by omega, rfl⟩ ⟨rfl, rfl, rfl, rfl, rfl, rfl, trivial⟩ (fun w hm => hm.refact ⟨Sl.stable, Txs.stable, Sl.stable, trivial⟩ fun D h => ⟨h.1, h.2.1, Sl.nil, trivial⟩) ?_
      rintro ⟨k, B, q⟩ σ ⟨hk, hck⟩
      dsimp only at hk hck ⊢
      refine seq (region (det rfl (lss rfl rfl) (nilS ?_)))   -- region 7
      refine seq ?_
      refine cond rfl (fun h => ?_) (fun h => ?_)   -- on t25
      · have h := of_decide_eq_true h
        have hk2 : k < l.length := by omega
        have hb0 := hlb _ (List.getElem_mem hk2)
        obtain ⟨b, hbk⟩ : ∃ b, l[k] = b := ⟨_, rfl⟩
        have hgb : l.getD k bl0 = b := by rw [getB hk2, hbk]
        have hbm : b ∈ l := by rw [← hbk]; exact List.getElem_mem hk2
        rw [hbk] at hb0
        obtain ⟨hb, htn, htx⟩ := hb0
        obtain ⟨v, hvk⟩ : ∃ v, vecA c.t l k = v := ⟨_, rfl⟩
        have hvok := vecA_ok c.t l k
        rw [hvk] at hvok ⊢
        refine skipS ?_
        refine seq ?_
        refine block ?_   -- block 2
        refine seq (region (det rfl (mv rfl) (det rfl (ixS 0 rfl rfl u_sl_api_Block s_api_Block rfl (by omega) (by omega)) (det rfl (Det.to (ldSA 0 rfl rfl g_api_Block (bl_at (j := k) (by omega) hk2)) (v' := ag b.c) (by rw [hbk])) (alloc z_api_Block rfl rfl fun b2 => det rfl (asg rfl) (stoA 0 rfl rfl rfl s_api_Block (Bl.c_length hb) (Bl.c_one _) rfl (nilS ?_)))))))   -- region 8
        refine seq (region (det rfl (ldAll 2 rfl rfl g_api_Config (Cf.c_length hc)) (det rfl (mv rfl) (det rfl (ldAll 0 rfl rfl g_api_Block (Bl.c_length hb)) (det rfl (mv rfl) (det rfl (bldLk rfl c hc k b hb _ rfl) (alloc z_chain_look rfl rfl fun b3 => stoA 0 rfl rfl rfl s_chain_look (lkC_length hc hb) lkC_one rfl (nilS ?_))))))))   -- region 9
        refine seq ?_
        have hll := lkC_length (i := k) (v := .slice B v.length q) hc hb
        refine seq (region (det rfl (ldAll 0 rfl rfl g_chain_look hll) (det rfl (mkF rfl rfl) (det rfl (ldAll 0 rfl rfl g_chain_look hll) (det rfl (mkF rfl rfl) (det rfl (ldAll 0 rfl rfl g_chain_look hll) (det rfl (mkF rfl rfl) (bsl rfl (bsm u_sl_fn__to_api_Errno z_fn__to_api_Errno s_fn__to_api_Errno (xs := fnV (lkC c k b (.slice B v.length q))) rfl rfl rfl (by decide) (by decide)) fun b4 => det rfl (lenS u_sl_fn__to_api_Errno rfl) (det rfl (mv rfl) (nilS ?_))))))))))   -- region 10
        refine block ?_   -- block 3
        refine loopV (ι := Nat) (fun j => j ≤ 3 ∧ ∀ i < j, askF c k b v i = 0) (fun j => [(2, .pointer (some ⟨b0, 0, none⟩)), (4, .pointer (some ⟨b1, 0, none⟩)), (5, .slice B v.length q), (6, .int .i64 k), (7, .pointer (some ⟨b2, 0, none⟩)), (22, .slice A l.length cap), (23, .int .i64 l.length), (24, .int .i64 k), (40, .slice (some ⟨b4, 0, none⟩) 3 3), (41, .int .i64 3), (42, .int .i64 j)]) (fun _ => [.blk b4 (ob (fnV (lkC c k b (.slice B v.length q))) T_fn__to_api_Errno), .blk b3 (ob (lkC c k b (.slice B v.length q)) T_chain_look), .blk b2 (ob b.c T_api_Block), .blk b1 (ob (fltC (0, 0)) T_api_Fault), .blk b0 (ob c.c T_api_Config)]) (fun _ => [Sl 67 A l.length cap (bl l), Txs l, Sl 32 B v.length q (hl v)]) (fun j => 3 - j) 0 ⟨by omega, fun i hi => by omega⟩ ⟨rfl, rfl, rfl, rfl, rfl, rfl, rfl, rfl, rfl, rfl, rfl, trivial⟩ (fun w hm => hm) ?_
        rintro j σ ⟨hj, hj0⟩
        refine seq (region (det rfl (lss rfl rfl) (nilS ?_)))   -- region 11
        refine seq ?_
        refine cond rfl (fun h => ?_) (fun h => ?_)   -- on t43
        · have h := of_decide_eq_true h
          have hj3 : j < 3 := by omega
          refine skipS ?_
          refine seq ?_
          refine block ?_   -- block 4
          refine seq (region (det rfl (ixB rfl rfl u_sl_fn__to_api_Errno s_fn__to_api_Errno (by omega) (by omega)) (det rfl (ldB 0 rfl rfl o_fn__to_api_Errno (fnV_at (j := j) (by omega) hj3)) (det rfl (asg rfl) (nilS ?_)))))   -- region 12
          refine seq (region (det rfl (mv rfl) (callM (ask_fn j hj3) rfl rfl rfl (fun w hm => by
            obtain ⟨D, d1, d2, hD, d4, d5⟩ := hm.data
            exact ask_ j hj3 c hc k (by omega) b hb v (by omega) hvok.2 htn htx B q D w hD d5.2.2.1 (d5.2.1 b hbm)) (det rfl (asg rfl) (nilS ?_)))))   -- region 13
          refine seq (region (det rfl (mv rfl) (det rfl (neq rfl rfl) (nilS ?_))))   -- region 14
          refine cond rfl (fun h => ?_) (fun h => ?_)   -- on t49
          · have h : askF c k b v j ≠ 0 := by simpa using h
            refine seq (region (det rfl (mv rfl) (det rfl (mv rfl) (det rfl (fltC_fill rfl (askF c k b v j, (k : Int)) rfl) (stoA 3 rfl rfl rfl s_api_Fault rfl rfl rfl (nilS ?_))))))   -- region 15
            have e : chkGo c l l.length 0 = (askF c k b v j, (k : Int)) := by
              rw [hck, show l.length - k = (l.length - k - 1) + 1 by omega, chkGo]
              have := ask3_of c l k j hj3 (by rw [hgb, hvk]; exact hj0) (by rw [hgb, hvk]; exact h)
              rw [hgb, hvk] at this
              rw [this, if_pos h]
            rw [e]
            exact ret (retFlt rfl 3 rfl rfl rfl pr)
          · have h : askF c k b v j = 0 := by simpa using h
            refine skip ?_
            show Tr _ _ _ _ _ _ _
            refine region (det rfl (addI rfl rfl (by omega) (by omega)) (det rfl (mv rfl) (nil ?_)))   -- region 16
            refine again (j + 1) ⟨by omega, fun i hi => ?_⟩ ⟨rfl, rfl, rfl, rfl, rfl, rfl, rfl, rfl, rfl, rfl, rfl, trivial⟩ (fun w hm => hm) (by (first | omega | (dsimp only; omega)))
            by_cases e : i = j
            · rw [e]; exact h
            · exact hj0 i (by omega)
        · have h := of_decide_eq_false h
          have hj3 : j = 3 := by omega
          subst hj3
          refine exit ?_   -- 3
          show Tr _ _ _ _ _ _ _
          refine region (det rfl (fadr rfl u_api_Config rfl s_api_Hash) (det rfl (ldA 4 rfl rfl g_api_Hash (Cf.at_t' hc) (by rw [b8_length]; exact hc.2)) (det rfl (mv rfl) (det rfl (ldAll 2 rfl rfl g_api_Block (Bl.c_length hb)) (det rfl (mv rfl) (callS k_chain_behind rfl rfl (fun w hm => by
            obtain ⟨D, hD, hs⟩ := hm.sl (k := 2) rfl
            exact chain_behind_ c.t hc.2 v (by omega) hvok.2 b hb k B q D w hD hs) fun B' q' => (det rfl (asg rfl) (nil ?_))))))))   -- region 17
          show Tr _ _ _ _ _ _ _
          refine region (det rfl (addI rfl rfl (by omega) (by omega)) (det rfl (mv rfl) (nil ?_)))   -- region 18
          have ev1 : vecA c.t l (k + 1) = behindS c.t v b k := by rw [vecA, hgb, hvk]
          refine again (k + 1, B', q') ⟨by (first | omega | (dsimp only; omega)), ?_⟩ ⟨rfl, rfl, by dsimp only; rw [ev1]; exact congrArg (fun n => Value.slice B' n q') (hl_length _), rfl, rfl, rfl, trivial⟩ (fun w hm => ?_) (by (first | omega | (dsimp only; omega)))
          · dsimp only
            rw [hck, show l.length - k = (l.length - k - 1) + 1 by omega, chkGo, if_neg (fun x => x (ask3_zero c l k (by rw [hgb, hvk]; exact hj0))), show l.length - k - 1 = l.length - (k + 1) by omega]
          · dsimp only
            refine M.refact (drop1 (drop1 (drop1 hm))) ⟨Sl.stable, Txs.stable, Sl.stable, trivial⟩ fun D h => ⟨h.2.1, h.2.2.1, ?_, trivial⟩
            have := h.1
            rw [hl_length] at this
            rw [ev1]; exact this
      · have h := of_decide_eq_false h
        refine exit ?_   -- 1
        show Tr _ _ _ _ _ _ _
        refine seq (region (det rfl (bldZ z_api_Fault u_api_Fault (fun w => run_placesS PP w (by kernel_rfl))) (stoA 0 rfl rfl rfl s_api_Fault rfl rfl rfl (nilS ?_))))   -- region 19
        rw [hck, show l.length - k = 0 by omega]
        exact ret (retFlt (x := (0, 0)) rfl 0 rfl rfl rfl pr)
end Go.Proofs.YtmcapgjdflohfaaGreat.L
