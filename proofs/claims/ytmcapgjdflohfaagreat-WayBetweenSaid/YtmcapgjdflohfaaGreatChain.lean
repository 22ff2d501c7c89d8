/- Package chain: id, Ids, Levels. -/
import Derived.Test.YtmcapgjdflohfaaGreatRoot
set_option linter.all false
namespace Go.Proofs.YtmcapgjdflohfaaGreat.L
open Go Go.RowKit
set_option linter.unusedVariables false

/-- A block: its header, and its transactions' slice. -/
structure Bl where
  h : Hd
  A : Option Addr
  cap : Nat
  t : List (List UInt8)
def Bl.s (b : Bl) : Value := .slice b.A b.t.length b.cap
def Bl.c (b : Bl) : List Value := b.h.c ++ [b.s]
theorem Bl.c_length {b : Bl} (hb : b.h.ok) : b.c.length = 67 := by rw [Bl.c, List.length_append, Hd.c_length hb]; rfl
theorem Bl.c_one (b : Bl) : one b.c = true := by rw [Bl.c, one_append, Hd.c_one]; rfl
theorem Bl.at_h {b : Bl} (hb : b.h.ok) : (b.c.drop (0 + 0)).take 66 = b.h.c := by
  rw [Nat.add_zero, List.drop_zero, Bl.c, List.take_append_of_le_length (by rw [Hd.c_length hb]; decide), List.take_of_length_le (by rw [Hd.c_length hb]; decide)]
theorem Bl.at_s {b : Bl} (hb : b.h.ok) : b.c[0 + 66]? = some b.s := by
  rw [Nat.zero_add, Bl.c, List.getElem?_append_right (by rw [Hd.c_length hb]; decide), Hd.c_length hb]; rfl
def bl (l : List Bl) : List (List Value) := l.map Bl.c
theorem bl_at {l : List Bl} {o j : Nat} (ho : o = j) (h : j < l.length) : (bl l)[o]? = some (l[j]).c := by
  subst ho; simp [bl, h]

theorem chain_id_ (b : Bl) (hb : b.h.ok) : Pure PP N_chain_id #[ag b.c] (ag (b8 (idL b.h))) := by
  refine enter0 f_chain_id rfl n_chain_id rfl fun w => ?_
  refine seq (region (box rfl rfl rfl fun b0 => alloc z_api_Hash rfl rfl fun b1 => nilS ?_))   -- region 0
  refine seq (region (det rfl (fadr rfl u_api_Block rfl s_api_Header) (det rfl (ldA 1 rfl rfl g_api_Header (Bl.at_h hb) (Hd.c_length hb)) (call k_ident_Id rfl rfl (fun w _ => ident_Id_ _ hb w) (stoA 0 rfl rfl rfl s_api_Hash (by rw [b8_length, idL_length]) (b8_one _) rfl (nilS ?_))))))   -- region 1
  exact ret (retH rfl (idL_length _) 0 rfl rfl rfl pr)

/-- Whole numbers as a slice's elements. -/
def il (xs : List Int) : List (List Value) := xs.map fun x => [.int .i64 x]
theorem il_length (xs : List Int) : (il xs).length = xs.length := by simp [il]
theorem il_ok (xs : List Int) : ∀ l ∈ il xs, l.length = 1 ∧ one l = true := by
  intro l h; obtain ⟨x, _, rfl⟩ := List.mem_map.1 h; exact ⟨rfl, rfl⟩
theorem il_at {xs : List Int} {o j : Nat} (ho : o = j) (h : j < xs.length) : (il xs)[o]? = some [.int .i64 (xs.getD j 0)] := by
  subst ho; simp [il, h]
theorem il_app (a : List Int) (b : Int) : (il (a ++ [b])).flatten = (il a).flatten ++ [.int .i64 b] := by simp [il]

def levF1 (t : List UInt8) (i : Nat) (b : Bl) : Int := if i = 0 then 256 else levW (idL b.h) t
def levs (t : List UInt8) (l : List Bl) : List Int := l.mapIdx (levF1 t)
theorem levs_length (t : List UInt8) (l : List Bl) : (levs t l).length = l.length := by simp [levs]
theorem levs_take (t : List UInt8) (l : List Bl) (k : Nat) (hk : k < l.length) : levs t (l.take (k + 1)) = levs t (l.take k) ++ [levF1 t k l[k]] := by
  rw [levs, List.take_succ_eq_append_getElem hk, List.mapIdx_append, levs]
  congr 1
  simp [show min k l.length = k by omega]

theorem chain_Levels_ (t : List UInt8) (ht : t.length = 32) (l : List Bl) (hn : l.length ≤ 100000) (hx : ∀ b ∈ l, b.h.ok) (A : Option Addr) (cap : Nat) (D : Nat → Prop) (w : World) (hD : ∀ k, D k → k < w.heap.size) (hs : Sl 67 A l.length cap (bl l) D w) :
    Calls PP N_chain_Levels #[ag (b8 t), .slice A l.length cap] w (RS w 1 (il (levs t l))) := by
  refine enter f_chain_Levels rfl n_chain_Levels rfl (M.init1 PP w Sl.stable hD hs) ?_
  refine seq (region (box rfl rfl rfl fun b0 => det rfl (asg rfl) (nilS ?_)))   -- region 0
  refine seq (region (det rfl (asg rfl) (nilS ?_)))   -- region 1
  refine seq ?_
  refine seq (region (det rfl (mv rfl) (det rfl (lenS u_sl_api_Block rfl) (det rfl (mv rfl) (nilS ?_)))))   -- region 2
  refine block ?_   -- block 0
  refine loopV (ι := Nat × Option Addr × Nat) (fun (k, _, _) => k ≤ l.length) (fun (k, B, q) => [(2, .pointer (some ⟨b0, 0, none⟩)), (5, .slice B k q), (9, .slice A l.length cap), (10, .int .i64 l.length), (11, .int .i64 k)]) (fun (k, B, q) => [.row (.slice B k q) T_int 1 k (il (levs t (l.take k))).flatten, .blk b0 (ob (b8 t) T_api_Hash)]) (fun _ => [Sl 67 A l.length cap (bl l)]) (fun (k, _, _) => l.length - k) (0, none, 0) (by omega) ⟨rfl, rfl, rfl, rfl, rfl, trivial⟩ (fun w hm => hm.nilRow _ _) ?_
  rintro ⟨k, B, q⟩ σ hk
  dsimp only at hk ⊢
  refine seq (region (det rfl (lss rfl rfl) (nilS ?_)))   -- region 3
  refine seq ?_
  refine cond rfl (fun h => ?_) (fun h => ?_)   -- on t12
  · have h := of_decide_eq_true h
    have hk2 : k < l.length := by omega
    have hok : (l[k]).h.ok := hx _ (List.getElem_mem hk2)
    refine skipS ?_
    refine seq ?_
    refine block ?_   -- block 1
    refine seq (region (det rfl (mv rfl) (det rfl (ixS 0 rfl rfl u_sl_api_Block s_api_Block rfl (by omega) (by omega)) (det rfl (ldSA 0 rfl rfl g_api_Block (bl_at (j := k) (by omega) hk2)) (alloc z_api_Block rfl rfl fun b1 => det rfl (asg rfl) (stoA 0 rfl rfl rfl s_api_Block (Bl.c_length hok) (Bl.c_one _) rfl (nilS ?_)))))))   -- region 4
    refine seq (draw (m := 5) mix (by kernel_rfl) (take 0 rfl (by kernel_rfl) rfl (ldAll 0 rfl rfl g_api_Block (Bl.c_length hok)) (take 2 rfl (by kernel_rfl) rfl (ldAll 2 rfl rfl g_api_Hash (by rw [b8_length, ht])) (only 1 rfl (by kernel_rfl) rfl k_chain_id rfl rfl (fun w _ => chain_id_ _ hok w) (only 3 rfl (by kernel_rfl) rfl k_work_Level rfl rfl (fun w _ => work_Level_ _ t (idL_length _) ht w) (take 4 rfl (by kernel_rfl) rfl (asg rfl) ((tail (by kernel_rfl) rfl (nilS ?_)))))))))   -- region 5
    refine cutV (ι := Unit) (fun _ => True) (fun _ => [(2, .pointer (some ⟨b0, 0, none⟩)), (5, .slice B k q), (8, .int .i64 (levF1 t k l[k])), (9, .slice A l.length cap), (10, .int .i64 l.length), (11, .int .i64 k)]) (fun _ => [.row (.slice B k q) T_int 1 k (il (levs t (l.take k))).flatten, .blk b0 (ob (b8 t) T_api_Hash)]) (fun _ => [Sl 67 A l.length cap (bl l)]) ?_ ?_
    · refine seq (region (det rfl (mv rfl) (det rfl (eql rfl rfl) (nilS ?_))))   -- region 6
      refine cond rfl (fun h => ?_) (fun h => ?_)   -- on t21
      · have h := of_decide_eq_true h
        refine region (det rfl (asg rfl) (nil ?_))   -- region 7
        exact meets () trivial ⟨rfl, rfl, vi (by rw [levF1, if_pos (by omega)]), rfl, rfl, rfl, trivial⟩ (fun w hm => drop1 hm)
      · have h := of_decide_eq_false h
        refine skip ?_
        exact meets () trivial ⟨rfl, rfl, vi (by rw [levF1, if_neg (by omega)]), rfl, rfl, rfl, trivial⟩ (fun w hm => drop1 hm)
    · intro _ σ _
      refine region (det rfl (mv rfl) (det rfl (mv rfl) (bsl rfl (bs1 u_sl_int z_int s_int (cs := [.int .i64 (levF1 t k l[k])]) rfl rfl rfl (by decide) (by decide)) fun b2 => appB 1 0 u_sl_int i_int rfl (by decide) rfl rfl rfl rfl rfl rfl (by simp only [maxLen]; omega) (by omega) rfl fun A cap => det rfl (asg rfl) (nil ?_))))   -- region 8
      show Tr _ _ _ _ _ _ _
      refine region (det rfl (addI rfl rfl (by omega) (by omega)) (det rfl (mv rfl) (nil ?_)))   -- region 9
      refine again (k + 1, _, _) (by (first | omega | (dsimp only; omega))) ⟨rfl, rfl, rfl, rfl, rfl, trivial⟩ (fun w hm => ?_) (by (first | omega | (dsimp only; omega)))
      dsimp only
      rw [levs_take t l k hk2, il_app]
      exact drop1 hm
  · have h := of_decide_eq_false h
    have e : k = l.length := by omega
    subst e
    refine exit ?_   -- 0
    show Tr _ _ _ _ _ _ _
    rw [List.take_length]
    refine seq (region (det rfl (mv rfl) (det rfl (asg rfl) (nilS ?_))))   -- region 10
    exact ret (retRow (i := 0) rfl rfl rfl rfl (by rw [il_length, levs_length]) (il_ok _))
end Go.Proofs.YtmcapgjdflohfaaGreat.L
