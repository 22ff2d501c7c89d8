/- Packages head, ident, wide, work: the walks. -/
import Derived.Test.YtmcapgjdflohfaaGreatHash
set_option linter.all false
namespace Go.Proofs.YtmcapgjdflohfaaGreat.L
open Go Go.RowKit
set_option linter.unusedVariables false

/-- A header. -/
structure Hd where
  h : Int
  l : List UInt8
  t : List UInt8
  n : Int
  deriving DecidableEq
/-- Its roots have 32 bytes each. -/
def Hd.ok (x : Hd) : Prop := x.l.length = 32 ∧ x.t.length = 32
def Hd.c (x : Hd) : List Value := .int .u32 x.h :: (b8 x.l ++ (b8 x.t ++ [.int .u64 x.n]))
def headB (x : Hd) : List UInt8 := putL (IntKind.u64.wrap x.h) 4 ++ x.l ++ x.t ++ putL x.n 8
def idL (x : Hd) : List UInt8 := headS (headB x)
theorem idL_length (x : Hd) : (idL x).length = 32 := sha_length _
theorem Hd.c_length {x : Hd} (hx : x.ok) : x.c.length = 66 := by simp [Hd.c, b8_length, hx.1, hx.2]
theorem Hd.c_one (x : Hd) : one x.c = true := by
  rw [Hd.c, show ∀ (v : Value) l, one (v :: l) = (v.oneCell' && one l) from fun _ _ => rfl, one_append, one_append, b8_one, b8_one]; rfl
theorem Hd.at_l {x : Hd} (hx : x.ok) : (x.c.drop (0 + 1)).take 32 = b8 x.l := by
  rw [Hd.c, Nat.zero_add, List.drop_succ_cons, List.drop_zero, List.take_append_of_le_length (by rw [b8_length, hx.1]; decide), List.take_of_length_le (by rw [b8_length, hx.1]; decide)]
theorem Hd.at_t {x : Hd} (hx : x.ok) : (x.c.drop (0 + 33)).take 32 = b8 x.t := by
  rw [Hd.c, Nat.zero_add, show (33 : Nat) = 32 + 1 from rfl, List.drop_succ_cons, List.drop_append, List.drop_of_length_le (by rw [b8_length, hx.1]; decide), b8_length, hx.1, List.nil_append, Nat.sub_self, List.drop_zero, List.take_append_of_le_length (by rw [b8_length, hx.2]; decide), List.take_of_length_le (by rw [b8_length, hx.2]; decide)]
theorem Hd.at_n {x : Hd} (hx : x.ok) : x.c[0 + 65]? = some (.int .u64 x.n) := by
  rw [Hd.c, Nat.zero_add, show (65 : Nat) = 64 + 1 from rfl, List.getElem?_cons_succ, List.getElem?_append_right (by rw [b8_length, hx.1]; decide), b8_length, hx.1, List.getElem?_append_right (by rw [b8_length, hx.2]; decide), b8_length, hx.2]; rfl

theorem head_Bytes_ (x : Hd) (hx : x.ok) : Pure PP N_head_Bytes #[ag x.c] (.string (bs (headB x))) := by
  have h1 := hx.1; have h2 := hx.2
  refine enter0 f_head_Bytes rfl n_head_Bytes rfl fun w => ?_
  refine seq (region (box rfl rfl rfl fun b0 => det rfl (asg rfl) (nilS ?_)))   -- region 0
  refine seq (draw (m := 16) mix (by kernel_rfl) (take 0 rfl (by kernel_rfl) rfl (fadr rfl u_api_Header rfl s_uint32) (take 1 rfl (by kernel_rfl) rfl (ldB 0 rfl rfl o_uint32 rfl) (take 3 rfl (by kernel_rfl) rfl (fadr rfl u_api_Header rfl s_api_Hash) (take 4 rfl (by kernel_rfl) rfl (arrS u_api_Hash s_uint8 rfl) (take 5 rfl (by kernel_rfl) rfl (strB 0 (r := x.l) u_sl_uint8 u_uint8 u_string rfl rfl (Hd.at_l hx) h1) (take 7 rfl (by kernel_rfl) rfl (fadr rfl u_api_Header rfl s_api_Hash) (take 8 rfl (by kernel_rfl) rfl (arrS u_api_Hash s_uint8 rfl) (take 9 rfl (by kernel_rfl) rfl (strB 0 (r := x.t) u_sl_uint8 u_uint8 u_string rfl rfl (Hd.at_t hx) h2) (take 11 rfl (by kernel_rfl) rfl (fadr rfl u_api_Header rfl s_uint64) (take 12 rfl (by kernel_rfl) rfl (ldB 0 rfl rfl o_uint64 (Hd.at_n hx)) (only 2 rfl (by kernel_rfl) rfl k_word_Put32 rfl rfl (fun w _ => word_Put32_ _ w) (take 6 rfl (by kernel_rfl) rfl (tadd rfl rfl (by rw [putL_length]; omega)) (take 10 rfl (by kernel_rfl) rfl (tadd rfl rfl (by rw [List.length_append, putL_length]; omega)) (only 13 rfl (by kernel_rfl) rfl k_word_Put64 rfl rfl (fun w _ => word_Put64_ _ w) (take 14 rfl (by kernel_rfl) rfl (tadd rfl rfl (by rw [List.length_append, List.length_append, putL_length, putL_length]; omega)) (take 15 rfl (by kernel_rfl) rfl (asg rfl) ((tail (by kernel_rfl) rfl (nilS ?_))))))))))))))))))))   -- region 1
  exact ret (retT rfl rfl pr)
theorem headB_length {x : Hd} (hx : x.ok) : (headB x).length = 76 := by simp [headB, putL_length, hx.1, hx.2]
theorem ident_Id_ (x : Hd) (hx : x.ok) : Pure PP N_ident_Id #[ag x.c] (ag (b8 (idL x))) := by
  refine enter0 f_ident_Id rfl n_ident_Id rfl fun w => ?_
  refine seq (region (box rfl rfl rfl fun b0 => alloc z_api_Hash rfl rfl fun b1 => nilS ?_))   -- region 0
  refine seq (region (det rfl (ldAll 1 rfl rfl g_api_Header (Hd.c_length hx)) (call k_head_Bytes rfl rfl (fun w _ => head_Bytes_ x hx w) (call k_tag_HeaderSum rfl rfl (fun w _ => tag_HeaderSum_ _ (by rw [headB_length hx]; decide) w) (stoA 0 rfl rfl rfl s_api_Hash (by rw [b8_length]; exact sha_length _) (b8_one _) rfl (nilS ?_))))))   -- region 1
  exact ret (retH rfl (sha_length _) 0 rfl rfl rfl pr)

/-! ### wide -/
def w64 (l : List Int) : List Value := l.map fun x => .int .u64 x
theorem w64_length (l : List Int) : (w64 l).length = l.length := by simp [w64]
theorem w64_one (l : List Int) : one (w64 l) = true := by
  rw [one, List.all_eq_true]; intro v hv
  obtain ⟨x, _, rfl⟩ := List.mem_map.1 hv; rfl
theorem w64_at {l : List Int} {o j : Nat} (ho : o = j) (h : j < l.length) : (w64 l)[o]? = some (.int .u64 (l.getD j 0)) := by
  subst ho; simp [w64, h]
theorem w64_set {l : List Int} {j : Nat} {x : Int} : (w64 l).set j (.int .u64 x) = w64 (l.set j x) := by
  simp [w64, List.map_set]
theorem retN {fn : Func} {c : Cx} {n : Nat} {σ : Env} {H : List Res} {K : List Fact} {R : Ending → World → Prop} {s : Nat} {b : Nat} {e : TypeId} {l : List Int} (hc : c.P = PP) (hl : l.length = 4) (i : Nat) (hr : fn.results = #[.cell s T_wide_N]) (hv : σ s = .pointer (some ⟨b, 0, none⟩)) (hi : H[i]? = some (.blk b (ob (w64 l) e)))
    (h : ∀ w, M c H K w → R (.returned (ag (w64 l))) w) : ∀ w, M c H K w → post c.P fn n R .ret σ w :=
  retC i hr hv hi (by rw [w64_length, hl, hc]; exact g_wide_N) h

def ofN (b : List UInt8) : Nat → List Int
  | 0 => [0, 0, 0, 0]
  | k + 1 => (ofN b k).set (3 - k) (takeN b (8 * (k : Int)) 8)
theorem ofN_length (b : List UInt8) (k : Nat) : (ofN b k).length = 4 := by
  induction k with
  | zero => rfl
  | succ k ih => simp only [ofN, List.length_set, ih]
theorem wide_Of_ (b : List UInt8) (hb : b.length = 32) : Pure PP N_wide_Of #[ag (b8 b)] (ag (w64 (ofN b 4))) := by
  refine enter0 f_wide_Of rfl n_wide_Of rfl fun w => ?_
  refine seq (region (box rfl rfl rfl fun b0 => alloc z_wide_N rfl rfl fun b1 => nilS ?_))   -- region 0
  refine seq (region (alloc z_wide_N rfl rfl fun b2 => nilS ?_))   -- region 1
  refine seq ?_
  refine seq (region (det rfl (mv rfl) (nilS ?_)))   -- region 2
  refine block ?_   -- block 0
  refine loopV (ι := Nat) (fun k => k ≤ 4) (fun k => [(1, .pointer (some ⟨b0, 0, none⟩)), (2, .pointer (some ⟨b1, 0, none⟩)), (3, .pointer (some ⟨b2, 0, none⟩)), (5, .int .i64 k)]) (fun k => [.blk b2 (ob (w64 (ofN b k)) T_wide_N), .blk b1 (ob (w64 (ofN b 0)) T_wide_N), .blk b0 (ob (b8 b) T_api_Hash)]) (fun _ => []) (fun k => 4 - k) 0 (by omega) ⟨rfl, rfl, rfl, rfl, trivial⟩ (fun w hm => hm) ?_
  intro k σ hk
  have hl := ofN_length b k
  refine seq (region (det rfl (lss rfl rfl) (nilS ?_)))   -- region 3
  refine seq ?_
  refine cond rfl (fun h => ?_) (fun h => ?_)   -- on t6
  · have h := of_decide_eq_true h
    refine skipS ?_
    refine seq ?_
    refine block ?_   -- block 1
    refine seq (region (det rfl (mv rfl) (det rfl (asg rfl) (nilS ?_))))   -- region 4
    refine region (det rfl (mv rfl) (det rfl (subI rfl rfl (by omega) (by omega)) (det rfl (arrS u_api_Hash s_uint8 rfl) (det rfl (strB 2 (r := b) u_sl_uint8 u_uint8 u_string rfl rfl (whole8 hb) hb) (det rfl (mv rfl) (det rfl (mulI rfl rfl (by omega) (by omega)) (call k_word_Take64 rfl rfl (fun w _ => word_Take64_ b _ (by omega) (by omega) (by omega) w) (det rfl (iadr rfl rfl u_wide_N s_uint64 (by omega) (by omega)) (sto1 0 (3 - k) rfl rfl rfl s_uint64 rfl (by omega) (by rw [w64_length]; omega) w64_set (nil ?_))))))))))   -- region 5
    show Tr _ _ _ _ _ _ _
    refine region (det rfl (addI rfl rfl (by omega) (by omega)) (det rfl (mv rfl) (nil ?_)))   -- region 6
    exact again (k + 1) (by omega) ⟨rfl, rfl, rfl, rfl, trivial⟩ (fun w hm => hm) (by (first | omega | (dsimp only; omega)))
  · have h := of_decide_eq_false h
    have e : k = 4 := by omega
    subst e
    refine exit ?_   -- 0
    show Tr _ _ _ _ _ _ _
    refine seq (region (det rfl (ldAll 0 rfl rfl g_wide_N (by rw [w64_length, hl])) (stoA 1 rfl rfl rfl s_wide_N (by rw [w64_length, hl]) (w64_one _) rfl (nilS ?_))))   -- region 7
    exact ret (retN rfl hl 1 rfl rfl rfl pr)

/-- Which is the greater, the lowest `r` limbs. -/
def cmpN (x y : List Int) : Nat → Int
  | 0 => 0
  | r + 1 => if x.getD r 0 < y.getD r 0 then -1 else if y.getD r 0 < x.getD r 0 then 1 else cmpN x y r
theorem cmpN_range (x y : List Int) (r : Nat) : -1 ≤ cmpN x y r ∧ cmpN x y r ≤ 1 := by
  induction r with
  | zero => simp [cmpN]
  | succ r ih => simp only [cmpN]; split; omega; split <;> omega
end Go.Proofs.YtmcapgjdflohfaaGreat.L
