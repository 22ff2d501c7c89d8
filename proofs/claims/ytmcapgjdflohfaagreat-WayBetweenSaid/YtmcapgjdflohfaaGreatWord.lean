/- Package word: what its functions compute. -/
import Derived.Test.YtmcapgjdflohfaaGreatTypes
import Derived.Test.YtmcapgjdflohfaaGreatMore
set_option linter.all false
namespace Go.Proofs.YtmcapgjdflohfaaGreat.L
open Go Go.RowKit
set_option linter.unusedVariables false

/-- Guarded operations whose base is false: passed over. -/

theorem wrap_u8_range (x : Int) : 0 ≤ IntKind.u8.wrap x ∧ IntKind.u8.wrap x < 256 := by
  simp [IntKind.wrap, IntKind.signed, IntKind.bits]
  omega
/-- The byte that a number's conversion makes. -/
def byteOf (x : Int) : UInt8 := UInt8.ofNat (IntKind.u8.wrap x).toNat
theorem byteOf_toNat (x : Int) : ((byteOf x).toNat : Int) = IntKind.u8.wrap x := by
  have := wrap_u8_range x
  simp only [byteOf, UInt8.toNat_ofNat']
  omega
theorem wrap_u64_byte (x : UInt8) : IntKind.u64.wrap (x.toNat : Int) = x.toNat := by
  have := x.toNat_lt
  simp [IntKind.wrap, IntKind.signed, IntKind.bits]
  omega

/-- put: the number's lowest bytes, the highest ahead. -/
def putL (x : Int) : Nat → List UInt8
  | 0 => []
  | k + 1 => putL (bshr .u64 x 8) k ++ [byteOf x]
theorem putL_length (x : Int) (k : Nat) : (putL x k).length = k := by
  induction k generalizing x with
  | zero => rfl
  | succ k ih => simp [putL, ih]

/-- take: so many bytes from a place on, as a number; a byte that is not there counts as 0. -/
def takeN (b : List UInt8) (a : Int) : Nat → Int
  | 0 => 0
  | i + 1 => if 0 ≤ a ∧ a < b.length ∧ (i : Int) < b.length - a then bor .u64 (bshl .u64 (takeN b a i) 8) (b.getD (a + i).toNat 0).toNat else bshl .u64 (takeN b a i) 8

theorem rep_set {z y : Value} (k : Nat) (r : List Value) : (List.replicate (k + 1) z ++ r).take k ++ [y] ++ (List.replicate (k + 1) z ++ r).drop (k + 1) = List.replicate k z ++ (y :: r) := by
  rw [List.take_append_of_le_length (by simp), List.drop_append_of_le_length (by simp)]
  simp

theorem word_put_ (x : Int) (m : Nat) (hm : m ≤ 1000000) : Pure PP N_word_put #[.int .u64 x, .int .i64 m] (.string (bs (putL x m))) := by
  refine enter0 f_word_put rfl n_word_put rfl fun w => ?_
  refine seq (region (det rfl (asg rfl) (nilS ?_)))   -- region 0
  refine seq (region (det rfl (mv rfl) (mks u_sl_uint8 i_uint8 rfl rfl rfl rfl rfl (by omega) (by omega) rfl fun b0 => det rfl (asg rfl) (nilS ?_))))   -- region 1
  refine seq ?_
  refine seq (region (det rfl (mv rfl) (det rfl (mv rfl) (nilS ?_))))   -- region 2
  refine block ?_   -- block 0
  refine loopV (ι := Nat × Int × List UInt8) (fun (k, y, r) => k ≤ m ∧ r.length = k ∧ putL y (m - k) ++ r = putL x m) (fun (k, y, r) => [(0, .int .u64 y), (1, .int .i64 m), (5, .slice (some ⟨b0, 0, none⟩) m m), (9, .int .i64 m), (10, .int .i64 k)])
    (fun (k, y, r) => [.blk b0 (ob (List.replicate (m - k) (.int .u8 0) ++ b8 r) T_uint8)]) (fun _ => []) (fun (k, y, r) => m - k) (0, x, []) ⟨by omega, rfl, by simp⟩ ⟨rfl, rfl, rfl, rfl, rfl, trivial⟩ (fun w hm => by simpa [b8] using hm) ?_
  rintro ⟨k, y, r⟩ σ ⟨hk, hr, hp⟩
  dsimp only
  refine seq (region (det rfl (lss rfl rfl) (nilS ?_)))   -- region 3
  refine seq ?_
  refine cond rfl (fun h => ?_) (fun h => ?_)   -- on t11
  · have h := of_decide_eq_true h
    obtain ⟨q, hq⟩ : ∃ q, m - k = q + 1 := ⟨m - k - 1, by omega⟩
    rw [hq]
    have e : ((m : Int) - 1 - k).toNat * 1 = q := by omega
    refine skipS ?_
    refine seq ?_
    refine block ?_   -- block 1
    refine seq (region (det rfl (mv rfl) (det rfl (asg rfl) (nilS ?_))))   -- region 4
    refine seq (region (det rfl (mv rfl) (det rfl (mv rfl) (det rfl (subI rfl rfl (by omega) (by omega)) (det rfl (mv rfl) (det rfl (subI rfl rfl (by omega) (by omega)) (det rfl (mv rfl) (det rfl (conv u_uint64 u_uint8 rfl) (det rfl (ixB rfl rfl u_sl_uint8 s_uint8 (by omega) (by omega)) (sto 0 (vs := [.int .u8 (byteOf y).toNat]) rfl (vi (byteOf_toNat y).symm) rfl rfl s_uint8 rfl (by simp; omega) (rs := List.replicate q (.int .u8 0) ++ b8 (byteOf y :: r)) (by rw [Nat.zero_add, e]; exact rep_set q (b8 r)) (nilS ?_)))))))))))   -- region 5
    refine region (det rfl (mv rfl) (det rfl (shr rfl rfl (by decide)) (det rfl (asg rfl) (nil ?_))))   -- region 6
    show Tr _ _ _ _ _ _ _
    refine region (det rfl (addI rfl rfl (by omega) (by omega)) (det rfl (mv rfl) (nil ?_)))   -- region 7
    refine again (k + 1, bshr .u64 y 8, byteOf y :: r) ⟨by omega, by simp [hr], ?_⟩ ⟨rfl, rfl, rfl, rfl, rfl, trivial⟩ (fun w hm => ?_) (by (first | omega | (dsimp only; omega)))
    · rw [← hp, hq, putL, show m - (k + 1) = q by omega]; simp
    · dsimp only; rw [show m - (k + 1) = q by omega]; exact hm
  · have h := of_decide_eq_false h
    have e : m - k = 0 := by omega
    rw [e] at hp ⊢
    refine exit ?_   -- 0
    show Tr _ _ _ _ _ _ _
    refine seq (region (det rfl (mv rfl) (det rfl (strB 0 (r := r) (len := m) u_sl_uint8 u_uint8 u_string rfl rfl (by rw [List.replicate_zero, List.nil_append, List.drop_zero, List.take_of_length_le (by rw [b8_length]; omega)]) (by omega)) (det rfl (asg rfl) (nilS ?_)))))   -- region 8
    exact ret (retT rfl rfl (pr' (by rw [← hp]; rfl)))

theorem word_take_ (b : List UInt8) (a : Int) (m : Nat) (hm : m ≤ 1000000) (hb : b.length ≤ 1000000000000) (ha : -1000000000000 ≤ a) (ha2 : a ≤ 1000000000000) : Pure PP N_word_take #[.string (bs b), .int .i64 a, .int .i64 m] (.int .u64 (takeN b a m)) := by
  refine enter0 f_word_take rfl n_word_take rfl fun w => ?_
  refine seq (region (det rfl (asg rfl) (nilS ?_)))   -- region 0
  refine seq (region (det rfl (asg rfl) (nilS ?_)))   -- region 1
  refine seq ?_
  refine seq (region (det rfl (mv rfl) (det rfl (mv rfl) (nilS ?_))))   -- region 2
  refine block ?_   -- block 0
  refine loopV (ι := Nat) (fun k => k ≤ m) (fun k => [(0, .string (bs b)), (1, .int .i64 a), (7, .int .u64 (takeN b a k)), (9, .int .i64 m), (10, .int .i64 k)]) (fun _ => []) (fun _ => []) (fun k => m - k) 0 (by omega) ⟨rfl, rfl, rfl, rfl, rfl, trivial⟩ (fun w hm => hm) ?_
  intro k σ hk
  refine seq (region (det rfl (lss rfl rfl) (nilS ?_)))   -- region 3
  refine seq ?_
  refine cond rfl (fun h => ?_) (fun h => ?_)   -- on t11
  · have h := of_decide_eq_true h
    refine skipS ?_
    refine seq ?_
    refine block ?_   -- block 1
    refine seq (region (det rfl (mv rfl) (det rfl (asg rfl) (nilS ?_))))   -- region 4
    refine seq (region (det rfl (mv rfl) (det rfl (shl rfl rfl (by decide)) (det rfl (asg rfl) (nilS ?_)))))   -- region 5
    by_cases hc : 0 ≤ a ∧ a < b.length ∧ (k : Int) < b.length - a
    · obtain ⟨c1, c2, c3⟩ := hc
      refine seq (region (det rfl (mv rfl) (det rfl (geq rfl rfl) (det rfl (mv rfl) ?_))))
      refine guardT rfl (vb (decide_eq_true c1)) (det rfl (mv rfl) ?_)
      refine guardT rfl (vb (decide_eq_true c1)) (det rfl (mv rfl) ?_)
      refine guardT rfl (vb (decide_eq_true c1)) (det rfl (lenT u_string rfl) ?_)
      refine guardT rfl (vb (decide_eq_true c1)) (det rfl (lss rfl rfl) ?_)
      refine det rfl (pick (vb (decide_eq_true c1)) (vb (decide_eq_true c2))) (det rfl (mv rfl) ?_)
      refine guardT rfl rfl (det rfl (mv rfl) ?_)
      refine guardT rfl rfl (det rfl (mv rfl) ?_)
      refine guardT rfl rfl (det rfl (lenT u_string rfl) ?_)
      refine guardT rfl rfl (det rfl (mv rfl) ?_)
      refine guardT rfl rfl (det rfl (subI rfl rfl (by omega) (by omega)) ?_)
      refine guardT rfl rfl (det rfl (lss rfl rfl) ?_)
      refine det rfl (pick rfl (vb (decide_eq_true c3))) (nilS ?_)
      refine condT rfl ?_
      refine region (det rfl (mv rfl) (det rfl (mv rfl) (det rfl (mv rfl) (det rfl (mv rfl) (det rfl (addI rfl rfl (by omega) (by omega)) (det rfl (idxT rfl rfl u_string (by omega) (by omega)) (det rfl (conv u_uint8 u_uint64 rfl) (det rfl (or rfl rfl) (det rfl (asg rfl) (nil ?_))))))))))   -- region 7
      show Tr _ _ _ _ _ _ _
      refine region (det rfl (addI rfl rfl (by omega) (by omega)) (det rfl (mv rfl) (nil ?_)))   -- region 8
      refine again (k + 1) (by omega) ⟨rfl, rfl, vi ?_, rfl, rfl, trivial⟩ (fun w hm => hm) (by (first | omega | (dsimp only; omega)))
      rw [takeN, if_pos ⟨c1, c2, c3⟩, wrap_u64_byte]; rfl
    · refine seq (region (det rfl (mv rfl) (det rfl (geq rfl rfl) (det rfl (mv rfl) ?_))))
      by_cases c1 : 0 ≤ a
      · refine guardT rfl (vb (decide_eq_true c1)) (det rfl (mv rfl) ?_)
        refine guardT rfl (vb (decide_eq_true c1)) (det rfl (mv rfl) ?_)
        refine guardT rfl (vb (decide_eq_true c1)) (det rfl (lenT u_string rfl) ?_)
        refine guardT rfl (vb (decide_eq_true c1)) (det rfl (lss rfl rfl) ?_)
        by_cases c2 : a < b.length
        · refine det rfl (pick (vb (decide_eq_true c1)) (vb (decide_eq_true c2))) (det rfl (mv rfl) ?_)
          refine guardT rfl rfl (det rfl (mv rfl) ?_)
          refine guardT rfl rfl (det rfl (mv rfl) ?_)
          refine guardT rfl rfl (det rfl (lenT u_string rfl) ?_)
          refine guardT rfl rfl (det rfl (mv rfl) ?_)
          refine guardT rfl rfl (det rfl (subI rfl rfl (by omega) (by omega)) ?_)
          refine guardT rfl rfl (det rfl (lss rfl rfl) ?_)
          refine det rfl (pick rfl (vb (decide_eq_false (by omega)))) (nilS ?_)
          refine condF rfl ?_
          refine skip ?_
          show Tr _ _ _ _ _ _ _
          refine region (det rfl (addI rfl rfl (by omega) (by omega)) (det rfl (mv rfl) (nil ?_)))   -- region 8
          refine again (k + 1) (by omega) ⟨rfl, rfl, vi ?_, rfl, rfl, trivial⟩ (fun w hm => hm) (by (first | omega | (dsimp only; omega)))
          rw [takeN, if_neg hc]; rfl
        · refine det rfl (pick (vb (decide_eq_true c1)) (vb (decide_eq_false c2))) (det rfl (mv rfl) ?_)
          repeat (first | refine guardF rfl (vb (rfl : false = !true)) rfl ?_ | refine guardU rfl rfl rfl ?_)
          refine det rfl (pick rfl rfl) (nilS ?_)
          refine condF rfl ?_
          refine skip ?_
          show Tr _ _ _ _ _ _ _
          refine region (det rfl (addI rfl rfl (by omega) (by omega)) (det rfl (mv rfl) (nil ?_)))   -- region 8
          refine again (k + 1) (by omega) ⟨rfl, rfl, vi ?_, rfl, rfl, trivial⟩ (fun w hm => hm) (by (first | omega | (dsimp only; omega)))
          rw [takeN, if_neg hc]; rfl
      · repeat (first | refine guardF rfl (vb (decide_eq_false c1)) rfl ?_ | refine guardU rfl rfl rfl ?_)
        refine det rfl (pick (vb (decide_eq_false c1)) rfl) (det rfl (mv rfl) ?_)
        repeat (first | refine guardF rfl (vb (rfl : false = !true)) rfl ?_ | refine guardU rfl rfl rfl ?_)
        refine det rfl (pick rfl rfl) (nilS ?_)
        refine condF rfl ?_
        refine skip ?_
        show Tr _ _ _ _ _ _ _
        refine region (det rfl (addI rfl rfl (by omega) (by omega)) (det rfl (mv rfl) (nil ?_)))   -- region 8
        refine again (k + 1) (by omega) ⟨rfl, rfl, vi ?_, rfl, rfl, trivial⟩ (fun w hm => hm) (by (first | omega | (dsimp only; omega)))
        rw [takeN, if_neg hc]; rfl
  · have h := of_decide_eq_false h
    refine exit ?_   -- 0
    show Tr _ _ _ _ _ _ _
    have e : k = m := by omega
    subst e
    refine seq (region (det rfl (mv rfl) (det rfl (asg rfl) (nilS ?_))))   -- region 9
    exact ret (retT rfl rfl pr)

theorem word_Put32_ (x : Int) : Pure PP N_word_Put32 #[.int .u32 x] (.string (bs (putL (IntKind.u64.wrap x) 4))) := by
  refine enter0 f_word_Put32 rfl n_word_Put32 rfl fun w => ?_
  refine seq (region (det rfl (asg rfl) (nilS ?_)))   -- region 0
  refine seq (region (det rfl (mv rfl) (det rfl (conv u_uint32 u_uint64 rfl) (call k_word_put rfl rfl (fun w _ => word_put_ _ 4 (by omega) w) (det rfl (asg rfl) (nilS ?_))))))   -- region 1
  exact ret (retT rfl rfl pr)
theorem word_Put64_ (x : Int) : Pure PP N_word_Put64 #[.int .u64 x] (.string (bs (putL x 8))) := by
  refine enter0 f_word_Put64 rfl n_word_Put64 rfl fun w => ?_
  refine seq (region (det rfl (asg rfl) (nilS ?_)))   -- region 0
  refine seq (region (det rfl (mv rfl) (call k_word_put rfl rfl (fun w _ => word_put_ _ 8 (by omega) w) (det rfl (asg rfl) (nilS ?_)))))   -- region 1
  exact ret (retT rfl rfl pr)
theorem word_Take32_ (b : List UInt8) (a : Int) (hb : b.length ≤ 1000000000000) (ha : -1000000000000 ≤ a) (ha2 : a ≤ 1000000000000) : Pure PP N_word_Take32 #[.string (bs b), .int .i64 a] (.int .u32 (IntKind.u32.wrap (takeN b a 4))) := by
  refine enter0 f_word_Take32 rfl n_word_Take32 rfl fun w => ?_
  refine seq (region (det rfl (asg rfl) (nilS ?_)))   -- region 0
  refine seq (region (det rfl (mv rfl) (det rfl (mv rfl) (call k_word_take rfl rfl (fun w _ => word_take_ b a 4 (by omega) hb ha ha2 w) (det rfl (conv u_uint64 u_uint32 rfl) (det rfl (asg rfl) (nilS ?_)))))))   -- region 1
  exact ret (retT rfl rfl pr)
theorem word_Take64_ (b : List UInt8) (a : Int) (hb : b.length ≤ 1000000000000) (ha : -1000000000000 ≤ a) (ha2 : a ≤ 1000000000000) : Pure PP N_word_Take64 #[.string (bs b), .int .i64 a] (.int .u64 (takeN b a 8)) := by
  refine enter0 f_word_Take64 rfl n_word_Take64 rfl fun w => ?_
  refine seq (region (det rfl (asg rfl) (nilS ?_)))   -- region 0
  refine seq (region (det rfl (mv rfl) (det rfl (mv rfl) (call k_word_take rfl rfl (fun w _ => word_take_ b a 8 (by omega) hb ha ha2 w) (det rfl (asg rfl) (nilS ?_))))))   -- region 1
  exact ret (retT rfl rfl pr)
end Go.Proofs.YtmcapgjdflohfaaGreat.L
