/- Packages wide, work: the walks. -/
import Derived.Test.YtmcapgjdflohfaaGreatHead
set_option linter.all false
namespace Go.Proofs.YtmcapgjdflohfaaGreat.L
open Go Go.RowKit
set_option linter.unusedVariables false
theorem wide_Cmp_ (x y : List Int) (hx : x.length = 4) (hy : y.length = 4) : Pure PP N_wide_Cmp #[ag (w64 x), ag (w64 y)] (.int .i64 (cmpN x y 4)) := by
  refine enter0 f_wide_Cmp rfl n_wide_Cmp rfl fun w => ?_
  refine seq (region (box rfl rfl rfl fun b0 => box rfl rfl rfl fun b1 => det rfl (asg rfl) (nilS ?_)))   -- region 0
  refine seq ?_
  refine seq (region (det rfl (mv rfl) (nilS ?_)))   -- region 1
  refine block ?_   -- block 0
  refine loopV (ι := Nat) (fun k => k ≤ 4 ∧ cmpN x y (4 - k) = cmpN x y 4) (fun k => [(2, .pointer (some ⟨b0, 0, none⟩)), (3, .pointer (some ⟨b1, 0, none⟩)), (8, .int .i64 k)]) (fun k => [.blk b1 (ob (w64 y) T_wide_N), .blk b0 (ob (w64 x) T_wide_N)]) (fun _ => []) (fun k => 4 - k) 0 ⟨by omega, rfl⟩ ⟨rfl, rfl, rfl, trivial⟩ (fun w hm => hm) ?_
  intro k σ ⟨hk, hc⟩
  refine seq (region (det rfl (lss rfl rfl) (nilS ?_)))   -- region 2
  refine seq ?_
  refine cond rfl (fun h => ?_) (fun h => ?_)   -- on t9
  · have h := of_decide_eq_true h
    refine skipS ?_
    refine seq ?_
    refine block ?_   -- block 1
    refine seq (region (det rfl (mv rfl) (det rfl (asg rfl) (nilS ?_))))   -- region 3
    refine seq (draw (m := 10) mix (by kernel_rfl) (take 0 rfl (by kernel_rfl) rfl (mv rfl) (take 1 rfl (by kernel_rfl) rfl (subI rfl rfl (by omega) (by omega)) (take 2 rfl (by kernel_rfl) rfl (iadr rfl rfl u_wide_N s_uint64 (by omega) (by omega)) (take 3 rfl (by kernel_rfl) rfl (ldB 1 rfl rfl o_uint64 (w64_at (j := 3 - k) (by omega) (by omega))) (take 4 rfl (by kernel_rfl) rfl (mv rfl) (take 5 rfl (by kernel_rfl) rfl (subI rfl rfl (by omega) (by omega)) (take 6 rfl (by kernel_rfl) rfl (iadr rfl rfl u_wide_N s_uint64 (by omega) (by omega)) (take 7 rfl (by kernel_rfl) rfl (ldB 0 rfl rfl o_uint64 (w64_at (j := 3 - k) (by omega) (by omega))) (take 8 rfl (by kernel_rfl) rfl (asg rfl) (take 9 rfl (by kernel_rfl) rfl (asg rfl) ((tail (by kernel_rfl) rfl (nilS ?_))))))))))))))   -- region 4
    rw [show 4 - k = (3 - k) + 1 by omega, cmpN] at hc
    refine block ?_   -- block 2
    refine seq (region (det rfl (mv rfl) (det rfl (mv rfl) (det rfl (lss rfl rfl) (det rfl (asg rfl) (nilS ?_))))))   -- region 5
    refine cond rfl (fun h => ?_) (fun h => ?_)   -- on t19
    · have h := of_decide_eq_true h
      refine seq (region (det rfl (asg rfl) (nilS ?_)))   -- region 6
      exact ret (retT rfl rfl (pr' (vi (by rw [← hc, if_pos h]))))
    · have h0 := of_decide_eq_false h
      refine seq (region (det rfl (mv rfl) (det rfl (mv rfl) (det rfl (gtr rfl rfl) (det rfl (asg rfl) (nilS ?_))))))   -- region 7
      refine cond rfl (fun h => ?_) (fun h => ?_)   -- on t23
      · have h := of_decide_eq_true h
        refine seq (region (det rfl (asg rfl) (nilS ?_)))   -- region 8
        exact ret (retT rfl rfl (pr' (vi (by rw [← hc, if_neg h0, if_pos h]))))
      · have h := of_decide_eq_false h
        refine skip ?_
        show Tr _ _ _ _ _ _ _
        refine region (det rfl (addI rfl rfl (by omega) (by omega)) (det rfl (mv rfl) (nil ?_)))   -- region 9
        exact again (k + 1) ⟨by omega, by rw [← hc, if_neg h0, if_neg h]; congr 1; omega⟩ ⟨rfl, rfl, rfl, trivial⟩ (fun w hm => hm) (by (first | omega | (dsimp only; omega)))
  · have h := of_decide_eq_false h
    refine exit ?_   -- 0
    show Tr _ _ _ _ _ _ _
    refine seq (region (det rfl (asg rfl) (nilS ?_)))   -- region 10
    exact ret (retT rfl rfl (pr' (vi (by rw [← hc, show 4 - k = 0 by omega]; rfl))))

theorem bldE {c : Cx} {σ : Env} {H : List Res} {K : List Fact} {d : Option Tmp} {t : TypeId} {p : String} {af : Array Edge} {g : Option (Nat × Bool)} {tt e : TypeId} {m sz : Nat} {z : List Value} (hz : (c.P.info? tt).map (·.zero) = some (some (ag z))) (ht : c.P.underlying tt = some (.array m e)) (hs : (c.P.info? e).map (·.size) = some sz) :
    Det c σ H K ⟨d, .build tt #[], t, p, af, g⟩ (ag z) := bldA (ps := []) hz ht hs (by simp) (by simp [Instr.fill])

/-- Shr: the limb at `k`. -/
def shrV (x : List Int) (s b k : Nat) : Int :=
  if 0 < b ∧ k + s + 1 < 4 then bor .u64 (bshr .u64 (x.getD (k + s) 0) b) (bshl .u64 (x.getD (k + s + 1) 0) (IntKind.u64.wrap (64 - b)).toNat) else bshr .u64 (x.getD (k + s) 0) b
def shrK (x : List Int) (s b : Nat) : Nat → List Int
  | 0 => [0, 0, 0, 0]
  | k + 1 => (shrK x s b k).set k (shrV x s b k)
def shrN (x : List Int) (n : Nat) : List Int := if n = 0 then x else if 256 ≤ n then [0, 0, 0, 0] else shrK x (n / 64) (n % 64) (4 - n / 64)
theorem shrK_length (x : List Int) (s b k : Nat) : (shrK x s b k).length = 4 := by
  induction k with
  | zero => rfl
  | succ k ih => simp only [shrK, List.length_set, ih]
theorem shrN_length (x : List Int) (n : Nat) (hx : x.length = 4) : (shrN x n).length = 4 := by
  unfold shrN; split; exact hx; split; rfl; exact shrK_length _ _ _ _
theorem tdiv_nat (n : Nat) (h : n ≤ 1000000) : IntKind.i64.wrap ((n : Int).tdiv 64) = ((n / 64 : Nat) : Int) := by
  rw [Int.tdiv_eq_ediv_of_nonneg (by omega), i64_in (by omega) (by omega)]; omega
theorem tmod_nat (n : Nat) : (n : Int).tmod 64 = ((n % 64 : Nat) : Int) := by
  rw [Int.tmod_eq_emod_of_nonneg (by omega)]; omega

theorem wide_Shr_ (x : List Int) (hx : x.length = 4) (n : Nat) (hn : n ≤ 100000) : Pure PP N_wide_Shr #[ag (w64 x), .int .i64 n] (ag (w64 (shrN x n))) := by
  refine enter0 f_wide_Shr rfl n_wide_Shr rfl fun w => ?_
  refine seq (region (box rfl rfl rfl fun b0 => alloc z_wide_N rfl rfl fun b1 => nilS ?_))   -- region 0
  refine seq ?_
  refine seq (region (det rfl (mv rfl) (det rfl (leq rfl rfl) (nilS ?_))))   -- region 1
  refine cond rfl (fun h => ?_) (fun h => ?_)   -- on t10
  · have h := of_decide_eq_true h
    refine seq (region (det rfl (ldAll 1 rfl rfl g_wide_N (by rw [w64_length, hx])) (stoA 0 rfl rfl rfl s_wide_N (by rw [w64_length, hx]) (w64_one _) rfl (nilS ?_))))
    have e : shrN x n = x := by rw [shrN, if_pos (by omega)]
    rw [e]
    exact ret (retN rfl hx 0 rfl rfl rfl pr)
  · have h := of_decide_eq_false h
    refine skipS ?_
    refine seq ?_
    refine seq (region (det rfl (mv rfl) (det rfl (geq rfl rfl) (nilS ?_))))   -- region 3
    refine cond rfl (fun h => ?_) (fun h => ?_)   -- on t13
    · have h := of_decide_eq_true h
      refine seq (region (det rfl (bldE z_wide_N u_wide_N s_uint64) (stoA 0 (rs := w64 [0, 0, 0, 0]) rfl rfl rfl s_wide_N rfl rfl rfl (nilS ?_))))
      have e : shrN x n = [0, 0, 0, 0] := by rw [shrN, if_neg (by omega), if_pos (by omega)]
      rw [e]
      exact ret (retN rfl rfl 0 rfl rfl rfl pr)
    · have h := of_decide_eq_false h
      refine skipS ?_
      refine seq (region (alloc z_wide_N rfl rfl fun b2 => nilS ?_))   -- region 5
      obtain ⟨s, hs⟩ : ∃ s, n / 64 = s := ⟨_, rfl⟩
      obtain ⟨q, hq⟩ : ∃ q, n % 64 = q := ⟨_, rfl⟩
      have e : shrN x n = shrK x s q (4 - s) := by rw [shrN, if_neg (by omega), if_neg (by omega), hs, hq]
      rw [e]
      refine seq (region (det rfl (mv rfl) (det rfl (Det.to (quo rfl rfl (by decide)) (vi (show _ = ((s : Nat) : Int) by rw [tdiv_nat n (by omega), hs]))) (det rfl (mv rfl) (det rfl (Det.to (rem rfl rfl (by decide)) (vi (show _ = ((q : Nat) : Int) by rw [tmod_nat n, hq]))) (det rfl (Det.to (conv u_int u_uint rfl) (vi (wrap_u64_nat (q : Int) (by omega) (by omega)))) (det rfl (asg rfl) (det rfl (asg rfl) (nilS ?_)))))))))   -- region 6
      refine seq ?_
      refine seq (region (det rfl (mv rfl) (det rfl (subI rfl rfl (by omega) (by omega)) (det rfl (mv rfl) (nilS ?_)))))   -- region 7
      refine block ?_   -- block 0
      refine loopV (ι := Nat) (fun k => k ≤ 4 - s) (fun k => [(2, .pointer (some ⟨b0, 0, none⟩)), (4, .pointer (some ⟨b1, 0, none⟩)), (5, .pointer (some ⟨b2, 0, none⟩)), (6, .int .i64 s), (7, .int .u64 q), (21, .int .i64 (4 - (s : Int))), (22, .int .i64 k)]) (fun k => [.blk b2 (ob (w64 (shrK x s q k)) T_wide_N), .blk b1 (ob (w64 [0, 0, 0, 0]) T_wide_N), .blk b0 (ob (w64 x) T_wide_N)]) (fun _ => []) (fun k => 4 - s - k) 0 (by omega) ⟨rfl, rfl, rfl, rfl, rfl, rfl, rfl, trivial⟩ (fun w hm => hm) ?_
      intro k σ hk
      have hl := shrK_length x s q k
      refine seq (region (det rfl (lss rfl rfl) (nilS ?_)))   -- region 8
      refine seq ?_
      refine cond rfl (fun h => ?_) (fun h => ?_)   -- on t23
      · have h := of_decide_eq_true h
        refine skipS ?_
        refine seq ?_
        refine block ?_   -- block 1
        refine seq (region (det rfl (mv rfl) (det rfl (asg rfl) (nilS ?_))))   -- region 9
        refine seq (region (det rfl (mv rfl) (det rfl (mv rfl) (det rfl (mv rfl) (det rfl (addI rfl rfl (by omega) (by omega)) (det rfl (iadr rfl rfl u_wide_N s_uint64 (by omega) (by omega)) (det rfl (ldB 2 rfl rfl o_uint64 (w64_at (j := k + s) (by omega) (by omega))) (det rfl (mv rfl) (det rfl (shr rfl rfl (by omega)) (det rfl (iadr rfl rfl u_wide_N s_uint64 (by omega) (by omega)) (sto1 0 k rfl rfl rfl s_uint64 rfl (by omega) (by rw [w64_length]; omega) w64_set (nilS ?_))))))))))))   -- region 10
        refine seq (region (det rfl (mv rfl) (det rfl (gtr rfl rfl) (det rfl (mv rfl) ?_))))
        by_cases c1 : 0 < q
        · have c1' : (0 : Int) < q := by omega
          refine guardT rfl (vb (decide_eq_true c1')) (det rfl (mv rfl) ?_)
          refine guardT rfl (vb (decide_eq_true c1')) (det rfl (mv rfl) ?_)
          refine guardT rfl (vb (decide_eq_true c1')) (det rfl (addI rfl rfl (by omega) (by omega)) ?_)
          refine guardT rfl (vb (decide_eq_true c1')) (det rfl (addI rfl rfl (by omega) (by omega)) ?_)
          refine guardT rfl (vb (decide_eq_true c1')) (det rfl (lss rfl rfl) ?_)
          refine det rfl (pick (vb (decide_eq_true c1')) rfl) (nilS ?_)
          refine cond rfl (fun h => ?_) (fun h => ?_)   -- on t42
          · have h := of_decide_eq_true h
            refine draw (m := 14) mix (by kernel_rfl) (take 0 rfl (by kernel_rfl) rfl (mv rfl) (take 1 rfl (by kernel_rfl) rfl (iadr rfl rfl u_wide_N s_uint64 (by omega) (by omega)) (take 2 rfl (by kernel_rfl) rfl (ldB 0 rfl rfl o_uint64 (w64_at (j := k) (by omega) (by rw [List.length_set]; omega))) (take 3 rfl (by kernel_rfl) rfl (mv rfl) (take 4 rfl (by kernel_rfl) rfl (mv rfl) (take 5 rfl (by kernel_rfl) rfl (addI rfl rfl (by omega) (by omega)) (take 6 rfl (by kernel_rfl) rfl (addI rfl rfl (by omega) (by omega)) (take 7 rfl (by kernel_rfl) rfl (iadr rfl rfl u_wide_N s_uint64 (by omega) (by omega)) (take 8 rfl (by kernel_rfl) rfl (ldB 2 rfl rfl o_uint64 (w64_at (j := k + s + 1) (by omega) (by omega))) (take 9 rfl (by kernel_rfl) rfl (mv rfl) (take 10 rfl (by kernel_rfl) rfl (sub rfl rfl) (take 11 rfl (by kernel_rfl) rfl (shl rfl rfl (u64_nn _)) (take 12 rfl (by kernel_rfl) rfl (or rfl rfl) (take 13 rfl (by kernel_rfl) rfl (iadr rfl rfl u_wide_N s_uint64 (by omega) (by omega)) ((tail (by kernel_rfl) rfl (sto1 0 k rfl rfl rfl s_uint64 rfl (by omega) (by rw [w64_length, List.length_set]; omega) w64_set (nil ?_))))))))))))))))))   -- region 12
            show Tr _ _ _ _ _ _ _
            refine region (det rfl (addI rfl rfl (by omega) (by omega)) (det rfl (mv rfl) (nil ?_)))   -- region 13
            refine again (k + 1) (by omega) ⟨rfl, rfl, rfl, rfl, rfl, rfl, rfl, trivial⟩ (fun w hm => ?_) (by (first | omega | (dsimp only; omega)))
            have e : shrK x s q (k + 1) = (shrK x s q k).set k _ := congrArg (List.set _ k) (if_pos ⟨by omega, by omega⟩ : shrV x s q k = _)
            have e2 : ((shrK x s q k).set k (bshr .u64 (x.getD (k + s) 0) q)).getD k 0 = bshr .u64 (x.getD (k + s) 0) q := by simp [show k < (shrK x s q k).length by omega]
            have e3 : ∀ y, ((shrK x s q k).set k (bshr .u64 (x.getD (k + s) 0) q)).set k y = (shrK x s q k).set k y := fun y => List.set_set ..
            have hm2 : M _ [.blk b2 (ob (w64 (((shrK x s q k).set k (bshr .u64 (x.getD (k + s) 0) q)).set k (bor .u64 (((shrK x s q k).set k (bshr .u64 (x.getD (k + s) 0) q)).getD k 0) (bshl .u64 (x.getD (k + s + 1) 0) (IntKind.u64.wrap (64 - q)).toNat)))) T_wide_N), _, _] _ w := hm
            rw [e2, e3, ← e] at hm2; exact hm2
          · have h := of_decide_eq_false h
            refine skip ?_
            show Tr _ _ _ _ _ _ _
            refine region (det rfl (addI rfl rfl (by omega) (by omega)) (det rfl (mv rfl) (nil ?_)))
            refine again (k + 1) (by omega) ⟨rfl, rfl, rfl, rfl, rfl, rfl, rfl, trivial⟩ (fun w hm => ?_) (by (first | omega | (dsimp only; omega)))
            have e : shrK x s q (k + 1) = (shrK x s q k).set k _ := congrArg (List.set _ k) (if_neg (by omega) : shrV x s q k = _)
            show M _ [.blk b2 (ob (w64 (shrK x s q (k + 1))) T_wide_N), _, _] _ w
            rw [e]; exact hm
        · have c1' : ¬ (0 : Int) < q := by omega
          repeat (first | refine guardF rfl (vb (decide_eq_false c1')) rfl ?_ | refine guardU rfl rfl rfl ?_)
          refine det rfl (pick (vb (decide_eq_false c1')) rfl) (nilS ?_)
          refine condF rfl ?_
          refine skip ?_
          show Tr _ _ _ _ _ _ _
          refine region (det rfl (addI rfl rfl (by omega) (by omega)) (det rfl (mv rfl) (nil ?_)))
          refine again (k + 1) (by omega) ⟨rfl, rfl, rfl, rfl, rfl, rfl, rfl, trivial⟩ (fun w hm => ?_) (by (first | omega | (dsimp only; omega)))
          have e : shrK x s q (k + 1) = (shrK x s q k).set k _ := congrArg (List.set _ k) (if_neg (by omega) : shrV x s q k = _)
          show M _ [.blk b2 (ob (w64 (shrK x s q (k + 1))) T_wide_N), _, _] _ w
          rw [e]; exact hm
      · have h := of_decide_eq_false h
        have e4 : k = 4 - s := by omega
        rw [← e4]
        refine exit ?_   -- 0
        show Tr _ _ _ _ _ _ _
        refine seq (region (det rfl (ldAll 0 rfl rfl g_wide_N (by rw [w64_length, hl])) (stoA 1 rfl rfl rfl s_wide_N (by rw [w64_length, hl]) (w64_one _) rfl (nilS ?_))))   -- region 14
        exact ret (retN rfl (shrK_length _ _ _ _) 1 rfl rfl rfl pr)
end Go.Proofs.YtmcapgjdflohfaaGreat.L
