/- The reference's Near, All, Walk (milepostref22). -/
import Derived.Test.YtmcapgjdflohfaaGreatGen
import Derived.Test.YtmcapgjdflohfaaGreatDown
import Derived.Test.YtmcapgjdflohfaaGreatPGoes
set_option linter.all false
namespace Go.Proofs.YtmcapgjdflohfaaGreat.L
open Go Go.RowKit
set_option linter.unusedVariables false

theorem ref22_Near_ (l : List Int) (hn : l.length ≤ 1000000) (a lv : Int) (A : Option Addr) (cap : Nat) (D : Nat → Prop) (w : World) (hD : ∀ k, D k → k < w.heap.size) (hs : Sl 1 A l.length cap (il l) D w) :
    Calls PP N_milepostref22_Near #[.slice A l.length cap, .int .i64 a, .int .i64 lv] w (PR w (.int .i64 (Mp.near l a lv))) := by
  refine enter f_milepostref22_Near rfl n_milepostref22_Near rfl (M.init1 PP w Sl.stable hD hs) ?_
  refine seq (region (det rfl (asg rfl) (nilS ?_)))   -- region 0
  refine seq (region (det rfl (asg rfl) (nilS ?_)))   -- region 1
  refine seq ?_
  refine seq (region (det rfl (asg rfl) (nilS ?_)))   -- region 2
  refine block ?_   -- block 0
  refine loopV (ι := Nat) (fun k => k ≤ l.length ∧ (k : Int) ≤ max a 0) (fun k => [(0, .slice A l.length cap), (1, .int .i64 a), (2, .int .i64 lv), (7, .int .i64 (Mp.nearN l lv k)), (8, .int .i64 k)]) (fun _ => []) (fun _ => [Sl 1 A l.length cap (il l)]) (fun k => l.length - k) 0 ⟨by omega, by omega⟩ ⟨rfl, rfl, rfl, rfl, rfl, trivial⟩ (fun w hm => hm) ?_
  rintro k σ ⟨hk, hka⟩
  refine seq ?_
  refine seq (region (det rfl (mv rfl) (det rfl (mv rfl) (det rfl (lenS u_sl_int rfl) (det rfl (lss rfl rfl) (det rfl (mv rfl) (guardI rfl rfl rfl (fun _ => mv rfl) (guardI rfl rfl rfl (fun _ => mv rfl) (guardI rfl rfl rfl (fun hb => lss (bift hb rfl) (bift hb rfl)) (det rfl (pick rfl (pickA rfl)) (nilS ?_)))))))))))   -- region 3
  refine cond rfl (fun h => ?_) (fun h => ?_)   -- on t17
  · have h := Bool.and_eq_true_iff.1 h
    have h1 := of_decide_eq_true h.1
    have h2 := of_decide_eq_true h.2
    have hk2 : k < l.length := by omega
    refine skipS ?_
    refine seq ?_
    refine block ?_   -- block 1
    refine seq (region (det rfl (mv rfl) (det rfl (mv rfl) (det rfl (ixS 0 rfl rfl u_sl_int s_int rfl (by omega) (by omega)) (det rfl (ldSO 0 (i := k) rfl rfl o_int (il_at rfl hk2)) (det rfl (mv rfl) (det rfl (geq rfl rfl) (nilS ?_))))))))   -- region 5
    refine cond rfl (fun h => ?_) (fun h => ?_)   -- on t25
    · have h := of_decide_eq_true h
      refine region (det rfl (mv rfl) (det rfl (asg rfl) (nil ?_)))   -- region 6
      show Tr _ _ _ _ _ _ _
      refine region (det rfl (mv rfl) (det rfl (addI rfl rfl (by omega) (by omega)) (det rfl (asg rfl) (nil ?_))))   -- region 4
      exact again (k + 1) ⟨by omega, by omega⟩ ⟨rfl, rfl, rfl, vi (by rw [Mp.nearN, if_pos h]), rfl, trivial⟩ (fun w hm => hm) (by (first | omega | (dsimp only; omega)))
    · have h := of_decide_eq_false h
      refine skip ?_
      show Tr _ _ _ _ _ _ _
      refine region (det rfl (mv rfl) (det rfl (addI rfl rfl (by omega) (by omega)) (det rfl (asg rfl) (nil ?_))))   -- region 4
      exact again (k + 1) ⟨by omega, by omega⟩ ⟨rfl, rfl, rfl, vi (by rw [Mp.nearN, if_neg h]), rfl, trivial⟩ (fun w hm => hm) (by (first | omega | (dsimp only; omega)))
  · refine exit ?_   -- 0
    show Tr _ _ _ _ _ _ _
    refine seq (region (det rfl (mv rfl) (det rfl (asg rfl) (nilS ?_))))   -- region 7
    refine ret (retT rfl rfl (pr' (vi ?_)))
    rw [Mp.near]
    congr 1
    rcases Bool.and_eq_false_iff.1 h with h | h
    · have := of_decide_eq_false h; omega
    · have := of_decide_eq_false h; omega

theorem ref22_All_ (l : List Int) (hn : l.length ≤ 1000000) (a : Int) (A : Option Addr) (cap : Nat) (D : Nat → Prop) (w : World) (hD : ∀ k, D k → k < w.heap.size) (hs : Sl 1 A l.length cap (il l) D w) :
    Calls PP N_milepostref22_All #[.slice A l.length cap, .int .i64 a] w (RS w 1 (il (Mp.all l a))) := by
  refine enter f_milepostref22_All rfl n_milepostref22_All rfl (M.init1 PP w Sl.stable hD hs) ?_
  refine seq (region (det rfl (asg rfl) (nilS ?_)))   -- region 0
  refine seq (region (det rfl (asg rfl) (nilS ?_)))   -- region 1
  refine seq ?_
  refine seq (region (det rfl (mv rfl) (det rfl (lss rfl rfl) (det rfl (mv rfl) (guardI rfl rfl rfl (fun _ => mv rfl) (guardI rfl rfl rfl (fun _ => mv rfl) (guardI rfl rfl rfl (fun hb => lenS u_sl_int (bift hb rfl)) (guardI rfl rfl rfl (fun hb => gtr (bift hb rfl) (bift hb rfl)) (det rfl (pick rfl (pickO rfl)) (nilS ?_))))))))))   -- region 2
  refine cond rfl (fun h => ?_) (fun h => ?_)   -- on t15
  · have h : a < 1 ∨ (l.length : Int) < a := by
      rcases Bool.or_eq_true_iff.1 h with h | h
      · exact .inl (of_decide_eq_true h)
      · exact .inr (of_decide_eq_true h)
    refine seq (region (det rfl (asg rfl) (nilS ?_)))   -- region 3
    have e : Mp.all l a = [] := by rw [Mp.all, if_pos h]
    rw [e]; exact ret (retNil rfl rfl rfl)
  · have hc0 : ¬ (a < 1 ∨ (l.length : Int) < a) := by
      have h := Bool.or_eq_false_iff.1 h
      have h1 := of_decide_eq_false h.1
      have h2 := of_decide_eq_false h.2
      omega
    have e : Mp.all l a = Mp.allFrom l a 257 0 := by rw [Mp.all, if_neg hc0]
    refine skipS ?_
    refine seq ?_
    refine seq (region (det rfl (asg rfl) (nilS ?_)))   -- region 4
    refine block ?_   -- block 0
    refine loopV (ι := List Int × Option Addr × Nat) (fun (y, _, _) => y.length ≤ 257 ∧ y ++ Mp.allFrom l a (257 - y.length) y.length = Mp.all l a) (fun (y, B, q) => [(0, .slice A l.length cap), (1, .int .i64 a), (5, .slice B y.length q), (6, .int .i64 y.length)]) (fun (y, B, q) => [.row (.slice B y.length q) T_int 1 y.length (il y).flatten]) (fun _ => [Sl 1 A l.length cap (il l)]) (fun (y, _, _) => 257 - y.length) ([], none, 0) ⟨by simp, by simp [e]⟩ ⟨rfl, rfl, rfl, rfl, trivial⟩ (fun w hm => hm.nilRow _ _) ?_
    rintro ⟨y, B, q⟩ σ ⟨hy, hc⟩
    dsimp only at hy hc ⊢
    refine seq ?_
    refine seq (region (det rfl (mv rfl) (det rfl (lss rfl rfl) (nilS ?_))))   -- region 5
    refine cond rfl (fun h => ?_) (fun h => ?_)   -- on t17
    · have h := of_decide_eq_true h
      rw [show 257 - y.length = (256 - y.length) + 1 by omega, Mp.allFrom] at hc
      refine skipS ?_
      refine seq ?_
      refine block ?_   -- block 1
      refine seq (region (det rfl (mv rfl) (det rfl (mv rfl) (det rfl (mv rfl) (call k_milepostref22_Near rfl rfl (fun w hm => by
        obtain ⟨D, hD, hs⟩ := hm.sl (k := 0) rfl
        exact ref22_Near_ l hn a y.length A cap D w hD hs) (det rfl (asg rfl) (nilS ?_)))))))   -- region 7
      refine seq ?_
      refine seq (region (det rfl (mv rfl) (det rfl (lss rfl rfl) (nilS ?_))))   -- region 8
      refine cond rfl (fun h => ?_) (fun h => ?_)   -- on t25
      · have h := of_decide_eq_true h
        rw [if_pos h, List.append_nil] at hc
        subst hc
        refine seq (region (det rfl (mv rfl) (det rfl (asg rfl) (nilS ?_))))   -- region 9
        exact ret (retRow (i := 0) rfl rfl rfl rfl (il_length _) (il_ok _))
      · have h0 := of_decide_eq_false h
        rw [if_neg h0] at hc
        refine skipS ?_
        refine seq (region (det rfl (mv rfl) (det rfl (mv rfl) (bsl rfl (bs1 u_sl_int z_int s_int (cs := [.int .i64 (Mp.near l a y.length)]) rfl rfl rfl (by decide) (by decide)) fun b0 => appB 1 0 u_sl_int i_int rfl (by decide) rfl rfl rfl rfl rfl rfl (by simp only [maxLen]; omega) (by omega) rfl fun A cap => det rfl (asg rfl) (nilS ?_)))))   -- region 10
        refine seq (region (det rfl (mv rfl) (det rfl (eql rfl rfl) (nilS ?_))))   -- region 11
        refine cond rfl (fun h => ?_) (fun h => ?_)   -- on t32
        · have h := of_decide_eq_true h
          rw [if_pos h] at hc
          refine seq (region (det rfl (mv rfl) (det rfl (asg rfl) (nilS ?_))))   -- region 12
          rw [← hc]
          exact ret (retRow (i := 1) rfl rfl rfl (by rw [il_app]; rfl) (by simp [il_length]) (il_ok _))
        · have h := of_decide_eq_false h
          rw [if_neg h] at hc
          refine skip ?_
          show Tr _ _ _ _ _ _ _
          refine region (det rfl (mv rfl) (det rfl (addI rfl rfl (by omega) (by omega)) (det rfl (asg rfl) (nil ?_))))   -- region 6
          have el : (y ++ [Mp.near l a y.length]).length = y.length + 1 := by simp
          refine again (y ++ [Mp.near l a y.length], _, _) ⟨by dsimp only; omega, ?_⟩ ⟨rfl, rfl, by dsimp only; rw [el]; rfl, vi (by dsimp only; omega), trivial⟩ (fun w hm => ?_) (by (first | omega | (dsimp only; omega)))
          · dsimp only
            rw [el, ← hc, show 257 - (y.length + 1) = 256 - y.length by omega]; simp
          · dsimp only
            rw [el, il_app]; exact drop1 hm
    · have h := of_decide_eq_false h
      rw [show 257 - y.length = 0 by omega, Mp.allFrom, List.append_nil] at hc
      subst hc
      refine exit ?_   -- 0
      show Tr _ _ _ _ _ _ _
      refine seq (region (det rfl (mv rfl) (det rfl (asg rfl) (nilS ?_))))   -- region 13
      exact ret (retRow (i := 0) rfl rfl rfl rfl (il_length _) (il_ok _))

/-- What the reference holds of the least place that is far enough. -/
def bestI (x : Int × Bool) : Int := if x.2 = true then x.1 else -1
theorem best_step (tt y : Int) (s : Int × Bool) (h0 : 0 ≤ tt) (hs : s.2 = true → 0 ≤ s.1) : bestI (Mp.farStep tt s y) = (if (decide (tt ≤ y) && (decide (bestI s < 0) || decide (y < bestI s))) = true then y else bestI s) ∧ ((Mp.farStep tt s y).2 = true → 0 ≤ (Mp.farStep tt s y).1) := by
  obtain ⟨b, is⟩ := s
  cases is with
  | false =>
    simp only [Mp.farStep, bestI]
    by_cases h : tt ≤ y
    · simp [h]; omega
    · simp [h]
  | true =>
    have hb := hs rfl
    simp only at hb
    simp only [Mp.farStep, bestI]
    by_cases h : tt ≤ y
    · by_cases h2 : y < b
      · simp [h, h2]; omega
      · simp [h, h2]; omega
    · simp [h, hb]
theorem best_pos (tt : Int) (l : List Int) (h0 : 0 ≤ tt) (k : Nat) : ((l.take k).foldl (Mp.farStep tt) (0, false)).2 = true → 0 ≤ ((l.take k).foldl (Mp.farStep tt) (0, false)).1 := by
  induction k with
  | zero => intro h; simp at h
  | succ k ih =>
    by_cases hk : k < l.length
    · rw [fold_take tt l k hk]
      exact (best_step tt _ _ h0 ih).2
    · rw [List.take_of_length_le (by omega)]
      rw [List.take_of_length_le (by omega)] at ih
      exact ih

theorem ref22_Walk_ (l : List Int) (hn : l.length ≤ 1000000) (a tt : Int) (A : Option Addr) (cap : Nat) (D : Nat → Prop) (w : World) (hD : ∀ k, D k → k < w.heap.size) (hs : Sl 1 A l.length cap (il l) D w) :
    Calls PP N_milepostref22_Walk #[.slice A l.length cap, .int .i64 a, .int .i64 tt] w (RS w 1 (il (Mp.walk l a tt))) := by
  refine enter f_milepostref22_Walk rfl n_milepostref22_Walk rfl (M.init1 PP w Sl.stable hD hs) ?_
  refine seq (region (det rfl (asg rfl) (nilS ?_)))   -- region 0
  refine seq ?_
  refine seq (region (det rfl (mv rfl) (det rfl (lss rfl rfl) (det rfl (mv rfl) (guardI rfl rfl rfl (fun _ => mv rfl) (guardI rfl rfl rfl (fun _ => mv rfl) (guardI rfl rfl rfl (fun hb => lss (bift hb rfl) (bift hb rfl)) (det rfl (pick rfl (pickO rfl)) (det rfl (mv rfl) (guardI rfl rfl rfl (fun _ => mv rfl) (guardI rfl rfl rfl (fun _ => mv rfl) (guardI rfl rfl rfl (fun hb => lenS u_sl_int (bift hb rfl)) (guardI rfl rfl rfl (fun hb => geq (bift hb rfl) (bift hb rfl)) (det rfl (pick rfl (pickO rfl)) (nilS ?_)))))))))))))))   -- region 1
  refine cond rfl (fun h => ?_) (fun h => ?_)   -- on t23
  · have h : tt < 0 ∨ a < tt ∨ (l.length : Int) ≤ a := by
      rcases Bool.or_eq_true_iff.1 h with h | h
      · rcases Bool.or_eq_true_iff.1 h with h | h
        · exact .inl (of_decide_eq_true h)
        · exact .inr (.inl (of_decide_eq_true h))
      · exact .inr (.inr (of_decide_eq_true h))
    refine seq (region (det rfl (asg rfl) (nilS ?_)))   -- region 2
    have e : Mp.walk l a tt = [] := by rw [Mp.walk, if_pos h]
    rw [e]; exact ret (retNil rfl rfl rfl)
  · have hc0 : ¬ (tt < 0 ∨ a < tt ∨ (l.length : Int) ≤ a) := by
      have h := Bool.or_eq_false_iff.1 h
      have h' := Bool.or_eq_false_iff.1 h.1
      have h1 := of_decide_eq_false h'.1
      have h2 := of_decide_eq_false h'.2
      have h3 := of_decide_eq_false h.2
      omega
    have ew : Mp.walk l a tt = Mp.walkN l tt ((a - tt).toNat + 1) a [a] := by rw [Mp.walk, if_neg hc0]
    refine skipS ?_
    refine seq (region (det rfl (mv rfl) (bsl rfl (bs1 u_sl_int z_int s_int (cs := [.int .i64 a]) rfl rfl rfl (by decide) (by decide)) fun b0 => det rfl (asg rfl) (nilS ?_))))   -- region 3
    refine seq ?_
    refine block ?_   -- block 0
    refine loopV (ι := Int × List Int × Nat × Option Addr × Nat) (fun (fr, y, k, _, _) => Mp.walkN l tt k fr y = Mp.walk l a tt ∧ tt ≤ fr ∧ fr < l.length ∧ fr - tt < k ∧ (y.length : Int) + (fr - tt) ≤ 1 + (a - tt)) (fun (fr, y, k, B, q) => [(0, .slice A l.length cap), (1, .int .i64 fr), (2, .int .i64 tt), (7, .slice B y.length q)])
      (fun (fr, y, k, B, q) => [.row (.slice B y.length q) T_int 1 y.length (il y).flatten]) (fun _ => [Sl 1 A l.length cap (il l)]) (fun (fr, _, _, _, _) => (fr - tt).toNat) (a, [a], (a - tt).toNat + 1, some ⟨b0, 0, none⟩, 1) ⟨ew.symm, by omega, by omega, by omega, by simp⟩ ⟨rfl, rfl, rfl, rfl, trivial⟩ (fun w hm => hm.asRow 0 rfl rfl rfl (by simp [maxLen])) ?_
    rintro ⟨fr, y, k, B, q⟩ σ ⟨hw, h1, h2, h3, h4⟩
    dsimp only at hw h1 h2 h3 h4 ⊢
    obtain ⟨k, rfl⟩ : ∃ m, k = m + 1 := ⟨k - 1, by omega⟩
    rw [Mp.walkN] at hw
    refine seq ?_
    refine seq (region (det rfl (mv rfl) (det rfl (mv rfl) (det rfl (gtr rfl rfl) (nilS ?_)))))   -- region 4
    refine cond rfl (fun h => ?_) (fun h => ?_)   -- on t28
    · have h := of_decide_eq_true h
      rw [if_pos h] at hw
      obtain ⟨al, hal⟩ : ∃ al, Mp.all l fr = al := ⟨_, rfl⟩
      have hlen := Mp.all_len l fr
      have hlt := Mp.all_lt l fr
      rw [hal] at hw hlen hlt
      refine skipS ?_
      refine block ?_   -- block 1
      refine seq (region (det rfl (mv rfl) (det rfl (mv rfl) (callS' (m := al.length) (il_length al) k_milepostref22_All rfl rfl (fun w hm => by
        obtain ⟨D, hD, hs⟩ := hm.sl (k := 0) rfl
        have := ref22_All_ l hn fr A cap D w hD hs
        rw [hal] at this
        exact this) fun B2 q2 => (det rfl (asg rfl) (nilS ?_))))))   -- region 5
      refine seq (region (det rfl (asg rfl) (nilS ?_)))   -- region 6
      refine seq ?_
      refine seq (region (det rfl (asg rfl) (nilS ?_)))   -- region 7
      refine block ?_   -- block 2
      refine loopV (ι := Nat) (fun j => j ≤ al.length) (fun j => [(0, .slice A l.length cap), (2, .int .i64 tt), (7, .slice B y.length q), (8, .slice B2 al.length q2), (9, .int .i64 (bestI ((al.take j).foldl (Mp.farStep tt) (0, false)))), (10, .int .i64 j)]) (fun _ => [.row (.slice B y.length q) T_int 1 y.length (il y).flatten]) (fun _ => [Sl 1 B2 al.length q2 (il al), Sl 1 A l.length cap (il l)]) (fun j => al.length - j) 0 (by omega) ⟨rfl, rfl, rfl, rfl, rfl, rfl, trivial⟩ (fun w hm => hm) ?_
      intro j σ hj
      refine seq ?_
      refine seq (region (det rfl (mv rfl) (det rfl (mv rfl) (det rfl (lenS u_sl_int rfl) (det rfl (lss rfl rfl) (nilS ?_))))))   -- region 8
      refine cond rfl (fun h => ?_) (fun h => ?_)   -- on t35
      · have h := of_decide_eq_true h
        have hj2 : j < al.length := by omega
        have hst := (best_step tt (al.getD j 0) ((al.take j).foldl (Mp.farStep tt) (0, false)) (by omega) (best_pos tt al (by omega) j)).1
        rw [← fold_take tt al j hj2] at hst
        obtain ⟨bb, hbb⟩ : ∃ bb, bestI ((al.take j).foldl (Mp.farStep tt) (0, false)) = bb := ⟨_, rfl⟩
        rw [hbb] at hst ⊢
        have hat : (il al)[j]? = some [.int .i64 (al.getD j 0)] := il_at rfl hj2
        obtain ⟨yj, hyj⟩ : ∃ yj, al.getD j 0 = yj := ⟨_, rfl⟩
        rw [hyj] at hst hat
        refine skipS ?_
        refine seq ?_
        refine block ?_   -- block 3
        by_cases c1 : tt ≤ yj
        · refine seq (region (det rfl (mv rfl) (det rfl (mv rfl) (det rfl (ixS 0 rfl rfl u_sl_int s_int rfl (by omega) (by omega)) (det rfl (ldSO 0 (i := j) rfl rfl o_int hat) (det rfl (mv rfl) (det rfl (Det.to (geq rfl rfl) (v' := .bool true) (vb (decide_eq_true c1))) (det rfl (mv rfl) (guardT rfl rfl (det rfl (mv rfl) (guardT rfl rfl (det rfl (lss rfl rfl) (guardT rfl rfl (det rfl (mv rfl) (guardI rfl rfl rfl (fun _ => mv rfl) (guardI rfl rfl rfl (fun _ => mv rfl) (guardI rfl rfl rfl (fun hb => ixS 0 (bift hb rfl) (bift hb rfl) u_sl_int s_int rfl (by omega) (by omega)) (guardI rfl rfl rfl (fun hb => ldSO 0 (i := j) (bift hb rfl) rfl o_int hat) (guardI rfl rfl rfl (fun _ => mv rfl) (guardI rfl rfl rfl (fun hb => lss (bift hb rfl) (bift hb rfl)) (guardT rfl rfl (det rfl (pick rfl (pickO rfl)) (det rfl (pick (b := true) rfl rfl) (nilS ?_))))))))))))))))))))))))
          rw [decide_eq_true c1, Bool.true_and] at hst
          refine cond rfl (fun h => ?_) (fun h => ?_)   -- on t55
          · refine region (det rfl (mv rfl) (det rfl (mv rfl) (det rfl (ixS 0 rfl rfl u_sl_int s_int rfl (by omega) (by omega)) (det rfl (ldSO 0 (i := j) rfl rfl o_int hat) (det rfl (asg rfl) (nil ?_))))))   -- region 11
            show Tr _ _ _ _ _ _ _
            refine region (det rfl (mv rfl) (det rfl (addI rfl rfl (by omega) (by omega)) (det rfl (asg rfl) (nil ?_))))   -- region 9
            exact again (j + 1) (by omega) ⟨rfl, rfl, rfl, rfl, vi (by rw [hst, if_pos h]), rfl, trivial⟩ (fun w hm => hm) (by (first | omega | (dsimp only; omega)))
          · refine skip ?_
            show Tr _ _ _ _ _ _ _
            refine region (det rfl (mv rfl) (det rfl (addI rfl rfl (by omega) (by omega)) (det rfl (asg rfl) (nil ?_))))   -- region 9
            exact again (j + 1) (by omega) ⟨rfl, rfl, rfl, rfl, vi (by rw [hst, if_neg (by rw [h]; decide)]), rfl, trivial⟩ (fun w hm => hm) (by (first | omega | (dsimp only; omega)))
        · refine seq (region (det rfl (mv rfl) (det rfl (mv rfl) (det rfl (ixS 0 rfl rfl u_sl_int s_int rfl (by omega) (by omega)) (det rfl (ldSO 0 (i := j) rfl rfl o_int hat) (det rfl (mv rfl) (det rfl (Det.to (geq rfl rfl) (v' := .bool false) (vb (decide_eq_false c1))) (det rfl (mv rfl) ?_))))))))
          repeat (first | refine guardF rfl (vb (rfl : false = !true)) rfl ?_ | refine guardU rfl rfl rfl ?_)
          refine det rfl (pick (b := false) rfl rfl) (nilS ?_)
          refine condF rfl ?_
          refine skip ?_
          show Tr _ _ _ _ _ _ _
          refine region (det rfl (mv rfl) (det rfl (addI rfl rfl (by omega) (by omega)) (det rfl (asg rfl) (nil ?_))))   -- region 9
          rw [decide_eq_false c1, Bool.false_and] at hst
          exact again (j + 1) (by omega) ⟨rfl, rfl, rfl, rfl, vi (by rw [hst, if_neg (by decide)]), rfl, trivial⟩ (fun w hm => hm) (by (first | omega | (dsimp only; omega)))
      · have h := of_decide_eq_false h
        have ej : j = al.length := by omega
        subst ej
        refine exit ?_   -- 2
        show Tr _ _ _ _ _ _ _
        rw [List.take_length, show List.foldl (Mp.farStep tt) (0, false) al = Mp.far al tt from rfl]
        obtain ⟨f1, f2, hf⟩ : ∃ f1 f2, Mp.far al tt = (f1, f2) := ⟨_, _, rfl⟩
        have hpos := best_pos tt al (by omega) al.length
        rw [List.take_length, show List.foldl (Mp.farStep tt) (0, false) al = Mp.far al tt from rfl, hf] at hpos
        rw [hf] at hw ⊢
        dsimp only at hw hpos
        refine seq ?_
        cases f2 with
        | false =>
          refine seq (region (det rfl (mv rfl) (det rfl (Det.to (lss rfl rfl) (v' := .bool true) (vb (decide_eq_true (show (-1 : Int) < 0 by decide)))) (nilS ?_))))   -- region 12
          refine condT rfl ?_
          refine seq (region (det rfl (asg rfl) (nilS ?_)))   -- region 13
          rw [if_neg (by decide)] at hw
          rw [← hw]; exact ret (retNil rfl rfl rfl)
        | true =>
          rw [if_pos rfl] at hw
          have hs1 := Mp.far_some al tt (by rw [hf])
          rw [hf] at hs1
          have hlt2 := hlt f1 hs1.2
          have hge : tt ≤ f1 := hs1.1
          have el : (y ++ [f1]).length = y.length + 1 := by simp
          refine seq (region (det rfl (mv rfl) (det rfl (Det.to (lss rfl rfl) (v' := .bool false) (vb (decide_eq_false (by show ¬ f1 < 0; omega)))) (nilS ?_))))   -- region 12
          refine condF rfl ?_
          refine skipS ?_
          refine seq (region (det rfl (Det.to (mv rfl) (v' := .int .i64 f1) rfl) (det rfl (asg rfl) (nilS ?_))))   -- region 14
          refine region (det rfl (mv rfl) (det rfl (mv rfl) (bsl rfl (bs1 u_sl_int z_int s_int (cs := [.int .i64 f1]) rfl rfl rfl (by decide) (by decide)) fun b1 => appB 1 0 u_sl_int i_int rfl (by decide) rfl rfl rfl rfl rfl rfl (by simp only [maxLen]; omega) (by omega) rfl fun A cap => det rfl (asg rfl) (nil ?_))))   -- region 15
          refine again (f1, y ++ [f1], k, _, _) ⟨hw, hge, by dsimp only; omega, by dsimp only; omega, by dsimp only; rw [el]; omega⟩ ⟨rfl, rfl, rfl, by dsimp only; rw [el]; rfl, trivial⟩ (fun w hm => ?_) (by dsimp only; omega)
          dsimp only
          rw [el, il_app]; exact drop1 hm.more
    · have h := of_decide_eq_false h
      rw [if_neg (by omega)] at hw
      refine exit ?_   -- 0
      show Tr _ _ _ _ _ _ _
      refine seq (region (det rfl (mv rfl) (det rfl (asg rfl) (nilS ?_))))   -- region 16
      rw [← hw]
      exact ret (retRow (i := 0) rfl rfl rfl rfl (il_length _) (il_ok _))
end Go.Proofs.YtmcapgjdflohfaaGreat.L
