/- Packages near, down: the walks. -/
import Derived.Test.YtmcapgjdflohfaaGreatChain
import Derived.Test.YtmcapgjdflohfaaGreatPDown
set_option linter.all false
namespace Go.Proofs.YtmcapgjdflohfaaGreat.L
open Go Go.RowKit
set_option linter.unusedVariables false

theorem near_Near_ (l : List Int) (hn : l.length ≤ 1000000) (a lv : Int) (A : Option Addr) (cap : Nat) (D : Nat → Prop) (w : World) (hD : ∀ k, D k → k < w.heap.size) (hs : Sl 1 A l.length cap (il l) D w) :
    Calls PP N_near_Near #[.slice A l.length cap, .int .i64 a, .int .i64 lv] w (PR w (.int .i64 (Mp.near l a lv))) := by
  refine enter f_near_Near rfl n_near_Near rfl (M.init1 PP w Sl.stable hD hs) ?_
  refine seq (region (det rfl (asg rfl) (nilS ?_)))   -- region 0
  refine seq ?_
  refine seq (region (det rfl (mv rfl) (det rfl (maxI rfl rfl) (det rfl (mv rfl) (det rfl (lenS u_sl_int rfl) (det rfl (minI rfl rfl) (det rfl (subI rfl rfl (by omega) (by omega)) (det rfl (asg rfl) (nilS ?_)))))))))   -- region 1
  refine block ?_   -- block 0
  refine loopV (ι := Nat) (fun k => k ≤ l.length ∧ Mp.nearN l lv k = Mp.near l a lv) (fun k => [(0, .slice A l.length cap), (2, .int .i64 lv), (7, .int .i64 ((k : Int) - 1))]) (fun _ => []) (fun _ => [Sl 1 A l.length cap (il l)]) (fun k => k) (min (max a 0) (l.length : Int)).toNat ⟨by omega, by rw [Mp.near]⟩ ⟨rfl, rfl, vi (by omega), trivial⟩ (fun w hm => hm) ?_
  intro k σ hk
  refine seq ?_
  refine seq (region (det rfl (mv rfl) (det rfl (geq rfl rfl) (nilS ?_))))   -- region 2
  refine cond rfl (fun h => ?_) (fun h => ?_)   -- on t15
  · have h := of_decide_eq_true h
    refine skipS ?_
    refine seq ?_
    refine block ?_   -- block 1
    refine seq (region (det rfl (mv rfl) (det rfl (mv rfl) (det rfl (ixS 0 rfl rfl u_sl_int s_int rfl (by omega) (by omega)) (det rfl (ldSO 0 rfl rfl o_int (il_at (j := k - 1) (by omega) (by omega))) (det rfl (mv rfl) (det rfl (geq rfl rfl) (nilS ?_))))))))   -- region 4
    obtain ⟨m, rfl⟩ : ∃ m, k = m + 1 := ⟨k - 1, by omega⟩
    rw [Nat.add_sub_cancel]
    refine cond rfl (fun h => ?_) (fun h => ?_)   -- on t23
    · have h := of_decide_eq_true h
      refine seq (region (det rfl (mv rfl) (det rfl (asg rfl) (nilS ?_))))   -- region 5
      refine ret (retT rfl rfl (pr' ?_))
      rw [← hk.2, Mp.nearN, if_pos h]; exact vi (by omega)
    · have h := of_decide_eq_false h
      refine skip ?_
      show Tr _ _ _ _ _ _ _
      refine region (det rfl (mv rfl) (det rfl (subI rfl rfl (by omega) (by omega)) (det rfl (asg rfl) (nil ?_))))   -- region 3
      refine again m ⟨by omega, by rw [← hk.2, Mp.nearN, if_neg h]⟩ ⟨rfl, rfl, vi (by omega), trivial⟩ (fun w hm => hm) (by (first | omega | (dsimp only; omega)))
  · have h := of_decide_eq_false h
    refine exit ?_   -- 0
    show Tr _ _ _ _ _ _ _
    refine seq (region (det rfl (asg rfl) (nilS ?_)))   -- region 6
    refine ret (retT rfl rfl (pr' ?_))
    have : k = 0 := by omega
    subst this
    rw [← hk.2]; rfl

theorem near_All_ (l : List Int) (hn : l.length ≤ 1000000) (a : Int) (A : Option Addr) (cap : Nat) (D : Nat → Prop) (w : World) (hD : ∀ k, D k → k < w.heap.size) (hs : Sl 1 A l.length cap (il l) D w) :
    Calls PP N_near_All #[.slice A l.length cap, .int .i64 a] w (RS w 1 (il (Mp.all l a))) := by
  refine enter f_near_All rfl n_near_All rfl (M.init1 PP w Sl.stable hD hs) ?_
  refine seq (region (det rfl (asg rfl) (nilS ?_)))   -- region 0
  refine seq (region (det rfl (asg rfl) (nilS ?_)))   -- region 1
  refine seq ?_
  by_cases hc : a < 1 ∨ (l.length : Int) < a
  · have e : Mp.all l a = [] := by rw [Mp.all, if_pos hc]
    rw [e]
    refine seq (region (det rfl (mv rfl) (det rfl (lss rfl rfl) (det rfl (mv rfl) ?_))))
    by_cases c1 : a < 1
    · repeat (first | refine guardF rfl (vb (decide_eq_true c1)) rfl ?_ | refine guardU rfl rfl rfl ?_)
      refine det rfl (pick (vb (decide_eq_true c1)) rfl) (nilS ?_)
      refine condT rfl ?_
      refine seq (region (det rfl (mv rfl) (det rfl (asg rfl) (nilS ?_))))   -- region 3
      exact ret (retNil rfl rfl rfl)
    · have c2 : (l.length : Int) < a := by omega
      refine guardT rfl (vb (decide_eq_false c1)) (det rfl (mv rfl) ?_)
      refine guardT rfl (vb (decide_eq_false c1)) (det rfl (mv rfl) ?_)
      refine guardT rfl (vb (decide_eq_false c1)) (det rfl (lenS u_sl_int rfl) ?_)
      refine guardT rfl (vb (decide_eq_false c1)) (det rfl (gtr rfl rfl) ?_)
      refine det rfl (pick (vb (decide_eq_false c1)) (vb (decide_eq_true c2))) (nilS ?_)
      refine condT rfl ?_
      refine seq (region (det rfl (mv rfl) (det rfl (asg rfl) (nilS ?_))))   -- region 3
      exact ret (retNil rfl rfl rfl)
  · have c1 : ¬ a < 1 := fun h => hc (.inl h)
    have c2 : ¬ (l.length : Int) < a := fun h => hc (.inr h)
    have e : Mp.all l a = Mp.allFrom l a 257 0 := by rw [Mp.all, if_neg hc]
    refine seq (region (det rfl (mv rfl) (det rfl (lss rfl rfl) (det rfl (mv rfl) ?_))))
    refine guardT rfl (vb (decide_eq_false c1)) (det rfl (mv rfl) ?_)
    refine guardT rfl (vb (decide_eq_false c1)) (det rfl (mv rfl) ?_)
    refine guardT rfl (vb (decide_eq_false c1)) (det rfl (lenS u_sl_int rfl) ?_)
    refine guardT rfl (vb (decide_eq_false c1)) (det rfl (gtr rfl rfl) ?_)
    refine det rfl (pick (vb (decide_eq_false c1)) (vb (decide_eq_false c2))) (nilS ?_)
    refine condF rfl ?_
    refine skipS ?_
    refine seq ?_
    refine seq (region (det rfl (mv rfl) (nilS ?_)))   -- region 4
    refine block ?_   -- block 0
    refine loopV (ι := List Int × Option Addr × Nat) (fun (y, _, _) => y.length ≤ 257 ∧ y ++ Mp.allFrom l a (257 - y.length) y.length = Mp.all l a) (fun (y, B, q) => [(0, .slice A l.length cap), (1, .int .i64 a), (5, .slice B y.length q), (17, .int .i64 y.length)]) (fun (y, B, q) => [.row (.slice B y.length q) T_int 1 y.length (il y).flatten]) (fun _ => [Sl 1 A l.length cap (il l)]) (fun (y, _, _) => 257 - y.length) ([], none, 0) ⟨by decide, by rw [e]; rfl⟩ ⟨rfl, rfl, rfl, rfl, trivial⟩ (fun w hm => hm.nilRow _ _) ?_
    rintro ⟨y, B, q⟩ σ ⟨hy, hc⟩
    dsimp only at hy hc ⊢
    refine seq (region (det rfl (lss rfl rfl) (nilS ?_)))   -- region 5
    refine seq ?_
    refine cond rfl (fun h => ?_) (fun h => ?_)   -- on t18
    · have h := of_decide_eq_true h
      rw [show 257 - y.length = (256 - y.length) + 1 by omega, Mp.allFrom] at hc
      refine skipS ?_
      refine seq ?_
      refine block ?_   -- block 1
      refine seq (region (det rfl (mv rfl) (det rfl (asg rfl) (nilS ?_))))   -- region 6
      refine seq (region (det rfl (mv rfl) (det rfl (mv rfl) (det rfl (mv rfl) (call k_near_Near rfl rfl (fun w hm => by
        obtain ⟨D, hD, hs⟩ := hm.sl (k := 0) rfl
        exact near_Near_ l hn a y.length A cap D w hD hs) (det rfl (asg rfl) (nilS ?_)))))))   -- region 7
      refine seq ?_
      refine seq (region (det rfl (mv rfl) (det rfl (lss rfl rfl) (nilS ?_))))   -- region 8
      refine cond rfl (fun h => ?_) (fun h => ?_)   -- on t25
      · have h := of_decide_eq_true h
        rw [if_pos h, List.append_nil] at hc
        subst hc
        refine exit ?_   -- 0
        show Tr _ _ _ _ _ _ _
        refine seq (region (det rfl (mv rfl) (det rfl (asg rfl) (nilS ?_))))   -- region 12
        exact ret (retRow (i := 0) rfl rfl rfl rfl (il_length _) (il_ok _))
      · have h0 := of_decide_eq_false h
        rw [if_neg h0] at hc
        refine skipS ?_
        refine seq (region (det rfl (mv rfl) (det rfl (mv rfl) (bsl rfl (bs1 u_sl_int z_int s_int (cs := [.int .i64 (Mp.near l a y.length)]) rfl rfl rfl (by decide) (by decide)) fun b0 => appB 1 0 u_sl_int i_int rfl (by decide) rfl rfl rfl rfl rfl rfl (by simp only [maxLen]; omega) (by omega) rfl fun A cap => det rfl (asg rfl) (nilS ?_)))))   -- region 9
        refine seq (region (det rfl (mv rfl) (det rfl (eql rfl rfl) (nilS ?_))))   -- region 10
        refine cond rfl (fun h => ?_) (fun h => ?_)   -- on t31
        · have h := of_decide_eq_true h
          rw [if_pos h] at hc
          refine exit ?_   -- 0
          show Tr _ _ _ _ _ _ _
          refine seq (region (det rfl (mv rfl) (det rfl (asg rfl) (nilS ?_))))   -- region 12
          rw [← hc]
          refine ret (retRow (i := 1) rfl rfl rfl (by rw [il_app]; rfl) (by simp [il_length]) (il_ok _))
        · have h := of_decide_eq_false h
          rw [if_neg h] at hc
          refine skip ?_
          show Tr _ _ _ _ _ _ _
          refine region (det rfl (addI rfl rfl (by omega) (by omega)) (det rfl (mv rfl) (nil ?_)))   -- region 11
          have el : (y ++ [Mp.near l a y.length]).length = y.length + 1 := by simp
          refine again (y ++ [Mp.near l a y.length], _, _) ⟨by dsimp only; omega, ?_⟩ ⟨rfl, rfl, by dsimp only; rw [el]; rfl, vi (by dsimp only; omega), trivial⟩ (fun w hm => ?_) (by (first | omega | (dsimp only; omega)))
          · dsimp only
            rw [el, ← hc, show 257 - (y.length + 1) = 256 - y.length by omega]; simp
          · dsimp only
            rw [el, il_app]; exact drop1 hm
    · have h := of_decide_eq_false h
      rw [show 257 - y.length = 0 by omega, Mp.allFrom, List.append_nil] at hc
      subst hc
      refine exit ?_   -- 0
      show Tr _ _ _ _ _ _ _
      refine seq (region (det rfl (mv rfl) (det rfl (asg rfl) (nilS ?_))))   -- region 12
      exact ret (retRow (i := 0) rfl rfl rfl rfl (il_length _) (il_ok _))
end Go.Proofs.YtmcapgjdflohfaaGreat.L
