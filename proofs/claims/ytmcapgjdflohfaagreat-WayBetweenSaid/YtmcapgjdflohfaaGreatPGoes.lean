/- Plain: how walks go, step by step; how long they are. -/
import Derived.Test.YtmcapgjdflohfaaGreatPDown
set_option linter.all false
namespace Mp

theorem allFrom_len (l : List Int) (a : Int) (k : Nat) (lv : Int) : (allFrom l a k lv).length ≤ k := by
  induction k generalizing lv with
  | zero => simp [allFrom]
  | succ k ih =>
    simp only [allFrom]
    split
    · simp
    · split
      · simp
      · have := ih (lv + 1)
        simp only [List.length_cons]; omega
theorem all_len (l : List Int) (a : Int) : (all l a).length ≤ 257 := by
  unfold all
  split
  · simp
  · exact allFrom_len l a 257 0
theorem goes_at {l : List Int} {to a : Int} {w : List Int} (h : Goes l to a w) : 0 < w.length ∧ w.getD 0 0 = a ∧ w.getD (w.length - 1) 0 = to ∧ to ≤ a ∧ (w.length : Int) ≤ a - to + 1 ∧
    (∀ j, j < w.length → to ≤ w.getD j 0 ∧ w.getD j 0 ≤ a) ∧ ∀ j, j + 1 < w.length → w.getD (j + 1) 0 ∈ all l (w.getD j 0) := by
  induction h with
  | here => exact ⟨by simp, by simp, by simp, Int.le_refl _, by simp, fun j hj => by simp at hj; subst hj; simp, fun j hj => by simp at hj⟩
  | @step a b r h hb ht ih =>
    obtain ⟨h1, h2, h3, h4, h5, h6, h7⟩ := ih
    have hlt := all_lt l a b h
    refine ⟨by simp, by simp, ?_, by omega, by simp only [List.length_cons]; omega, fun j hj => ?_, fun j hj => ?_⟩
    · obtain ⟨m, hm⟩ : ∃ m, r.length = m + 1 := ⟨r.length - 1, by omega⟩
      have : (a :: r).length - 1 = m + 1 := by simp only [List.length_cons]; omega
      rw [this, List.getD_cons_succ, ← h3, hm]; rfl
    · cases j with
      | zero => simp only [List.getD_cons_zero]; omega
      | succ j =>
        rw [List.getD_cons_succ]
        have := h6 j (by simp only [List.length_cons] at hj; omega)
        omega
    · cases j with
      | zero =>
        rw [List.getD_cons_succ, List.getD_cons_zero, h2]; exact h
      | succ j =>
        rw [List.getD_cons_succ, List.getD_cons_succ]
        exact h7 j (by simp only [List.length_cons] at hj; omega)
end Mp
