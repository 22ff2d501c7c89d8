import Derived.Test.YtmcapgjdflohfaaGreatPVec
set_option linter.all false
namespace Mp

/-- The least of some places that is no less than `to`. -/
def farStep (to : Int) (b : Int × Bool) (n : Int) : Int × Bool := if to ≤ n ∧ (b.2 = false ∨ n < b.1) then (n, true) else b
def far (l : List Int) (to : Int) : Int × Bool := l.foldl (farStep to) (0, false)

def walkN (l : List Int) (to : Int) : Nat → Int → List Int → List Int
  | 0, _, _ => []
  | k + 1, from_, out =>
    if to < from_ then
      if (far (all l from_) to).2 = true then walkN l to k (far (all l from_) to).1 (out ++ [(far (all l from_) to).1]) else []
    else out

def walk (l : List Int) (from_ to : Int) : List Int :=
  if to < 0 ∨ from_ < to ∨ (l.length : Int) ≤ from_ then [] else walkN l to ((from_ - to).toNat + 1) from_ [from_]

theorem far_fold (to : Int) (l : List Int) (b : Int × Bool) :
    ((l.foldl (farStep to) b).2 = true → (b.2 = true ∧ l.foldl (farStep to) b = b) ∨ (to ≤ (l.foldl (farStep to) b).1 ∧ (l.foldl (farStep to) b).1 ∈ l)) ∧
    ((l.foldl (farStep to) b).2 = false → b.2 = false ∧ ∀ x ∈ l, x < to) := by
  induction l generalizing b with
  | nil => simp
  | cons y r ih =>
    simp only [List.foldl_cons]
    have ih := ih (farStep to b y)
    constructor
    · intro h
      rcases ih.1 h with ⟨h1, h2⟩ | ⟨h1, h2⟩
      · rw [h2] at h ⊢
        unfold farStep at h h1 ⊢
        split
        · right; simp; omega
        · left; rw [if_neg ‹_›] at h; exact ⟨h, rfl⟩
      · right; exact ⟨h1, List.mem_cons_of_mem _ h2⟩
    · intro h
      obtain ⟨h1, h2⟩ := ih.2 h
      unfold farStep at h1
      split at h1
      · simp at h1
      · rename_i hn
        refine ⟨h1, ?_⟩
        intro x hx
        rcases List.mem_cons.1 hx with rfl | hx
        · simp only [h1, true_or, and_true] at hn; omega
        · exact h2 x hx

theorem far_some (l : List Int) (to : Int) (h : (far l to).2 = true) : to ≤ (far l to).1 ∧ (far l to).1 ∈ l := by
  rcases (far_fold to l (0, false)).1 h with ⟨h1, _⟩ | h
  · cases h1
  · exact h

theorem far_none (l : List Int) (to : Int) (h : (far l to).2 = false) : ∀ x ∈ l, x < to := ((far_fold to l (0, false)).2 h).2

theorem allFrom_lt (l : List Int) (a : Int) (ha : 1 ≤ a) (k : Nat) (lv : Int) : ∀ x ∈ allFrom l a k lv, 0 ≤ x ∧ x < a := by
  induction k generalizing lv with
  | zero => simp [allFrom]
  | succ k ih =>
    intro x hx
    have hr := near_range l a lv
    have hr' := near_lt l a lv (by omega)
    simp only [allFrom] at hx
    split at hx
    · simp at hx
    · split at hx
      · simp only [List.mem_singleton] at hx; omega
      · rcases List.mem_cons.1 hx with rfl | hx
        · omega
        · exact ih _ x hx

theorem all_lt (l : List Int) (a : Int) : ∀ x ∈ all l a, 0 ≤ x ∧ x < a := by
  unfold all
  split
  · simp
  · exact allFrom_lt l a (by omega) _ _

theorem indexFrom_mem (x : Int) (l : List Int) (i : Int) (h : x ∈ l) : ∃ k : Nat, indexFrom x l i = i + k ∧ l[k]? = some x := by
  induction l generalizing i with
  | nil => simp at h
  | cons y r ih =>
    simp only [indexFrom]
    by_cases e : y = x
    · rw [if_pos e]; exact ⟨0, by simp, by simp [e]⟩
    · rw [if_neg e]
      obtain ⟨k, h1, h2⟩ := ih (i + 1) (by rcases List.mem_cons.1 h with rfl | h; exact absurd rfl e; exact h)
      exact ⟨k + 1, by rw [h1]; omega, by simpa using h2⟩

theorem indexFrom_not (x : Int) (l : List Int) (i : Int) (h : x ∉ l) : indexFrom x l i = -1 := by
  induction l generalizing i with
  | nil => rfl
  | cons y r ih =>
    simp only [indexFrom]
    rw [if_neg (by rintro rfl; simp at h), ih _ (by intro h'; exact h (List.mem_cons_of_mem _ h'))]

/-- A list of places that goes down from `a` to `to`, each step an entry of a vector. -/
inductive Goes (l : List Int) (to : Int) : Int → List Int → Prop where
  | here : Goes l to to [to]
  | step {a b : Int} {r : List Int} (h : b ∈ all l a) (hb : to ≤ b) (ht : Goes l to b r) : Goes l to a (a :: r)

theorem walkN_goes (l : List Int) (h : ChainLevels l) (to : Int) (h0 : 0 ≤ to) (k : Nat) : ∀ (a : Int) (out : List Int), to ≤ a → a < l.length → a - to < k →
    ∃ r, Goes l to a (a :: r) ∧ walkN l to k a out = out ++ r := by
  induction k with
  | zero => intro a out h1 h2 h3; omega
  | succ k ih =>
    intro a out h1 h2 h3
    simp only [walkN]
    by_cases e : to < a
    · rw [if_pos e]
      have hf : (far (all l a) to).2 = true := by
        cases hf : (far (all l a) to).2 with
        | true => rfl
        | false =>
          exfalso
          have hn := far_none _ _ hf (a - 1)
          obtain ⟨n, rfl⟩ : ∃ n : Nat, a = (n : Int) := ⟨a.toNat, by omega⟩
          have hb := height_bd l h n (by omega) (by omega)
          rw [all_eq l h n (by omega) (by omega)] at hn
          have : ((n : Int) - 1) ∈ (List.range (height l n)).map fun j => near l n (j : Nat) := by
            rw [List.mem_map]
            refine ⟨0, by rw [List.mem_range]; omega, ?_⟩
            obtain ⟨m, rfl⟩ : ∃ m, n = m + 1 := ⟨n - 1, by omega⟩
            rw [Int.natCast_succ, near_succ l m _ (by omega), if_pos]
            · omega
            · by_cases hm : m = 0
              · subst hm; have := h.1 (by omega); omega
              · exact (h.2 m (by omega) (by omega)).1
          have := hn this
          omega
      obtain ⟨g1, g2⟩ := far_some _ _ hf
      have g3 := all_lt l a _ g2
      rw [if_pos hf]
      obtain ⟨r, hr, hw⟩ := ih (far (all l a) to).1 (out ++ [(far (all l a) to).1]) g1 (by omega) (by omega)
      refine ⟨(far (all l a) to).1 :: r, .step g2 g1 hr, ?_⟩
      rw [hw]; simp
    · rw [if_neg e]
      have : a = to := by omega
      subst this
      exact ⟨[], .here, by simp⟩

theorem walk_goes (l : List Int) (h : ChainLevels l) (a to : Int) (h0 : 0 ≤ to) (h1 : to ≤ a) (h2 : a < l.length) : Goes l to a (walk l a to) := by
  unfold walk
  rw [if_neg (by omega)]
  obtain ⟨r, hr, hw⟩ := walkN_goes l h to h0 ((a - to).toNat + 1) a [a] h1 h2 (by omega)
  rw [hw]; exact hr
end Mp
