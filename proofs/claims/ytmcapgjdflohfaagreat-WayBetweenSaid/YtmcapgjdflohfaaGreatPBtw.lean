/- Plain: places between, two ways to make them. -/
import Derived.Test.YtmcapgjdflohfaaGreatPGoes
set_option linter.all false
namespace Mp

/-- What a walk that is there begins and ends with. -/
theorem walkN_ends (l : List Int) (to : Int) (k : Nat) : ∀ (fr : Int) (out : List Int), out.getLast? = some fr → to ≤ fr → walkN l to k fr out = [] ∨ ∃ r, walkN l to k fr out = out ++ r ∧ (out ++ r).getLast? = some to := by
  induction k with
  | zero => intro fr out h1 h2; exact .inl rfl
  | succ k ih =>
    intro fr out h1 h2
    simp only [walkN]
    by_cases e : to < fr
    · rw [if_pos e]
      by_cases hf : (far (all l fr) to).2 = true
      · rw [if_pos hf]
        obtain ⟨g1, _⟩ := far_some _ _ hf
        rcases ih (far (all l fr) to).1 (out ++ [(far (all l fr) to).1]) (by simp) g1 with h | ⟨r, hr, hl⟩
        · exact .inl h
        · exact .inr ⟨(far (all l fr) to).1 :: r, by rw [hr]; simp, by simpa using hl⟩
      · rw [if_neg hf]; exact .inl rfl
    · rw [if_neg e]
      have : fr = to := by omega
      exact .inr ⟨[], by simp, by rw [List.append_nil, h1, this]⟩
theorem walk_ends (l : List Int) (a to : Int) (h : walk l a to ≠ []) : ∃ r, walk l a to = a :: r ∧ (a :: r).getLast? = some to := by
  unfold walk at h ⊢
  split at h
  · exact absurd rfl h
  · rename_i hc
    rw [if_neg hc]
    rcases walkN_ends l to ((a - to).toNat + 1) a [a] rfl (by omega) with h' | ⟨r, hr, hl⟩
    · exact absurd h' h
    · exact ⟨r, hr, hl⟩

def btw (l : List Int) (high at_ low : Int) : List Int :=
  if high ≤ at_ ∨ at_ ≤ low ∨ walk l high at_ = [] ∨ walk l at_ low = [] then [] else
  (((walk l high at_).drop 1 ++ (walk l at_ low).drop 1).dropLast).reverse
/-- The reference's way. -/
theorem btw_eq (l : List Int) (high at_ low : Int) (h1 : at_ < high) (h2 : low < at_) (ha : walk l high at_ ≠ []) (hb : walk l at_ low ≠ []) :
    btw l high at_ low = (walk l at_ low).dropLast.reverse ++ ((walk l high at_).drop 1).dropLast.reverse ∧ 2 ≤ (walk l high at_).length ∧ 2 ≤ (walk l at_ low).length := by
  unfold btw
  rw [if_neg (by rintro (h | h | h | h); omega; omega; exact ha h; exact hb h)]
  obtain ⟨ra, e1, g1⟩ := walk_ends l high at_ ha
  obtain ⟨rb, e2, g2⟩ := walk_ends l at_ low hb
  rw [e1, e2]
  obtain ⟨ra', rfl⟩ : ∃ r, ra = r ++ [at_] := by
    rcases List.eq_nil_or_concat ra with rfl | ⟨r, x, rfl⟩
    · simp only [List.getLast?_singleton, Option.some.injEq] at g1; omega
    · rw [List.concat_eq_append, ← List.cons_append, List.getLast?_concat] at g1
      simp only [Option.some.injEq] at g1
      exact ⟨r, by rw [g1, List.concat_eq_append]⟩
  obtain ⟨rb', rfl⟩ : ∃ r, rb = r ++ [low] := by
    rcases List.eq_nil_or_concat rb with rfl | ⟨r, x, rfl⟩
    · simp only [List.getLast?_singleton, Option.some.injEq] at g2; omega
    · rw [List.concat_eq_append, ← List.cons_append, List.getLast?_concat] at g2
      simp only [Option.some.injEq] at g2
      exact ⟨r, by rw [g2, List.concat_eq_append]⟩
  refine ⟨?_, by simp, by simp⟩
  simp only [List.drop_succ_cons, List.drop_zero]
  rw [← List.append_assoc, List.dropLast_concat, List.dropLast_concat, ← List.cons_append, List.dropLast_concat]
  simp
theorem walkN_len (l : List Int) (to : Int) (k : Nat) : ∀ (fr : Int) (out : List Int), (walkN l to k fr out).length ≤ out.length + k := by
  induction k with
  | zero => intro fr out; simp [walkN]
  | succ k ih =>
    intro fr out
    simp only [walkN]
    split
    · split
      · have := ih (far (all l fr) to).1 (out ++ [(far (all l fr) to).1])
        simp only [List.length_append, List.length_singleton] at this
        omega
      · simp
    · omega
theorem walk_len (l : List Int) (a to : Int) : (walk l a to).length ≤ l.length + 1 := by
  unfold walk
  split
  · simp
  · have := walkN_len l to ((a - to).toNat + 1) a [a]
    simp only [List.length_singleton] at this
    omega
end Mp
