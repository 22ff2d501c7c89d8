/-! Merkle trees: plain functions for layers 11 to 15. -/
namespace Mp

/-- How many leaves of a tree stand on its left side. -/
def left (n : Nat) : Nat := if n < 2 then 0 else 2 ^ Nat.log2 (n - 1)

theorem left_pos {n : Nat} (h : 2 ≤ n) : 0 < left n := by
  unfold left; rw [if_neg (by omega)]; exact Nat.pos_of_ne_zero (by simp)

theorem left_lt {n : Nat} (h : 2 ≤ n) : left n < n := by
  unfold left; rw [if_neg (by omega)]
  have := Nat.log2_self_le (n := n - 1) (by omega)
  omega

theorem left_half {n : Nat} (h : 2 ≤ n) : n - 1 < 2 * left n := by
  unfold left; rw [if_neg (by omega)]
  have := Nat.lt_log2_self (n := n - 1)
  rw [Nat.pow_succ] at this
  omega

/-- From a leaf up: whether it stands on the right. -/
def sides (n i : Nat) : List Bool :=
  if h : n < 2 then [] else
  have : left n < n := left_lt (by omega)
  have : 0 < left n := left_pos (by omega)
  if left n ≤ i then sides (n - left n) (i - left n) ++ [true] else sides (left n) i ++ [false]
  termination_by n

theorem sides_small (n i : Nat) (h : n < 2) : sides n i = [] := by rw [sides, dif_pos h]
theorem sides_step (n i : Nat) (h : ¬ n < 2) : sides n i = if left n ≤ i then sides (n - left n) (i - left n) ++ [true] else sides (left n) i ++ [false] := by rw [sides, dif_neg h]

section
variable {H : Type} (d : H) (N : H → H → H)

/-- The sum at the top. -/
def top (l : List H) : H :=
  if h : l.length < 2 then l.headD d else
  have : left l.length < l.length := left_lt (by omega)
  have : 0 < left l.length := left_pos (by omega)
  N (top (l.take (left l.length))) (top (l.drop (left l.length)))
  termination_by l.length
  decreasing_by
  · simp; omega
  · simp; omega

/-- The sums beside the way from a leaf up. -/
def path (l : List H) (i : Nat) : List H :=
  if h : l.length < 2 then [] else
  have : left l.length < l.length := left_lt (by omega)
  have : 0 < left l.length := left_pos (by omega)
  if i < left l.length then path (l.take (left l.length)) i ++ [top d N (l.drop (left l.length))]
  else path (l.drop (left l.length)) (i - left l.length) ++ [top d N (l.take (left l.length))]
  termination_by l.length
  decreasing_by
  · simp; omega
  · simp; omega

/-- The sum above one, with what stands beside it. -/
def above (at_ : H) (s : Bool × H) : H := if s.1 then N s.2 at_ else N at_ s.2

/-- All sums from a leaf's up. -/
def ups (at_ : H) : List (Bool × H) → List H
  | [] => [at_]
  | s :: r => at_ :: ups (above N at_ s) r

theorem top_small (l : List H) (h : l.length < 2) : top d N l = l.headD d := by rw [top, dif_pos h]
theorem top_step (l : List H) (h : ¬ l.length < 2) : top d N l = N (top d N (l.take (left l.length))) (top d N (l.drop (left l.length))) := by rw [top, dif_neg h]
theorem path_small (l : List H) (i : Nat) (h : l.length < 2) : path d N l i = [] := by rw [path, dif_pos h]
theorem path_step (l : List H) (i : Nat) (h : ¬ l.length < 2) : path d N l i =
    if i < left l.length then path d N (l.take (left l.length)) i ++ [top d N (l.drop (left l.length))]
    else path d N (l.drop (left l.length)) (i - left l.length) ++ [top d N (l.take (left l.length))] := by rw [path, dif_neg h]

theorem path_length (l : List H) (i : Nat) (hi : i < l.length) : (path d N l i).length = (sides l.length i).length := by
  induction hn : l.length using Nat.strongRecOn generalizing l i with
  | _ n ih =>
    subst hn
    by_cases h : l.length < 2
    · rw [path_small d N l i h, sides_small _ _ h]; rfl
    · rw [path_step d N l i h, sides_step _ _ h]
      have h1 := left_lt (n := l.length) (by omega)
      have h2 := left_pos (n := l.length) (by omega)
      by_cases e : i < left l.length
      · rw [if_pos e, if_neg (by omega)]
        have := ih (left l.length) h1 (l.take (left l.length)) i (by simp; omega) (by simp; omega)
        simp [this]
      · rw [if_neg e, if_pos (by omega)]
        have := ih (l.length - left l.length) (by omega) (l.drop (left l.length)) (i - left l.length) (by simp; omega) (by simp)
        simp [this]

/-- Folding a leaf's path up comes to the top. -/
theorem fold_path (l : List H) (i : Nat) (hi : i < l.length) : ((sides l.length i).zip (path d N l i)).foldl (above N) (l.getD i d) = top d N l := by
  induction hn : l.length using Nat.strongRecOn generalizing l i with
  | _ n ih =>
    subst hn
    have hpl := path_length d N l i hi
    by_cases h : l.length < 2
    · rw [path_small d N l i h, sides_small _ _ h, top_small d N l h]
      match l, hi, h with
      | [x], hi, _ => have : i = 0 := by simpa using hi
                      subst this; simp
    · rw [path_step d N l i h, sides_step _ _ h, top_step d N l h]
      rw [path_step d N l i h, sides_step _ _ h] at hpl
      have h1 := left_lt (n := l.length) (by omega)
      have h2 := left_pos (n := l.length) (by omega)
      by_cases e : i < left l.length
      · rw [if_pos e, if_neg (by omega)]
        rw [if_pos e, if_neg (by omega)] at hpl
        have hl : (l.take (left l.length)).length = left l.length := by simp; omega
        have ih := ih (left l.length) h1 (l.take (left l.length)) i (by omega) hl
        simp only [List.length_append, List.length_cons, List.length_nil] at hpl
        rw [List.zip_append (by omega), List.foldl_append]
        have hg : (l.take (left l.length)).getD i d = l.getD i d := by simp [List.getD, e]
        rw [hg] at ih
        rw [ih]; rfl
      · rw [if_neg e, if_pos (by omega)]
        rw [if_neg e, if_pos (by omega)] at hpl
        have hl : (l.drop (left l.length)).length = l.length - left l.length := by simp
        have ih := ih (l.length - left l.length) (by omega) (l.drop (left l.length)) (i - left l.length) (by omega) hl
        simp only [List.length_append, List.length_cons, List.length_nil] at hpl
        rw [List.zip_append (by omega), List.foldl_append]
        have hg : (l.drop (left l.length)).getD (i - left l.length) d = l.getD i d := by
          simp only [List.getD, List.getElem?_drop]; rw [show left l.length + (i - left l.length) = i from by omega]
        rw [hg] at ih
        rw [ih]; rfl

theorem ups_getLast (at_ : H) (s : List (Bool × H)) : (ups N at_ s).getLast? = some (s.foldl (above N) at_) := by
  induction s generalizing at_ with
  | nil => rfl
  | cons x r ih =>
    simp only [ups, List.foldl_cons]
    rw [List.getLast?_cons, ih]; rfl

theorem ups_length (at_ : H) (s : List (Bool × H)) : (ups N at_ s).length = s.length + 1 := by
  induction s generalizing at_ with
  | nil => rfl
  | cons x r ih => simp [ups, ih]
end

theorem left_le_pow {n k : Nat} (h : 2 ≤ n) (hk : n ≤ 2 ^ (k + 1)) : left n ≤ 2 ^ k := by
  unfold left; rw [if_neg (by omega)]
  have : Nat.log2 (n - 1) < k + 1 := (Nat.log2_lt (by omega)).2 (by omega)
  exact Nat.pow_le_pow_right (by omega) (by omega)

theorem sides_length_le (k n i : Nat) (h : n ≤ 2 ^ k) : (sides n i).length ≤ k := by
  induction k generalizing n i with
  | zero => rw [sides_small _ _ (by simp at h; omega)]; simp
  | succ k ih =>
    by_cases h2 : n < 2
    · rw [sides_small _ _ h2]; simp
    · rw [sides_step _ _ h2]
      have h1 := left_le_pow (n := n) (k := k) (by omega) h
      have h3 := left_half (n := n) (by omega)
      split
      · have := ih (n - left n) (i - left n) (by omega)
        simp only [List.length_append, List.length_cons, List.length_nil]; omega
      · have := ih (left n) i h1
        simp only [List.length_append, List.length_cons, List.length_nil]; omega
end Mp
