import Derived.Test.YtmcapgjdflohfaaGreatPNear
set_option linter.all false
namespace Mp

def next {α : Type} (d : α) (v : List α) (id : α) (level : Int) : List α :=
  if v = [] then [] else
  let lv := (min (max level 0) 255).toNat
  let n := max v.length (lv + 2)
  (List.range n).map fun i => if i + 1 = n then v.getD (v.length - 1) d else if i ≤ lv then id else if i < v.length then v.getD i d else v.getD (v.length - 1) d

/-- The vector of the block at a place. -/
def vec {α : Type} (d : α) (ids : List α) (levels : List Int) : Nat → List α
  | 0 => []
  | i + 1 => if i = 0 then [ids.getD 0 d] else next d (vec d ids levels i) (ids.getD i d) (levels.getD i 0)

/-- Levels of a chain that may be. -/
def ChainLevels (l : List Int) : Prop := (0 < l.length → l.getD 0 0 = 256) ∧ ∀ i : Nat, 0 < i → i < l.length → 0 ≤ l.getD i 0 ∧ l.getD i 0 ≤ 255

theorem near_ge (l : List Int) (h : ChainLevels l) (n : Nat) (h1 : 1 ≤ n) (hn : n ≤ l.length) (lv : Int) (hl : lv ≤ 256) : 0 ≤ near l n lv := by
  induction n with
  | zero => omega
  | succ n ih =>
    rw [Int.natCast_succ, near_succ l n lv (by omega)]
    split
    · omega
    · by_cases e : n = 0
      · subst e; have := h.1 (by omega); omega
      · exact ih (by omega) (by omega)

/-- How many entries a vector has. -/
def height (l : List Int) : Nat → Nat
  | 0 => 0
  | i + 1 => if i = 0 then 1 else max (height l i) ((l.getD i 0).toNat + 2)

theorem height_bd (l : List Int) (h : ChainLevels l) (n : Nat) (h1 : 1 ≤ n) (hn : n ≤ l.length) : 1 ≤ height l n ∧ height l n ≤ 257 := by
  induction n with
  | zero => omega
  | succ n ih =>
    simp only [height]
    split
    · omega
    · have := ih (by omega) (by omega)
      have := h.2 n (by omega) (by omega)
      omega

/-- Above the height nothing but the first block is near; below it, another one. -/
theorem near_height (l : List Int) (h : ChainLevels l) (n : Nat) (h1 : 1 ≤ n) (hn : n ≤ l.length) (k : Nat) (hk : k ≤ 256) :
    near l n k = 0 ↔ height l n ≤ k + 1 := by
  induction n with
  | zero => omega
  | succ n ih =>
    rw [Int.natCast_succ, near_succ l n k (by omega)]
    simp only [height]
    by_cases e : n = 0
    · subst e
      rw [if_pos rfl]
      have := h.1 (by omega)
      rw [if_pos (by omega)]
      constructor <;> omega
    · have hl := h.2 n (by omega) (by omega)
      have ih' := ih (by omega) (by omega)
      rw [if_neg e]
      split
      · constructor <;> omega
      · rw [ih']; constructor <;> omega

theorem allFrom_eq (l : List Int) (h : ChainLevels l) (n : Nat) (h1 : 1 ≤ n) (hn : n ≤ l.length) (k i : Nat) (hk : k + i = 257) (hi : i < height l n) :
    allFrom l n k i = (List.range' i (height l n - i)).map fun j => near l n (j : Nat) := by
  have hb := height_bd l h n h1 hn
  induction k generalizing i with
  | zero => omega
  | succ k ih =>
    simp only [allFrom]
    have hg := near_ge l h n h1 hn i (by omega)
    have hz := near_height l h n h1 hn i (by omega)
    rw [if_neg (by omega)]
    obtain ⟨m, hm⟩ : ∃ m, height l n - i = m + 1 := ⟨height l n - i - 1, by omega⟩
    by_cases e : near l n i = 0
    · rw [if_pos e]
      have : height l n ≤ i + 1 := hz.1 e
      have : m = 0 := by omega
      subst this
      rw [hm]; simp
    · rw [if_neg e]
      have : ¬ height l n ≤ i + 1 := fun x => e (hz.2 x)
      have := ih (i + 1) (by omega) (by omega)
      rw [show ((i + 1 : Nat) : Int) = (i : Int) + 1 from by omega] at this
      rw [this, hm, show height l n - (i + 1) = m from by omega, List.range'_succ]
      simp

theorem all_eq (l : List Int) (h : ChainLevels l) (n : Nat) (h1 : 1 ≤ n) (hn : n ≤ l.length) :
    all l n = (List.range (height l n)).map fun j => near l n (j : Nat) := by
  have hb := height_bd l h n h1 hn
  unfold all
  rw [if_neg (by omega)]
  have := allFrom_eq l h n h1 hn 257 0 (by omega) (by omega)
  rw [show ((0 : Nat) : Int) = 0 from rfl, Nat.sub_zero] at this
  rw [this, List.range_eq_range']

theorem all_zero (l : List Int) : all l 0 = [] := by unfold all; rw [if_pos (by omega)]

theorem vec_eq {α : Type} (d : α) (ids : List α) (l : List Int) (h : ChainLevels l) (n : Nat) (hn : n ≤ l.length) :
    vec d ids l n = (all l n).map fun p => ids.getD p.toNat d := by
  induction n with
  | zero => simp [vec, all_zero]
  | succ n ih =>
    have ih := ih (by omega)
    simp only [vec]
    by_cases e : n = 0
    · subst e
      rw [if_pos rfl, all_eq l h 1 (by omega) hn]
      have h0 : near l (1 : Nat) (0 : Nat) = 0 := (near_height l h 1 (by omega) hn 0 (by omega)).2 (by simp [height])
      simp only [height, if_true, List.range_one, List.map_cons, List.map_nil]
      rw [h0]; rfl
    · rw [if_neg e, all_eq l h (n + 1) (by omega) hn]
      have hb := height_bd l h n (by omega) (by omega)
      have hl := h.2 n (by omega) (by omega)
      rw [all_eq l h n (by omega) (by omega)] at ih
      have hlen : (vec d ids l n).length = height l n := by rw [ih]; simp
      unfold next
      rw [if_neg (by intro x; rw [x] at hlen; simp at hlen; omega)]
      have hh : height l (n + 1) = max (vec d ids l n).length ((min (max (l.getD n 0) 0) 255).toNat + 2) := by
        simp only [height]; rw [if_neg e, hlen]; omega
      simp only [List.map_map]
      rw [← hh]
      apply List.map_congr_left
      intro i hi
      rw [List.mem_range] at hi
      simp only [Function.comp]
      have hs : near l ((n + 1 : Nat) : Int) (i : Nat) = if (i : Int) ≤ l.getD n 0 then (n : Int) else near l n (i : Nat) := by
        rw [Int.natCast_succ]; exact near_succ l n i (by omega)
      have hbs := height_bd l h (n + 1) (by omega) hn
      have hz := near_height l h (n + 1) (by omega) hn i (by omega)
      have hat : ∀ j, j < height l n → (vec d ids l n).getD j d = ids.getD (near l n (j : Nat)).toNat d := by
        intro j hj
        rw [ih]
        simp [List.getD, hj]
      have hlast : (vec d ids l n).getD ((vec d ids l n).length - 1) d = ids.getD 0 d := by
        rw [hlen, hat _ (by omega)]
        rw [(near_height l h n (by omega) (by omega) (height l n - 1) (by omega)).2 (by omega)]; rfl
      rw [hlast]
      by_cases e1 : i + 1 = height l (n + 1)
      · rw [if_pos e1, hz.2 (by omega)]; rfl
      · rw [if_neg e1, hs]
        by_cases e2 : (i : Int) ≤ l.getD n 0
        · rw [if_pos (by omega), if_pos e2]; simp
        · rw [if_neg (by omega), if_neg e2, if_pos (by rw [hlen]; rw [hlen] at hh; omega), hat i (by rw [hlen] at hh; omega)]
end Mp
