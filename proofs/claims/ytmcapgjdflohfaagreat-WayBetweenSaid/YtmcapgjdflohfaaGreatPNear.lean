/-! Plain functions for layers 26 and 27, and for the vectors of layer 20. -/
namespace Mp

/-- The last place below `n` whose level is at least `level`; -1: none. -/
def nearN (l : List Int) (level : Int) : Nat → Int
  | 0 => -1
  | i + 1 => if level ≤ l.getD i 0 then (i : Int) else nearN l level i

def near (l : List Int) (at_ level : Int) : Int := nearN l level (min (max at_ 0) (l.length : Int)).toNat

def allFrom (l : List Int) (at_ : Int) : Nat → Int → List Int
  | 0, _ => []
  | k + 1, lv =>
    if near l at_ lv < 0 then [] else
    if near l at_ lv = 0 then [near l at_ lv] else near l at_ lv :: allFrom l at_ k (lv + 1)

def all (l : List Int) (at_ : Int) : List Int :=
  if at_ < 1 ∨ (l.length : Int) < at_ then [] else allFrom l at_ 257 0

/-- The first place of `x` from `i` on. -/
def indexFrom (x : Int) : List Int → Int → Int
  | [], _ => -1
  | y :: r, i => if y = x then i else indexFrom x r (i + 1)

def index (l : List Int) (from_ to : Int) : Int := indexFrom to (all l from_) 0

theorem nearN_range (l : List Int) (lv : Int) (n : Nat) : -1 ≤ nearN l lv n ∧ nearN l lv n < n := by
  induction n with
  | zero => simp [nearN]
  | succ n ih => simp only [nearN]; split <;> omega

theorem near_range (l : List Int) (at_ lv : Int) : -1 ≤ near l at_ lv ∧ near l at_ lv < max 1 l.length := by
  have := nearN_range l lv (min (max at_ 0) (l.length : Int)).toNat
  unfold near; omega

theorem near_lt (l : List Int) (at_ lv : Int) (h : 0 ≤ at_) : near l at_ lv < max at_ 1 := by
  have := nearN_range l lv (min (max at_ 0) (l.length : Int)).toNat
  unfold near; omega

/-- What a nonnegative `nearN` tells. -/
theorem nearN_level (l : List Int) (lv : Int) (n : Nat) (h : 0 ≤ nearN l lv n) : lv ≤ l.getD (nearN l lv n).toNat 0 := by
  induction n with
  | zero => simp [nearN] at h
  | succ n ih =>
    simp only [nearN] at h ⊢
    split
    · simpa using ‹lv ≤ _›
    · rw [if_neg ‹_›] at h; exact ih h

/-- Places behind it are of no such level. -/
theorem nearN_behind (l : List Int) (lv : Int) (n : Nat) (i : Nat) (h0 : nearN l lv n < i) (h1 : i < n) : l.getD i 0 < lv := by
  induction n with
  | zero => omega
  | succ n ih =>
    simp only [nearN] at h0
    split at h0
    · omega
    · by_cases e : i = n
      · subst e; omega
      · exact ih h0 (by omega)

theorem near_succ (l : List Int) (n : Nat) (lv : Int) (h : n < l.length) :
    near l ((n : Int) + 1) lv = if lv ≤ l.getD n 0 then (n : Int) else near l n lv := by
  unfold near
  rw [show (min (max ((n : Int) + 1) 0) (l.length : Int)).toNat = n + 1 from by omega, show (min (max (n : Int) 0) (l.length : Int)).toNat = n from by omega]
  rfl

theorem near_zero (l : List Int) (lv : Int) : near l 0 lv = -1 := by
  unfold near
  rw [show (min (max (0 : Int) 0) (l.length : Int)).toNat = 0 from by omega]; rfl

end Mp
