/- Plain functions for layers 26 and 27, and for the vectors of layer 20. -/
import Derived.Tactics
import Derived.OwnWalk
import Derived.Below
import Derived.OrdersHeld
import Derived.Deep.Draws
import Derived.Laws.Slices
import Derived.Laws.Tables
import Derived.Laws.CopyRow
import Derived.Laws.StructEq
import Derived.Laws.MakeOwn
import Derived.Laws.OwnMore
import Derived.Laws.BytesArg
import Derived.Laws.NewBlocks
import Derived.Maps.AppendAt
import Derived.Laws.Rows
import Derived.Laws.Strings
import Derived.StillTail
import Derived.Test.YtmcapgjdflohfaaGreatProg
import Derived.KernelRfl
set_option linter.all false
namespace Mp

/-- The last place below `n` whose level is at least `level`; -1: none. -/
def nearN (l : List Int) (level : Int) : Nat → Int
  | 0 => -1
  | i + 1 => if level ≤ l.getD i 0 then (i : Int) else nearN l level i

def near (l : List Int) (at_ level : Int) : Int := nearN l level (min (max at_ 0) (l.length : Int)).toNat

def allFrom (l : List Int) (at_ : Int) : Nat → Int → List Int
  | 0, _ => []
  | k + 1, lv =>
    if near l at_ lv < 0 then [] else
    if near l at_ lv = 0 then [near l at_ lv] else near l at_ lv :: allFrom l at_ k (lv + 1)

def all (l : List Int) (at_ : Int) : List Int :=
  if at_ < 1 ∨ (l.length : Int) < at_ then [] else allFrom l at_ 257 0

/-- The first place of `x` from `i` on. -/
def indexFrom (x : Int) : List Int → Int → Int
  | [], _ => -1
  | y :: r, i => if y = x then i else indexFrom x r (i + 1)

def index (l : List Int) (from_ tt : Int) : Int := indexFrom tt (all l from_) 0

theorem nearN_range (l : List Int) (lv : Int) (n : Nat) : -1 ≤ nearN l lv n ∧ nearN l lv n < n := by
  induction n with
  | zero => simp [nearN]
  | succ n ih => simp only [nearN]; split <;> omega

theorem near_range (l : List Int) (at_ lv : Int) : -1 ≤ near l at_ lv ∧ near l at_ lv < max 1 l.length := by
  have := nearN_range l lv (min (max at_ 0) (l.length : Int)).toNat
  unfold near; omega

theorem near_lt (l : List Int) (at_ lv : Int) (h : 0 ≤ at_) : near l at_ lv < max at_ 1 := by
  have := nearN_range l lv (min (max at_ 0) (l.length : Int)).toNat
  unfold near; omega

/-- What a nonnegative `nearN` tells. -/
theorem nearN_level (l : List Int) (lv : Int) (n : Nat) (h : 0 ≤ nearN l lv n) : lv ≤ l.getD (nearN l lv n).toNat 0 := by
  induction n with
  | zero => simp [nearN] at h
  | succ n ih =>
    simp only [nearN] at h ⊢
    split
    · simpa using ‹lv ≤ _›
    · rw [if_neg ‹_›] at h; exact ih h

/-- Places behind it are of no such level. -/
theorem nearN_behind (l : List Int) (lv : Int) (n : Nat) (i : Nat) (h0 : nearN l lv n < i) (h1 : i < n) : l.getD i 0 < lv := by
  induction n with
  | zero => omega
  | succ n ih =>
    simp only [nearN] at h0
    split at h0
    · omega
    · by_cases e : i = n
      · subst e; omega
      · exact ih h0 (by omega)

theorem near_succ (l : List Int) (n : Nat) (lv : Int) (h : n < l.length) :
    near l ((n : Int) + 1) lv = if lv ≤ l.getD n 0 then (n : Int) else near l n lv := by
  unfold near
  rw [show (min (max ((n : Int) + 1) 0) (l.length : Int)).toNat = n + 1 from by omega, show (min (max (n : Int) 0) (l.length : Int)).toNat = n from by omega]
  rfl

theorem near_zero (l : List Int) (lv : Int) : near l 0 lv = -1 := by
  unfold near
  rw [show (min (max (0 : Int) 0) (l.length : Int)).toNat = 0 from by omega]; rfl

end Mp

namespace Mp

def next {α : Type} (d : α) (v : List α) (id : α) (level : Int) : List α :=
  if v = [] then [] else
  let lv := (min (max level 0) 255).toNat
  let n := max v.length (lv + 2)
  (List.range n).map fun i => if i + 1 = n then v.getD (v.length - 1) d else if i ≤ lv then id else if i < v.length then v.getD i d else v.getD (v.length - 1) d

/-- The vector of the block at a place. -/
def vec {α : Type} (d : α) (ids : List α) (levels : List Int) : Nat → List α
  | 0 => []
  | i + 1 => if i = 0 then [ids.getD 0 d] else next d (vec d ids levels i) (ids.getD i d) (levels.getD i 0)

/-- Levels of a chain that may be. -/
def ChainLevels (l : List Int) : Prop := (0 < l.length → l.getD 0 0 = 256) ∧ ∀ i : Nat, 0 < i → i < l.length → 0 ≤ l.getD i 0 ∧ l.getD i 0 ≤ 255

theorem near_ge (l : List Int) (h : ChainLevels l) (n : Nat) (h1 : 1 ≤ n) (hn : n ≤ l.length) (lv : Int) (hl : lv ≤ 256) : 0 ≤ near l n lv := by
  induction n with
  | zero => omega
  | succ n ih =>
    rw [Int.natCast_succ, near_succ l n lv (by omega)]
    split
    · omega
    · by_cases e : n = 0
      · subst e; have := h.1 (by omega); omega
      · exact ih (by omega) (by omega)

/-- How many entries a vector has. -/
def height (l : List Int) : Nat → Nat
  | 0 => 0
  | i + 1 => if i = 0 then 1 else max (height l i) ((l.getD i 0).toNat + 2)

theorem height_bd (l : List Int) (h : ChainLevels l) (n : Nat) (h1 : 1 ≤ n) (hn : n ≤ l.length) : 1 ≤ height l n ∧ height l n ≤ 257 := by
  induction n with
  | zero => omega
  | succ n ih =>
    simp only [height]
    split
    · omega
    · have := ih (by omega) (by omega)
      have := h.2 n (by omega) (by omega)
      omega

/-- Above the height nothing but the first block is near; below it, another one. -/
theorem near_height (l : List Int) (h : ChainLevels l) (n : Nat) (h1 : 1 ≤ n) (hn : n ≤ l.length) (k : Nat) (hk : k ≤ 256) :
    near l n k = 0 ↔ height l n ≤ k + 1 := by
  induction n with
  | zero => omega
  | succ n ih =>
    rw [Int.natCast_succ, near_succ l n k (by omega)]
    simp only [height]
    by_cases e : n = 0
    · subst e
      rw [if_pos rfl]
      have := h.1 (by omega)
      rw [if_pos (by omega)]
      constructor <;> omega
    · have hl := h.2 n (by omega) (by omega)
      have ih' := ih (by omega) (by omega)
      rw [if_neg e]
      split
      · constructor <;> omega
      · rw [ih']; constructor <;> omega

theorem allFrom_eq (l : List Int) (h : ChainLevels l) (n : Nat) (h1 : 1 ≤ n) (hn : n ≤ l.length) (k i : Nat) (hk : k + i = 257) (hi : i < height l n) :
    allFrom l n k i = (List.range' i (height l n - i)).map fun j => near l n (j : Nat) := by
  have hb := height_bd l h n h1 hn
  induction k generalizing i with
  | zero => omega
  | succ k ih =>
    simp only [allFrom]
    have hg := near_ge l h n h1 hn i (by omega)
    have hz := near_height l h n h1 hn i (by omega)
    rw [if_neg (by omega)]
    obtain ⟨m, hm⟩ : ∃ m, height l n - i = m + 1 := ⟨height l n - i - 1, by omega⟩
    by_cases e : near l n i = 0
    · rw [if_pos e]
      have : height l n ≤ i + 1 := hz.1 e
      have : m = 0 := by omega
      subst this
      rw [hm]; simp
    · rw [if_neg e]
      have : ¬ height l n ≤ i + 1 := fun x => e (hz.2 x)
      have := ih (i + 1) (by omega) (by omega)
      rw [show ((i + 1 : Nat) : Int) = (i : Int) + 1 from by omega] at this
      rw [this, hm, show height l n - (i + 1) = m from by omega, List.range'_succ]
      simp

theorem all_eq (l : List Int) (h : ChainLevels l) (n : Nat) (h1 : 1 ≤ n) (hn : n ≤ l.length) :
    all l n = (List.range (height l n)).map fun j => near l n (j : Nat) := by
  have hb := height_bd l h n h1 hn
  unfold all
  rw [if_neg (by omega)]
  have := allFrom_eq l h n h1 hn 257 0 (by omega) (by omega)
  rw [show ((0 : Nat) : Int) = 0 from rfl, Nat.sub_zero] at this
  rw [this, List.range_eq_range']

theorem all_zero (l : List Int) : all l 0 = [] := by unfold all; rw [if_pos (by omega)]

theorem vec_eq {α : Type} (d : α) (ids : List α) (l : List Int) (h : ChainLevels l) (n : Nat) (hn : n ≤ l.length) :
    vec d ids l n = (all l n).map fun p => ids.getD p.toNat d := by
  induction n with
  | zero => simp [vec, all_zero]
  | succ n ih =>
    have ih := ih (by omega)
    simp only [vec]
    by_cases e : n = 0
    · subst e
      rw [if_pos rfl, all_eq l h 1 (by omega) hn]
      have h0 : near l (1 : Nat) (0 : Nat) = 0 := (near_height l h 1 (by omega) hn 0 (by omega)).2 (by simp [height])
      simp only [height, if_true, List.range_one, List.map_cons, List.map_nil]
      rw [h0]; rfl
    · rw [if_neg e, all_eq l h (n + 1) (by omega) hn]
      have hb := height_bd l h n (by omega) (by omega)
      have hl := h.2 n (by omega) (by omega)
      rw [all_eq l h n (by omega) (by omega)] at ih
      have hlen : (vec d ids l n).length = height l n := by rw [ih]; simp
      unfold next
      rw [if_neg (by intro x; rw [x] at hlen; simp at hlen; omega)]
      have hh : height l (n + 1) = max (vec d ids l n).length ((min (max (l.getD n 0) 0) 255).toNat + 2) := by
        simp only [height]; rw [if_neg e, hlen]; omega
      simp only [List.map_map]
      rw [← hh]
      apply List.map_congr_left
      intro i hi
      rw [List.mem_range] at hi
      simp only [Function.comp]
      have hs : near l ((n + 1 : Nat) : Int) (i : Nat) = if (i : Int) ≤ l.getD n 0 then (n : Int) else near l n (i : Nat) := by
        rw [Int.natCast_succ]; exact near_succ l n i (by omega)
      have hbs := height_bd l h (n + 1) (by omega) hn
      have hz := near_height l h (n + 1) (by omega) hn i (by omega)
      have hat : ∀ j, j < height l n → (vec d ids l n).getD j d = ids.getD (near l n (j : Nat)).toNat d := by
        intro j hj
        rw [ih]
        simp [List.getD, hj]
      have hlast : (vec d ids l n).getD ((vec d ids l n).length - 1) d = ids.getD 0 d := by
        rw [hlen, hat _ (by omega)]
        rw [(near_height l h n (by omega) (by omega) (height l n - 1) (by omega)).2 (by omega)]; rfl
      rw [hlast]
      by_cases e1 : i + 1 = height l (n + 1)
      · rw [if_pos e1, hz.2 (by omega)]; rfl
      · rw [if_neg e1, hs]
        by_cases e2 : (i : Int) ≤ l.getD n 0
        · rw [if_pos (by omega), if_pos e2]; simp
        · rw [if_neg (by omega), if_neg e2, if_pos (by rw [hlen]; rw [hlen] at hh; omega), hat i (by rw [hlen] at hh; omega)]
end Mp

namespace Mp

/-- The least of some places that is no less than `to`. -/
def farStep (tt : Int) (b : Int × Bool) (n : Int) : Int × Bool := if tt ≤ n ∧ (b.2 = false ∨ n < b.1) then (n, true) else b
def far (l : List Int) (tt : Int) : Int × Bool := l.foldl (farStep tt) (0, false)

def walkN (l : List Int) (tt : Int) : Nat → Int → List Int → List Int
  | 0, _, _ => []
  | k + 1, from_, out =>
    if tt < from_ then
      if (far (all l from_) tt).2 = true then walkN l tt k (far (all l from_) tt).1 (out ++ [(far (all l from_) tt).1]) else []
    else out

def walk (l : List Int) (from_ tt : Int) : List Int :=
  if tt < 0 ∨ from_ < tt ∨ (l.length : Int) ≤ from_ then [] else walkN l tt ((from_ - tt).toNat + 1) from_ [from_]

theorem far_fold (tt : Int) (l : List Int) (b : Int × Bool) :
    ((l.foldl (farStep tt) b).2 = true → (b.2 = true ∧ l.foldl (farStep tt) b = b) ∨ (tt ≤ (l.foldl (farStep tt) b).1 ∧ (l.foldl (farStep tt) b).1 ∈ l)) ∧
    ((l.foldl (farStep tt) b).2 = false → b.2 = false ∧ ∀ x ∈ l, x < tt) := by
  induction l generalizing b with
  | nil => simp
  | cons y r ih =>
    simp only [List.foldl_cons]
    have ih := ih (farStep tt b y)
    constructor
    · intro h
      rcases ih.1 h with ⟨h1, h2⟩ | ⟨h1, h2⟩
      · rw [h2] at h ⊢
        unfold farStep at h h1 ⊢
        split
        · right; simp; omega
        · left; rw [if_neg ‹_›] at h; exact ⟨h, rfl⟩
      · right; exact ⟨h1, List.mem_cons_of_mem _ h2⟩
    · intro h
      obtain ⟨h1, h2⟩ := ih.2 h
      unfold farStep at h1
      split at h1
      · simp at h1
      · rename_i hn
        refine ⟨h1, ?_⟩
        intro x hx
        rcases List.mem_cons.1 hx with rfl | hx
        · simp only [h1, true_or, and_true] at hn; omega
        · exact h2 x hx

theorem far_some (l : List Int) (tt : Int) (h : (far l tt).2 = true) : tt ≤ (far l tt).1 ∧ (far l tt).1 ∈ l := by
  rcases (far_fold tt l (0, false)).1 h with ⟨h1, _⟩ | h
  · cases h1
  · exact h

theorem far_none (l : List Int) (tt : Int) (h : (far l tt).2 = false) : ∀ x ∈ l, x < tt := ((far_fold tt l (0, false)).2 h).2

theorem allFrom_lt (l : List Int) (a : Int) (ha : 1 ≤ a) (k : Nat) (lv : Int) : ∀ x ∈ allFrom l a k lv, 0 ≤ x ∧ x < a := by
  induction k generalizing lv with
  | zero => simp [allFrom]
  | succ k ih =>
    intro x hx
    have hr := near_range l a lv
    have hr' := near_lt l a lv (by omega)
    simp only [allFrom] at hx
    split at hx
    · simp at hx
    · split at hx
      · simp only [List.mem_singleton] at hx; omega
      · rcases List.mem_cons.1 hx with rfl | hx
        · omega
        · exact ih _ x hx

theorem all_lt (l : List Int) (a : Int) : ∀ x ∈ all l a, 0 ≤ x ∧ x < a := by
  unfold all
  split
  · simp
  · exact allFrom_lt l a (by omega) _ _

theorem indexFrom_mem (x : Int) (l : List Int) (i : Int) (h : x ∈ l) : ∃ k : Nat, indexFrom x l i = i + k ∧ l[k]? = some x := by
  induction l generalizing i with
  | nil => simp at h
  | cons y r ih =>
    simp only [indexFrom]
    by_cases e : y = x
    · rw [if_pos e]; exact ⟨0, by simp, by simp [e]⟩
    · rw [if_neg e]
      obtain ⟨k, h1, h2⟩ := ih (i + 1) (by rcases List.mem_cons.1 h with rfl | h; exact absurd rfl e; exact h)
      exact ⟨k + 1, by rw [h1]; omega, by simpa using h2⟩

theorem indexFrom_not (x : Int) (l : List Int) (i : Int) (h : x ∉ l) : indexFrom x l i = -1 := by
  induction l generalizing i with
  | nil => rfl
  | cons y r ih =>
    simp only [indexFrom]
    rw [if_neg (by rintro rfl; simp at h), ih _ (by intro h'; exact h (List.mem_cons_of_mem _ h'))]

/-- A list of places that goes down from `a` to `to`, each step an entry of a vector. -/
inductive Goes (l : List Int) (tt : Int) : Int → List Int → Prop where
  | here : Goes l tt tt [tt]
  | step {a b : Int} {r : List Int} (h : b ∈ all l a) (hb : tt ≤ b) (ht : Goes l tt b r) : Goes l tt a (a :: r)

theorem walkN_goes (l : List Int) (h : ChainLevels l) (tt : Int) (h0 : 0 ≤ tt) (k : Nat) : ∀ (a : Int) (out : List Int), tt ≤ a → a < l.length → a - tt < k →
    ∃ r, Goes l tt a (a :: r) ∧ walkN l tt k a out = out ++ r := by
  induction k with
  | zero => intro a out h1 h2 h3; omega
  | succ k ih =>
    intro a out h1 h2 h3
    simp only [walkN]
    by_cases e : tt < a
    · rw [if_pos e]
      have hf : (far (all l a) tt).2 = true := by
        cases hf : (far (all l a) tt).2 with
        | true => rfl
        | false =>
          exfalso
          have hn := far_none _ _ hf (a - 1)
          obtain ⟨n, rfl⟩ : ∃ n : Nat, a = (n : Int) := ⟨a.toNat, by omega⟩
          have hb := height_bd l h n (by omega) (by omega)
          rw [all_eq l h n (by omega) (by omega)] at hn
          have : ((n : Int) - 1) ∈ (List.range (height l n)).map fun j => near l n (j : Nat) := by
            rw [List.mem_map]
            refine ⟨0, by rw [List.mem_range]; omega, ?_⟩
            obtain ⟨m, rfl⟩ : ∃ m, n = m + 1 := ⟨n - 1, by omega⟩
            rw [Int.natCast_succ, near_succ l m _ (by omega), if_pos]
            · omega
            · by_cases hm : m = 0
              · subst hm; have := h.1 (by omega); omega
              · exact (h.2 m (by omega) (by omega)).1
          have := hn this
          omega
      obtain ⟨g1, g2⟩ := far_some _ _ hf
      have g3 := all_lt l a _ g2
      rw [if_pos hf]
      obtain ⟨r, hr, hw⟩ := ih (far (all l a) tt).1 (out ++ [(far (all l a) tt).1]) g1 (by omega) (by omega)
      refine ⟨(far (all l a) tt).1 :: r, .step g2 g1 hr, ?_⟩
      rw [hw]; simp
    · rw [if_neg e]
      have : a = tt := by omega
      subst this
      exact ⟨[], .here, by simp⟩

theorem walk_goes (l : List Int) (h : ChainLevels l) (a tt : Int) (h0 : 0 ≤ tt) (h1 : tt ≤ a) (h2 : a < l.length) : Goes l tt a (walk l a tt) := by
  unfold walk
  rw [if_neg (by omega)]
  obtain ⟨r, hr, hw⟩ := walkN_goes l h tt h0 ((a - tt).toNat + 1) a [a] h1 h2 (by omega)
  rw [hw]; exact hr
end Mp

namespace Mp

/-- The places, from one on, of a level, or above. -/
def places (l : List Int) (from_ : Int) (level : Int) : List Int :=
  ((List.range l.length).map fun i : Nat => (i : Int)).filter fun i => decide (from_ ≤ i ∧ level ≤ l.getD i.toNat 0)

def topN (l : List Int) : Int := min ((l.drop 1).foldl max 0) 255

/-- From which place on one goes on; `g` tells whether a level is good. -/
def begin_ (g : List Int → Int → Bool) (l : List Int) (from_ level m : Int) : Int :=
  if m < 1 ∨ ((places l from_ level).length : Int) ≤ m ∨ from_ < 0 ∨ g (l.drop from_.toNat) level = false then from_
  else (places l from_ level).getD ((places l from_ level).length - m.toNat) 0

/-- Which places of the body are taken: from a level down to 0; `level` is one more than the level. -/
def takenN (g : List Int → Int → Bool) (l : List Int) (m : Int) : Nat → Int → (Int → Bool) → (Int → Bool)
  | 0, _, t => t
  | lv + 1, from_, t => takenN g l m lv (begin_ g l from_ lv m) fun i => t i || decide (i ∈ places l from_ lv)

def pickBody (g : List Int → Int → Bool) (l : List Int) (m : Int) : List Int :=
  ((List.range l.length).map fun i : Nat => (i : Int)).filter (takenN g l m ((topN l).toNat + 1) 0 fun _ => false)

theorem mem_places {l : List Int} {f lv x : Int} : x ∈ places l f lv ↔ 0 ≤ x ∧ x < l.length ∧ f ≤ x ∧ lv ≤ l.getD x.toNat 0 := by
  unfold places
  simp only [List.mem_filter, List.mem_map, List.mem_range, decide_eq_true_eq]
  constructor
  · rintro ⟨⟨i, hi, rfl⟩, h1, h2⟩
    exact ⟨by omega, by omega, h1, h2⟩
  · rintro ⟨h0, h1, h2, h3⟩
    exact ⟨⟨x.toNat, by omega, by omega⟩, h2, h3⟩

theorem begin_mem (g : List Int → Int → Bool) (l : List Int) (f lv m : Int) : begin_ g l f lv m = f ∨ begin_ g l f lv m ∈ places l f lv := by
  unfold begin_
  split
  · exact .inl rfl
  · right
    rename_i h
    have hl : (places l f lv).length - m.toNat < (places l f lv).length := by omega
    rw [List.getD_eq_getElem?_getD, List.getElem?_eq_getElem hl]
    exact List.getElem_mem hl

/-- What is taken was taken on the way, at a level, from a place that lies in the body. -/
theorem takenN_iff (g : List Int → Int → Bool) (l : List Int) (m : Int) (lv : Nat) : ∀ (f : Int) (t : Int → Bool), 0 ≤ f → (f < l.length) →
    ∃ fs : Nat → Int, (∀ j, 0 ≤ fs j ∧ fs j < l.length) ∧ (0 < lv → fs (lv - 1) = f) ∧
      ∀ x, takenN g l m lv f t x = true ↔ t x = true ∨ ∃ j < lv, x ∈ places l (fs j) j := by
  induction lv with
  | zero => intro f t h0 h1; exact ⟨fun _ => f, fun _ => ⟨h0, h1⟩, by simp, by simp [takenN]⟩
  | succ lv ih =>
    intro f t h0 h1
    have hb : 0 ≤ begin_ g l f lv m ∧ begin_ g l f lv m < l.length := by
      rcases begin_mem g l f lv m with h | h
      · rw [h]; exact ⟨h0, h1⟩
      · have := mem_places.1 h; omega
    obtain ⟨fs, h2, h3, h4⟩ := ih (begin_ g l f lv m) (fun i => t i || decide (i ∈ places l f lv)) hb.1 hb.2
    refine ⟨fun j => if j = lv then f else fs j, ?_, by simp, ?_⟩
    · intro j; by_cases e : j = lv
      · simp [e, h0, h1]
      · simp only [e, if_false]; exact h2 j
    · intro x
      simp only [takenN]
      rw [h4]
      simp only [Bool.or_eq_true, decide_eq_true_eq]
      constructor
      · rintro ((h | h) | ⟨j, hj, h⟩)
        · exact .inl h
        · exact .inr ⟨lv, by omega, by simpa using h⟩
        · exact .inr ⟨j, by omega, by rw [if_neg (by omega)]; exact h⟩
      · rintro (h | ⟨j, hj, h⟩)
        · exact .inl (.inl h)
        · by_cases e : j = lv
          · subst e; simp only [if_true] at h; exact .inl (.inr h)
          · rw [if_neg e] at h; exact .inr ⟨j, by omega, h⟩

/-- A place is near another one at a level, if it is of the level and none between is. -/
theorem near_of (l : List Int) (p q : Nat) (lv : Int) (h : p < q) (hq : q ≤ l.length) (hp : lv ≤ l.getD p 0) (hb : ∀ i, p < i → i < q → l.getD i 0 < lv) : near l q lv = p := by
  induction q with
  | zero => omega
  | succ q ih =>
    rw [Int.natCast_succ, near_succ l q lv (by omega)]
    by_cases e : p = q
    · subst e; rw [if_pos hp]
    · rw [if_neg (by have := hb q (by omega) (by omega); omega)]
      exact ih (by omega) (by omega) fun i h1 h2 => hb i h1 (by omega)

theorem near_mem_all (l : List Int) (h : ChainLevels l) (q : Nat) (h1 : 1 ≤ q) (hq : q ≤ l.length) (j : Nat) (hj : j ≤ 256) : near l q j ∈ all l q := by
  rw [all_eq l h q h1 hq, List.mem_map]
  have hb := height_bd l h q h1 hq
  by_cases e : j < height l q
  · exact ⟨j, by simpa using e, rfl⟩
  · refine ⟨height l q - 1, by rw [List.mem_range]; omega, ?_⟩
    rw [(near_height l h q h1 hq j hj).2 (by omega)]
    exact (near_height l h q h1 hq _ (by omega)).2 (by omega)
end Mp
namespace Mp

theorem sorted_between (p : List Int) (hp : p.Pairwise (· < ·)) (i : Nat) (hi : i + 1 < p.length) (x : Int) (h1 : p[i] < x) (h2 : x < p[i + 1]) : x ∉ p := by
  intro hx
  obtain ⟨j, hj, rfl⟩ := List.getElem_of_mem hx
  rw [List.pairwise_iff_getElem] at hp
  rcases Nat.lt_or_ge i j with hij | hij
  · rcases Nat.lt_or_ge (i + 1) j with h | h
    · have := hp (i + 1) j hi hj h; omega
    · have : j = i + 1 := by omega
      subst this; omega
  · rcases Nat.lt_or_ge j i with h | h
    · have := hp j i hj (by omega) h; omega
    · have : j = i := by omega
      subst this; omega

theorem range_sorted (n : Nat) : (((List.range n).map fun i : Nat => (i : Int))).Pairwise (· < ·) := by
  rw [List.pairwise_map]
  exact (List.pairwise_lt_range (n := n)).imp (by intro a b h; omega)

theorem pickBody_sorted (g : List Int → Int → Bool) (l : List Int) (m : Int) : (pickBody g l m).Pairwise (· < ·) :=
  (range_sorted _).filter _

theorem mem_pickBody {g : List Int → Int → Bool} {l : List Int} {m x : Int} : x ∈ pickBody g l m ↔ 0 ≤ x ∧ x < l.length ∧ takenN g l m ((topN l).toNat + 1) 0 (fun _ => false) x = true := by
  unfold pickBody
  simp only [List.mem_filter, List.mem_map, List.mem_range]
  constructor
  · rintro ⟨⟨i, hi, rfl⟩, h⟩; exact ⟨by omega, by omega, h⟩
  · rintro ⟨h0, h1, h2⟩; exact ⟨⟨x.toNat, by omega, by omega⟩, h2⟩

/-- Of a chain's body: the first place is picked, the last one is, and each one is an entry of the next one's vector. -/
theorem pickBody_joined (g : List Int → Int → Bool) (L : List Int) (h : ChainLevels L) (n : Nat) (hn : 1 ≤ n) (hL : n ≤ L.length) (m : Int) :
    ∃ hne : 0 < (pickBody g (L.take n) m).length, (pickBody g (L.take n) m)[0] = 0 ∧ (pickBody g (L.take n) m)[(pickBody g (L.take n) m).length - 1] = (n : Int) - 1 ∧
      ∀ i (hi : i + 1 < (pickBody g (L.take n) m).length), (pickBody g (L.take n) m)[i] < (pickBody g (L.take n) m)[i + 1] ∧
        (pickBody g (L.take n) m)[i] ∈ all L (pickBody g (L.take n) m)[i + 1] := by
  have hlen : (L.take n).length = n := by rw [List.length_take]; omega
  have hget : ∀ i : Nat, i < n → (L.take n).getD i 0 = L.getD i 0 := by
    intro i hi; simp [List.getD, hi]
  have hs := pickBody_sorted g (L.take n) m
  obtain ⟨fs, h2, h3, h4⟩ := takenN_iff g (L.take n) m ((topN (L.take n)).toNat + 1) 0 (fun _ => false) (by omega) (by rw [hlen]; omega)
  have h5 : ∀ x, x ∈ pickBody g (L.take n) m ↔ ∃ j < (topN (L.take n)).toNat + 1, x ∈ places (L.take n) (fs j) j := by
    intro x
    rw [mem_pickBody, h4]
    constructor
    · rintro ⟨_, _, h | h⟩
      · cases h
      · exact h
    · rintro ⟨j, hj, h⟩
      have := mem_places.1 h
      exact ⟨this.1, this.2.1, .inr ⟨j, hj, h⟩⟩
  have m0 : (0 : Int) ∈ pickBody g (L.take n) m := by
    rw [h5]
    refine ⟨(topN (L.take n)).toNat, by omega, ?_⟩
    have := h3 (by omega)
    rw [Nat.add_sub_cancel] at this
    rw [this, mem_places]
    refine ⟨by omega, by rw [hlen]; omega, by omega, ?_⟩
    rw [show Int.toNat 0 = 0 from rfl, hget 0 (by omega)]
    have := h.1 (by omega)
    unfold topN
    omega
  have ml : ((n : Int) - 1) ∈ pickBody g (L.take n) m := by
    rw [h5]
    refine ⟨0, by omega, ?_⟩
    rw [mem_places]
    have := h2 0
    rw [hlen] at this ⊢
    refine ⟨by omega, by omega, by omega, ?_⟩
    rw [show ((n : Int) - 1).toNat = n - 1 from by omega, hget (n - 1) (by omega)]
    by_cases e : n - 1 = 0
    · rw [e]; have := h.1 (by omega); omega
    · exact (h.2 (n - 1) (by omega) (by omega)).1
  have hne : 0 < (pickBody g (L.take n) m).length := List.length_pos_of_mem m0
  refine ⟨hne, ?_, ?_, ?_⟩
  · obtain ⟨j, hj, e⟩ := List.getElem_of_mem m0
    rcases Nat.eq_zero_or_pos j with rfl | hj0
    · exact e
    · have := (List.pairwise_iff_getElem.1 hs) 0 j hne hj hj0
      have := (mem_pickBody.1 (List.getElem_mem hne)).1
      omega
  · obtain ⟨j, hj, e⟩ := List.getElem_of_mem ml
    rcases Nat.lt_or_ge j ((pickBody g (L.take n) m).length - 1) with hj0 | hj0
    · have := (List.pairwise_iff_getElem.1 hs) j ((pickBody g (L.take n) m).length - 1) hj (by omega) hj0
      have := (mem_pickBody.1 (List.getElem_mem (show (pickBody g (L.take n) m).length - 1 < (pickBody g (L.take n) m).length by omega))).2.1
      rw [hlen] at this
      omega
    · have : j = (pickBody g (L.take n) m).length - 1 := by omega
      subst this; exact e
  · intro i hi
    have hlt := (List.pairwise_iff_getElem.1 hs) i (i + 1) (by omega) hi (by omega)
    refine ⟨hlt, ?_⟩
    have hp := (h5 _).1 (List.getElem_mem (show i < _ by omega))
    have hq := mem_pickBody.1 (List.getElem_mem hi)
    have hb := fun x => sorted_between _ hs i hi x
    obtain ⟨j, hj, hp⟩ := hp
    have hp := mem_places.1 hp
    generalize (pickBody g (L.take n) m)[i] = p at *
    generalize (pickBody g (L.take n) m)[i + 1] = q at *
    rw [hlen] at hp hq
    obtain ⟨p, rfl⟩ : ∃ k : Nat, p = (k : Int) := ⟨p.toNat, by omega⟩
    obtain ⟨q, rfl⟩ : ∃ k : Nat, q = (k : Int) := ⟨q.toNat, by omega⟩
    have hj' : j ≤ 255 := by unfold topN at hj; omega
    rw [← near_of L p q j (by omega) (by omega) (by have := hp.2.2.2; rw [Int.toNat_natCast, hget p (by omega)] at this; exact this) ?_]
    · exact near_mem_all L h q (by omega) (by omega) j (by omega)
    · intro x hx1 hx2
      have hnot := hb x (by omega) (by omega)
      rw [h5] at hnot
      rcases Int.lt_or_le (L.getD x 0) (j : Int) with hh | hh
      · exact hh
      · exact absurd ⟨j, hj, mem_places.2 ⟨by omega, by rw [hlen]; omega, by omega, by rw [Int.toNat_natCast, hget x (by omega)]; exact hh⟩⟩ hnot
end Mp

namespace Go.Proofs.YtmcapgjdflohfaaGreat.L
open Go Go.RowKit

/-! ### Slots -/
abbrev Env := Nat → Value
def upd (σ : Env) (d : Nat) (v : Value) : Env := fun i => bif Nat.beq i d then v else σ i

def ev (σ : Env) : Operand → Value
  | .tmp t => σ t
  | .const v => v
  | .global g => .pointer (some ⟨g, 0, none⟩)
  | .func f => .func (.func f) #[] #[]

def put (σ : Env) (d : Option Tmp) (v : Value) : Env :=
  match d with
  | some d => upd σ d v
  | none => σ

structure Rep (n : Nat) (a : Act) (σ : Env) : Prop where
  defers : a.defers = []
  size : a.tmps.size = n
  val : ∀ i, a.tmps.getD i undef = σ i

theorem Rep.eval {n : Nat} {a : Act} {σ : Env} (h : Rep n a σ) : a.eval = ev σ := by
  funext x
  cases x with
  | tmp t => exact h.val t
  | _ => rfl

theorem upd_same (σ : Env) (d : Nat) (v : Value) : upd σ d v d = v := by simp [upd]
theorem upd_ne (σ : Env) (d i : Nat) (v : Value) (h : i ≠ d) : upd σ d v i = σ i := by
  have : Nat.beq i d = false := by
    cases hb : Nat.beq i d with
    | false => rfl
    | true => exact absurd (Nat.eq_of_beq_eq_true hb) h
  simp [upd, this]

theorem Rep.put {n : Nat} {a : Act} {σ : Env} (h : Rep n a σ) (d : Nat) (v : Value) (hd : d < n) : Rep n (a.put (some d) v) (upd σ d v) := by
  refine ⟨h.defers, by simp [Act.put, h.size], fun i => ?_⟩
  by_cases e : i = d
  · subst e
    rw [upd_same]
    simp [Act.put, h.size, hd]
  · rw [upd_ne _ _ _ _ e, ← h.val i]
    simp only [Act.put, Array.getD_eq_getD_getElem?]
    rw [Array.getElem?_setIfInBounds_ne (Ne.symm e)]

theorem Rep.putNone {n : Nat} {a : Act} {σ : Env} (h : Rep n a σ) (v : Value) : Rep n (a.put none v) σ := h

/-- The slots at a call's begin. -/
def start (args : Array Value) : Env := fun i => args.getD i undef

theorem rep_start (args : Array Value) (n : Nat) (h : args.size ≤ n) :
    Rep n { tmps := args ++ Array.replicate (n - args.size) undef, defers := [] } (start args) := by
  refine ⟨rfl, by simp; omega, fun i => ?_⟩
  simp only [start, Array.getD_eq_getD_getElem?]
  by_cases hi : i < args.size
  · rw [Array.getElem?_append_left hi]
  · rw [Array.getElem?_append_right (by omega), Array.getElem?_eq_none (by omega : args.size ≤ i)]
    by_cases h2 : i - args.size < n - args.size
    · simp [h2]
    · rw [Array.getElem?_eq_none (by simp; omega)]

theorem vi {k : IntKind} {a b : Int} (h : a = b) : Value.int k a = .int k b := by rw [h]
theorem vb {a b : Bool} (h : a = b) : Value.bool a = .bool b := by rw [h]
theorem vs {a b : ByteArray} (h : a = b) : Value.string a = .string b := by rw [h]
theorem va {a b : List Value} (h : a = b) : Value.agg a.toArray = .agg b.toArray := by rw [h]

/-! ### The heap: what is held of it -/

/-- A block that is known whole; a row of the call's own. -/
inductive Res where
  | blk (b : Nat) (o : Obj)
  | row (v : Value) (e : TypeId) (sz : Nat) (n : Nat) (xs : List Value)

def Res.at : Res → Option Nat
  | .blk b _ => some b
  | .row v _ _ _ _ => v.ownBlock

def Res.holds (base : Nat) (w : World) : Res → Prop
  | .blk b o => w.heap[b]? = some o
  | .row v e sz n xs => w.ownsRow base e sz v n xs

/-- The places of a list of resources. -/
def places : List Res → List Nat
  | [] => []
  | r :: l => r.at.toList ++ places l

abbrev Fact := (Nat → Prop) → World → Prop

/-- A fact is stable: it speaks of blocks of `D` alone, and goes on to hold where `D` grows. -/
def Stable (f : Fact) : Prop := ∀ (D D' : Nat → Prop) (w w' : World), (∀ k, D k → D' k) → (∀ k, D k → k < w.heap.size → w'.heap[k]? = w.heap[k]?) → f D w → f D' w'

def KAll (K : List Fact) (D : Nat → Prop) (w : World) : Prop :=
  match K with
  | [] => True
  | f :: r => f D w ∧ KAll r D w

def KStable : List Fact → Prop
  | [] => True
  | f :: r => Stable f ∧ KStable r

theorem KAll.step {K : List Fact} (hs : KStable K) {D D' : Nat → Prop} {w w' : World} (hD : ∀ k, D k → D' k) (hw : ∀ k, D k → k < w.heap.size → w'.heap[k]? = w.heap[k]?) (h : KAll K D w) : KAll K D' w' := by
  induction K with
  | nil => trivial
  | cons f r ih => exact ⟨hs.1 D D' w w' hD hw h.1, ih hs.2 h.2⟩

/-- What a call knows at its begin: the world, the blocks of data that it may read, the old blocks that it may write. -/
structure Cx where
  P : Program
  w0 : World
  D0 : Nat → Prop
  S : List Nat

/-- The world `w`, since the call's begin: outside `S` nothing old has turned; the resources hold, each with a block of its own; the facts hold, of data apart from the resources. -/
structure M (c : Cx) (H : List Res) (K : List Fact) (w : World) : Prop where
  os : w.os = c.w0.os
  tape : w.tape = c.w0.tape
  output : w.output = c.w0.output
  size : c.w0.heap.size ≤ w.heap.size
  frame : ∀ k, k < c.w0.heap.size → k ∉ c.S → w.heap[k]? = c.w0.heap[k]?
  holds : ∀ r ∈ H, r.holds c.w0.heap.size w
  mine : ∀ b ∈ places H, (c.w0.heap.size ≤ b ∨ b ∈ c.S) ∧ b < w.heap.size
  nodup : (places H).Nodup
  stable : KStable K
  data : ∃ D : Nat → Prop, (∀ k, D k → (c.D0 k ∨ c.w0.heap.size ≤ k)) ∧ (∀ k, c.D0 k → D k) ∧ (∀ k, D k → k < w.heap.size) ∧ (∀ b ∈ places H, ¬ D b) ∧ KAll K D w

/-! ### Judgements -/
def lift (n : Nat) (Q : Exit → Env → World → Prop) (e : Exit) (a : Act) (w : World) : Prop := ∃ σ, Rep n a σ ∧ Q e σ w

def Wp (c : Cx) (n : Nat) (code : Code) (Q : Exit → Env → World → Prop) (σ : Env) (w : World) : Prop := ∀ a, Rep n a σ → code.wp c.P (lift n Q) a w

def Tr (c : Cx) (n : Nat) (code : Code) (Q : Exit → Env → World → Prop) (σ : Env) (H : List Res) (K : List Fact) : Prop := ∀ w, M c H K w → Wp c n code Q σ w

def TL (c : Cx) (n : Nat) (ops : Array Oper) (l : List Oper) (Q : Exit → Env → World → Prop) (σ : Env) (H : List Res) (K : List Fact) : Prop :=
  ∀ w, M c H K w → ∀ a, Rep n a σ → wpList c.P ops (lift n Q) l a w

def thn (next : Env → World → Prop) (Q : Exit → Env → World → Prop) : Exit → Env → World → Prop
  | .normal, σ, w => next σ w
  | e, σ, w => Q e σ w

theorem lift_thn {n : Nat} {next : Env → World → Prop} {Q : Exit → Env → World → Prop} {N : Act → World → Prop} (h : ∀ a σ w, Rep n a σ → next σ w → N a w) :
    ∀ e a w, lift n (thn next Q) e a w → Exit.then N (lift n Q) e a w := by
  rintro e a w ⟨σ, hr, hq⟩
  cases e with
  | normal => exact h a σ w hr hq
  | _ => exact ⟨σ, hr, hq⟩

section
variable {c : Cx} {n : Nat} {Q : Exit → Env → World → Prop} {σ : Env} {H : List Res} {K : List Fact}

theorem seq {x y : Code} (h : Tr c n x (thn (Wp c n y Q) Q) σ H K) : Tr c n (x.seq y) Q σ H K := by
  intro w hm a hr
  refine wp_seq (Code.wp_mono ?_ (h w hm a hr))
  exact lift_thn (fun a σ w hr hq => hq a hr)

theorem skip (h : ∀ w, M c H K w → Q .normal σ w) : Tr c n .skip Q σ H K := fun w hm _ hr => wp_skip ⟨σ, hr, h w hm⟩
theorem ret (h : ∀ w, M c H K w → Q .ret σ w) : Tr c n .ret Q σ H K := fun w hm _ hr => wp_ret ⟨σ, hr, h w hm⟩
theorem exit {id : Nat} (h : ∀ w, M c H K w → Q (.exit id) σ w) : Tr c n (.exit id) Q σ H K := fun w hm _ hr => wp_exit ⟨σ, hr, h w hm⟩
theorem goto {l : Nat} (h : ∀ w, M c H K w → Q (.goto l) σ w) : Tr c n (.goto l) Q σ H K := fun w hm _ hr => wp_goto ⟨σ, hr, h w hm⟩

def inBlock (id : Nat) (Q : Exit → Env → World → Prop) : Exit → Env → World → Prop
  | .exit id', σ, w => if id' = id then Q .normal σ w else Q (.exit id') σ w
  | e, σ, w => Q e σ w

theorem block {id : Nat} {x : Code} (h : Tr c n x (inBlock id Q) σ H K) : Tr c n (.block id x) Q σ H K := by
  intro w hm a hr
  refine wp_block (Code.wp_mono ?_ (h w hm a hr))
  rintro e a w ⟨σ, hr, hq⟩
  cases e with
  | exit id' =>
    simp only [inBlock, Exit.inBlock] at *
    split
    · rename_i h; rw [if_pos h] at hq; exact ⟨σ, hr, hq⟩
    · rename_i h; rw [if_neg h] at hq; exact ⟨σ, hr, hq⟩
  | _ => exact ⟨σ, hr, hq⟩

theorem condT {x : Operand} {s t : Code} (hc : ev σ x = .bool true) (h : Tr c n s Q σ H K) : Tr c n (.cond x s t) Q σ H K :=
  fun w hm a hr => wp_cond_true (by rw [hr.eval]; exact hc) (h w hm a hr)
theorem condF {x : Operand} {s t : Code} (hc : ev σ x = .bool false) (h : Tr c n t Q σ H K) : Tr c n (.cond x s t) Q σ H K :=
  fun w hm a hr => wp_cond_false (by rw [hr.eval]; exact hc) (h w hm a hr)
theorem cond {x : Operand} {s t : Code} {b : Bool} (hc : ev σ x = .bool b) (ht : b = true → Tr c n s Q σ H K) (hf : b = false → Tr c n t Q σ H K) : Tr c n (.cond x s t) Q σ H K := by
  cases b with
  | true => exact condT hc (ht rfl)
  | false => exact condF hc (hf rfl)

theorem region {id : Nat} {l : List Oper} (h : TL c n l.toArray l Q σ H K) : Tr c n (.region id l.toArray false) Q σ H K :=
  fun w hm a hr => wp_region_lit (h w hm a hr)

theorem nil {ops : Array Oper} (h : ∀ w, M c H K w → Q .normal σ w) : TL c n ops [] Q σ H K := fun w hm _ hr => wpList_nil ⟨σ, hr, h w hm⟩

/-- At a region's end, in a sequence. -/
theorem nilS {ops : Array Oper} {y : Code} (h : Tr c n y Q σ H K) : TL c n ops [] (thn (Wp c n y Q) Q) σ H K := nil h

theorem Tr.mono {x : Code} {Q' : Exit → Env → World → Prop} (h : Tr c n x Q σ H K) (hq : ∀ e σ w, Q e σ w → Q' e σ w) : Tr c n x Q' σ H K :=
  fun w hm a hr => Code.wp_mono (fun e _ w ⟨σ, hr, q⟩ => ⟨σ, hr, hq e σ w q⟩) (h w hm a hr)

/-- A cut: what the rest needs is told by a family of states. -/
theorem cut {ι : Type} {x y : Code} (I : ι → Env → Prop) (HH : ι → List Res) (KK : ι → List Fact)
    (h1 : Tr c n x (thn (fun σ w => ∃ i, I i σ ∧ M c (HH i) (KK i) w) Q) σ H K) (h2 : ∀ i σ, I i σ → Tr c n y Q σ (HH i) (KK i)) : Tr c n (x.seq y) Q σ H K := by
  refine seq (h1.mono ?_)
  intro e σ w q
  cases e with
  | normal => obtain ⟨i, hi, hm⟩ := q; exact h2 i σ hi w hm
  | _ => exact q

/-- A loop: a family of states at its head, each round lowers a number. -/
theorem loop {ι : Type} {x : Code} (I : ι → Env → Prop) (HH : ι → List Res) (KK : ι → List Fact) (μ : ι → Nat) (i0 : ι)
    (h0 : I i0 σ) (hm0 : ∀ w, M c H K w → M c (HH i0) (KK i0) w)
    (round : ∀ i σ, I i σ → Tr c n x (thn (fun σ' w' => ∃ j, I j σ' ∧ M c (HH j) (KK j) w' ∧ μ j < μ i) Q) σ (HH i) (KK i)) : Tr c n (.loop x) Q σ H K := by
  intro w hm a hr
  have key : ∀ (m : Nat) (i : ι) (σ : Env) (a : Act) (w : World), μ i = m → I i σ → M c (HH i) (KK i) w → Rep n a σ →
      ∀ (b : Frame) (k : List Item) (cs : List Frame), ∃ e a' w', lift n Q e a' w' ∧ Arrives c.P (lone (b.at a (.code x :: .inLoop x :: k)) cs w) b k cs e a' w' := by
    intro m
    induction m using Nat.strongRecOn with
    | _ m ih =>
      intro i σ a w hi hI hm hr b k cs
      obtain ⟨e, a₁, w₁, hq, harr⟩ := round i σ hI w hm a hr b (.inLoop x :: k) cs
      obtain ⟨σ₁, hr₁, hq⟩ := hq
      cases e with
      | normal =>
        obtain ⟨j, hj, hmj, hlt⟩ := hq
        obtain ⟨e₂, a₂, w₂, hq₂, harr₂⟩ := ih (μ j) (hi ▸ hlt) j σ₁ a₁ w₁ rfl hj hmj hr₁ b k cs
        exact ⟨e₂, a₂, w₂, hq₂, .of_steps (Steps.trans harr (.one step_inLoop)) harr₂⟩
      | exit id => exact ⟨_, a₁, w₁, ⟨σ₁, hr₁, hq⟩, .pass (x := .inLoop x) rfl (fun _ _ => .inl (by simp)) harr⟩
      | goto l => exact ⟨_, a₁, w₁, ⟨σ₁, hr₁, hq⟩, .pass (x := .inLoop x) rfl (fun _ _ => .inl (by simp)) harr⟩
      | ret => exact ⟨_, a₁, w₁, ⟨σ₁, hr₁, hq⟩, .pass (x := .inLoop x) rfl (fun _ _ => .inl (by simp)) harr⟩
      | panic ch => exact ⟨_, a₁, w₁, ⟨σ₁, hr₁, hq⟩, .pass (x := .inLoop x) rfl (fun _ _ => .inl (by simp)) harr⟩
      | outgrown => exact ⟨_, a₁, w₁, ⟨σ₁, hr₁, hq⟩, .pass (x := .inLoop x) rfl (fun _ _ => .inl (by simp)) harr⟩
  intro b k cs
  obtain ⟨e, a', w', hq, harr⟩ := key _ i0 σ a w rfl h0 (hm0 w hm) hr b k cs
  exact ⟨e, a', w', hq, .of_steps (.one step_loop) harr⟩

/-! ### One operation -/
/-- An operation that yields a value, whatever the world, and leaves it as it is. -/
def Det (c : Cx) (σ : Env) (H : List Res) (K : List Fact) (o : Oper) (v : Value) : Prop :=
  ∀ w, M c H K w → (execOp (ev σ) o).run c.P w = .ok (.value v) w

theorem wpList_run {ops : Array Oper} {o : Oper} {l : List Oper} {a : Act} {w : World} (hg : o.guard = none)
    (h : o.upon c.P a (wpList c.P ops (lift n Q) l) (lift n Q) ((execOp a.eval o).run c.P w)) : wpList c.P ops (lift n Q) (o :: l) a w :=
  wpList_plain hg (fun K hK => by
    unfold Oper.wp
    generalize (execOp a.eval o).run c.P w = r at *
    cases r with
    | ok x w' =>
      cases x <;> simp only [Oper.upon] at h ⊢ <;> first
        | exact hK _ _ h
        | exact h
        | exact Calls.mono h (fun e w'' q => by cases e <;> first | exact hK _ _ q | exact q)
        | exact Rows.mono h (fun _ _ q => hK _ _ q)
    | halt x w' => cases x <;> simp only [Oper.upon] at h ⊢ <;> exact h)

theorem det {ops : Array Oper} {d : Nat} {op : Op} {t : TypeId} {p : String} {af : Array Edge} {l : List Oper} {v : Value}
    (hd : Nat.blt d n = true) (hv : Det c σ H K ⟨some d, op, t, p, af, none⟩ v) (h : TL c n ops l Q (upd σ d v) H K) :
    TL c n ops (⟨some d, op, t, p, af, none⟩ :: l) Q σ H K := by
  intro w hm a hr
  refine wpList_run rfl ?_
  rw [hr.eval, hv w hm]
  simp only [Oper.upon]
  exact h w hm _ (hr.put d v (by simp [Nat.blt] at hd; omega))

/-- A guard that lets the operation run, and one that does not. -/
theorem guardT {ops : Array Oper} {d : Nat} {op : Op} {t : TypeId} {p : String} {af : Array Edge} {l : List Oper} {j s : Nat} {b : Bool}
    (hj : (ops[j]?).bind (·.dst) = some s) (hs : σ s = .bool b) (h : TL c n ops (⟨some d, op, t, p, af, none⟩ :: l) Q σ H K) :
    TL c n ops (⟨some d, op, t, p, af, some (j, b)⟩ :: l) Q σ H K := by
  intro w hm a hr
  have h1 := h w hm a hr
  have hlt : s < a.tmps.size := by
    rcases Nat.lt_or_ge s a.tmps.size with h' | h'
    · exact h'
    · have := hr.val s
      rw [hs] at this
      simp [Array.getElem?_eq_none h', undef] at this
  have hy : Region.wanted ⟨some d, op, t, p, af, some (j, b)⟩ (yielded ops a.tmps) = true := by
    have hv := hr.val s
    rw [hs] at hv
    have : a.tmps[s]? = some (.bool b) := by
      rw [Array.getElem?_eq_getElem hlt]
      simpa [hlt] using hv
    simp [Region.wanted, yielded, hj, this]
  unfold wpList at h1 ⊢
  rw [if_pos hy]
  rw [if_pos (by simp [Region.wanted])] at h1
  exact h1

theorem guardF {ops : Array Oper} {d : Nat} {op : Op} {t : TypeId} {p : String} {af : Array Edge} {l : List Oper} {j s : Nat} {b : Bool}
    (hj : (ops[j]?).bind (·.dst) = some s) (hs : σ s = .bool (!b)) (hd : Nat.blt d n = true) (h : TL c n ops l Q (upd σ d undef) H K) :
    TL c n ops (⟨some d, op, t, p, af, some (j, b)⟩ :: l) Q σ H K := by
  intro w hm a hr
  have hlt : s < a.tmps.size := by
    rcases Nat.lt_or_ge s a.tmps.size with h' | h'
    · exact h'
    · have := hr.val s
      rw [hs] at this
      simp [Array.getElem?_eq_none h', undef] at this
  have hy : Region.wanted ⟨some d, op, t, p, af, some (j, b)⟩ (yielded ops a.tmps) = false := by
    have hv := hr.val s
    rw [hs] at hv
    have : a.tmps[s]? = some (.bool (!b)) := by
      rw [Array.getElem?_eq_getElem hlt]
      simpa [hlt] using hv
    simp [Region.wanted, yielded, hj, this]
  unfold wpList
  rw [if_neg (by rw [hy]; simp)]
  exact h w hm _ (hr.put d undef (by simp [Nat.blt] at hd; omega))

/-- A guard whose base was itself passed over: nothing runs. -/
theorem guardU {ops : Array Oper} {d : Nat} {op : Op} {t : TypeId} {p : String} {af : Array Edge} {l : List Oper} {j s : Nat} {b : Bool}
    (hj : (ops[j]?).bind (·.dst) = some s) (hs : σ s = undef) (hd : Nat.blt d n = true) (h : TL c n ops l Q (upd σ d undef) H K) :
    TL c n ops (⟨some d, op, t, p, af, some (j, b)⟩ :: l) Q σ H K := by
  intro w hm a hr
  have hy : Region.wanted ⟨some d, op, t, p, af, some (j, b)⟩ (yielded ops a.tmps) = false := by
    have hv := hr.val s
    rw [hs] at hv
    simp only [Region.wanted, yielded, hj, Option.bind_some]
    cases hx : a.tmps[s]? with
    | none => simp
    | some x =>
      have : x = undef := by simpa [hx] using hv
      subst this
      simp [undef]
  unfold wpList
  rw [if_neg (by rw [hy]; simp)]
  exact h w hm _ (hr.put d undef (by simp [Nat.blt] at hd; omega))
end
end Go.Proofs.YtmcapgjdflohfaaGreat.L

namespace Go.Proofs.YtmcapgjdflohfaaGreat.L
open Go Go.RowKit

section
variable {c : Cx} {n : Nat} {Q : Exit → Env → World → Prop} {σ : Env} {H : List Res} {K : List Fact}
variable {d : Option Tmp} {t : TypeId} {p : String} {af : Array Edge} {g : Option (Nat × Bool)}

theorem mv {x : Operand} {v : Value} (h : ev σ x = v) : Det c σ H K ⟨d, .move x, t, p, af, g⟩ v := fun w _ => by subst h; rfl
theorem asg {x : Operand} {v : Value} (h : ev σ x = v) : Det c σ H K ⟨d, .assign x, t, p, af, g⟩ v := fun w _ => by subst h; rfl

/-! ### Whole numbers -/
theorem run_eqGuard_int (P : Program) (w : World) (op : BinOp) (t : TypeId) (x y : Operand) (k k' : IntKind) (a b : Int) : (eqGuard op t x y (.int k a) (.int k' b)).run P w = .ok () w := by
  unfold eqGuard
  split <;> rfl

theorem bin_int {op : BinOp} {tx ty : TypeId} {x y : Operand} {k : IntKind} {a b : Int} {v : Value} (hx : ev σ x = .int k a) (hy : ev σ y = .int k b)
    (h : ∀ w, (binOp op tx (.int k a) (.int k b)).run c.P w = .ok v w) : Det c σ H K ⟨d, .binOp op tx x y ty, t, p, af, g⟩ v := by
  intro w _
  simp only [execOp, hx, hy, Sem.run_bind, run_eqGuard_int, Result.andThen_ok, h w]
  rfl

theorem add {tx ty : TypeId} {x y : Operand} {k : IntKind} {a b : Int} (hx : ev σ x = .int k a) (hy : ev σ y = .int k b) : Det c σ H K ⟨d, .binOp .add tx x y ty, t, p, af, g⟩ (.int k (k.wrap (a + b))) :=
  bin_int hx hy fun w => by simp [binOp, Op.intArith]
theorem sub {tx ty : TypeId} {x y : Operand} {k : IntKind} {a b : Int} (hx : ev σ x = .int k a) (hy : ev σ y = .int k b) : Det c σ H K ⟨d, .binOp .sub tx x y ty, t, p, af, g⟩ (.int k (k.wrap (a - b))) :=
  bin_int hx hy fun w => by simp [binOp, Op.intArith]
theorem mul {tx ty : TypeId} {x y : Operand} {k : IntKind} {a b : Int} (hx : ev σ x = .int k a) (hy : ev σ y = .int k b) : Det c σ H K ⟨d, .binOp .mul tx x y ty, t, p, af, g⟩ (.int k (k.wrap (a * b))) :=
  bin_int hx hy fun w => by simp [binOp, Op.intArith]

theorem i64_in {x : Int} (h0 : -9223372036854775808 ≤ x) (h1 : x ≤ 9223372036854775807) : IntKind.i64.wrap x = x := by
  simp only [IntKind.wrap, IntKind.bits, IntKind.signed]
  simp
  omega
theorem addI {tx ty : TypeId} {x y : Operand} {a b : Int} (hx : ev σ x = .int .i64 a) (hy : ev σ y = .int .i64 b) (h0 : -9223372036854775808 ≤ a + b) (h1 : a + b ≤ 9223372036854775807) :
    Det c σ H K ⟨d, .binOp .add tx x y ty, t, p, af, g⟩ (.int .i64 (a + b)) := by have := add (c := c) (H := H) (K := K) (d := d) (t := t) (p := p) (af := af) (g := g) (tx := tx) (ty := ty) hx hy; rwa [i64_in h0 h1] at this
theorem subI {tx ty : TypeId} {x y : Operand} {a b : Int} (hx : ev σ x = .int .i64 a) (hy : ev σ y = .int .i64 b) (h0 : -9223372036854775808 ≤ a - b) (h1 : a - b ≤ 9223372036854775807) :
    Det c σ H K ⟨d, .binOp .sub tx x y ty, t, p, af, g⟩ (.int .i64 (a - b)) := by have := sub (c := c) (H := H) (K := K) (d := d) (t := t) (p := p) (af := af) (g := g) (tx := tx) (ty := ty) hx hy; rwa [i64_in h0 h1] at this
theorem mulI {tx ty : TypeId} {x y : Operand} {a b : Int} (hx : ev σ x = .int .i64 a) (hy : ev σ y = .int .i64 b) (h0 : -9223372036854775808 ≤ a * b) (h1 : a * b ≤ 9223372036854775807) :
    Det c σ H K ⟨d, .binOp .mul tx x y ty, t, p, af, g⟩ (.int .i64 (a * b)) := by have := mul (c := c) (H := H) (K := K) (d := d) (t := t) (p := p) (af := af) (g := g) (tx := tx) (ty := ty) hx hy; rwa [i64_in h0 h1] at this

theorem quo {tx ty : TypeId} {x y : Operand} {k : IntKind} {a b : Int} (hx : ev σ x = .int k a) (hy : ev σ y = .int k b) (hb : b ≠ 0) : Det c σ H K ⟨d, .binOp .quo tx x y ty, t, p, af, g⟩ (.int k (k.wrap (a.tdiv b))) :=
  bin_int hx hy fun w => by simp [binOp, Op.intDiv, hb]
theorem rem {tx ty : TypeId} {x y : Operand} {k : IntKind} {a b : Int} (hx : ev σ x = .int k a) (hy : ev σ y = .int k b) (hb : b ≠ 0) : Det c σ H K ⟨d, .binOp .rem tx x y ty, t, p, af, g⟩ (.int k (a.tmod b)) :=
  bin_int hx hy fun w => by simp [binOp, Op.intDiv, hb]

/-- The bit operations, as numbers. -/
def band (k : IntKind) (a b : Int) : Int := k.wrap (BitVec.ofInt k.bits a &&& BitVec.ofInt k.bits b).toNat
def bor (k : IntKind) (a b : Int) : Int := k.wrap (BitVec.ofInt k.bits a ||| BitVec.ofInt k.bits b).toNat
def bxor (k : IntKind) (a b : Int) : Int := k.wrap (BitVec.ofInt k.bits a ^^^ BitVec.ofInt k.bits b).toNat
def bshl (k : IntKind) (a : Int) (s : Nat) : Int := k.wrap (a * 2 ^ (min s k.bits))
def bshr (k : IntKind) (a : Int) (s : Nat) : Int := a.fdiv (2 ^ (min s k.bits))
def bnot (k : IntKind) (a : Int) : Int := bxor k (if k.signed then -1 else k.max) a
theorem and {tx ty : TypeId} {x y : Operand} {k : IntKind} {a b : Int} (hx : ev σ x = .int k a) (hy : ev σ y = .int k b) : Det c σ H K ⟨d, .binOp .and tx x y ty, t, p, af, g⟩ (.int k (band k a b)) :=
  bin_int hx hy fun w => by simp [binOp, Op.intBits, band]
theorem or {tx ty : TypeId} {x y : Operand} {k : IntKind} {a b : Int} (hx : ev σ x = .int k a) (hy : ev σ y = .int k b) : Det c σ H K ⟨d, .binOp .or tx x y ty, t, p, af, g⟩ (.int k (bor k a b)) :=
  bin_int hx hy fun w => by simp [binOp, Op.intBits, bor]
theorem xor {tx ty : TypeId} {x y : Operand} {k : IntKind} {a b : Int} (hx : ev σ x = .int k a) (hy : ev σ y = .int k b) : Det c σ H K ⟨d, .binOp .xor tx x y ty, t, p, af, g⟩ (.int k (bxor k a b)) :=
  bin_int hx hy fun w => by simp [binOp, Op.intBits, bxor]
theorem shl {tx ty : TypeId} {x y : Operand} {k k' : IntKind} {a b : Int} (hx : ev σ x = .int k a) (hy : ev σ y = .int k' b) (hb : 0 ≤ b) : Det c σ H K ⟨d, .binOp .shl tx x y ty, t, p, af, g⟩ (.int k (bshl k a b.toNat)) := by
  intro w _
  have : ¬ b < 0 := by omega
  simp only [execOp, hx, hy, Sem.run_bind, run_eqGuard_int, Result.andThen_ok]
  simp [binOp, Op.shift, this, bshl]
theorem shr {tx ty : TypeId} {x y : Operand} {k k' : IntKind} {a b : Int} (hx : ev σ x = .int k a) (hy : ev σ y = .int k' b) (hb : 0 ≤ b) : Det c σ H K ⟨d, .binOp .shr tx x y ty, t, p, af, g⟩ (.int k (bshr k a b.toNat)) := by
  intro w _
  have : ¬ b < 0 := by omega
  simp only [execOp, hx, hy, Sem.run_bind, run_eqGuard_int, Result.andThen_ok]
  simp [binOp, Op.shift, this, bshr]
theorem lss {tx ty : TypeId} {x y : Operand} {k : IntKind} {a b : Int} (hx : ev σ x = .int k a) (hy : ev σ y = .int k b) : Det c σ H K ⟨d, .binOp .lss tx x y ty, t, p, af, g⟩ (.bool (decide (a < b))) :=
  bin_int hx hy fun w => by simp [binOp, Op.intCmp]
theorem leq {tx ty : TypeId} {x y : Operand} {k : IntKind} {a b : Int} (hx : ev σ x = .int k a) (hy : ev σ y = .int k b) : Det c σ H K ⟨d, .binOp .leq tx x y ty, t, p, af, g⟩ (.bool (decide (a ≤ b))) :=
  bin_int hx hy fun w => by simp [binOp, Op.intCmp]
theorem gtr {tx ty : TypeId} {x y : Operand} {k : IntKind} {a b : Int} (hx : ev σ x = .int k a) (hy : ev σ y = .int k b) : Det c σ H K ⟨d, .binOp .gtr tx x y ty, t, p, af, g⟩ (.bool (decide (b < a))) :=
  bin_int hx hy fun w => by simp [binOp, Op.intCmp]
theorem geq {tx ty : TypeId} {x y : Operand} {k : IntKind} {a b : Int} (hx : ev σ x = .int k a) (hy : ev σ y = .int k b) : Det c σ H K ⟨d, .binOp .geq tx x y ty, t, p, af, g⟩ (.bool (decide (b ≤ a))) :=
  bin_int hx hy fun w => by simp [binOp, Op.intCmp]
theorem eql {tx ty : TypeId} {x y : Operand} {k : IntKind} {a b : Int} (hx : ev σ x = .int k a) (hy : ev σ y = .int k b) : Det c σ H K ⟨d, .binOp .eql tx x y ty, t, p, af, g⟩ (.bool (decide (a = b))) :=
  bin_int hx hy fun w => by simp [binOp, Op.intCmp]; exact (Bool.beq_eq_decide_eq a b)
theorem neq {tx ty : TypeId} {x y : Operand} {k : IntKind} {a b : Int} (hx : ev σ x = .int k a) (hy : ev σ y = .int k b) : Det c σ H K ⟨d, .binOp .neq tx x y ty, t, p, af, g⟩ (.bool (!decide (a = b))) :=
  bin_int hx hy fun w => by simp only [binOp, Op.intCmp]; simp [bne]; exact (Bool.beq_eq_decide_eq a b)
theorem notB {tx : TypeId} {x : Operand} {b : Bool} (hx : ev σ x = .bool b) : Det c σ H K ⟨d, .unOp .not tx x, t, p, af, g⟩ (.bool (!b)) := fun w _ => by simp [execOp, hx, Op.unary]
theorem xorU {tx : TypeId} {x : Operand} {k : IntKind} {a : Int} (hx : ev σ x = .int k a) : Det c σ H K ⟨d, .unOp .xor tx x, t, p, af, g⟩ (.int k (bnot k a)) := fun w _ => by simp [execOp, hx, Op.unary, Op.intBits, bnot, bxor]
theorem negU {tx : TypeId} {x : Operand} {k : IntKind} {a : Int} (hx : ev σ x = .int k a) : Det c σ H K ⟨d, .unOp .neg tx x, t, p, af, g⟩ (.int k (k.wrap (0 - a))) := fun w _ => by simp [execOp, hx, Op.unary, Op.intArith]

theorem run_und {P : Program} {t : TypeId} {e : TypeDesc} (h : P.underlying t = some e) (w : World) : (underlying t).run P w = .ok e w := run_underlying h w

/-- A whole number to another kind. -/
theorem conv {s e : TypeId} {x : Operand} {k k' : IntKind} {a : Int} {ds : TypeDesc} (hs : c.P.underlying s = some ds) (he : c.P.underlying e = some (.int k')) (hx : ev σ x = .int k a) :
    Det c σ H K ⟨d, .convert s e x, t, p, af, g⟩ (.int k' (k'.wrap a)) := fun w _ => by
  simp [execOp, hx, convert, run_und hs, run_und he, Conv.intToInt]

/-! ### len, max, min -/
theorem lenS {x : Operand} {tx e : TypeId} {A : Option Addr} {m cap : Nat} (hu : c.P.underlying tx = some (.slice e)) (hx : ev σ x = .slice A m cap) :
    Det c σ H K ⟨d, .call { callee := .builtin .len, args := #[x], argTypes := #[tx] }, t, p, af, g⟩ (.int .i64 m) := fun w _ => by
  simp [execOp, resolve, invoke, builtin, hx, Builtin.len_, goInt, run_und hu]
theorem lenB {x : Operand} {tx : TypeId} {s : ByteArray} (hu : c.P.underlying tx = some .string) (hx : ev σ x = .string s) :
    Det c σ H K ⟨d, .call { callee := .builtin .len, args := #[x], argTypes := #[tx] }, t, p, af, g⟩ (.int .i64 s.size) := fun w _ => by
  simp [execOp, resolve, invoke, builtin, hx, Builtin.len_, goInt, run_und hu]
theorem maxI {x y : Operand} {tx ty : TypeId} {k : IntKind} {a b : Int} (hx : ev σ x = .int k a) (hy : ev σ y = .int k b) :
    Det c σ H K ⟨d, .call { callee := .builtin .max, args := #[x, y], argTypes := #[tx, ty] }, t, p, af, g⟩ (.int k (max a b)) := fun w _ => by
  simp [execOp, resolve, invoke, builtin, hx, hy, Builtin.max_, Builtin.max2]
  omega
theorem minI {x y : Operand} {tx ty : TypeId} {k : IntKind} {a b : Int} (hx : ev σ x = .int k a) (hy : ev σ y = .int k b) :
    Det c σ H K ⟨d, .call { callee := .builtin .min, args := #[x, y], argTypes := #[tx, ty] }, t, p, af, g⟩ (.int k (min a b)) := fun w _ => by
  simp [execOp, resolve, invoke, builtin, hx, hy, Builtin.min_, Builtin.min2]
  omega
end
end Go.Proofs.YtmcapgjdflohfaaGreat.L

namespace Go.Proofs.YtmcapgjdflohfaaGreat.L
open Go Go.RowKit

theorem mem_places {b : Nat} {H : List Res} : b ∈ places H ↔ ∃ r ∈ H, r.at = some b := by
  induction H with
  | nil => simp [places]
  | cons r l ih => simp [places, ih]

theorem Res.keep {base : Nat} {w w' : World} {r : Res} (h : r.holds base w) (hk : ∀ b, r.at = some b → w'.heap[b]? = w.heap[b]?) : r.holds base w' := by
  cases r with
  | blk b o => simp only [Res.holds] at *; rw [hk b rfl]; exact h
  | row v e sz n xs =>
    simp only [Res.holds] at *
    refine ⟨h.1, ?_⟩
    rcases h.2 with h2 | ⟨g, cap, cur, rfl, hb, hg, hrest⟩
    · exact .inl h2
    · exact .inr ⟨g, cap, cur, rfl, hb, by rw [hk g rfl]; exact hg, hrest⟩

theorem Res.lt {base : Nat} {w : World} {r : Res} (h : r.holds base w) (b : Nat) (hb : r.at = some b) : b < w.heap.size := by
  cases r with
  | blk b' o =>
    simp only [Res.at, Option.some.injEq] at hb
    subst hb
    exact (Array.getElem?_eq_some_iff.1 h).1
  | row v e sz n xs => exact (World.ownsRow.lt h b hb).2

/-- Which block a set's turned entry has. -/
theorem places_set {H : List Res} {i : Nat} {r' : Res} (b : Nat) : b ∈ places (H.set i r') → b ∈ places H ∨ r'.at = some b := by
  intro h
  obtain ⟨x, hx, hb⟩ := mem_places.1 h
  rcases List.mem_or_eq_of_mem_set hx with hx | rfl
  · exact .inl (mem_places.2 ⟨x, hx, hb⟩)
  · exact .inr hb

theorem nodup_set {H : List Res} {i : Nat} {r r' : Res} (hi : H[i]? = some r) (h : (places H).Nodup) (hat : r'.at = r.at ∨ r'.at = none ∨ ∃ k, r'.at = some k ∧ k ∉ places H) : (places (H.set i r')).Nodup := by
  induction H generalizing i with
  | nil => simp at hi
  | cons x l ih =>
    cases i with
    | zero =>
      simp only [List.getElem?_cons_zero, Option.some.injEq] at hi
      subst hi
      simp only [List.set_cons_zero, places] at *
      rcases hat with hat | hat | ⟨k, hk, hn⟩
      · rw [hat]; exact h
      · rw [hat]; simp; exact (List.nodup_append.1 h).2.1
      · rw [hk]
        simp only [Option.toList_some, List.cons_append, List.nil_append, List.nodup_cons]
        exact ⟨fun hm => hn (List.mem_append_right _ hm), (List.nodup_append.1 h).2.1⟩
    | succ i =>
      simp only [List.getElem?_cons_succ] at hi
      simp only [List.set_cons_succ, places] at *
      obtain ⟨h1, h2, h3⟩ := List.nodup_append.1 h
      refine List.nodup_append.2 ⟨h1, ih hi h2 ?_, ?_⟩
      · rcases hat with hat | hat | ⟨k, hk, hn⟩
        · exact .inl hat
        · exact .inr (.inl hat)
        · exact .inr (.inr ⟨k, hk, fun hm => hn (List.mem_append_right _ hm)⟩)
      · intro a ha b hb
        rcases places_set b hb with hb | hb
        · exact h3 a ha b hb
        · rcases hat with hat | hat | ⟨k, hk, hn⟩
          · rw [hat] at hb
            exact h3 a ha b (mem_places.2 ⟨r, List.mem_of_getElem? hi, hb⟩)
          · rw [hat] at hb; cases hb
          · rw [hk] at hb
            obtain rfl := Option.some.inj hb
            rintro rfl
            exact hn (List.mem_append_left _ ha)

theorem other_block {H : List Res} {i j : Nat} {r x : Res} (hi : H[i]? = some r) (hj : H[j]? = some x) (hne : i ≠ j) (h : (places H).Nodup) (b : Nat) (hb : x.at = some b) : r.at ≠ some b := by
  induction H generalizing i j with
  | nil => simp at hi
  | cons y l ih =>
    simp only [places] at h
    obtain ⟨h1, h2, h3⟩ := List.nodup_append.1 h
    cases i with
    | zero =>
      cases j with
      | zero => exact absurd rfl hne
      | succ j =>
        simp only [List.getElem?_cons_zero, Option.some.injEq, List.getElem?_cons_succ] at hi hj
        subst hi
        intro hr
        exact h3 b (by simp [hr]) b (mem_places.2 ⟨x, List.mem_of_getElem? hj, hb⟩) rfl
    | succ i =>
      cases j with
      | zero =>
        simp only [List.getElem?_cons_zero, Option.some.injEq, List.getElem?_cons_succ] at hi hj
        subst hj
        intro hr
        exact h3 b (by simp [hb]) b (mem_places.2 ⟨r, List.mem_of_getElem? hi, hr⟩) rfl
      | succ j =>
        simp only [List.getElem?_cons_succ] at hi hj
        exact ih hi hj (by omega) h2

section
variable {c : Cx} {H : List Res} {K : List Fact} {w w' : World}

theorem M.get (hm : M c H K w) {i : Nat} {r : Res} (hi : H[i]? = some r) : r.holds c.w0.heap.size w := hm.holds r (List.mem_of_getElem? hi)
theorem M.blk (hm : M c H K w) (i : Nat) {b : Nat} {o : Obj} (hi : H[i]? = some (.blk b o)) : w.heap[b]? = some o := hm.get hi

/-- One entry turns, the world grows and is written at that entry's block alone. -/
theorem M.change (hm : M c H K w) (i : Nat) {r r' : Res} (hi : H[i]? = some r) (hg : w.grownBy w' r.at) (hr : r'.holds c.w0.heap.size w')
    (hat : r'.at = r.at ∨ r'.at = none ∨ ∃ k, r'.at = some k ∧ w.heap.size ≤ k) : M c (H.set i r') K w' := by
  have hown : ∀ b, r.at = some b → b ∈ places H := fun b hb => mem_places.2 ⟨r, List.mem_of_getElem? hi, hb⟩
  have hfresh : ∀ k, w.heap.size ≤ k → k ∉ places H := fun k hk hmem => by have := (hm.mine k hmem).2; omega
  have hplace : ∀ b, b ∈ places (H.set i r') → b ∈ places H ∨ (w.heap.size ≤ b ∧ r'.at = some b) := by
    intro b hb
    rcases places_set b hb with hb | hb
    · exact .inl hb
    · rcases hat with hat | hat | ⟨k, hk, hn⟩
      · rw [hat] at hb; exact .inl (hown b hb)
      · rw [hat] at hb; cases hb
      · have e := hb; rw [hk] at e; obtain rfl := Option.some.inj e; exact .inr ⟨hn, hb⟩
  refine ⟨hg.os.trans hm.os, hg.tape.trans hm.tape, hg.output.trans hm.output, Nat.le_trans hm.size hg.size, ?_, ?_, ?_, ?_, hm.stable, ?_⟩
  · intro k hk hkS
    have := hm.size
    rw [hg.block k (by omega) ?_]
    · exact hm.frame k hk hkS
    · intro e
      rcases (hm.mine k (hown k e.symm)).1 with h | h
      · omega
      · exact hkS h
  · intro x hx
    obtain ⟨j, hj, hxj⟩ := List.getElem_of_mem hx
    by_cases hij : i = j
    · subst hij
      rw [List.getElem_set_self] at hxj
      subst hxj; exact hr
    · rw [List.getElem_set_ne hij] at hxj
      have hj' : H[j]? = some x := by
        rw [List.getElem?_eq_getElem (by simpa using hj)]; rw [hxj]
      have hx' := hm.get hj'
      refine Res.keep hx' fun b hb => hg.block b (Res.lt hx' b hb) ?_
      intro e
      exact other_block hi hj' hij hm.nodup b hb e.symm
  · intro b hb
    rcases hplace b hb with h | ⟨h, h2⟩
    · have := hm.mine b h
      exact ⟨this.1, Nat.lt_of_lt_of_le this.2 hg.size⟩
    · have := hm.size
      exact ⟨.inl (by omega), Res.lt hr b h2⟩
  · refine nodup_set hi hm.nodup ?_
    rcases hat with hat | hat | ⟨k, hk, hn⟩
    · exact .inl hat
    · exact .inr (.inl hat)
    · exact .inr (.inr ⟨k, hk, hfresh k hn⟩)
  · obtain ⟨D, d1, d2, d3, d4, d5⟩ := hm.data
    refine ⟨D, d1, d2, fun k hk => Nat.lt_of_lt_of_le (d3 k hk) hg.size, ?_, d5.step hm.stable (fun _ h => h) ?_⟩
    · intro b hb
      rcases hplace b hb with h | h
      · exact d4 b h
      · intro hD; have := d3 b hD; omega
    · intro k hk hlt
      refine hg.block k hlt ?_
      intro e
      exact d4 k (hown k e.symm) hk

/-- A new entry, in new memory. -/
theorem M.add (hm : M c H K w) {r : Res} (hg : w.grownBy w' none) (hr : r.holds c.w0.heap.size w') (hat : r.at = none ∨ ∃ k, r.at = some k ∧ w.heap.size ≤ k) : M c (r :: H) K w' := by
  have hfresh : ∀ k, w.heap.size ≤ k → k ∉ places H := fun k hk hmem => by have := (hm.mine k hmem).2; omega
  have hplace : ∀ b, b ∈ places (r :: H) → b ∈ places H ∨ (w.heap.size ≤ b ∧ r.at = some b) := by
    intro b hb
    simp only [places, List.mem_append, Option.mem_toList] at hb
    rcases hb with hb | hb
    · rcases hat with hat | ⟨k, hk, hn⟩
      · rw [hat] at hb; cases hb
      · have e := hb; rw [hk] at e; obtain rfl := Option.some.inj e; exact .inr ⟨hn, hb⟩
    · exact .inl hb
  refine ⟨hg.os.trans hm.os, hg.tape.trans hm.tape, hg.output.trans hm.output, Nat.le_trans hm.size hg.size, ?_, ?_, ?_, ?_, hm.stable, ?_⟩
  · intro k hk hkS
    have := hm.size
    rw [hg.block k (by omega) (by simp)]
    exact hm.frame k hk hkS
  · intro x hx
    rcases List.mem_cons.1 hx with rfl | hx
    · exact hr
    · have hx' := hm.holds x hx
      exact Res.keep hx' fun b hb => hg.block b (Res.lt hx' b hb) (by simp)
  · intro b hb
    rcases hplace b hb with h | ⟨h, h2⟩
    · have := hm.mine b h
      exact ⟨this.1, Nat.lt_of_lt_of_le this.2 hg.size⟩
    · have := hm.size
      exact ⟨.inl (by omega), Res.lt hr b h2⟩
  · simp only [places]
    rcases hat with hat | ⟨k, hk, hn⟩
    · rw [hat]; simpa using hm.nodup
    · rw [hk]
      simp only [Option.toList_some, List.cons_append, List.nil_append, List.nodup_cons]
      exact ⟨hfresh k hn, hm.nodup⟩
  · obtain ⟨D, d1, d2, d3, d4, d5⟩ := hm.data
    refine ⟨D, d1, d2, fun k hk => Nat.lt_of_lt_of_le (d3 k hk) hg.size, ?_, d5.step hm.stable (fun _ h => h) ?_⟩
    · intro b hb
      rcases hplace b hb with h | h
      · exact d4 b h
      · intro hD; have := d3 b hD; omega
    · intro k hk hlt
      exact hg.block k hlt (by simp)

/-- New memory, and a fact on it. -/
theorem M.learn (hm : M c H K w) {f : Fact} (hs : Stable f) (hg : w.grownBy w' none)
    (hf : ∀ D : Nat → Prop, KAll K D w → f (fun k => D k ∨ (w.heap.size ≤ k ∧ k < w'.heap.size)) w') : M c H (f :: K) w' := by
  refine ⟨hg.os.trans hm.os, hg.tape.trans hm.tape, hg.output.trans hm.output, Nat.le_trans hm.size hg.size, ?_, ?_, ?_, hm.nodup, ⟨hs, hm.stable⟩, ?_⟩
  · intro k hk hkS
    have := hm.size
    rw [hg.block k (by omega) (by simp)]
    exact hm.frame k hk hkS
  · intro x hx
    have hx' := hm.holds x hx
    exact Res.keep hx' fun b hb => hg.block b (Res.lt hx' b hb) (by simp)
  · intro b hb
    have := hm.mine b hb
    exact ⟨this.1, Nat.lt_of_lt_of_le this.2 hg.size⟩
  · obtain ⟨D, d1, d2, d3, d4, d5⟩ := hm.data
    refine ⟨fun k => D k ∨ (w.heap.size ≤ k ∧ k < w'.heap.size), ?_, fun k hk => .inl (d2 k hk), ?_, ?_, hf D d5, d5.step hm.stable (fun _ h => .inl h) fun k hk hlt => hg.block k hlt (by simp)⟩
    · rintro k (hk | hk)
      · exact d1 k hk
      · have := hm.size; exact .inr (by omega)
    · rintro k (hk | hk)
      · exact Nat.lt_of_lt_of_le (d3 k hk) hg.size
      · exact hk.2
    · rintro b hb (hD | hD)
      · exact d4 b hb hD
      · have := (hm.mine b hb).2; omega

theorem M.pure (hm : M c H K w) (hg : w.grownBy w' none) : M c H K w' := by
  refine ⟨hg.os.trans hm.os, hg.tape.trans hm.tape, hg.output.trans hm.output, Nat.le_trans hm.size hg.size, ?_, ?_, ?_, hm.nodup, hm.stable, ?_⟩
  · intro k hk hkS
    have := hm.size
    rw [hg.block k (by omega) (by simp)]
    exact hm.frame k hk hkS
  · intro x hx
    have hx' := hm.holds x hx
    exact Res.keep hx' fun b hb => hg.block b (Res.lt hx' b hb) (by simp)
  · intro b hb
    have := hm.mine b hb
    exact ⟨this.1, Nat.lt_of_lt_of_le this.2 hg.size⟩
  · obtain ⟨D, d1, d2, d3, d4, d5⟩ := hm.data
    exact ⟨D, d1, d2, fun k hk => Nat.lt_of_lt_of_le (d3 k hk) hg.size, d4, d5.step hm.stable (fun _ h => h) fun k hk hlt => hg.block k hlt (by simp)⟩

/-- A fact that follows. -/
theorem M.also (hm : M c H K w) {f : Fact} (hs : Stable f) (hf : ∀ D : Nat → Prop, KAll K D w → f D w) : M c H (f :: K) w := by
  obtain ⟨D, d1, d2, d3, d4, d5⟩ := hm.data
  exact ⟨hm.os, hm.tape, hm.output, hm.size, hm.frame, hm.holds, hm.mine, hm.nodup, ⟨hs, hm.stable⟩, D, d1, d2, d3, d4, hf D d5, d5⟩

/-- At the end: what a pure call owes. -/
theorem M.below (hm : M c H K w) (hS : c.S = []) : Below c.w0.heap.size c.w0 w :=
  ⟨hm.os, hm.tape, hm.output, hm.size, fun k hk => hm.frame k hk (by simp [hS])⟩

theorem grown_below {w w' : World} (h : Below w.heap.size w w') : w.grownBy w' none := ⟨h.os, h.tape, h.output, h.size, fun k hk _ => h.block k hk⟩

/-- The beginning of a call: nothing is held yet but what the blocks of data tell. -/
theorem M.init (P : Program) (w : World) (D : Nat → Prop) (S : List Nat) (K : List Fact) (hK : KStable K) (hD : ∀ k, D k → k < w.heap.size) (h : KAll K D w) : M ⟨P, w, D, S⟩ [] K w :=
  { os := rfl, tape := rfl, output := rfl, size := Nat.le_refl _, frame := fun _ _ _ => rfl, holds := fun _ h => (by cases h), mine := fun _ h => (by cases h), nodup := List.nodup_nil, stable := hK,
    data := ⟨D, fun k hk => Or.inl hk, fun _ h => h, hD, fun _ h => (by cases h), h⟩ }
end
end Go.Proofs.YtmcapgjdflohfaaGreat.L

namespace Go.Proofs.YtmcapgjdflohfaaGreat.L
open Go Go.RowKit

/-- A struct's or an array's value, by its cells. -/
abbrev ag (l : List Value) : Value := .agg l.toArray
/-- An object's cells. -/
abbrev ob (l : List Value) (e : TypeId) : Obj := .cells l.toArray e
/-- The address that lies behind one, if there is one. -/
def at_ (A : Option Addr) (o : Nat) : Value := .pointer (A.map fun a => ⟨a.block, a.off + o, none⟩)

def one (l : List Value) : Bool := l.all (·.oneCell')

/-- A type of one cell; a struct or an array of so many cells. -/
def isOne (P : Program) (t : TypeId) : Prop := ∃ d, P.underlying t = some d ∧ (match d with | .struct _ | .array _ _ => false | _ => true) = true
def isAg (P : Program) (t : TypeId) (m : Nat) : Prop := ∃ d, P.underlying t = some d ∧ (match d with | .struct _ | .array _ _ => true | _ => false) = true ∧ (P.info? t).map (·.size) = some m

theorem isOne.run {P : Program} {t : TypeId} (h : isOne P t) (w : World) : (isAgg t).run P w = .ok false w := by
  obtain ⟨d, h1, h2⟩ := h
  unfold isAgg
  rw [Sem.run_bind, run_underlying h1 w]
  cases d <;> simp_all
theorem isAg.run {P : Program} {t : TypeId} {m : Nat} (h : isAg P t m) (w : World) : (isAgg t).run P w = .ok true w := by
  obtain ⟨d, h1, h2, _⟩ := h
  unfold isAgg
  rw [Sem.run_bind, run_underlying h1 w]
  cases d <;> simp_all
theorem run_size {P : Program} {t : TypeId} {m : Nat} (h : (P.info? t).map (·.size) = some m) (w : World) : (sizeOf t).run P w = .ok m w := by
  obtain ⟨i, h1, h2⟩ := Option.map_eq_some_iff.1 h
  simp [sizeOf, typeInfo, h1, h2]
theorem run_zero {P : Program} {t : TypeId} {z : Value} (h : (P.info? t).map (·.zero) = some (some z)) (w : World) : (zeroValue t).run P w = .ok z w := by
  obtain ⟨i, h1, h2⟩ := Option.map_eq_some_iff.1 h
  simp [zeroValue, typeInfo, h1, h2]

theorem add0 (b o j : Nat) : (⟨b, o, none⟩ : Addr).add j = ⟨b, o + j, none⟩ := by unfold Addr.add; split <;> simp_all

theorem run_loadAg {P : Program} {w : World} {t : TypeId} {b off : Nat} {l : List Value} (h : isAg P t l.length) (hc : ∀ j u, l[j]? = some u → w.cell? ⟨b, off + j, none⟩ = some u) :
    (loadVar t ⟨b, off, none⟩).run P w = .ok (ag l) w := by
  have hl := run_loadCells_list (P := P) w ⟨b, off, none⟩ l (fun j v hv => by rw [add0]; exact hc j v hv)
  obtain ⟨d, _, _, h3⟩ := id h
  simp [loadVar, Sem.run_bind, h.run, run_size h3, hl]
theorem run_loadOne {P : Program} {w : World} {t : TypeId} {b off : Nat} {v : Value} (h : isOne P t) (hc : w.cell? ⟨b, off, none⟩ = some v) :
    (loadVar t ⟨b, off, none⟩).run P w = .ok v w := by
  simp [loadVar, Sem.run_bind, h.run, hc]

theorem cell_ob {w : World} {b : Nat} {l : List Value} {e : TypeId} (h : w.heap[b]? = some (ob l e)) (j : Nat) : w.cell? ⟨b, j, none⟩ = l[j]? := by
  rw [cell_of_row w b j l.toArray e (0, 0) h]; simp

section
variable {c : Cx} {n : Nat} {Q : Exit → Env → World → Prop} {σ : Env} {H : List Res} {K : List Fact}
variable {d : Option Tmp} {t : TypeId} {p : String} {af : Array Edge} {g : Option (Nat × Bool)}

/-! ### Addresses -/
theorem nilchk {x : Operand} {a : Addr} (hx : ev σ x = .pointer (some a)) : Det c σ H K ⟨d, .nilCheck x, t, p, af, g⟩ (.pointer (some a)) := fun w _ => by
  simp [execOp, hx]
theorem fadr {x : Operand} {s : TypeId} {f b off m : Nat} {fs : Array Field} {fd : Field} (hx : ev σ x = .pointer (some ⟨b, off, none⟩)) (hs : c.P.underlying s = some (.struct fs)) (hf : fs[f]? = some fd)
    (hm : (c.P.info? fd.type).map (·.size) = some (m + 1)) : Det c σ H K ⟨d, .fieldAddr s x f, t, p, af, g⟩ (.pointer (some ⟨b, off + fd.offset, none⟩)) := fun w _ => by
  simp [execOp, hx, Instr.fieldAt, run_und hs, hf, Instr.sureAddr, fieldPlace, run_size hm, add0]
theorem iadr {x y : Operand} {s e : TypeId} {b off m z : Nat} {k : IntKind} {i : Int} (hx : ev σ x = .pointer (some ⟨b, off, none⟩)) (hy : ev σ y = .int k i) (hs : c.P.underlying s = some (.array m e))
    (hz : (c.P.info? e).map (·.size) = some z) (h0 : 0 ≤ i) (h1 : i < m) : Det c σ H K ⟨d, .indexAddr s x y, t, p, af, g⟩ (.pointer (some ⟨b, off + i.toNat * z, none⟩)) := fun w _ => by
  simp [execOp, hx, hy, Instr.indexAt, asIntOf, run_und hs, Instr.sureAddr, h0, h1, run_size hz, add0]

/-! ### Reading a block that is known -/
theorem ldB {x : Operand} {tx e : TypeId} (i : Nat) {b off : Nat} {l : List Value} {v : Value} (hx : ev σ x = .pointer (some ⟨b, off, none⟩)) (hi : H[i]? = some (.blk b (ob l e))) (hu : isOne c.P tx) (hv : l[off]? = some v) :
    Det c σ H K ⟨d, .load tx x, t, p, af, g⟩ v := fun w hm => by
  have hb := hm.blk i hi
  simp only [execOp, hx, Instr.loadAt, Instr.sureAddr, Sem.run_bind, Sem.run_pure, Result.andThen_ok]
  rw [run_loadOne hu (by rw [cell_ob hb]; exact hv)]; rfl
theorem ldA {x : Operand} {tx e : TypeId} (i : Nat) {b off m : Nat} {l r : List Value} (hx : ev σ x = .pointer (some ⟨b, off, none⟩)) (hi : H[i]? = some (.blk b (ob l e))) (hu : isAg c.P tx m) (hr : (l.drop off).take m = r) (hm : r.length = m) :
    Det c σ H K ⟨d, .load tx x, t, p, af, g⟩ (ag r) := fun w hM => by
  have hb := hM.blk i hi
  simp only [execOp, hx, Instr.loadAt, Instr.sureAddr, Sem.run_bind, Sem.run_pure, Result.andThen_ok]
  rw [run_loadAg (l := r) (by rw [hm]; exact hu) ?_]; rfl
  intro j u hj
  rw [cell_ob hb, ← hj, ← hr, List.getElem?_take, List.getElem?_drop]
  have : j < m := by have := (List.getElem?_eq_some_iff.1 hj).1; omega
  rw [if_pos this]

/-! ### Values of structs and arrays -/
theorem fldA {x : Operand} {s : TypeId} {f m : Nat} {l r : List Value} {fs : Array Field} {fd : Field} (hx : ev σ x = ag l) (hs : c.P.underlying s = some (.struct fs)) (hf : fs[f]? = some fd) (hu : isAg c.P fd.type m)
    (hr : (l.drop fd.offset).take m = r) : Det c σ H K ⟨d, .field s x f, t, p, af, g⟩ (ag r) := fun w _ => by
  obtain ⟨dd, _, _, h3⟩ := id hu
  simp [execOp, hx, Instr.field, run_und hs, hf, asAgg, part, hu.run, run_size h3, hr]
theorem fldO {x : Operand} {s : TypeId} {f : Nat} {l : List Value} {v : Value} {fs : Array Field} {fd : Field} (hx : ev σ x = ag l) (hs : c.P.underlying s = some (.struct fs)) (hf : fs[f]? = some fd) (hu : isOne c.P fd.type)
    (hr : l[fd.offset]? = some v) : Det c σ H K ⟨d, .field s x f, t, p, af, g⟩ v := fun w _ => by
  simp [execOp, hx, Instr.field, run_und hs, hf, asAgg, part, hu.run, hr]
theorem idxO {x y : Operand} {s e : TypeId} {m : Nat} {k : IntKind} {i : Int} {l : List Value} {v : Value} (hx : ev σ x = ag l) (hy : ev σ y = .int k i) (hs : c.P.underlying s = some (.array m e)) (hu : isOne c.P e)
    (hz : (c.P.info? e).map (·.size) = some 1) (h0 : 0 ≤ i) (h1 : i < m) (hv : l[i.toNat]? = some v) : Det c σ H K ⟨d, .index s x y, t, p, af, g⟩ v := fun w _ => by
  simp [execOp, hx, hy, Instr.index, asIntOf, run_und hs, h0, h1, part, hu.run, run_size hz, hv]
theorem idxB {x y : Operand} {s : TypeId} {k : IntKind} {i : Int} {z : ByteArray} {v : UInt8} (hx : ev σ x = .string z) (hy : ev σ y = .int k i) (hs : c.P.underlying s = some .string)
    (h0 : 0 ≤ i) (hv : z.data.toList[i.toNat]? = some v) : Det c σ H K ⟨d, .index s x y, t, p, af, g⟩ (.int .u8 v.toNat) := fun w _ => by
  have h1 : i.toNat < z.size := by have := (List.getElem?_eq_some_iff.1 hv).1; simpa using this
  have h2 : z[i.toNat]? = some v := by
    rw [getElem?_pos z i.toNat h1]
    have := (List.getElem?_eq_some_iff.1 hv).2
    congr 1
  simp [execOp, hx, hy, Instr.index, asIntOf, run_und hs, h0, h2]
theorem extr {x : Operand} {i : Nat} {vs : Array Value} {v : Value} (hx : ev σ x = .tuple vs) (hv : vs[i]? = some v) : Det c σ H K ⟨d, .extract x i, t, p, af, g⟩ v := fun w _ => by
  simp [execOp, hx, Instr.extract, hv]

/-! ### Strings -/
theorem sadd {x y : Operand} {tx ty : TypeId} {a b : ByteArray} (hx : ev σ x = .string a) (hy : ev σ y = .string b) (h : a.size + b.size ≤ 9223372036854775807) :
    Det c σ H K ⟨d, .binOp .add tx x y ty, t, p, af, g⟩ (.string (a ++ b)) := fun w _ => by
  have h' : ¬ ((a.size + b.size : Nat) : Int) > IntKind.i64.max := by simp [IntKind.max, IntKind.signed, IntKind.bits]; omega
  have he : (eqGuard .add tx x y (.string a) (.string b)).run c.P w = .ok () w := rfl
  simp only [execOp, hx, hy, Sem.run_bind, he, Result.andThen_ok, binOp, Op.stringOp]
  rw [if_neg h']; rfl
theorem toList_eq (a : ByteArray) : a.toList = a.data.toList := by
  exact ByteArray.toList_eq a
theorem seql {x y : Operand} {tx ty : TypeId} {a b : ByteArray} (hx : ev σ x = .string a) (hy : ev σ y = .string b) : Det c σ H K ⟨d, .binOp .eql tx x y ty, t, p, af, g⟩ (.bool (decide (a = b))) := fun w _ => by
  have he : (eqGuard .eql tx x y (.string a) (.string b)).run c.P w = .ok () w := rfl
  have hb : (a.toList == b.toList) = decide (a = b) := by
    rw [Bool.eq_iff_iff]; simp only [beq_iff_eq, decide_eq_true_eq, toList_eq]
    constructor
    · intro h; cases a; cases b; simp only [ByteArray.mk.injEq]; exact Array.toList_inj.1 h
    · rintro rfl; rfl
  simp only [execOp, hx, hy, Sem.run_bind, he, Result.andThen_ok, binOp, Op.stringOp, hb]; rfl
theorem sneq {x y : Operand} {tx ty : TypeId} {a b : ByteArray} (hx : ev σ x = .string a) (hy : ev σ y = .string b) : Det c σ H K ⟨d, .binOp .neq tx x y ty, t, p, af, g⟩ (.bool (!decide (a = b))) := fun w _ => by
  have he : (eqGuard .neq tx x y (.string a) (.string b)).run c.P w = .ok () w := rfl
  have hb : (a.toList == b.toList) = decide (a = b) := by
    rw [Bool.eq_iff_iff]; simp only [beq_iff_eq, decide_eq_true_eq, toList_eq]
    constructor
    · intro h; cases a; cases b; simp only [ByteArray.mk.injEq]; exact Array.toList_inj.1 h
    · rintro rfl; rfl
  simp only [execOp, hx, hy, Sem.run_bind, he, Result.andThen_ok, binOp, Op.stringOp, hb]; rfl

/-! ### New memory, and stores -/
theorem alloc {ops : Array Oper} {d : Nat} {e : TypeId} {z : Value} {l : List Oper} {cs : List Value} (hz : (c.P.info? e).map (·.zero) = some (some z)) (hc : z.cells = cs.toArray) (hd : Nat.blt d n = true)
    (h : ∀ b, TL c n ops l Q (upd σ d (.pointer (some ⟨b, 0, none⟩))) (.blk b (ob cs e) :: H) K) : TL c n ops (⟨some d, .alloc e, t, p, af, none⟩ :: l) Q σ H K := by
  intro w hm a hr
  refine wpList_run rfl ?_
  have hrun : (execOp a.eval ⟨some d, .alloc e, t, p, af, none⟩).run c.P w = .ok (.value (.pointer (some ⟨w.heap.size, 0, none⟩))) (w.alloc (ob cs e)) := by
    simp [execOp, Instr.alloc, run_zero hz, newVar, newRow, hc]
  rw [hrun]
  exact h w.heap.size _ (hm.add (World.grownBy_alloc w _ none) (heap_alloc_new w _) (.inr ⟨_, rfl, Nat.le_refl _⟩)) _ (hr.put d _ (by simp [Nat.blt] at hd; omega))

theorem box {ops : Array Oper} {d : Nat} {e : TypeId} {x : Operand} {l : List Oper} {v : Value} {cs : List Value} (hx : ev σ x = v) (hc : v.cells = cs.toArray) (hd : Nat.blt d n = true)
    (h : ∀ b, TL c n ops l Q (upd σ d (.pointer (some ⟨b, 0, none⟩))) (.blk b (ob cs e) :: H) K) : TL c n ops (⟨some d, .box e x, t, p, af, none⟩ :: l) Q σ H K := by
  intro w hm a hr
  refine wpList_run rfl ?_
  have hrun : (execOp a.eval ⟨some d, .box e x, t, p, af, none⟩).run c.P w = .ok (.value (.pointer (some ⟨w.heap.size, 0, none⟩))) (w.alloc (ob cs e)) := by
    subst hx
    simp [execOp, Instr.box, newVar, newRow, hr.eval, hc]
  rw [hrun]
  exact h w.heap.size _ (hm.add (World.grownBy_alloc w _ none) (heap_alloc_new w _) (.inr ⟨_, rfl, Nat.le_refl _⟩)) _ (hr.put d _ (by simp [Nat.blt] at hd; omega))

theorem grownBy_setRow (w : World) (b : Nat) (cs : Array Value) : w.grownBy (w.setRow b cs) (some b) := by
  refine ⟨rfl, rfl, rfl, by simp [World.setRow], fun k hk hne => ?_⟩
  simp only [World.setRow, Array.getElem?_modify]
  rw [if_neg (by rintro rfl; exact hne rfl)]

/-- A store into a block that is known. -/
theorem sto {ops : Array Oper} {tx e : TypeId} {x y : Operand} {l : List Oper} (i : Nat) {b off : Nat} {ls vs rs : List Value} {v : Value} (hx : ev σ x = .pointer (some ⟨b, off, none⟩)) (hy : ev σ y = v) (hv : v.cells = vs.toArray)
    (hi : H[i]? = some (.blk b (ob ls e))) (hs : (c.P.info? tx).map (·.size) = some vs.length) (h1 : one vs = true) (hlen : off + vs.length ≤ ls.length)
    (hr : ls.take off ++ vs ++ ls.drop (off + vs.length) = rs) (h : TL c n ops l Q σ (H.set i (.blk b (ob rs e))) K) : TL c n ops (⟨none, .store tx x y, t, p, af, none⟩ :: l) Q σ H K := by
  intro w hm a hrep
  refine wpList_run rfl ?_
  have hb := hm.blk i hi
  have hst := run_storeCells_at (P := c.P) b off e vs 0 ls.toArray w hb (by simpa using hlen) (fun u hu => List.all_eq_true.1 h1 u hu)
  have hrun : (execOp a.eval ⟨none, .store tx x y, t, p, af, none⟩).run c.P w = .ok .skip (w.setRow b rs.toArray) := by
    simp only [execOp, hrep.eval, hx, hy, Instr.storeAt, Instr.sureAddr, Sem.run_bind, Sem.run_pure, Result.andThen_ok, storeVar, run_size hs, hv]
    simp only [List.size_toArray, ne_eq, not_true_eq_false, if_false]
    rw [hst, Nat.add_zero]
    simp [hr]
  rw [hrun]
  exact h _ (hm.change i hi (grownBy_setRow w b _) (setRow_heap w b _ _ e _ hb) (.inl rfl)) _ hrep

/-- What is held may be let go. -/
theorem M.sub {w : World} {H' : List Res} (hm : M c H K w) (hs : H'.Sublist H) : M c H' K w := by
  have hp : (places H').Sublist (places H) := by
    induction hs with
    | slnil => exact List.Sublist.refl _
    | cons a _ ih => exact (ih (by
        refine ⟨hm.os, hm.tape, hm.output, hm.size, hm.frame, fun r hr => hm.holds r (List.mem_cons_of_mem _ hr), fun b hb => hm.mine b (List.mem_append_right _ hb), (List.nodup_append.1 hm.nodup).2.1, hm.stable, ?_⟩
        obtain ⟨D, d1, d2, d3, d4, d5⟩ := hm.data
        exact ⟨D, d1, d2, d3, fun b hb => d4 b (List.mem_append_right _ hb), d5⟩)).trans (List.sublist_append_right _ _)
    | cons_cons a _ ih => exact List.Sublist.append (List.Sublist.refl _) (ih (by
        refine ⟨hm.os, hm.tape, hm.output, hm.size, hm.frame, fun r hr => hm.holds r (List.mem_cons_of_mem _ hr), fun b hb => hm.mine b (List.mem_append_right _ hb), (List.nodup_append.1 hm.nodup).2.1, hm.stable, ?_⟩
        obtain ⟨D, d1, d2, d3, d4, d5⟩ := hm.data
        exact ⟨D, d1, d2, d3, fun b hb => d4 b (List.mem_append_right _ hb), d5⟩))
  refine ⟨hm.os, hm.tape, hm.output, hm.size, hm.frame, fun r hr => hm.holds r (hs.subset hr), fun b hb => hm.mine b (hp.subset hb), hp.nodup hm.nodup, hm.stable, ?_⟩
  obtain ⟨D, d1, d2, d3, d4, d5⟩ := hm.data
  exact ⟨D, d1, d2, d3, fun b hb => d4 b (hp.subset hb), d5⟩

/-! ### Calls -/
/-- A function that can be called: it has a body. -/
def Fn (P : Program) (f : FuncId) : Prop := ∃ fn code, P.funcs[f]? = some fn ∧ fn.body = some code ∧ (fn.name == "runtime.NumGoroutine") = false

theorem Fn.run {P : Program} {f : FuncId} (h : Fn P f) (σ : Env) (d : Option Tmp) (t : TypeId) (p : String) (af : Array Edge) (args : Array Operand) (ats : Array TypeId) (w : World) :
    (execOp (ev σ) ⟨d, .call { callee := .value (.func f), args := args, argTypes := ats }, t, p, af, none⟩).run P w = .ok (.enter f (args.map (ev σ))) w := by
  obtain ⟨fn, code, hf, hb, hn⟩ := h
  have hn' : ¬ fn.name = "runtime.NumGoroutine" := by simpa using hn
  simp [execOp, resolve, Deferred.ofValue, ev, invoke, callFunc, hf, hn', hb]

theorem map_args {args : Array Operand} {vs : List Value} {f : Operand → Value} (h : args.toList.map f = vs) : args.map f = vs.toArray := by
  apply Array.toList_inj.1; rw [Array.toList_map]; exact h
/-- A call that hands back a value that the arguments tell, and makes memory alone. -/
theorem call {ops : Array Oper} {d : Nat} {f : FuncId} {args : Array Operand} {ats : Array TypeId} {vs : List Value} {l : List Oper} {v : Value} (hf : Fn c.P f) (ha : args.toList.map (ev σ) = vs) (hd : Nat.blt d n = true)
    (spec : ∀ w, M c H K w → Calls c.P f vs.toArray w fun e w' => e = .returned v ∧ Below w.heap.size w w') (h : TL c n ops l Q (upd σ d v) H K) :
    TL c n ops (⟨some d, .call { callee := .value (.func f), args := args, argTypes := ats }, t, p, af, none⟩ :: l) Q σ H K := by
  intro w hm a hr
  refine wpList_run rfl ?_
  rw [hr.eval, hf.run, map_args ha]
  refine (spec w hm).mono ?_
  rintro e w' ⟨rfl, hbel⟩
  exact h w' (hm.pure (grown_below hbel)) _ (hr.put d _ (by simp [Nat.blt] at hd; omega))
end
end Go.Proofs.YtmcapgjdflohfaaGreat.L

namespace Go.Proofs.YtmcapgjdflohfaaGreat.L
open Go Go.RowKit

def post (P : Program) (fn : Func) (n : Nat) (R : Ending → World → Prop) : Exit → Env → World → Prop
  | .normal, σ, w | .ret, σ, w => ∃ v, (∀ a, Rep n a σ → (results fn a.tmps).run P w = .ok v w) ∧ R (.returned v) w
  | .panic ch, _, w => R (.panicked ch) w
  | .outgrown, _, w => R .outgrown w
  | _, _, _ => False

theorem enter {P : Program} {f : FuncId} {fn : Func} {code : Code} {n : Nat} {args : Array Value} {w : World} {D : Nat → Prop} {S : List Nat} {H : List Res} {K : List Fact} {R : Ending → World → Prop}
    (hf : P.funcs[f]? = some fn) (hb : fn.body = some code) (hn : fn.ntmps = n) (ha : Nat.ble args.size n = true) (hM : M ⟨P, w, D, S⟩ H K w)
    (h : Tr ⟨P, w, D, S⟩ n code (post P fn n R) (start args) H K) : Calls P f args w R := by
  refine calls_of_wp hf hb ?_
  rw [hn]
  refine Code.wp_mono ?_ (h w hM _ (rep_start args n (Nat.le_of_ble_eq_true ha)))
  rintro e a w' ⟨σ, hr, hq⟩
  cases e with
  | normal => obtain ⟨v, h1, h2⟩ := hq; exact ⟨hr.defers, v, h1 a hr, h2⟩
  | ret => obtain ⟨v, h1, h2⟩ := hq; exact ⟨hr.defers, v, h1 a hr, h2⟩
  | panic ch => exact ⟨hr.defers, hq⟩
  | outgrown => exact hq
  | exit id => exact hq.elim
  | goto l => exact hq.elim

/-- A call that computes a value out of values, and makes new memory alone. -/
def Pure (P : Program) (f : FuncId) (args : Array Value) (v : Value) : Prop := ∀ w, Calls P f args w fun e w' => e = .returned v ∧ Below w.heap.size w w'

abbrev cx (P : Program) (w : World) : Cx := ⟨P, w, fun _ => False, []⟩
abbrev PR (w : World) (v : Value) : Ending → World → Prop := fun e w' => e = .returned v ∧ Below w.heap.size w w'

theorem enter0 {P : Program} {f : FuncId} {fn : Func} {code : Code} {n : Nat} {args : Array Value} {v : Value}
    (hf : P.funcs[f]? = some fn) (hb : fn.body = some code) (hn : fn.ntmps = n) (ha : Nat.ble args.size n = true)
    (h : ∀ w, Tr (cx P w) n code (post P fn n (PR w v)) (start args) [] []) : Pure P f args v :=
  fun w => enter hf hb hn ha (M.init P w _ _ [] trivial (fun _ h => h.elim) trivial) (h w)

section
variable {c : Cx} {n : Nat} {σ : Env} {H : List Res} {K : List Fact} {fn : Func} {R : Ending → World → Prop}

theorem retT {s : Nat} {v : Value} (hr : fn.results = #[.tmp s]) (hv : σ s = v) (h : ∀ w, M c H K w → R (.returned v) w) : ∀ w, M c H K w → post c.P fn n R .ret σ w :=
  fun w hm => ⟨v, fun a ha => by rw [results_tmp hr, ha.val, hv], h w hm⟩
theorem retC {s ty : Nat} {b : Nat} {e : TypeId} {l : List Value} (i : Nat) (hr : fn.results = #[.cell s ty]) (hv : σ s = .pointer (some ⟨b, 0, none⟩)) (hi : H[i]? = some (.blk b (ob l e))) (hu : isAg c.P ty l.length)
    (h : ∀ w, M c H K w → R (.returned (ag l)) w) : ∀ w, M c H K w → post c.P fn n R .ret σ w :=
  fun w hm => ⟨ag l, fun a ha => by
    obtain ⟨d, h1, h2, h3⟩ := hu
    exact results_cell_row hr a.tmps w b e l.toArray (0, 0) d (by rw [ha.val, hv]) (hm.blk i hi) h1 (by cases d <;> simp_all) (by simpa using h3), h w hm⟩
theorem ret2 {s s' : Nat} {v v' : Value} (hr : fn.results = #[.tmp s, .tmp s']) (hv : σ s = v) (hv' : σ s' = v') (h : ∀ w, M c H K w → R (.returned (.tuple #[v, v'])) w) : ∀ w, M c H K w → post c.P fn n R .ret σ w :=
  fun w hm => ⟨_, fun a ha => by rw [results_tmp2 hr, ha.val, ha.val, hv, hv'], h w hm⟩
theorem ret0 (hr : fn.results = #[]) (h : ∀ w, M c H K w → R (.returned (.tuple #[])) w) : ∀ w, M c H K w → post c.P fn n R .normal σ w :=
  fun w hm => ⟨_, fun _ _ => results_none hr _ _ _, h w hm⟩

/-- The end of a call that computes. -/
theorem pr {v : Value} (hS : c.S = [] := by rfl) : ∀ w', M c H K w' → PR c.w0 v (.returned v) w' := fun _ hm => ⟨rfl, hm.below hS⟩
theorem pr' {v v' : Value} (h : v' = v) (hS : c.S = [] := by rfl) : ∀ w', M c H K w' → PR c.w0 v (.returned v') w' := fun _ hm => ⟨by rw [h], hm.below hS⟩
end
end Go.Proofs.YtmcapgjdflohfaaGreat.L

namespace Go.Proofs.YtmcapgjdflohfaaGreat.L
open Go Go.RowKit

/-- So many slots have these values. -/
def At : List (Nat × Value) → Env → Prop
  | [], _ => True
  | (s, v) :: r, σ => σ s = v ∧ At r σ
/-- A state's slots, written out. -/
def fix : List (Nat × Value) → Env → Env
  | [], σ => σ
  | (s, v) :: r, σ => upd (fix r σ) s v

theorem fix_at {l : List (Nat × Value)} {σ : Env} (h : At l σ) : fix l σ = σ := by
  induction l with
  | nil => rfl
  | cons p r ih =>
    obtain ⟨s, v⟩ := p
    simp only [fix, At] at *
    rw [ih h.2]
    funext i
    by_cases e : i = s
    · subst e; rw [upd_same, h.1]
    · rw [upd_ne _ _ _ _ e]

section
variable {c : Cx} {n : Nat} {Q : Exit → Env → World → Prop} {σ : Env} {H : List Res} {K : List Fact}

/-- What a round owes. -/
def Again {ι : Type} (c : Cx) (Inv : ι → Prop) (V : ι → List (Nat × Value)) (HH : ι → List Res) (KK : ι → List Fact) (μ : ι → Nat) (i : ι) : Env → World → Prop :=
  fun σ' w' => ∃ j, (Inv j ∧ At (V j) σ') ∧ M c (HH j) (KK j) w' ∧ μ j < μ i

theorem loopV {ι : Type} {x : Code} (Inv : ι → Prop) (V : ι → List (Nat × Value)) (HH : ι → List Res) (KK : ι → List Fact) (μ : ι → Nat) (i0 : ι)
    (hi0 : Inv i0) (h0 : At (V i0) σ) (hm0 : ∀ w, M c H K w → M c (HH i0) (KK i0) w)
    (round : ∀ i σ, Inv i → Tr c n x (thn (Again c Inv V HH KK μ i) Q) (fix (V i) σ) (HH i) (KK i)) : Tr c n (.loop x) Q σ H K := by
  refine loop (fun i σ => Inv i ∧ At (V i) σ) HH KK μ i0 ⟨hi0, h0⟩ hm0 ?_
  rintro i σ ⟨h1, h2⟩
  have := round i σ h1
  rw [fix_at h2] at this
  exact this

theorem again {ι : Type} {Inv : ι → Prop} {V : ι → List (Nat × Value)} {HH : ι → List Res} {KK : ι → List Fact} {μ : ι → Nat} {i : ι} (j : ι) (hj : Inv j) (ha : At (V j) σ)
    (hm : ∀ w, M c H K w → M c (HH j) (KK j) w) (hl : μ j < μ i) : ∀ w, M c H K w → Again c Inv V HH KK μ i σ w :=
  fun w h => ⟨j, ⟨hj, ha⟩, hm w h, hl⟩

/-- A cut in a sequence, by slots' values. -/
def Meets {ι : Type} (c : Cx) (Inv : ι → Prop) (V : ι → List (Nat × Value)) (HH : ι → List Res) (KK : ι → List Fact) : Env → World → Prop :=
  fun σ w => ∃ i, (Inv i ∧ At (V i) σ) ∧ M c (HH i) (KK i) w
theorem cutV {ι : Type} {x y : Code} (Inv : ι → Prop) (V : ι → List (Nat × Value)) (HH : ι → List Res) (KK : ι → List Fact)
    (h1 : Tr c n x (thn (Meets c Inv V HH KK) Q) σ H K) (h2 : ∀ i σ, Inv i → Tr c n y Q (fix (V i) σ) (HH i) (KK i)) : Tr c n (x.seq y) Q σ H K := by
  refine cut (fun i σ => Inv i ∧ At (V i) σ) HH KK h1 ?_
  rintro i σ ⟨h3, h4⟩
  have := h2 i σ h3
  rw [fix_at h4] at this
  exact this
theorem meets {ι : Type} {Inv : ι → Prop} {V : ι → List (Nat × Value)} {HH : ι → List Res} {KK : ι → List Fact} (j : ι) (hj : Inv j) (ha : At (V j) σ)
    (hm : ∀ w, M c H K w → M c (HH j) (KK j) w) : ∀ w, M c H K w → Meets c Inv V HH KK σ w := fun w h => ⟨j, ⟨hj, ha⟩, hm w h⟩

/-- On to what stands behind. -/
theorem skipS {y : Code} (h : Tr c n y Q σ H K) : Tr c n .skip (thn (Wp c n y Q) Q) σ H K := skip h
end
end Go.Proofs.YtmcapgjdflohfaaGreat.L

namespace Go.Proofs.YtmcapgjdflohfaaGreat.L
open Go Go.RowKit

/-- A slice value reads as a list of elements, each so many cells. -/
def Sl (sz : Nat) (A : Option Addr) (n cap : Nat) (ls : List (List Value)) : Fact := fun D w =>
  ls.length = n ∧ n ≤ cap ∧ cap ≤ maxLen ∧ (∀ l ∈ ls, l.length = sz ∧ one l = true) ∧
  (0 < n → ∃ b off, A = some ⟨b, off, none⟩ ∧ D b ∧ ∀ i l, ls[i]? = some l → ∀ j u, l[j]? = some u → w.cell? ⟨b, off + i * sz + j, none⟩ = some u)

theorem Sl.stable {sz : Nat} {A : Option Addr} {n cap : Nat} {ls : List (List Value)} : Stable (Sl sz A n cap ls) := by
  rintro D D' w w' hD hw ⟨h1, h2, h3, h4, h5⟩
  refine ⟨h1, h2, h3, h4, fun hn => ?_⟩
  obtain ⟨b, off, hA, hb, hc⟩ := h5 hn
  refine ⟨b, off, hA, hD b hb, fun i l hl j u hu => ?_⟩
  have h := hc i l hl j u hu
  have hlt := World.block_lt_of_cell? w _ h
  exact (World.cell?_of_block (w := w) (hw b hb hlt)).trans h

theorem KAll.at {K : List Fact} {D : Nat → Prop} {w : World} (h : KAll K D w) {k : Nat} {f : Fact} (hk : K[k]? = some f) : f D w := by
  induction K generalizing k with
  | nil => simp at hk
  | cons x r ih =>
    cases k with
    | zero => simp only [List.getElem?_cons_zero, Option.some.injEq] at hk; subst hk; exact h.1
    | succ k => exact ih h.2 (by simpa using hk)

section
variable {c : Cx} {n : Nat} {Q : Exit → Env → World → Prop} {σ : Env} {H : List Res} {K : List Fact}
variable {d : Option Tmp} {t : TypeId} {p : String} {af : Array Edge} {g : Option (Nat × Bool)}

theorem M.fact {w : World} (hm : M c H K w) {k : Nat} {f : Fact} (hk : K[k]? = some f) : ∃ D, (∀ k, D k → (c.D0 k ∨ c.w0.heap.size ≤ k)) ∧ KAll K D w ∧ f D w := by
  obtain ⟨D, d1, d2, d3, d4, d5⟩ := hm.data
  exact ⟨D, d1, d5, d5.at hk⟩

/-- The address of an element of a slice that is read. -/
theorem ixS {x y : Operand} {s e : TypeId} {A : Option Addr} {m cap sz : Nat} {ls : List (List Value)} {kk : IntKind} {i : Int} (k : Nat) (hx : ev σ x = .slice A m cap) (hy : ev σ y = .int kk i) (hs : c.P.underlying s = some (.slice e))
    (hz : (c.P.info? e).map (·.size) = some sz) (hk : K[k]? = some (Sl sz A m cap ls)) (h0 : 0 ≤ i) (h1 : i < m) : Det c σ H K ⟨d, .indexAddr s x y, t, p, af, g⟩ (at_ A (i.toNat * sz)) := fun w hm => by
  obtain ⟨D, _, _, h⟩ := hm.fact hk
  obtain ⟨b, off, rfl, _⟩ := h.2.2.2.2 (by omega)
  simp [execOp, hx, hy, Instr.indexAt, asIntOf, run_und hs, h0, h1, run_size hz, add0, at_]
/-- A field of such an element. -/
theorem fadrS {x : Operand} {s : TypeId} {f o m n' cap sz : Nat} {A : Option Addr} {ls : List (List Value)} {fs : Array Field} {fd : Field} (k : Nat) (hx : ev σ x = at_ A o) (hs : c.P.underlying s = some (.struct fs)) (hf : fs[f]? = some fd)
    (hm : (c.P.info? fd.type).map (·.size) = some (m + 1)) (hk : K[k]? = some (Sl sz A n' cap ls)) (hn : 0 < n') : Det c σ H K ⟨d, .fieldAddr s x f, t, p, af, g⟩ (at_ A (o + fd.offset)) := fun w hM => by
  obtain ⟨D, _, _, h⟩ := hM.fact hk
  obtain ⟨b, off, rfl, _⟩ := h.2.2.2.2 hn
  simp [execOp, hx, Instr.fieldAt, run_und hs, hf, Instr.sureAddr, fieldPlace, run_size hm, add0, at_, Nat.add_assoc]
/-- Such an element, whole; and one of one cell. -/
theorem ldSA {x : Operand} {tx : TypeId} {A : Option Addr} {m cap sz i : Nat} {ls : List (List Value)} {l : List Value} (k : Nat) (hx : ev σ x = at_ A (i * sz)) (hk : K[k]? = some (Sl sz A m cap ls)) (hu : isAg c.P tx sz) (hl : ls[i]? = some l) :
    Det c σ H K ⟨d, .load tx x, t, p, af, g⟩ (ag l) := fun w hm => by
  obtain ⟨D, _, _, h⟩ := hm.fact hk
  have hi : i < ls.length := (List.getElem?_eq_some_iff.1 hl).1
  obtain ⟨b, off, rfl, _, hc⟩ := h.2.2.2.2 (by rw [← h.1]; omega)
  have hlen : l.length = sz := (h.2.2.2.1 l (List.mem_of_getElem? hl)).1
  simp only [execOp, hx, at_, Option.map_some, Instr.loadAt, Instr.sureAddr, Sem.run_bind, Sem.run_pure, Result.andThen_ok]
  rw [run_loadAg (l := l) (by rw [hlen]; exact hu) (fun j u hj => hc i l hl j u hj)]; rfl
theorem ldSO {x : Operand} {tx : TypeId} {A : Option Addr} {m cap i : Nat} {ls : List (List Value)} {v : Value} (k : Nat) (hx : ev σ x = at_ A (i * 1)) (hk : K[k]? = some (Sl 1 A m cap ls)) (hu : isOne c.P tx) (hl : ls[i]? = some [v]) :
    Det c σ H K ⟨d, .load tx x, t, p, af, g⟩ v := fun w hm => by
  obtain ⟨D, _, _, h⟩ := hm.fact hk
  have hi : i < ls.length := (List.getElem?_eq_some_iff.1 hl).1
  obtain ⟨b, off, rfl, _, hc⟩ := h.2.2.2.2 (by rw [← h.1]; omega)
  have := hc i [v] hl 0 v rfl
  simp only [execOp, hx, at_, Option.map_some, Instr.loadAt, Instr.sureAddr, Sem.run_bind, Sem.run_pure, Result.andThen_ok]
  rw [run_loadOne hu (by simpa using this)]; rfl
/-- A part of such an element. -/
theorem ldSP {x : Operand} {tx : TypeId} {A : Option Addr} {m cap sz i o q : Nat} {ls : List (List Value)} {l r : List Value} (k : Nat) (hx : ev σ x = at_ A (i * sz + o)) (hk : K[k]? = some (Sl sz A m cap ls)) (hu : isAg c.P tx q) (hl : ls[i]? = some l)
    (hr : (l.drop o).take q = r) (hq : r.length = q) : Det c σ H K ⟨d, .load tx x, t, p, af, g⟩ (ag r) := fun w hm => by
  obtain ⟨D, _, _, h⟩ := hm.fact hk
  have hi : i < ls.length := (List.getElem?_eq_some_iff.1 hl).1
  obtain ⟨b, off, rfl, _, hc⟩ := h.2.2.2.2 (by rw [← h.1]; omega)
  simp only [execOp, hx, at_, Option.map_some, Instr.loadAt, Instr.sureAddr, Sem.run_bind, Sem.run_pure, Result.andThen_ok]
  rw [run_loadAg (l := r) (by rw [hq]; exact hu) (fun j u hj => ?_)]; rfl
  have := hc i l hl (o + j) u (by
    rw [← hj, ← hr, List.getElem?_take, List.getElem?_drop]
    have : j < q := by have := (List.getElem?_eq_some_iff.1 hj).1; omega
    rw [if_pos this])
  rwa [show off + (i * sz + o) + j = off + i * sz + (o + j) from by omega]
theorem ldSQ {x : Operand} {tx : TypeId} {A : Option Addr} {m cap sz i o : Nat} {ls : List (List Value)} {l : List Value} {v : Value} (k : Nat) (hx : ev σ x = at_ A (i * sz + o)) (hk : K[k]? = some (Sl sz A m cap ls)) (hu : isOne c.P tx) (hl : ls[i]? = some l)
    (hv : l[o]? = some v) : Det c σ H K ⟨d, .load tx x, t, p, af, g⟩ v := fun w hm => by
  obtain ⟨D, _, _, h⟩ := hm.fact hk
  have hi : i < ls.length := (List.getElem?_eq_some_iff.1 hl).1
  obtain ⟨b, off, rfl, _, hc⟩ := h.2.2.2.2 (by rw [← h.1]; omega)
  have := hc i l hl o v hv
  simp only [execOp, hx, at_, Option.map_some, Instr.loadAt, Instr.sureAddr, Sem.run_bind, Sem.run_pure, Result.andThen_ok]
  rw [run_loadOne hu (by rwa [show off + (i * sz + o) = off + i * sz + o from by omega])]; rfl

/-! ### Rows of the call's own -/
/-- A row reads as a slice. -/
theorem row_sl {w : World} {base sz n' : Nat} {e : TypeId} {v : Value} {ls : List (List Value)} (h : w.ownsRow base e sz v n' ls.flatten) (hl : ∀ l ∈ ls, l.length = sz ∧ one l = true) (hn : ls.length = n') :
    ∃ A cap, v = .slice A n' cap ∧ ∀ D : Nat → Prop, (∀ b, v.ownBlock = some b → D b) → Sl sz A n' cap ls D w := by
  rcases h.2 with ⟨rfl, rfl⟩ | ⟨gg, cap, cur, rfl, hb, hg, hc1, hc2, hc3, hc4⟩
  · exact ⟨none, 0, rfl, fun D hD => ⟨hn, Nat.le_refl _, by simp [maxLen], hl, fun h => by omega⟩⟩
  · refine ⟨_, cap, rfl, fun D hD => ⟨hn, hc1, hc2, hl, fun _ => ⟨gg, 0, rfl, hD gg rfl, fun i l hil j u hju => ?_⟩⟩⟩
    have hcell := h.cells (g := gg) rfl (i * sz + j) u ?_
    · rw [add0] at hcell; simpa using hcell
    · have key : ∀ (ls : List (List Value)) (i : Nat), (∀ l ∈ ls, l.length = sz ∧ one l = true) → ls[i]? = some l → ls.flatten[i * sz + j]? = some u := by
        intro ls
        induction ls with
        | nil => intro i _ hi; simp at hi
        | cons x r ih =>
          intro i hls hi
          have hx := (hls x (List.mem_cons_self)).1
          cases i with
          | zero =>
            simp only [List.getElem?_cons_zero, Option.some.injEq] at hi
            subst hi
            have hj := (List.getElem?_eq_some_iff.1 hju).1
            rw [List.flatten_cons, List.getElem?_append_left (by omega)]
            simpa using hju
          | succ i =>
            simp only [List.getElem?_cons_succ] at hi
            rw [List.flatten_cons, List.getElem?_append_right (by rw [hx]; simp only [Nat.succ_mul]; omega), hx]
            rw [show (i + 1) * sz + j - sz = i * sz + j from by simp only [Nat.succ_mul]; omega]
            exact ih i (fun l hl => hls l (List.mem_cons_of_mem _ hl)) hi
      exact key ls i hl hil

/-- 'var out []T', an empty row of one's own: it costs nothing. -/
theorem M.nilRow {w : World} (hm : M c H K w) (e : TypeId) (sz : Nat) : M c (.row (.slice none 0 0) e sz 0 [] :: H) K w :=
  hm.add ⟨rfl, rfl, rfl, Nat.le_refl _, fun _ _ _ => rfl⟩ (World.ownsRow_nil w _ e sz) (.inl rfl)

/-- append of what a block of the call's own holds, onto a row of its own. -/
theorem appB {ops : Array Oper} {d : Nat} {s x : Operand} {tt e : TypeId} {l : List Oper} {z v : Value} {sz bytes n' m cp b : Nat} {xs ys : List Value} (i k : Nat)
    (ht : c.P.underlying tt = some (.slice e)) (hinfo : (c.P.info? e).map (fun i => (i.zero, i.size, i.bytes)) = some (some z, sz, bytes)) (hz : z.cells.size = sz) (hsz : 0 < sz)
    (hs : ev σ s = v) (hx : ev σ x = .slice (some ⟨b, 0, none⟩) m cp) (hi : H[i]? = some (.row v e sz n' xs)) (hk : H[k]? = some (.blk b (ob ys e))) (hm : ys.length = m * sz) (h1 : one ys = true)
    (hlen : n' + m ≤ maxLen) (hby : (n' + m) * bytes ≤ 140737488355328) (hd : Nat.blt d n = true)
    (h : ∀ A cap, TL c n ops l Q (upd σ d (.slice A (n' + m) cap)) (H.set i (.row (.slice A (n' + m) cap) e sz (n' + m) (xs ++ ys))) K) :
    TL c n ops (⟨some d, .call { callee := .builtin .append, args := #[s, x], argTypes := #[tt, tt] }, t, p, af, none⟩ :: l) Q σ H K := by
  intro w hM a hr
  obtain ⟨i0, hi0, hzz⟩ := Option.map_eq_some_iff.1 hinfo
  simp only [Prod.mk.injEq] at hzz
  obtain ⟨hz0, hz1, hz2⟩ := hzz
  have hown : w.ownsRow c.w0.heap.size e sz v n' xs := hM.get hi
  have hb := hM.blk k hk
  obtain ⟨v', w', hrun, hown', hg, _, hat⟩ := run_append_own_at (P := c.P) w c.w0.heap.size tt t e i0 z sz bytes ht hi0 hz0 hz1 hz2 hz hsz v n' xs hown ⟨b, 0, none⟩ m cp ys hm
    (fun j u hj => by rw [add0, cell_ob hb]; simpa using hj) (fun u hu => List.all_eq_true.1 h1 u hu) hlen hby hM.size
  refine wpList_run rfl ?_
  rw [hr.eval]
  simp only [execOp, resolve, invoke, builtin, Sem.run_bind, Sem.run_pure, Result.andThen_ok, List.map_toArray, List.map_cons, List.map_nil, hs, hx, hrun]
  obtain ⟨A, cap, rfl⟩ : ∃ A cap, v' = .slice A (n' + m) cap := by
    rcases hown'.2 with ⟨rfl, h0⟩ | ⟨gg, cap, cur, rfl, _⟩
    · exact ⟨none, 0, by rw [h0]⟩
    · exact ⟨_, cap, rfl⟩
  exact h A cap w' (hM.change i hi hg hown' (by rcases hat with hat | hat; exact .inl hat; exact .inr (.inr ⟨_, hat, Nat.le_refl _⟩))) _ (hr.put d _ (by simp [Nat.blt] at hd; omega))

/-- A slice literal: a block of the call's own. -/
theorem bsl {ops : Array Oper} {d : Nat} {tt e : TypeId} {m : Nat} {parts : Array (Nat × Operand)} {l : List Oper} {cs : List Value} (hd : Nat.blt d n = true)
    (hrun : ∀ w, (Instr.buildSlice tt m (parts.map fun (i, x) => (i, ev σ x))).run c.P w = .ok (.slice (some ⟨w.heap.size, 0, none⟩) m m) (w.alloc (ob cs e)))
    (h : ∀ b, TL c n ops l Q (upd σ d (.slice (some ⟨b, 0, none⟩) m m)) (.blk b (ob cs e) :: H) K) : TL c n ops (⟨some d, .buildSlice tt m parts, t, p, af, none⟩ :: l) Q σ H K := by
  intro w hm a hr
  refine wpList_run rfl ?_
  rw [hr.eval]
  simp only [execOp, Sem.run_bind, hrun, Result.andThen_ok, Sem.run_pure]
  exact h w.heap.size _ (hm.add (World.grownBy_alloc w _ none) (heap_alloc_new w _) (.inr ⟨_, rfl, Nat.le_refl _⟩)) _ (hr.put d _ (by simp [Nat.blt] at hd; omega))
end

/-- A literal of one element. -/
theorem bsl1 {P : Program} {tt e : TypeId} {sz : Nat} {z v : Value} {cs : List Value} (ht : P.underlying tt = some (.slice e)) (hz : (P.info? e).map (·.zero) = some (some z)) (hs : (P.info? e).map (·.size) = some sz) (h0 : 0 < sz) (h24 : sz ≤ 16777216)
    (hc : v.cells = cs.toArray) (hl : cs.length = sz) (w : World) : (Instr.buildSlice tt 1 #[(0, v)]).run P w = .ok (.slice (some ⟨w.heap.size, 0, none⟩) 1 1) (w.alloc (ob cs e)) := by
  have hf : Instr.fill (fun i => some (i * sz, sz)) ((Array.range (1 * sz)).map (z.cells[· % z.cells.size]!)) [(0, v)] = some cs.toArray := by
    simp only [Instr.fill, Nat.zero_mul, hc, List.size_toArray, hl, ne_eq, not_true_eq_false, decide_false, Bool.false_or]
    rw [if_neg (by simp)]
    congr 1
    rw [← Array.foldl_toList, Array.toList_zipIdx]
    have key : ∀ (xs : List Value) (k : Nat) (a : Array Value), k + xs.length ≤ a.size → (xs.zipIdx k).foldl (fun cs (c, j) => cs.setIfInBounds (0 + j) c) a = (a.toList.take k ++ xs ++ a.toList.drop (k + xs.length)).toArray := by
      intro xs
      induction xs with
      | nil => intro k a _; simp
      | cons x r ih =>
        intro k a hk
        simp only [List.length_cons] at hk
        rw [List.zipIdx_cons, List.foldl_cons, ih (k + 1) _ (by simp; omega)]
        congr 1
        apply List.ext_getElem?
        intro j
        simp only [Nat.zero_add, Array.toList_setIfInBounds, List.getElem?_append, List.length_take, List.length_set, Array.length_toList, List.length_append, List.length_cons, List.getElem?_take, List.getElem?_set, List.getElem?_drop]
        have hm1 : min (k + 1) a.size = k + 1 := by omega
        have hm2 : min k a.size = k := by omega
        rw [hm1, hm2]
        by_cases hj : j < k
        · simp [hj, show j < k + 1 by omega, show j < k + 1 + r.length by omega, show j < k + (r.length + 1) by omega, show k ≠ j by omega]
        · by_cases hj2 : j = k
          · subst hj2
            simp [show j < j + 1 + r.length by omega, show j < j + (r.length + 1) by omega, show j < a.size by omega]
          · have h1 : ¬ j < k + 1 := by omega
            simp only [hj, h1, if_false]
            by_cases hj3 : j < k + 1 + r.length
            · rw [if_pos hj3, if_pos (by omega), show j - k = (j - (k + 1)) + 1 by omega, List.getElem?_cons_succ]
            · have h5 : ¬ j < k + (r.length + 1) := by omega
              have h6 : ¬ k = k + 1 + r.length + (j - (k + 1 + r.length)) := by omega
              simp only [hj3, h5, h6, if_false]
              congr 1; omega
    have := key cs 0 ((Array.range (1 * sz)).map (z.cells[· % z.cells.size]!)) (by simp [hl])
    rw [this]
    simp [hl]
  simp only [Instr.buildSlice, Sem.run_bind, run_und ht, run_size hs, Result.andThen_ok]
  rw [if_neg (by omega), if_neg (by omega)]
  simp only [Sem.run_bind, Sem.run_pure, run_zero hz, Result.andThen_ok, hf]
  simp [newRow]
end Go.Proofs.YtmcapgjdflohfaaGreat.L

namespace Go.Proofs.YtmcapgjdflohfaaGreat.L
open Go Go.RowKit

section
variable {P : Program} {ops : Array Oper} {md : Region.Mode} {Q : Exit → Act → World → Prop} {S : World → Prop}

/-- The head, whatever order is picked: the first `f` operations that come up all lie below `m`; `S` holds behind each; then `L`. -/
def wpHd (P : Program) (md : Region.Mode) (ops : Array Oper) (Q : Exit → Act → World → Prop) (S : World → Prop) (m : Nat) (L : Array Bool → Act → World → Prop) : Nat → Array Bool → Act → World → Prop
  | 0, listed, a, w => L listed a w
  | f + 1, listed, a, w => Region.ready md ops listed ≠ [] ∧ ∀ i ∈ Region.ready md ops listed, i < m ∧ wpOp P ops Q i (fun a' w' => S w' ∧ wpHd P md ops Q S m L f (listed.setIfInBounds i true) a' w') a w

theorem wpHd_mono {S' : World → Prop} {m : Nat} {L : Array Bool → Act → World → Prop} (h : ∀ w, S' w → S w) :
    ∀ (f : Nat) (listed : Array Bool) (a : Act) (w : World), wpHd P md ops Q S' m L f listed a w → wpHd P md ops Q S m L f listed a w
  | 0, _, _, _, h' => h'
  | f + 1, _, _, _, h' => ⟨h'.1, fun i hi => ⟨(h'.2 i hi).1, wpOp_mono (fun a' w' h'' => ⟨h w' h''.1, wpHd_mono h f _ a' w' h''.2⟩) (h'.2 i hi).2⟩⟩

theorem wpAny_of_hd {m g : Nat} {L : Array Bool → Act → World → Prop} (hL : ∀ listed a w, L listed a w → wpAny P md ops Q g listed a w) :
    ∀ (f : Nat) (listed : Array Bool) (a : Act) (w : World), wpHd P md ops Q S m L f listed a w → wpAny P md ops Q (f + g) listed a w
  | 0, listed, a, w, h => by rw [Nat.zero_add]; exact hL _ _ _ h
  | f + 1, listed, a, w, h => by
    rw [show f + 1 + g = (f + g) + 1 by omega]
    exact ⟨fun h0 => absurd h0 h.1, fun i hi => wpOp_mono (fun a' w' h' => wpAny_of_hd hL f _ a' w' h'.2) (h.2 i hi).2⟩

theorem wpHd_first {m i : Nat} {oi : Oper} {v : Value} {L : Array Bool → Act → World → Prop} (hi : ops[i]? = some oi) (hsel : ∀ (j : Nat) (o : Oper) cs b, ops[j]? = some o → o.op ≠ .select cs b)
    (hQ : ∀ ch a w, Q (.panic ch) (a.put oi.dst v) w → Q (.panic ch) a w)
    (hw : m < ops.size → Region.sinkB md ops m = true ∧ Region.chainB md ops m = true) (hin : i < m)
    (hdone : ∀ listed a w, L listed a w → ∀ j ∈ Region.ready md ops listed, m ≤ j) :
    ∀ (f : Nat) (listed : Array Bool) (a : Act) (w : World), HeadInv md ops m listed →
      (∀ j oj, ops[j]? = some oj → j ≠ i → listed.getD j true = false → (∀ e ∈ oj.after, Region.binds md e = true → e.on ≠ i) → oi.apart ops oj = true) →
      i ∈ Region.ready md ops listed → YieldsIf P ops S oi v a → S w →
      wpHd P md ops Q S m L f (listed.setIfInBounds i true) (a.put oi.dst v) w → wpHd P md ops Q S m L (f + 1) listed a w := by
  intro f
  have below : ∀ (listed : Array Bool), HeadInv md ops m listed → i ∈ Region.ready md ops listed → ∀ j ∈ Region.ready md ops listed, j < m := by
    intro listed inv hr j hj
    rcases Nat.lt_or_ge j m with h | h
    · exact h
    · have hjs : j < ops.size := by
        obtain ⟨_, o, ho, _⟩ := mem_ready.1 hj
        exact (Array.getElem?_eq_some_iff.1 ho).1
      obtain ⟨h1, h2⟩ := hw (by omega)
      exact absurd hj (tail_waits h1 h2 (by omega) inv _ i rfl hin (mem_ready.1 hr).1 j h)
  induction f with
  | zero =>
    intro listed a w inv _ hr hy hS H
    refine ⟨fun h => (by rw [h] at hr; cases hr), fun j hj => ⟨below listed inv hr j hj, ?_⟩⟩
    by_cases hji : j = i
    · subst hji; exact hy.wpOp hi hS ⟨hS, H⟩
    · have := hdone _ _ _ H j (ready_mono hj hji)
      have := below listed inv hr j hj
      omega
  | succ f ih =>
    intro listed a w inv hfree hr hy hS H
    have hun := (mem_ready.1 hr).1
    refine ⟨fun h => (by rw [h] at hr; cases hr), fun j hj => ⟨below listed inv hr j hj, ?_⟩⟩
    by_cases hji : j = i
    · subst hji; exact hy.wpOp hi hS ⟨hS, H⟩
    · have h1 := (H.2 j (ready_mono hj hji)).2
      obtain ⟨hjun, oj, hoj, hall⟩ := mem_ready.1 hj
      have hnot : ∀ e ∈ oj.after, Region.binds md e = true → e.on ≠ i := fun e he hb heq => by
        have h1 := hall e he hb
        rw [heq, getD_both hun] at h1
        cases h1
      have h2 := wpOp_putIf hoj (hfree j oj hoj hji hjun hnot) (fun cs b => hsel i oi cs b hi) (fun cs b => hsel j oj cs b hoj) hQ hy h1
      have hfree' : ∀ k ok, ops[k]? = some ok → k ≠ i → (listed.setIfInBounds j true).getD k true = false →
          (∀ e ∈ ok.after, Region.binds md e = true → e.on ≠ i) → oi.apart ops ok = true := fun k ok hk hki hu hno => by
        refine hfree k ok hk hki ?_ hno
        by_cases hjk : j = k
        · subst hjk; exact hjun
        · rw [getD_set_ne true hjk] at hu; exact hu
      refine wpOp_mono (fun a' w' h3 => ⟨h3.2.1, ih (listed.setIfInBounds j true) a' w' (inv.set hj (below listed inv hr j hj)) hfree' (ready_mono hr (Ne.symm hji)) h3.1 h3.2.1 ?_⟩) h2
      rw [Array.setIfInBounds_comm _ _ hji]
      exact h3.2.2
end

/-- A panic's post doesn't look at the slots. -/
class NoP (Q : Exit → Env → World → Prop) : Prop where
  h : ∀ ch σ σ' w, Q (.panic ch) σ w → Q (.panic ch) σ' w
instance {P : Program} {fn : Func} {n : Nat} {R : Ending → World → Prop} : NoP (post P fn n R) := ⟨fun _ _ _ _ h => h⟩
instance {next : Env → World → Prop} {Q : Exit → Env → World → Prop} [q : NoP Q] : NoP (thn next Q) := ⟨fun ch σ σ' w h => q.h ch σ σ' w h⟩
instance {id : Nat} {Q : Exit → Env → World → Prop} [q : NoP Q] : NoP (inBlock id Q) := ⟨fun ch σ σ' w h => q.h ch σ σ' w h⟩

/-- What stands behind the head. -/
def LT (c : Cx) (n : Nat) (ops : Array Oper) (Q : Exit → Env → World → Prop) (m : Nat) (listed : Array Bool) (a : Act) (w : World) : Prop :=
  Region.seqB .any ops (ops.size - m) m listed = true ∧ wpList c.P ops (lift n Q) (ops.toList.drop m) a w

/-- What is asked of a region's edges, once. -/
def okDraw (ops : Array Oper) (m : Nat) : Bool := Region.noSelect ops && Nat.ble m ops.size && (Nat.ble ops.size m || (Region.sinkB .any ops m && Region.chainB .any ops m))
/-- The judgement in a head: so many operations are still to come up, these have. -/
def HD (c : Cx) (n : Nat) (ops : Array Oper) (Q : Exit → Env → World → Prop) (m f : Nat) (listed : Array Bool) (σ : Env) (H : List Res) (K : List Fact) : Prop :=
  okDraw ops m = true → HeadInv .any ops m listed → ∀ w, M c H K w → ∀ a, Rep n a σ → wpHd c.P .any ops (lift n Q) (M c H K) m (LT c n ops Q m) f listed a w

/-- What is asked when an operation is taken first. -/
def okTake (ops : Array Oper) (m i : Nat) (listed : Array Bool) : Bool := Nat.blt i m && (Region.ready .any ops listed).contains i && Region.free .any ops listed i

section
variable {c : Cx} {n : Nat} {Q : Exit → Env → World → Prop} {σ : Env} {H : List Res} {K : List Fact}

theorem draw {id m : Nat} {l : List Oper} (hm : c.P.follows .mixedOrders = true) (hok : okDraw l.toArray m = true)
    (h : HD c n l.toArray Q m m (Array.replicate l.length false) σ H K) : Tr c n (.region id l.toArray true) Q σ H K := by
  intro w hM a hr
  refine wp_region_any hm ?_
  have hok0 := hok
  simp only [okDraw, Bool.and_eq_true] at hok
  obtain ⟨⟨_, hle⟩, _⟩ := hok
  have hle : m ≤ l.toArray.size := Nat.le_of_ble_eq_true hle
  have inv0 : HeadInv .any l.toArray m (Array.replicate l.toArray.size false) :=
    ⟨by simp, fun j oj _ hl => (by rw [getD_replicate_false] at hl; cases hl), fun t _ ht => getD_in (by simpa using ht) (getD_replicate_false _ _)⟩
  have hM' : M c H K { w with drawn := w.drawn + 1 } := hM.pure ⟨rfl, rfl, rfl, Nat.le_refl _, fun _ _ _ => rfl⟩
  have H1 := h hok0 (by simpa using inv0) _ hM' a hr
  have := wpAny_of_hd (Q := lift n Q) (S := M c H K) (g := l.toArray.size - m) (L := LT c n l.toArray Q m) (fun listed a' w' hL => by
    have := wpAny_of_seq (P := c.P) (ops := l.toArray) (md := .any) (Q' := lift n Q) (l.drop m) m listed a' w' (fun j => by simp [List.getElem?_drop]) (by
      have e : (l.drop m).length = l.toArray.size - m := by simp
      rw [e]; exact hL.1) (by have := hL.2; simpa using this)
    have e : (l.drop m).length = l.toArray.size - m := by simp
    rwa [e] at this) _ _ _ _ H1
  rw [show m + (l.toArray.size - m) = l.toArray.size by omega] at this
  simpa using this

theorem M.more {w : World} {f : Fact} (h : M c H (f :: K) w) : M c H K w := by
  obtain ⟨D, d1, d2, d3, d4, d5⟩ := h.data
  exact ⟨h.os, h.tape, h.output, h.size, h.frame, h.holds, h.mine, h.nodup, h.stable.2, D, d1, d2, d3, d4, d5.2⟩

variable {ops : Array Oper} {m f : Nat} {listed : Array Bool}

theorem seqB_ready' {g k : Nat} (h : Region.seqB .any ops g k listed = true) : ∀ j ∈ Region.ready .any ops listed, k ≤ j := seqB_ready h

/-- An operation that yields a value and leaves the world is taken first. -/
theorem take [q : NoP Q] (i : Nat) {d : Nat} {op : Op} {t : TypeId} {p : String} {af : Array Edge} {v : Value} (hi : ops[i]? = some ⟨some d, op, t, p, af, none⟩) (ht : okTake ops m i listed = true) (hd : Nat.blt d n = true)
    (hv : Det c σ H K ⟨some d, op, t, p, af, none⟩ v) (h : HD c n ops Q m f (listed.setIfInBounds i true) (upd σ d v) H K) : HD c n ops Q m (f + 1) listed σ H K := by
  intro hok0 inv w hM a hr
  have hok := hok0
  simp only [okTake, Bool.and_eq_true] at ht
  simp only [okDraw, Bool.and_eq_true, Bool.or_eq_true] at hok
  have him : i < m := by have := ht.1.1; simp [Nat.blt] at this; omega
  have hri : i ∈ Region.ready .any ops listed := by simpa using ht.1.2
  refine wpHd_first hi (Region.noSelect_spec hok.1.1) ?_ (fun hlt => by
      rcases hok.2 with h' | h'
      · have := Nat.le_of_ble_eq_true h'; omega
      · exact h') him (fun listed' a' w' hL => seqB_ready hL.1) f listed a w inv (Region.free_spec hi ht.2) hri (.inl ⟨by simp [Region.wanted], fun w' hw' => by rw [hr.eval]; exact hv w' hw'⟩) hM
    (h hok0 (inv.set hri him) w hM _ (hr.put d v (by simp [Nat.blt] at hd; omega)))
  rintro ch a' w' ⟨σ', hr', hq⟩
  refine ⟨fun i => a'.tmps.getD i undef, ⟨hr'.defers, by have := hr'.size; simpa [Act.put] using this, fun _ => rfl⟩, q.h ch σ' _ w' hq⟩

/-- The only one that may come up: a call. -/
theorem only [NoP Q] (i : Nat) {d : Nat} {fid : FuncId} {args : Array Operand} {ats : Array TypeId} {vs : List Value} {t : TypeId} {p : String} {af : Array Edge} {v : Value} (hi : ops[i]? = some ⟨some d, .call { callee := .value (.func fid), args := args, argTypes := ats }, t, p, af, none⟩)
    (hr1 : Region.ready .any ops listed = [i]) (him : Nat.blt i m = true) (hf : Fn c.P fid) (ha : args.toList.map (ev σ) = vs) (hd : Nat.blt d n = true)
    (spec : ∀ w, M c H K w → Calls c.P fid vs.toArray w fun e w' => e = .returned v ∧ Below w.heap.size w w') (h : HD c n ops Q m f (listed.setIfInBounds i true) (upd σ d v) H K) : HD c n ops Q m (f + 1) listed σ H K := by
  intro hok inv w hM a hr
  have him' : i < m := by simp [Nat.blt] at him; omega
  refine ⟨by rw [hr1]; simp, fun j hj => ?_⟩
  have hjr := hj
  rw [hr1] at hj
  have hji : j = i := by simpa using hj
  subst hji
  refine ⟨him', ?_⟩
  unfold wpOp
  simp only [hi, Region.wanted, if_true]
  refine .inl ?_
  unfold Oper.wp
  rw [hr.eval, hf.run, map_args ha]
  refine (spec w hM).mono ?_
  rintro e w' ⟨rfl, hbel⟩
  have hM' := hM.pure (grown_below hbel)
  exact ⟨hM', h hok (inv.set hjr him') w' hM' _ (hr.put d _ (by simp [Nat.blt] at hd; omega))⟩

/-- One that its guard lets run, and one that it does not. -/
theorem takeG [q : NoP Q] (i : Nat) {d j s : Nat} {b : Bool} {op : Op} {t : TypeId} {p : String} {af : Array Edge} {v : Value} (hi : ops[i]? = some ⟨some d, op, t, p, af, some (j, b)⟩) (hj : (ops[j]?).bind (·.dst) = some s) (hs : σ s = .bool b)
    (ht : okTake ops m i listed = true) (hd : Nat.blt d n = true) (hv : Det c σ H K ⟨some d, op, t, p, af, some (j, b)⟩ v) (h : HD c n ops Q m f (listed.setIfInBounds i true) (upd σ d v) H K) : HD c n ops Q m (f + 1) listed σ H K := by
  intro hok0 inv w hM a hr
  have hok := hok0
  simp only [okTake, Bool.and_eq_true] at ht
  simp only [okDraw, Bool.and_eq_true, Bool.or_eq_true] at hok
  have him : i < m := by have := ht.1.1; simp [Nat.blt] at this; omega
  have hri : i ∈ Region.ready .any ops listed := by simpa using ht.1.2
  refine wpHd_first hi (Region.noSelect_spec hok.1.1) ?_ (fun hlt => by
      rcases hok.2 with h' | h'
      · have := Nat.le_of_ble_eq_true h'; omega
      · exact h') him (fun listed' a' w' hL => seqB_ready hL.1) f listed a w inv (Region.free_spec hi ht.2) hri (.inl ⟨?_, fun w' hw' => by rw [hr.eval]; exact hv w' hw'⟩) hM
    (h hok0 (inv.set hri him) w hM _ (hr.put d v (by simp [Nat.blt] at hd; omega)))
  · rintro ch a' w' ⟨σ', hr', hq⟩
    exact ⟨fun i => a'.tmps.getD i undef, ⟨hr'.defers, by have := hr'.size; simpa [Act.put] using this, fun _ => rfl⟩, q.h ch σ' _ w' hq⟩
  · have hv := hr.val s
    rw [hs] at hv
    have hlt : s < a.tmps.size := by
      rcases Nat.lt_or_ge s a.tmps.size with h' | h'
      · exact h'
      · simp [Array.getElem?_eq_none h', undef] at hv
    have : a.tmps[s]? = some (.bool b) := by
      rw [Array.getElem?_eq_getElem hlt]
      simpa [hlt] using hv
    simp [Region.wanted, yielded, hj, this]

theorem takeU [q : NoP Q] (i : Nat) {d j s : Nat} {b : Bool} {op : Op} {t : TypeId} {p : String} {af : Array Edge} (hi : ops[i]? = some ⟨some d, op, t, p, af, some (j, b)⟩) (hj : (ops[j]?).bind (·.dst) = some s) (hs : σ s = .bool (!b) ∨ σ s = undef)
    (ht : okTake ops m i listed = true) (hd : Nat.blt d n = true) (h : HD c n ops Q m f (listed.setIfInBounds i true) (upd σ d undef) H K) : HD c n ops Q m (f + 1) listed σ H K := by
  intro hok0 inv w hM a hr
  have hok := hok0
  simp only [okTake, Bool.and_eq_true] at ht
  simp only [okDraw, Bool.and_eq_true, Bool.or_eq_true] at hok
  have him : i < m := by have := ht.1.1; simp [Nat.blt] at this; omega
  have hri : i ∈ Region.ready .any ops listed := by simpa using ht.1.2
  refine wpHd_first hi (Region.noSelect_spec hok.1.1) ?_ (fun hlt => by
      rcases hok.2 with h' | h'
      · have := Nat.le_of_ble_eq_true h'; omega
      · exact h') him (fun listed' a' w' hL => seqB_ready hL.1) f listed a w inv (Region.free_spec hi ht.2) hri (.inr ⟨?_, rfl⟩) hM
    (h hok0 (inv.set hri him) w hM _ (hr.put d undef (by simp [Nat.blt] at hd; omega)))
  · rintro ch a' w' ⟨σ', hr', hq⟩
    exact ⟨fun i => a'.tmps.getD i undef, ⟨hr'.defers, by have := hr'.size; simpa [Act.put] using this, fun _ => rfl⟩, q.h ch σ' _ w' hq⟩
  · have hv := hr.val s
    rcases hs with hs | hs
    · rw [hs] at hv
      have hlt : s < a.tmps.size := by
        rcases Nat.lt_or_ge s a.tmps.size with h' | h'
        · exact h'
        · simp [Array.getElem?_eq_none h', undef] at hv
      have : a.tmps[s]? = some (.bool (!b)) := by
        rw [Array.getElem?_eq_getElem hlt]
        simpa [hlt] using hv
      simp [Region.wanted, yielded, hj, this]
    · rw [hs] at hv
      simp only [Region.wanted, yielded, hj, Option.bind_some]
      cases hx : a.tmps[s]? with
      | none => simp
      | some x =>
        have : x = undef := by simpa [hx] using hv
        subst this
        simp [undef]

/-- The only one that may come up, an operation that makes memory: what is held and known grows. -/
theorem onlyE [NoP Q] {β : Type} (V : β → Value) (H' : β → List Res) (K' : β → List Fact) (i : Nat) {d : Nat} {op : Op} {t : TypeId} {p : String} {af : Array Edge} (hi : ops[i]? = some ⟨some d, op, t, p, af, none⟩)
    (hr1 : Region.ready .any ops listed = [i]) (him : Nat.blt i m = true) (hd : Nat.blt d n = true)
    (he : ∀ w, M c H K w → ∃ b w', (execOp (ev σ) ⟨some d, op, t, p, af, none⟩).run c.P w = .ok (.value (V b)) w' ∧ M c (H' b) (K' b) w')
    (hw : ∀ b w, M c (H' b) (K' b) w → M c H K w)
    (h : ∀ b, HD c n ops Q m f (listed.setIfInBounds i true) (upd σ d (V b)) (H' b) (K' b)) : HD c n ops Q m (f + 1) listed σ H K := by
  intro hok inv w hM a hr
  have him' : i < m := by simp [Nat.blt] at him; omega
  refine ⟨by rw [hr1]; simp, fun j hj => ?_⟩
  have hjr := hj
  rw [hr1] at hj
  have hji : j = i := by simpa using hj
  subst hji
  refine ⟨him', ?_⟩
  unfold wpOp
  simp only [hi, Region.wanted, if_true]
  refine .inl ?_
  unfold Oper.wp
  obtain ⟨b, w', hrun, hM'⟩ := he w hM
  rw [hr.eval, hrun]
  exact ⟨hw b w' hM', wpHd_mono (hw b) f _ _ _ (h b hok (inv.set hjr him') w' hM' _ (hr.put d _ (by simp [Nat.blt] at hd; omega)))⟩

/-- The only one that may come up, a call that makes memory. -/
theorem onlyC [NoP Q] {β : Type} (V : β → Value) (H' : β → List Res) (K' : β → List Fact) (i : Nat) {d : Nat} {fid : FuncId} {args : Array Operand} {ats : Array TypeId} {vs : List Value} {t : TypeId} {p : String} {af : Array Edge}
    (hi : ops[i]? = some ⟨some d, .call { callee := .value (.func fid), args := args, argTypes := ats }, t, p, af, none⟩)
    (hr1 : Region.ready .any ops listed = [i]) (him : Nat.blt i m = true) (hf : Fn c.P fid) (ha : args.toList.map (ev σ) = vs) (hd : Nat.blt d n = true)
    (spec : ∀ w, M c H K w → Calls c.P fid vs.toArray w fun e w' => ∃ b, e = .returned (V b) ∧ M c (H' b) (K' b) w')
    (hw : ∀ b w, M c (H' b) (K' b) w → M c H K w)
    (h : ∀ b, HD c n ops Q m f (listed.setIfInBounds i true) (upd σ d (V b)) (H' b) (K' b)) : HD c n ops Q m (f + 1) listed σ H K := by
  intro hok inv w hM a hr
  have him' : i < m := by simp [Nat.blt] at him; omega
  refine ⟨by rw [hr1]; simp, fun j hj => ?_⟩
  have hjr := hj
  rw [hr1] at hj
  have hji : j = i := by simpa using hj
  subst hji
  refine ⟨him', ?_⟩
  unfold wpOp
  simp only [hi, Region.wanted, if_true]
  refine .inl ?_
  unfold Oper.wp
  rw [hr.eval, hf.run, map_args ha]
  refine (spec w hM).mono ?_
  rintro e w' ⟨b, rfl, hM'⟩
  exact ⟨hw b w' hM', wpHd_mono (hw b) f _ _ _ (h b hok (inv.set hjr him') w' hM' _ (hr.put d _ (by simp [Nat.blt] at hd; omega)))⟩

/-- The head is done. -/
theorem tail (hs : Region.seqB .any ops (ops.size - m) m listed = true) {l : List Oper} (hl : ops.toList.drop m = l) (h : TL c n ops l Q σ H K) : HD c n ops Q m 0 listed σ H K := by
  intro _ _ w hM a hr
  exact ⟨hs, by rw [hl]; exact h w hM a hr⟩
end
end Go.Proofs.YtmcapgjdflohfaaGreat.L

namespace Go.Proofs.YtmcapgjdflohfaaGreat.L
open Go Go.RowKit
set_option linter.unusedVariables false

noncomputable abbrev PP : Program := Tryz.prog
/-- The fields that a fact on a type names. -/
abbrev fsOf {P : Program} {t : TypeId} {fs : Array Field} (_ : P.underlying t = some (.struct fs)) : Array Field := fs
theorem mix : PP.follows .mixedOrders = true := by kernel_rfl
abbrev T_int64 : TypeId := 2
theorem u_int64 : PP.underlying 2 = some (.int .i64) := Tryz.underlying2
theorem o_int64 : isOne PP 2 := ⟨_, Tryz.underlying2, rfl⟩
theorem s_int64 : (PP.info? 2).map (·.size) = some 1 := by kernel_rfl
theorem z_int64 : (PP.info? 2).map (·.zero) = some (some (.int .i64 0)) := by kernel_rfl
theorem i_int64 : (PP.info? 2).map (fun i => (i.zero, i.size, i.bytes)) = some (some (.int .i64 0), 1, 8) := by kernel_rfl
abbrev T_int : TypeId := 3
theorem u_int : PP.underlying 3 = some (.int .i64) := Tryz.underlying3
theorem o_int : isOne PP 3 := ⟨_, Tryz.underlying3, rfl⟩
theorem s_int : (PP.info? 3).map (·.size) = some 1 := by kernel_rfl
theorem z_int : (PP.info? 3).map (·.zero) = some (some (.int .i64 0)) := by kernel_rfl
theorem i_int : (PP.info? 3).map (fun i => (i.zero, i.size, i.bytes)) = some (some (.int .i64 0), 1, 8) := by kernel_rfl
abbrev T_bool : TypeId := 4
theorem u_bool : PP.underlying 4 = some (.bool) := Tryz.underlying4
theorem o_bool : isOne PP 4 := ⟨_, Tryz.underlying4, rfl⟩
theorem s_bool : (PP.info? 4).map (·.size) = some 1 := by kernel_rfl
theorem z_bool : (PP.info? 4).map (·.zero) = some (some (.bool false)) := by kernel_rfl
theorem i_bool : (PP.info? 4).map (fun i => (i.zero, i.size, i.bytes)) = some (some (.bool false), 1, 1) := by kernel_rfl
abbrev T_uint8 : TypeId := 5
theorem u_uint8 : PP.underlying 5 = some (.int .u8) := Tryz.underlying5
theorem o_uint8 : isOne PP 5 := ⟨_, Tryz.underlying5, rfl⟩
theorem s_uint8 : (PP.info? 5).map (·.size) = some 1 := by kernel_rfl
theorem z_uint8 : (PP.info? 5).map (·.zero) = some (some (.int .u8 0)) := by kernel_rfl
theorem i_uint8 : (PP.info? 5).map (fun i => (i.zero, i.size, i.bytes)) = some (some (.int .u8 0), 1, 1) := by kernel_rfl
abbrev T_internal_abi_BoundsErrorCode : TypeId := 6
theorem u_internal_abi_BoundsErrorCode : PP.underlying 6 = some (.int .u8) := Tryz.underlying6
theorem o_internal_abi_BoundsErrorCode : isOne PP 6 := ⟨_, Tryz.underlying6, rfl⟩
theorem s_internal_abi_BoundsErrorCode : (PP.info? 6).map (·.size) = some 1 := by kernel_rfl
theorem z_internal_abi_BoundsErrorCode : (PP.info? 6).map (·.zero) = some (some (.int .u8 0)) := by kernel_rfl
theorem i_internal_abi_BoundsErrorCode : (PP.info? 6).map (fun i => (i.zero, i.size, i.bytes)) = some (some (.int .u8 0), 1, 1) := by kernel_rfl
abbrev T_runtime_boundsError : TypeId := 8
noncomputable abbrev F_runtime_boundsError : Array Field := fsOf Tryz.underlying8
theorem u_runtime_boundsError : PP.underlying 8 = some (.struct F_runtime_boundsError) := Tryz.underlying8
theorem g_runtime_boundsError : isAg PP 8 4 := ⟨_, Tryz.underlying8, rfl, by kernel_rfl⟩
theorem s_runtime_boundsError : (PP.info? 8).map (·.size) = some 4 := by kernel_rfl
theorem z_runtime_boundsError : (PP.info? 8).map (·.zero) = some (some (ag ([.int .i64 0] ++ ([.int .i64 0] ++ ([.bool false] ++ ([.int .u8 0])))))) := by kernel_rfl
theorem i_runtime_boundsError : (PP.info? 8).map (fun i => (i.zero, i.size, i.bytes)) = some (some (ag ([.int .i64 0] ++ ([.int .i64 0] ++ ([.bool false] ++ ([.int .u8 0]))))), 4, 24) := by kernel_rfl
abbrev T_string : TypeId := 9
theorem u_string : PP.underlying 9 = some (.string) := Tryz.underlying9
theorem o_string : isOne PP 9 := ⟨_, Tryz.underlying9, rfl⟩
theorem s_string : (PP.info? 9).map (·.size) = some 1 := by kernel_rfl
theorem z_string : (PP.info? 9).map (·.zero) = some (some (.string ⟨#[]⟩)) := by kernel_rfl
theorem i_string : (PP.info? 9).map (fun i => (i.zero, i.size, i.bytes)) = some (some (.string ⟨#[]⟩), 1, 16) := by kernel_rfl
abbrev T_runtime_errorString : TypeId := 10
theorem u_runtime_errorString : PP.underlying 10 = some (.string) := Tryz.underlying10
theorem o_runtime_errorString : isOne PP 10 := ⟨_, Tryz.underlying10, rfl⟩
theorem s_runtime_errorString : (PP.info? 10).map (·.size) = some 1 := by kernel_rfl
theorem z_runtime_errorString : (PP.info? 10).map (·.zero) = some (some (.string ⟨#[]⟩)) := by kernel_rfl
theorem i_runtime_errorString : (PP.info? 10).map (fun i => (i.zero, i.size, i.bytes)) = some (some (.string ⟨#[]⟩), 1, 16) := by kernel_rfl
abbrev T_runtime_plainError : TypeId := 11
theorem u_runtime_plainError : PP.underlying 11 = some (.string) := Tryz.underlying11
theorem o_runtime_plainError : isOne PP 11 := ⟨_, Tryz.underlying11, rfl⟩
theorem s_runtime_plainError : (PP.info? 11).map (·.size) = some 1 := by kernel_rfl
theorem z_runtime_plainError : (PP.info? 11).map (·.zero) = some (some (.string ⟨#[]⟩)) := by kernel_rfl
theorem i_runtime_plainError : (PP.info? 11).map (fun i => (i.zero, i.size, i.bytes)) = some (some (.string ⟨#[]⟩), 1, 16) := by kernel_rfl
abbrev T_uintptr : TypeId := 12
theorem u_uintptr : PP.underlying 12 = some (.int .u64) := Tryz.underlying12
theorem o_uintptr : isOne PP 12 := ⟨_, Tryz.underlying12, rfl⟩
theorem s_uintptr : (PP.info? 12).map (·.size) = some 1 := by kernel_rfl
theorem z_uintptr : (PP.info? 12).map (·.zero) = some (some (.int .u64 0)) := by kernel_rfl
theorem i_uintptr : (PP.info? 12).map (fun i => (i.zero, i.size, i.bytes)) = some (some (.int .u64 0), 1, 8) := by kernel_rfl
abbrev T_runtime_errorAddressString : TypeId := 14
noncomputable abbrev F_runtime_errorAddressString : Array Field := fsOf Tryz.underlying14
theorem u_runtime_errorAddressString : PP.underlying 14 = some (.struct F_runtime_errorAddressString) := Tryz.underlying14
theorem g_runtime_errorAddressString : isAg PP 14 2 := ⟨_, Tryz.underlying14, rfl, by kernel_rfl⟩
theorem s_runtime_errorAddressString : (PP.info? 14).map (·.size) = some 2 := by kernel_rfl
theorem z_runtime_errorAddressString : (PP.info? 14).map (·.zero) = some (some (ag ([.string ⟨#[]⟩] ++ ([.int .u64 0])))) := by kernel_rfl
theorem i_runtime_errorAddressString : (PP.info? 14).map (fun i => (i.zero, i.size, i.bytes)) = some (some (ag ([.string ⟨#[]⟩] ++ ([.int .u64 0]))), 2, 24) := by kernel_rfl
abbrev T_p_runtime_TypeAssertionError : TypeId := 15
theorem u_p_runtime_TypeAssertionError : PP.underlying 15 = some (.pointer 243) := Tryz.underlying15
theorem o_p_runtime_TypeAssertionError : isOne PP 15 := ⟨_, Tryz.underlying15, rfl⟩
theorem s_p_runtime_TypeAssertionError : (PP.info? 15).map (·.size) = some 1 := by kernel_rfl
theorem z_p_runtime_TypeAssertionError : (PP.info? 15).map (·.zero) = some (some (.pointer none)) := by kernel_rfl
theorem i_p_runtime_TypeAssertionError : (PP.info? 15).map (fun i => (i.zero, i.size, i.bytes)) = some (some (.pointer none), 1, 8) := by kernel_rfl
abbrev T_p_runtime_PanicNilError : TypeId := 16
theorem u_p_runtime_PanicNilError : PP.underlying 16 = some (.pointer 246) := Tryz.underlying16
theorem o_p_runtime_PanicNilError : isOne PP 16 := ⟨_, Tryz.underlying16, rfl⟩
theorem s_p_runtime_PanicNilError : (PP.info? 16).map (·.size) = some 1 := by kernel_rfl
theorem z_p_runtime_PanicNilError : (PP.info? 16).map (·.zero) = some (some (.pointer none)) := by kernel_rfl
theorem i_p_runtime_PanicNilError : (PP.info? 16).map (fun i => (i.zero, i.size, i.bytes)) = some (some (.pointer none), 1, 8) := by kernel_rfl
abbrev T_p_internal_abi_Type : TypeId := 17
theorem u_p_internal_abi_Type : PP.underlying 17 = some (.pointer 253) := Tryz.underlying17
theorem o_p_internal_abi_Type : isOne PP 17 := ⟨_, Tryz.underlying17, rfl⟩
theorem s_p_internal_abi_Type : (PP.info? 17).map (·.size) = some 1 := by kernel_rfl
theorem z_p_internal_abi_Type : (PP.info? 17).map (·.zero) = some (some (.pointer none)) := by kernel_rfl
theorem i_p_internal_abi_Type : (PP.info? 17).map (fun i => (i.zero, i.size, i.bytes)) = some (some (.pointer none), 1, 8) := by kernel_rfl
abbrev T_internal_runtime_maps_unhashableTypeError : TypeId := 19
noncomputable abbrev F_internal_runtime_maps_unhashableTypeError : Array Field := fsOf Tryz.underlying19
theorem u_internal_runtime_maps_unhashableTypeError : PP.underlying 19 = some (.struct F_internal_runtime_maps_unhashableTypeError) := Tryz.underlying19
theorem g_internal_runtime_maps_unhashableTypeError : isAg PP 19 1 := ⟨_, Tryz.underlying19, rfl, by kernel_rfl⟩
theorem s_internal_runtime_maps_unhashableTypeError : (PP.info? 19).map (·.size) = some 1 := by kernel_rfl
theorem z_internal_runtime_maps_unhashableTypeError : (PP.info? 19).map (·.zero) = some (some (ag ([.pointer none]))) := by kernel_rfl
theorem i_internal_runtime_maps_unhashableTypeError : (PP.info? 19).map (fun i => (i.zero, i.size, i.bytes)) = some (some (ag ([.pointer none])), 1, 8) := by kernel_rfl
abbrev T_int32 : TypeId := 21
theorem u_int32 : PP.underlying 21 = some (.int .i32) := Tryz.underlying21
theorem o_int32 : isOne PP 21 := ⟨_, Tryz.underlying21, rfl⟩
theorem s_int32 : (PP.info? 21).map (·.size) = some 1 := by kernel_rfl
theorem z_int32 : (PP.info? 21).map (·.zero) = some (some (.int .i32 0)) := by kernel_rfl
theorem i_int32 : (PP.info? 21).map (fun i => (i.zero, i.size, i.bytes)) = some (some (.int .i32 0), 1, 4) := by kernel_rfl
abbrev T_uint32 : TypeId := 22
theorem u_uint32 : PP.underlying 22 = some (.int .u32) := Tryz.underlying22
theorem o_uint32 : isOne PP 22 := ⟨_, Tryz.underlying22, rfl⟩
theorem s_uint32 : (PP.info? 22).map (·.size) = some 1 := by kernel_rfl
theorem z_uint32 : (PP.info? 22).map (·.zero) = some (some (.int .u32 0)) := by kernel_rfl
theorem i_uint32 : (PP.info? 22).map (fun i => (i.zero, i.size, i.bytes)) = some (some (.int .u32 0), 1, 4) := by kernel_rfl
abbrev T_a32_uint8 : TypeId := 23
theorem u_a32_uint8 : PP.underlying 23 = some (.array 32 5) := Tryz.underlying23
theorem g_a32_uint8 : isAg PP 23 32 := ⟨_, Tryz.underlying23, rfl, by kernel_rfl⟩
theorem s_a32_uint8 : (PP.info? 23).map (·.size) = some 32 := by kernel_rfl
theorem z_a32_uint8 : (PP.info? 23).map (·.zero) = some (some (ag (List.replicate 32 (.int .u8 0)))) := by kernel_rfl
theorem i_a32_uint8 : (PP.info? 23).map (fun i => (i.zero, i.size, i.bytes)) = some (some (ag (List.replicate 32 (.int .u8 0))), 32, 32) := by kernel_rfl
abbrev T_api_Hash : TypeId := 24
theorem u_api_Hash : PP.underlying 24 = some (.array 32 5) := Tryz.underlying24
theorem g_api_Hash : isAg PP 24 32 := ⟨_, Tryz.underlying24, rfl, by kernel_rfl⟩
theorem s_api_Hash : (PP.info? 24).map (·.size) = some 32 := by kernel_rfl
theorem z_api_Hash : (PP.info? 24).map (·.zero) = some (some (ag (List.replicate 32 (.int .u8 0)))) := by kernel_rfl
theorem i_api_Hash : (PP.info? 24).map (fun i => (i.zero, i.size, i.bytes)) = some (some (ag (List.replicate 32 (.int .u8 0))), 32, 32) := by kernel_rfl
abbrev T_uint64 : TypeId := 25
theorem u_uint64 : PP.underlying 25 = some (.int .u64) := Tryz.underlying25
theorem o_uint64 : isOne PP 25 := ⟨_, Tryz.underlying25, rfl⟩
theorem s_uint64 : (PP.info? 25).map (·.size) = some 1 := by kernel_rfl
theorem z_uint64 : (PP.info? 25).map (·.zero) = some (some (.int .u64 0)) := by kernel_rfl
theorem i_uint64 : (PP.info? 25).map (fun i => (i.zero, i.size, i.bytes)) = some (some (.int .u64 0), 1, 8) := by kernel_rfl
abbrev T_api_Header : TypeId := 27
noncomputable abbrev F_api_Header : Array Field := fsOf Tryz.underlying27
theorem u_api_Header : PP.underlying 27 = some (.struct F_api_Header) := Tryz.underlying27
theorem g_api_Header : isAg PP 27 66 := ⟨_, Tryz.underlying27, rfl, by kernel_rfl⟩
theorem s_api_Header : (PP.info? 27).map (·.size) = some 66 := by kernel_rfl
theorem z_api_Header : (PP.info? 27).map (·.zero) = some (some (ag ([.int .u32 0] ++ ((List.replicate 32 (.int .u8 0)) ++ ((List.replicate 32 (.int .u8 0)) ++ ([.int .u64 0])))))) := by kernel_rfl
theorem i_api_Header : (PP.info? 27).map (fun i => (i.zero, i.size, i.bytes)) = some (some (ag ([.int .u32 0] ++ ((List.replicate 32 (.int .u8 0)) ++ ((List.replicate 32 (.int .u8 0)) ++ ([.int .u64 0]))))), 66, 80) := by kernel_rfl
abbrev T_api_Config : TypeId := 29
noncomputable abbrev F_api_Config : Array Field := fsOf Tryz.underlying29
theorem u_api_Config : PP.underlying 29 = some (.struct F_api_Config) := Tryz.underlying29
theorem g_api_Config : isAg PP 29 104 := ⟨_, Tryz.underlying29, rfl, by kernel_rfl⟩
theorem s_api_Config : (PP.info? 29).map (·.size) = some 104 := by kernel_rfl
theorem z_api_Config : (PP.info? 29).map (·.zero) = some (some (ag (([.int .u32 0] ++ ((List.replicate 32 (.int .u8 0)) ++ ((List.replicate 32 (.int .u8 0)) ++ ([.int .u64 0])))) ++ ((List.replicate 32 (.int .u8 0)) ++ ([.int .i64 0] ++ ([.int .i64 0] ++ ([.int .i64 0] ++ ([.int .i64 0] ++ ([.int .i64 0] ++ ([.int .i64 0])))))))))) := by kernel_rfl
theorem i_api_Config : (PP.info? 29).map (fun i => (i.zero, i.size, i.bytes)) = some (some (ag (([.int .u32 0] ++ ((List.replicate 32 (.int .u8 0)) ++ ((List.replicate 32 (.int .u8 0)) ++ ([.int .u64 0])))) ++ ((List.replicate 32 (.int .u8 0)) ++ ([.int .i64 0] ++ ([.int .i64 0] ++ ([.int .i64 0] ++ ([.int .i64 0] ++ ([.int .i64 0] ++ ([.int .i64 0]))))))))), 104, 160) := by kernel_rfl
abbrev T_sl_api_Block : TypeId := 30
theorem u_sl_api_Block : PP.underlying 30 = some (.slice 71) := Tryz.underlying30
theorem o_sl_api_Block : isOne PP 30 := ⟨_, Tryz.underlying30, rfl⟩
theorem s_sl_api_Block : (PP.info? 30).map (·.size) = some 1 := by kernel_rfl
theorem z_sl_api_Block : (PP.info? 30).map (·.zero) = some (some (.slice none 0 0)) := by kernel_rfl
theorem i_sl_api_Block : (PP.info? 30).map (fun i => (i.zero, i.size, i.bytes)) = some (some (.slice none 0 0), 1, 24) := by kernel_rfl
abbrev T_api_Errno : TypeId := 33
theorem u_api_Errno : PP.underlying 33 = some (.int .i64) := Tryz.underlying33
theorem o_api_Errno : isOne PP 33 := ⟨_, Tryz.underlying33, rfl⟩
theorem s_api_Errno : (PP.info? 33).map (·.size) = some 1 := by kernel_rfl
theorem z_api_Errno : (PP.info? 33).map (·.zero) = some (some (.int .i64 0)) := by kernel_rfl
theorem i_api_Errno : (PP.info? 33).map (fun i => (i.zero, i.size, i.bytes)) = some (some (.int .i64 0), 1, 8) := by kernel_rfl
abbrev T_api_Fault : TypeId := 35
noncomputable abbrev F_api_Fault : Array Field := fsOf Tryz.underlying35
theorem u_api_Fault : PP.underlying 35 = some (.struct F_api_Fault) := Tryz.underlying35
theorem g_api_Fault : isAg PP 35 2 := ⟨_, Tryz.underlying35, rfl, by kernel_rfl⟩
theorem s_api_Fault : (PP.info? 35).map (·.size) = some 2 := by kernel_rfl
theorem z_api_Fault : (PP.info? 35).map (·.zero) = some (some (ag ([.int .i64 0] ++ ([.int .i64 0])))) := by kernel_rfl
theorem i_api_Fault : (PP.info? 35).map (fun i => (i.zero, i.size, i.bytes)) = some (some (ag ([.int .i64 0] ++ ([.int .i64 0]))), 2, 16) := by kernel_rfl
abbrev T_sl_int : TypeId := 38
theorem u_sl_int : PP.underlying 38 = some (.slice 3) := Tryz.underlying38
theorem o_sl_int : isOne PP 38 := ⟨_, Tryz.underlying38, rfl⟩
theorem s_sl_int : (PP.info? 38).map (·.size) = some 1 := by kernel_rfl
theorem z_sl_int : (PP.info? 38).map (·.zero) = some (some (.slice none 0 0)) := by kernel_rfl
theorem i_sl_int : (PP.info? 38).map (fun i => (i.zero, i.size, i.bytes)) = some (some (.slice none 0 0), 1, 24) := by kernel_rfl
abbrev T_sl_api_Step : TypeId := 44
theorem u_sl_api_Step : PP.underlying 44 = some (.slice 68) := Tryz.underlying44
theorem o_sl_api_Step : isOne PP 44 := ⟨_, Tryz.underlying44, rfl⟩
theorem s_sl_api_Step : (PP.info? 44).map (·.size) = some 1 := by kernel_rfl
theorem z_sl_api_Step : (PP.info? 44).map (·.zero) = some (some (.slice none 0 0)) := by kernel_rfl
theorem i_sl_api_Step : (PP.info? 44).map (fun i => (i.zero, i.size, i.bytes)) = some (some (.slice none 0 0), 1, 24) := by kernel_rfl
abbrev T_a3_int : TypeId := 53
theorem u_a3_int : PP.underlying 53 = some (.array 3 3) := Tryz.underlying53
theorem g_a3_int : isAg PP 53 3 := ⟨_, Tryz.underlying53, rfl, by kernel_rfl⟩
theorem s_a3_int : (PP.info? 53).map (·.size) = some 3 := by kernel_rfl
theorem z_a3_int : (PP.info? 53).map (·.zero) = some (some (ag (List.replicate 3 (.int .i64 0)))) := by kernel_rfl
theorem i_a3_int : (PP.info? 53).map (fun i => (i.zero, i.size, i.bytes)) = some (some (ag (List.replicate 3 (.int .i64 0))), 3, 24) := by kernel_rfl
abbrev T_a2_int : TypeId := 56
theorem u_a2_int : PP.underlying 56 = some (.array 2 3) := Tryz.underlying56
theorem g_a2_int : isAg PP 56 2 := ⟨_, Tryz.underlying56, rfl, by kernel_rfl⟩
theorem s_a2_int : (PP.info? 56).map (·.size) = some 2 := by kernel_rfl
theorem z_a2_int : (PP.info? 56).map (·.zero) = some (some (ag (List.replicate 2 (.int .i64 0)))) := by kernel_rfl
theorem i_a2_int : (PP.info? 56).map (fun i => (i.zero, i.size, i.bytes)) = some (some (ag (List.replicate 2 (.int .i64 0))), 2, 16) := by kernel_rfl
abbrev T_sl_api_Hash : TypeId := 57
theorem u_sl_api_Hash : PP.underlying 57 = some (.slice 24) := Tryz.underlying57
theorem o_sl_api_Hash : isOne PP 57 := ⟨_, Tryz.underlying57, rfl⟩
theorem s_sl_api_Hash : (PP.info? 57).map (·.size) = some 1 := by kernel_rfl
theorem z_sl_api_Hash : (PP.info? 57).map (·.zero) = some (some (.slice none 0 0)) := by kernel_rfl
theorem i_sl_api_Hash : (PP.info? 57).map (fun i => (i.zero, i.size, i.bytes)) = some (some (.slice none 0 0), 1, 24) := by kernel_rfl
abbrev T_api_Opening : TypeId := 59
noncomputable abbrev F_api_Opening : Array Field := fsOf Tryz.underlying59
theorem u_api_Opening : PP.underlying 59 = some (.struct F_api_Opening) := Tryz.underlying59
theorem g_api_Opening : isAg PP 59 3 := ⟨_, Tryz.underlying59, rfl, by kernel_rfl⟩
theorem s_api_Opening : (PP.info? 59).map (·.size) = some 3 := by kernel_rfl
theorem z_api_Opening : (PP.info? 59).map (·.zero) = some (some (ag ([.int .i64 0] ++ ([.int .i64 0] ++ ([.slice none 0 0]))))) := by kernel_rfl
theorem i_api_Opening : (PP.info? 59).map (fun i => (i.zero, i.size, i.bytes)) = some (some (ag ([.int .i64 0] ++ ([.int .i64 0] ++ ([.slice none 0 0])))), 3, 40) := by kernel_rfl
abbrev T_api_Infix : TypeId := 61
noncomputable abbrev F_api_Infix : Array Field := fsOf Tryz.underlying61
theorem u_api_Infix : PP.underlying 61 = some (.struct F_api_Infix) := Tryz.underlying61
theorem g_api_Infix : isAg PP 61 10 := ⟨_, Tryz.underlying61, rfl, by kernel_rfl⟩
theorem s_api_Infix : (PP.info? 61).map (·.size) = some 10 := by kernel_rfl
theorem z_api_Infix : (PP.info? 61).map (·.zero) = some (some (ag ([.int .i64 0] ++ ([.slice none 0 0] ++ (([.int .i64 0] ++ ([.int .i64 0] ++ ([.slice none 0 0]))) ++ ([.int .i64 0] ++ ([.string ⟨#[]⟩] ++ (([.int .i64 0] ++ ([.int .i64 0] ++ ([.slice none 0 0]))))))))))) := by kernel_rfl
theorem i_api_Infix : (PP.info? 61).map (fun i => (i.zero, i.size, i.bytes)) = some (some (ag ([.int .i64 0] ++ ([.slice none 0 0] ++ (([.int .i64 0] ++ ([.int .i64 0] ++ ([.slice none 0 0]))) ++ ([.int .i64 0] ++ ([.string ⟨#[]⟩] ++ (([.int .i64 0] ++ ([.int .i64 0] ++ ([.slice none 0 0])))))))))), 10, 136) := by kernel_rfl
abbrev T_api_Step : TypeId := 68
noncomputable abbrev F_api_Step : Array Field := fsOf Tryz.underlying68
theorem u_api_Step : PP.underlying 68 = some (.struct F_api_Step) := Tryz.underlying68
theorem g_api_Step : isAg PP 68 69 := ⟨_, Tryz.underlying68, rfl, by kernel_rfl⟩
theorem s_api_Step : (PP.info? 68).map (·.size) = some 69 := by kernel_rfl
theorem z_api_Step : (PP.info? 68).map (·.zero) = some (some (ag (([.int .u32 0] ++ ((List.replicate 32 (.int .u8 0)) ++ ((List.replicate 32 (.int .u8 0)) ++ ([.int .u64 0])))) ++ (([.int .i64 0] ++ ([.int .i64 0] ++ ([.slice none 0 0]))))))) := by kernel_rfl
theorem i_api_Step : (PP.info? 68).map (fun i => (i.zero, i.size, i.bytes)) = some (some (ag (([.int .u32 0] ++ ((List.replicate 32 (.int .u8 0)) ++ ((List.replicate 32 (.int .u8 0)) ++ ([.int .u64 0])))) ++ (([.int .i64 0] ++ ([.int .i64 0] ++ ([.slice none 0 0])))))), 69, 120) := by kernel_rfl
abbrev T_sl_string : TypeId := 69
theorem u_sl_string : PP.underlying 69 = some (.slice 9) := Tryz.underlying69
theorem o_sl_string : isOne PP 69 := ⟨_, Tryz.underlying69, rfl⟩
theorem s_sl_string : (PP.info? 69).map (·.size) = some 1 := by kernel_rfl
theorem z_sl_string : (PP.info? 69).map (·.zero) = some (some (.slice none 0 0)) := by kernel_rfl
theorem i_sl_string : (PP.info? 69).map (fun i => (i.zero, i.size, i.bytes)) = some (some (.slice none 0 0), 1, 24) := by kernel_rfl
abbrev T_api_Block : TypeId := 71
noncomputable abbrev F_api_Block : Array Field := fsOf Tryz.underlying71
theorem u_api_Block : PP.underlying 71 = some (.struct F_api_Block) := Tryz.underlying71
theorem g_api_Block : isAg PP 71 67 := ⟨_, Tryz.underlying71, rfl, by kernel_rfl⟩
theorem s_api_Block : (PP.info? 71).map (·.size) = some 67 := by kernel_rfl
theorem z_api_Block : (PP.info? 71).map (·.zero) = some (some (ag (([.int .u32 0] ++ ((List.replicate 32 (.int .u8 0)) ++ ((List.replicate 32 (.int .u8 0)) ++ ([.int .u64 0])))) ++ ([.slice none 0 0])))) := by kernel_rfl
theorem i_api_Block : (PP.info? 71).map (fun i => (i.zero, i.size, i.bytes)) = some (some (ag (([.int .u32 0] ++ ((List.replicate 32 (.int .u8 0)) ++ ((List.replicate 32 (.int .u8 0)) ++ ([.int .u64 0])))) ++ ([.slice none 0 0]))), 67, 104) := by kernel_rfl
abbrev T_chain_look : TypeId := 79
noncomputable abbrev F_chain_look : Array Field := fsOf Tryz.underlying79
theorem u_chain_look : PP.underlying 79 = some (.struct F_chain_look) := Tryz.underlying79
theorem g_chain_look : isAg PP 79 173 := ⟨_, Tryz.underlying79, rfl, by kernel_rfl⟩
theorem s_chain_look : (PP.info? 79).map (·.size) = some 173 := by kernel_rfl
theorem z_chain_look : (PP.info? 79).map (·.zero) = some (some (ag ((([.int .u32 0] ++ ((List.replicate 32 (.int .u8 0)) ++ ((List.replicate 32 (.int .u8 0)) ++ ([.int .u64 0])))) ++ ((List.replicate 32 (.int .u8 0)) ++ ([.int .i64 0] ++ ([.int .i64 0] ++ ([.int .i64 0] ++ ([.int .i64 0] ++ ([.int .i64 0] ++ ([.int .i64 0])))))))) ++ ([.int .i64 0] ++ ((([.int .u32 0] ++ ((List.replicate 32 (.int .u8 0)) ++ ((List.replicate 32 (.int .u8 0)) ++ ([.int .u64 0])))) ++ ([.slice none 0 0])) ++ ([.slice none 0 0])))))) := by kernel_rfl
theorem i_chain_look : (PP.info? 79).map (fun i => (i.zero, i.size, i.bytes)) = some (some (ag ((([.int .u32 0] ++ ((List.replicate 32 (.int .u8 0)) ++ ((List.replicate 32 (.int .u8 0)) ++ ([.int .u64 0])))) ++ ((List.replicate 32 (.int .u8 0)) ++ ([.int .i64 0] ++ ([.int .i64 0] ++ ([.int .i64 0] ++ ([.int .i64 0] ++ ([.int .i64 0] ++ ([.int .i64 0])))))))) ++ ([.int .i64 0] ++ ((([.int .u32 0] ++ ((List.replicate 32 (.int .u8 0)) ++ ((List.replicate 32 (.int .u8 0)) ++ ([.int .u64 0])))) ++ ([.slice none 0 0])) ++ ([.slice none 0 0]))))), 173, 296) := by kernel_rfl
abbrev T_fn__to_api_Errno : TypeId := 80
theorem o_fn__to_api_Errno : isOne PP 80 := ⟨_, Tryz.underlying80, rfl⟩
theorem s_fn__to_api_Errno : (PP.info? 80).map (·.size) = some 1 := by kernel_rfl
theorem z_fn__to_api_Errno : (PP.info? 80).map (·.zero) = some (some (.nilFunc)) := by kernel_rfl
theorem i_fn__to_api_Errno : (PP.info? 80).map (fun i => (i.zero, i.size, i.bytes)) = some (some (.nilFunc), 1, 8) := by kernel_rfl
abbrev T_sl_fn__to_api_Errno : TypeId := 81
theorem u_sl_fn__to_api_Errno : PP.underlying 81 = some (.slice 80) := Tryz.underlying81
theorem o_sl_fn__to_api_Errno : isOne PP 81 := ⟨_, Tryz.underlying81, rfl⟩
theorem s_sl_fn__to_api_Errno : (PP.info? 81).map (·.size) = some 1 := by kernel_rfl
theorem z_sl_fn__to_api_Errno : (PP.info? 81).map (·.zero) = some (some (.slice none 0 0)) := by kernel_rfl
theorem i_sl_fn__to_api_Errno : (PP.info? 81).map (fun i => (i.zero, i.size, i.bytes)) = some (some (.slice none 0 0), 1, 24) := by kernel_rfl
abbrev T_sl_bool : TypeId := 85
theorem u_sl_bool : PP.underlying 85 = some (.slice 4) := Tryz.underlying85
theorem o_sl_bool : isOne PP 85 := ⟨_, Tryz.underlying85, rfl⟩
theorem s_sl_bool : (PP.info? 85).map (·.size) = some 1 := by kernel_rfl
theorem z_sl_bool : (PP.info? 85).map (·.zero) = some (some (.slice none 0 0)) := by kernel_rfl
theorem i_sl_bool : (PP.info? 85).map (fun i => (i.zero, i.size, i.bytes)) = some (some (.slice none 0 0), 1, 24) := by kernel_rfl
abbrev T_sl_sl_api_Hash : TypeId := 92
theorem u_sl_sl_api_Hash : PP.underlying 92 = some (.slice 57) := Tryz.underlying92
theorem o_sl_sl_api_Hash : isOne PP 92 := ⟨_, Tryz.underlying92, rfl⟩
theorem s_sl_sl_api_Hash : (PP.info? 92).map (·.size) = some 1 := by kernel_rfl
theorem z_sl_sl_api_Hash : (PP.info? 92).map (·.zero) = some (some (.slice none 0 0)) := by kernel_rfl
theorem i_sl_sl_api_Hash : (PP.info? 92).map (fun i => (i.zero, i.size, i.bytes)) = some (some (.slice none 0 0), 1, 24) := by kernel_rfl
abbrev T_sl_valid_rule : TypeId := 104
theorem u_sl_valid_rule : PP.underlying 104 = some (.slice 108) := Tryz.underlying104
theorem o_sl_valid_rule : isOne PP 104 := ⟨_, Tryz.underlying104, rfl⟩
theorem s_sl_valid_rule : (PP.info? 104).map (·.size) = some 1 := by kernel_rfl
theorem z_sl_valid_rule : (PP.info? 104).map (·.zero) = some (some (.slice none 0 0)) := by kernel_rfl
theorem i_sl_valid_rule : (PP.info? 104).map (fun i => (i.zero, i.size, i.bytes)) = some (some (.slice none 0 0), 1, 24) := by kernel_rfl
abbrev T_valid_rule : TypeId := 108
noncomputable abbrev F_valid_rule : Array Field := fsOf Tryz.underlying108
theorem u_valid_rule : PP.underlying 108 = some (.struct F_valid_rule) := Tryz.underlying108
theorem g_valid_rule : isAg PP 108 2 := ⟨_, Tryz.underlying108, rfl, by kernel_rfl⟩
theorem s_valid_rule : (PP.info? 108).map (·.size) = some 2 := by kernel_rfl
theorem z_valid_rule : (PP.info? 108).map (·.zero) = some (some (ag ([.nilFunc] ++ ([.int .i64 0])))) := by kernel_rfl
theorem i_valid_rule : (PP.info? 108).map (fun i => (i.zero, i.size, i.bytes)) = some (some (ag ([.nilFunc] ++ ([.int .i64 0]))), 2, 16) := by kernel_rfl
abbrev T_a4_uint64 : TypeId := 116
theorem u_a4_uint64 : PP.underlying 116 = some (.array 4 25) := Tryz.underlying116
theorem g_a4_uint64 : isAg PP 116 4 := ⟨_, Tryz.underlying116, rfl, by kernel_rfl⟩
theorem s_a4_uint64 : (PP.info? 116).map (·.size) = some 4 := by kernel_rfl
theorem z_a4_uint64 : (PP.info? 116).map (·.zero) = some (some (ag (List.replicate 4 (.int .u64 0)))) := by kernel_rfl
theorem i_a4_uint64 : (PP.info? 116).map (fun i => (i.zero, i.size, i.bytes)) = some (some (ag (List.replicate 4 (.int .u64 0))), 4, 32) := by kernel_rfl
abbrev T_wide_N : TypeId := 117
theorem u_wide_N : PP.underlying 117 = some (.array 4 25) := Tryz.underlying117
theorem g_wide_N : isAg PP 117 4 := ⟨_, Tryz.underlying117, rfl, by kernel_rfl⟩
theorem s_wide_N : (PP.info? 117).map (·.size) = some 4 := by kernel_rfl
theorem z_wide_N : (PP.info? 117).map (·.zero) = some (some (ag (List.replicate 4 (.int .u64 0)))) := by kernel_rfl
theorem i_wide_N : (PP.info? 117).map (fun i => (i.zero, i.size, i.bytes)) = some (some (ag (List.replicate 4 (.int .u64 0))), 4, 32) := by kernel_rfl
abbrev T_sl_uint8 : TypeId := 140
theorem u_sl_uint8 : PP.underlying 140 = some (.slice 5) := Tryz.underlying140
theorem o_sl_uint8 : isOne PP 140 := ⟨_, Tryz.underlying140, rfl⟩
theorem s_sl_uint8 : (PP.info? 140).map (·.size) = some 1 := by kernel_rfl
theorem z_sl_uint8 : (PP.info? 140).map (·.zero) = some (some (.slice none 0 0)) := by kernel_rfl
theorem i_sl_uint8 : (PP.info? 140).map (fun i => (i.zero, i.size, i.bytes)) = some (some (.slice none 0 0), 1, 24) := by kernel_rfl
abbrev T_uint : TypeId := 141
theorem u_uint : PP.underlying 141 = some (.int .u64) := Tryz.underlying141
theorem o_uint : isOne PP 141 := ⟨_, Tryz.underlying141, rfl⟩
theorem s_uint : (PP.info? 141).map (·.size) = some 1 := by kernel_rfl
theorem z_uint : (PP.info? 141).map (·.zero) = some (some (.int .u64 0)) := by kernel_rfl
theorem i_uint : (PP.info? 141).map (fun i => (i.zero, i.size, i.bytes)) = some (some (.int .u64 0), 1, 8) := by kernel_rfl
abbrev T_milepostref04_N : TypeId := 144
theorem u_milepostref04_N : PP.underlying 144 = some (.slice 4) := Tryz.underlying144
theorem o_milepostref04_N : isOne PP 144 := ⟨_, Tryz.underlying144, rfl⟩
theorem s_milepostref04_N : (PP.info? 144).map (·.size) = some 1 := by kernel_rfl
theorem z_milepostref04_N : (PP.info? 144).map (·.zero) = some (some (.slice none 0 0)) := by kernel_rfl
theorem i_milepostref04_N : (PP.info? 144).map (fun i => (i.zero, i.size, i.bytes)) = some (some (.slice none 0 0), 1, 24) := by kernel_rfl
abbrev T_a8_uint32 : TypeId := 159
theorem u_a8_uint32 : PP.underlying 159 = some (.array 8 22) := Tryz.underlying159
theorem g_a8_uint32 : isAg PP 159 8 := ⟨_, Tryz.underlying159, rfl, by kernel_rfl⟩
theorem s_a8_uint32 : (PP.info? 159).map (·.size) = some 8 := by kernel_rfl
theorem z_a8_uint32 : (PP.info? 159).map (·.zero) = some (some (ag (List.replicate 8 (.int .u32 0)))) := by kernel_rfl
theorem i_a8_uint32 : (PP.info? 159).map (fun i => (i.zero, i.size, i.bytes)) = some (some (ag (List.replicate 8 (.int .u32 0))), 8, 32) := by kernel_rfl
abbrev T_p_sha_State : TypeId := 169
theorem u_p_sha_State : PP.underlying 169 = some (.pointer 188) := Tryz.underlying169
theorem o_p_sha_State : isOne PP 169 := ⟨_, Tryz.underlying169, rfl⟩
theorem s_p_sha_State : (PP.info? 169).map (·.size) = some 1 := by kernel_rfl
theorem z_p_sha_State : (PP.info? 169).map (·.zero) = some (some (.pointer none)) := by kernel_rfl
theorem i_p_sha_State : (PP.info? 169).map (fun i => (i.zero, i.size, i.bytes)) = some (some (.pointer none), 1, 8) := by kernel_rfl
abbrev T_a64_uint32 : TypeId := 176
theorem u_a64_uint32 : PP.underlying 176 = some (.array 64 22) := Tryz.underlying176
theorem g_a64_uint32 : isAg PP 176 64 := ⟨_, Tryz.underlying176, rfl, by kernel_rfl⟩
theorem s_a64_uint32 : (PP.info? 176).map (·.size) = some 64 := by kernel_rfl
theorem z_a64_uint32 : (PP.info? 176).map (·.zero) = some (some (ag (List.replicate 64 (.int .u32 0)))) := by kernel_rfl
theorem i_a64_uint32 : (PP.info? 176).map (fun i => (i.zero, i.size, i.bytes)) = some (some (ag (List.replicate 64 (.int .u32 0))), 64, 256) := by kernel_rfl
abbrev T_sha_Words : TypeId := 186
theorem u_sha_Words : PP.underlying 186 = some (.array 8 22) := Tryz.underlying186
theorem g_sha_Words : isAg PP 186 8 := ⟨_, Tryz.underlying186, rfl, by kernel_rfl⟩
theorem s_sha_Words : (PP.info? 186).map (·.size) = some 8 := by kernel_rfl
theorem z_sha_Words : (PP.info? 186).map (·.zero) = some (some (ag (List.replicate 8 (.int .u32 0)))) := by kernel_rfl
theorem i_sha_Words : (PP.info? 186).map (fun i => (i.zero, i.size, i.bytes)) = some (some (ag (List.replicate 8 (.int .u32 0))), 8, 32) := by kernel_rfl
abbrev T_sha_State : TypeId := 188
noncomputable abbrev F_sha_State : Array Field := fsOf Tryz.underlying188
theorem u_sha_State : PP.underlying 188 = some (.struct F_sha_State) := Tryz.underlying188
theorem g_sha_State : isAg PP 188 11 := ⟨_, Tryz.underlying188, rfl, by kernel_rfl⟩
theorem s_sha_State : (PP.info? 188).map (·.size) = some 11 := by kernel_rfl
theorem z_sha_State : (PP.info? 188).map (·.zero) = some (some (ag ((List.replicate 8 (.int .u32 0)) ++ ([.string ⟨#[]⟩] ++ ([.int .u64 0] ++ ([.bool false])))))) := by kernel_rfl
theorem i_sha_State : (PP.info? 188).map (fun i => (i.zero, i.size, i.bytes)) = some (some (ag ((List.replicate 8 (.int .u32 0)) ++ ([.string ⟨#[]⟩] ++ ([.int .u64 0] ++ ([.bool false]))))), 11, 64) := by kernel_rfl
abbrev T_a5_uint64 : TypeId := 192
theorem u_a5_uint64 : PP.underlying 192 = some (.array 5 25) := Tryz.underlying192
theorem g_a5_uint64 : isAg PP 192 5 := ⟨_, Tryz.underlying192, rfl, by kernel_rfl⟩
theorem s_a5_uint64 : (PP.info? 192).map (·.size) = some 5 := by kernel_rfl
theorem z_a5_uint64 : (PP.info? 192).map (·.zero) = some (some (ag (List.replicate 5 (.int .u64 0)))) := by kernel_rfl
theorem i_a5_uint64 : (PP.info? 192).map (fun i => (i.zero, i.size, i.bytes)) = some (some (ag (List.replicate 5 (.int .u64 0))), 5, 40) := by kernel_rfl
abbrev T_large_N : TypeId := 193
theorem u_large_N : PP.underlying 193 = some (.array 5 25) := Tryz.underlying193
theorem g_large_N : isAg PP 193 5 := ⟨_, Tryz.underlying193, rfl, by kernel_rfl⟩
theorem s_large_N : (PP.info? 193).map (·.size) = some 5 := by kernel_rfl
theorem z_large_N : (PP.info? 193).map (·.zero) = some (some (ag (List.replicate 5 (.int .u64 0)))) := by kernel_rfl
theorem i_large_N : (PP.info? 193).map (fun i => (i.zero, i.size, i.bytes)) = some (some (ag (List.replicate 5 (.int .u64 0))), 5, 40) := by kernel_rfl
abbrev T_milepostref05_N : TypeId := 197
theorem u_milepostref05_N : PP.underlying 197 = some (.slice 3) := Tryz.underlying197
theorem o_milepostref05_N : isOne PP 197 := ⟨_, Tryz.underlying197, rfl⟩
theorem s_milepostref05_N : (PP.info? 197).map (·.size) = some 1 := by kernel_rfl
theorem z_milepostref05_N : (PP.info? 197).map (·.zero) = some (some (.slice none 0 0)) := by kernel_rfl
theorem i_milepostref05_N : (PP.info? 197).map (fun i => (i.zero, i.size, i.bytes)) = some (some (.slice none 0 0), 1, 24) := by kernel_rfl
abbrev T_sl_uint32 : TypeId := 202
theorem u_sl_uint32 : PP.underlying 202 = some (.slice 22) := Tryz.underlying202
theorem o_sl_uint32 : isOne PP 202 := ⟨_, Tryz.underlying202, rfl⟩
theorem s_sl_uint32 : (PP.info? 202).map (·.size) = some 1 := by kernel_rfl
theorem z_sl_uint32 : (PP.info? 202).map (·.zero) = some (some (.slice none 0 0)) := by kernel_rfl
theorem i_sl_uint32 : (PP.info? 202).map (fun i => (i.zero, i.size, i.bytes)) = some (some (.slice none 0 0), 1, 24) := by kernel_rfl
abbrev T_p_strings_Builder : TypeId := 209
theorem u_p_strings_Builder : PP.underlying 209 = some (.pointer 211) := Tryz.underlying209
theorem o_p_strings_Builder : isOne PP 209 := ⟨_, Tryz.underlying209, rfl⟩
theorem s_p_strings_Builder : (PP.info? 209).map (·.size) = some 1 := by kernel_rfl
theorem z_p_strings_Builder : (PP.info? 209).map (·.zero) = some (some (.pointer none)) := by kernel_rfl
theorem i_p_strings_Builder : (PP.info? 209).map (fun i => (i.zero, i.size, i.bytes)) = some (some (.pointer none), 1, 8) := by kernel_rfl
abbrev T_strings_Builder : TypeId := 211
noncomputable abbrev F_strings_Builder : Array Field := fsOf Tryz.underlying211
theorem u_strings_Builder : PP.underlying 211 = some (.struct F_strings_Builder) := Tryz.underlying211
theorem g_strings_Builder : isAg PP 211 2 := ⟨_, Tryz.underlying211, rfl, by kernel_rfl⟩
theorem s_strings_Builder : (PP.info? 211).map (·.size) = some 2 := by kernel_rfl
theorem z_strings_Builder : (PP.info? 211).map (·.zero) = some (some (ag ([.pointer none] ++ ([.slice none 0 0])))) := by kernel_rfl
theorem i_strings_Builder : (PP.info? 211).map (fun i => (i.zero, i.size, i.bytes)) = some (some (ag ([.pointer none] ++ ([.slice none 0 0]))), 2, 32) := by kernel_rfl
abbrev T_error : TypeId := 214
theorem o_error : isOne PP 214 := ⟨_, Tryz.underlying214, rfl⟩
theorem s_error : (PP.info? 214).map (·.size) = some 1 := by kernel_rfl
theorem z_error : (PP.info? 214).map (·.zero) = some (some (.nilIface)) := by kernel_rfl
theorem i_error : (PP.info? 214).map (fun i => (i.zero, i.size, i.bytes)) = some (some (.nilIface), 1, 16) := by kernel_rfl
abbrev T_sl_uint64 : TypeId := 222
theorem u_sl_uint64 : PP.underlying 222 = some (.slice 25) := Tryz.underlying222
theorem o_sl_uint64 : isOne PP 222 := ⟨_, Tryz.underlying222, rfl⟩
theorem s_sl_uint64 : (PP.info? 222).map (·.size) = some 1 := by kernel_rfl
theorem z_sl_uint64 : (PP.info? 222).map (·.zero) = some (some (.slice none 0 0)) := by kernel_rfl
theorem i_sl_uint64 : (PP.info? 222).map (fun i => (i.zero, i.size, i.bytes)) = some (some (.slice none 0 0), 1, 24) := by kernel_rfl
abbrev T_p_uint8 : TypeId := 228
theorem u_p_uint8 : PP.underlying 228 = some (.pointer 5) := Tryz.underlying228
theorem o_p_uint8 : isOne PP 228 := ⟨_, Tryz.underlying228, rfl⟩
theorem s_p_uint8 : (PP.info? 228).map (·.size) = some 1 := by kernel_rfl
theorem z_p_uint8 : (PP.info? 228).map (·.zero) = some (some (.pointer none)) := by kernel_rfl
theorem i_p_uint8 : (PP.info? 228).map (fun i => (i.zero, i.size, i.bytes)) = some (some (.pointer none), 1, 8) := by kernel_rfl
abbrev T_runtime_TypeAssertionError : TypeId := 243
noncomputable abbrev F_runtime_TypeAssertionError : Array Field := fsOf Tryz.underlying243
theorem u_runtime_TypeAssertionError : PP.underlying 243 = some (.struct F_runtime_TypeAssertionError) := Tryz.underlying243
theorem g_runtime_TypeAssertionError : isAg PP 243 4 := ⟨_, Tryz.underlying243, rfl, by kernel_rfl⟩
theorem s_runtime_TypeAssertionError : (PP.info? 243).map (·.size) = some 4 := by kernel_rfl
theorem z_runtime_TypeAssertionError : (PP.info? 243).map (·.zero) = some (some (ag ([.pointer none] ++ ([.pointer none] ++ ([.pointer none] ++ ([.string ⟨#[]⟩])))))) := by kernel_rfl
theorem i_runtime_TypeAssertionError : (PP.info? 243).map (fun i => (i.zero, i.size, i.bytes)) = some (some (ag ([.pointer none] ++ ([.pointer none] ++ ([.pointer none] ++ ([.string ⟨#[]⟩]))))), 4, 40) := by kernel_rfl
abbrev T_a0_p_runtime_PanicNilError : TypeId := 244
theorem u_a0_p_runtime_PanicNilError : PP.underlying 244 = some (.array 0 16) := Tryz.underlying244
abbrev T_runtime_PanicNilError : TypeId := 246
noncomputable abbrev F_runtime_PanicNilError : Array Field := fsOf Tryz.underlying246
theorem u_runtime_PanicNilError : PP.underlying 246 = some (.struct F_runtime_PanicNilError) := Tryz.underlying246
abbrev T_internal_abi_TFlag : TypeId := 247
theorem u_internal_abi_TFlag : PP.underlying 247 = some (.int .u8) := Tryz.underlying247
theorem o_internal_abi_TFlag : isOne PP 247 := ⟨_, Tryz.underlying247, rfl⟩
theorem s_internal_abi_TFlag : (PP.info? 247).map (·.size) = some 1 := by kernel_rfl
theorem z_internal_abi_TFlag : (PP.info? 247).map (·.zero) = some (some (.int .u8 0)) := by kernel_rfl
theorem i_internal_abi_TFlag : (PP.info? 247).map (fun i => (i.zero, i.size, i.bytes)) = some (some (.int .u8 0), 1, 1) := by kernel_rfl
abbrev T_internal_abi_Kind : TypeId := 248
theorem u_internal_abi_Kind : PP.underlying 248 = some (.int .u8) := Tryz.underlying248
theorem o_internal_abi_Kind : isOne PP 248 := ⟨_, Tryz.underlying248, rfl⟩
theorem s_internal_abi_Kind : (PP.info? 248).map (·.size) = some 1 := by kernel_rfl
theorem z_internal_abi_Kind : (PP.info? 248).map (·.zero) = some (some (.int .u8 0)) := by kernel_rfl
theorem i_internal_abi_Kind : (PP.info? 248).map (fun i => (i.zero, i.size, i.bytes)) = some (some (.int .u8 0), 1, 1) := by kernel_rfl
abbrev T_internal_abi_NameOff : TypeId := 250
theorem u_internal_abi_NameOff : PP.underlying 250 = some (.int .i32) := Tryz.underlying250
theorem o_internal_abi_NameOff : isOne PP 250 := ⟨_, Tryz.underlying250, rfl⟩
theorem s_internal_abi_NameOff : (PP.info? 250).map (·.size) = some 1 := by kernel_rfl
theorem z_internal_abi_NameOff : (PP.info? 250).map (·.zero) = some (some (.int .i32 0)) := by kernel_rfl
theorem i_internal_abi_NameOff : (PP.info? 250).map (fun i => (i.zero, i.size, i.bytes)) = some (some (.int .i32 0), 1, 4) := by kernel_rfl
abbrev T_internal_abi_TypeOff : TypeId := 251
theorem u_internal_abi_TypeOff : PP.underlying 251 = some (.int .i32) := Tryz.underlying251
theorem o_internal_abi_TypeOff : isOne PP 251 := ⟨_, Tryz.underlying251, rfl⟩
theorem s_internal_abi_TypeOff : (PP.info? 251).map (·.size) = some 1 := by kernel_rfl
theorem z_internal_abi_TypeOff : (PP.info? 251).map (·.zero) = some (some (.int .i32 0)) := by kernel_rfl
theorem i_internal_abi_TypeOff : (PP.info? 251).map (fun i => (i.zero, i.size, i.bytes)) = some (some (.int .i32 0), 1, 4) := by kernel_rfl
abbrev T_internal_abi_Type : TypeId := 253
noncomputable abbrev F_internal_abi_Type : Array Field := fsOf Tryz.underlying253
theorem u_internal_abi_Type : PP.underlying 253 = some (.struct F_internal_abi_Type) := Tryz.underlying253
theorem g_internal_abi_Type : isAg PP 253 11 := ⟨_, Tryz.underlying253, rfl, by kernel_rfl⟩
theorem s_internal_abi_Type : (PP.info? 253).map (·.size) = some 11 := by kernel_rfl
theorem z_internal_abi_Type : (PP.info? 253).map (·.zero) = some (some (ag ([.int .u64 0] ++ ([.int .u64 0] ++ ([.int .u32 0] ++ ([.int .u8 0] ++ ([.int .u8 0] ++ ([.int .u8 0] ++ ([.int .u8 0] ++ ([.nilFunc] ++ ([.pointer none] ++ ([.int .i32 0] ++ ([.int .i32 0]))))))))))))) := by kernel_rfl
theorem i_internal_abi_Type : (PP.info? 253).map (fun i => (i.zero, i.size, i.bytes)) = some (some (ag ([.int .u64 0] ++ ([.int .u64 0] ++ ([.int .u32 0] ++ ([.int .u8 0] ++ ([.int .u8 0] ++ ([.int .u8 0] ++ ([.int .u8 0] ++ ([.nilFunc] ++ ([.pointer none] ++ ([.int .i32 0] ++ ([.int .i32 0])))))))))))), 11, 48) := by kernel_rfl

abbrev N_milepostlaw47_PickJoined : FuncId := 3
theorem f_milepostlaw47_PickJoined : PP.funcs[3]? = some Tryz.f3 := Tryz.func3
theorem n_milepostlaw47_PickJoined : Tryz.f3.ntmps = 116 := Tryz.ntmps3
theorem k_milepostlaw47_PickJoined : Fn PP 3 := ⟨_, _, Tryz.func3, rfl, rfl⟩
abbrev N_milepostlaw48_ProveMakes : FuncId := 4
theorem f_milepostlaw48_ProveMakes : PP.funcs[4]? = some Tryz.f4 := Tryz.func4
theorem n_milepostlaw48_ProveMakes : Tryz.f4.ntmps = 56 := Tryz.ntmps4
theorem k_milepostlaw48_ProveMakes : Fn PP 4 := ⟨_, _, Tryz.func4, rfl, rfl⟩
abbrev N_milepostlaw48_ProveSteps : FuncId := 5
theorem f_milepostlaw48_ProveSteps : PP.funcs[5]? = some Tryz.f5 := Tryz.func5
theorem n_milepostlaw48_ProveSteps : Tryz.f5.ntmps = 44 := Tryz.ntmps5
theorem k_milepostlaw48_ProveSteps : Fn PP 5 := ⟨_, _, Tryz.func5, rfl, rfl⟩
abbrev N_milepostlaw49_WayBetween : FuncId := 6
theorem f_milepostlaw49_WayBetween : PP.funcs[6]? = some Tryz.f6 := Tryz.func6
theorem n_milepostlaw49_WayBetween : Tryz.f6.ntmps = 29 := Tryz.ntmps6
theorem k_milepostlaw49_WayBetween : Fn PP 6 := ⟨_, _, Tryz.func6, rfl, rfl⟩
abbrev N_milepostlaw49_WayMakes : FuncId := 7
theorem f_milepostlaw49_WayMakes : PP.funcs[7]? = some Tryz.f7 := Tryz.func7
theorem n_milepostlaw49_WayMakes : Tryz.f7.ntmps = 47 := Tryz.ntmps7
theorem k_milepostlaw49_WayMakes : Fn PP 7 := ⟨_, _, Tryz.func7, rfl, rfl⟩
abbrev N_milepostlaw48_ProveValid : FuncId := 8
theorem f_milepostlaw48_ProveValid : PP.funcs[8]? = some Tryz.f8 := Tryz.func8
theorem n_milepostlaw48_ProveValid : Tryz.f8.ntmps = 132 := Tryz.ntmps8
theorem k_milepostlaw48_ProveValid : Fn PP 8 := ⟨_, _, Tryz.func8, rfl, rfl⟩
abbrev N_milepostlaw50_WithinWays : FuncId := 9
theorem f_milepostlaw50_WithinWays : PP.funcs[9]? = some Tryz.f9 := Tryz.func9
theorem n_milepostlaw50_WithinWays : Tryz.f9.ntmps = 127 := Tryz.ntmps9
theorem k_milepostlaw50_WithinWays : Fn PP 9 := ⟨_, _, Tryz.func9, rfl, rfl⟩
abbrev N_milepostlaw24_Much : FuncId := 10
theorem f_milepostlaw24_Much : PP.funcs[10]? = some Tryz.f10 := Tryz.func10
theorem n_milepostlaw24_Much : Tryz.f10.ntmps = 36 := Tryz.ntmps10
theorem k_milepostlaw24_Much : Fn PP 10 := ⟨_, _, Tryz.func10, rfl, rfl⟩
abbrev N_pick_May : FuncId := 11
theorem f_pick_May : PP.funcs[11]? = some Tryz.f11 := Tryz.func11
theorem n_pick_May : Tryz.f11.ntmps = 28 := Tryz.ntmps11
theorem k_pick_May : Fn PP 11 := ⟨_, _, Tryz.func11, rfl, rfl⟩
abbrev N_chain_Check : FuncId := 12
theorem f_chain_Check : PP.funcs[12]? = some Tryz.f12 := Tryz.func12
theorem n_chain_Check : Tryz.f12.ntmps = 62 := Tryz.ntmps12
theorem k_chain_Check : Fn PP 12 := ⟨_, _, Tryz.func12, rfl, rfl⟩
abbrev N_milepostlaw47_awake : FuncId := 13
theorem f_milepostlaw47_awake : PP.funcs[13]? = some Tryz.f13 := Tryz.func13
theorem n_milepostlaw47_awake : Tryz.f13.ntmps = 12 := Tryz.ntmps13
theorem k_milepostlaw47_awake : Fn PP 13 := ⟨_, _, Tryz.func13, rfl, rfl⟩
abbrev N_chain_Levels : FuncId := 14
theorem f_chain_Levels : PP.funcs[14]? = some Tryz.f14 := Tryz.func14
theorem n_chain_Levels : Tryz.f14.ntmps = 28 := Tryz.ntmps14
theorem k_chain_Levels : Fn PP 14 := ⟨_, _, Tryz.func14, rfl, rfl⟩
abbrev N_pick_Pick : FuncId := 15
theorem f_pick_Pick : PP.funcs[15]? = some Tryz.f15 := Tryz.func15
theorem n_pick_Pick : Tryz.f15.ntmps = 86 := Tryz.ntmps15
theorem k_pick_Pick : Fn PP 15 := ⟨_, _, Tryz.func15, rfl, rfl⟩
abbrev N_milepostref22_Index : FuncId := 16
theorem f_milepostref22_Index : PP.funcs[16]? = some Tryz.f16 := Tryz.func16
theorem n_milepostref22_Index : Tryz.f16.ntmps = 25 := Tryz.ntmps16
theorem k_milepostref22_Index : Fn PP 16 := ⟨_, _, Tryz.func16, rfl, rfl⟩
abbrev N_near_All : FuncId := 17
theorem f_near_All : PP.funcs[17]? = some Tryz.f17 := Tryz.func17
theorem n_near_All : Tryz.f17.ntmps = 34 := Tryz.ntmps17
theorem k_near_All : Fn PP 17 := ⟨_, _, Tryz.func17, rfl, rfl⟩
abbrev N_milepostlaw48_awake : FuncId := 18
theorem f_milepostlaw48_awake : PP.funcs[18]? = some Tryz.f18 := Tryz.func18
theorem n_milepostlaw48_awake : Tryz.f18.ntmps = 28 := Tryz.ntmps18
theorem k_milepostlaw48_awake : Fn PP 18 := ⟨_, _, Tryz.func18, rfl, rfl⟩
abbrev N_prove_Prove : FuncId := 19
theorem f_prove_Prove : PP.funcs[19]? = some Tryz.f19 := Tryz.func19
theorem n_prove_Prove : Tryz.f19.ntmps = 22 := Tryz.ntmps19
theorem k_prove_Prove : Fn PP 19 := ⟨_, _, Tryz.func19, rfl, rfl⟩
abbrev N_milepostref47_Prove : FuncId := 20
theorem f_milepostref47_Prove : PP.funcs[20]? = some Tryz.f20 := Tryz.func20
theorem n_milepostref47_Prove : Tryz.f20.ntmps = 22 := Tryz.ntmps20
theorem k_milepostref47_Prove : Fn PP 20 := ⟨_, _, Tryz.func20, rfl, rfl⟩
abbrev N_milepostref22_Same : FuncId := 21
theorem f_milepostref22_Same : PP.funcs[21]? = some Tryz.f21 := Tryz.func21
theorem n_milepostref22_Same : Tryz.f21.ntmps = 26 := Tryz.ntmps21
theorem k_milepostref22_Same : Fn PP 21 := ⟨_, _, Tryz.func21, rfl, rfl⟩
abbrev N_prove_Places : FuncId := 22
theorem f_prove_Places : PP.funcs[22]? = some Tryz.f22 := Tryz.func22
theorem n_prove_Places : Tryz.f22.ntmps = 43 := Tryz.ntmps22
theorem k_prove_Places : Fn PP 22 := ⟨_, _, Tryz.func22, rfl, rfl⟩
abbrev N_milepostref47_Places : FuncId := 23
theorem f_milepostref47_Places : PP.funcs[23]? = some Tryz.f23 := Tryz.func23
theorem n_milepostref47_Places : Tryz.f23.ntmps = 39 := Tryz.ntmps23
theorem k_milepostref47_Places : Fn PP 23 := ⟨_, _, Tryz.func23, rfl, rfl⟩
abbrev N_milepostref29_Same : FuncId := 24
theorem f_milepostref29_Same : PP.funcs[24]? = some Tryz.f24 := Tryz.func24
theorem n_milepostref29_Same : Tryz.f24.ntmps = 27 := Tryz.ntmps24
theorem k_milepostref29_Same : Fn PP 24 := ⟨_, _, Tryz.func24, rfl, rfl⟩
abbrev N_prove_May : FuncId := 25
theorem f_prove_May : PP.funcs[25]? = some Tryz.f25 := Tryz.func25
theorem n_prove_May : Tryz.f25.ntmps = 31 := Tryz.ntmps25
theorem k_prove_May : Fn PP 25 := ⟨_, _, Tryz.func25, rfl, rfl⟩
abbrev N_milepostref47_MayProve : FuncId := 26
theorem f_milepostref47_MayProve : PP.funcs[26]? = some Tryz.f26 := Tryz.func26
theorem n_milepostref47_MayProve : Tryz.f26.ntmps = 29 := Tryz.ntmps26
theorem k_milepostref47_MayProve : Fn PP 26 := ⟨_, _, Tryz.func26, rfl, rfl⟩
abbrev N_prove_Steps : FuncId := 27
theorem f_prove_Steps : PP.funcs[27]? = some Tryz.f27 := Tryz.func27
theorem n_prove_Steps : Tryz.f27.ntmps = 76 := Tryz.ntmps27
theorem k_prove_Steps : Fn PP 27 := ⟨_, _, Tryz.func27, rfl, rfl⟩
abbrev N_milepostref47_Steps : FuncId := 28
theorem f_milepostref47_Steps : PP.funcs[28]? = some Tryz.f28 := Tryz.func28
theorem n_milepostref47_Steps : Tryz.f28.ntmps = 78 := Tryz.ntmps28
theorem k_milepostref47_Steps : Fn PP 28 := ⟨_, _, Tryz.func28, rfl, rfl⟩
abbrev N_milepostlaw49_awake : FuncId := 29
theorem f_milepostlaw49_awake : PP.funcs[29]? = some Tryz.f29 := Tryz.func29
theorem n_milepostlaw49_awake : Tryz.f29.ntmps = 16 := Tryz.ntmps29
theorem k_milepostlaw49_awake : Fn PP 29 := ⟨_, _, Tryz.func29, rfl, rfl⟩
abbrev N_way_Between : FuncId := 30
theorem f_way_Between : PP.funcs[30]? = some Tryz.f30 := Tryz.func30
theorem n_way_Between : Tryz.f30.ntmps = 51 := Tryz.ntmps30
theorem k_way_Between : Fn PP 30 := ⟨_, _, Tryz.func30, rfl, rfl⟩
abbrev N_milepostref47_Between : FuncId := 31
theorem f_milepostref47_Between : PP.funcs[31]? = some Tryz.f31 := Tryz.func31
theorem n_milepostref47_Between : Tryz.f31.ntmps = 67 := Tryz.ntmps31
theorem k_milepostref47_Between : Fn PP 31 := ⟨_, _, Tryz.func31, rfl, rfl⟩
abbrev N_way_Infix : FuncId := 32
theorem f_way_Infix : PP.funcs[32]? = some Tryz.f32 := Tryz.func32
theorem n_way_Infix : Tryz.f32.ntmps = 80 := Tryz.ntmps32
theorem k_way_Infix : Fn PP 32 := ⟨_, _, Tryz.func32, rfl, rfl⟩
abbrev N_milepostref47_Infix : FuncId := 33
theorem f_milepostref47_Infix : PP.funcs[33]? = some Tryz.f33 := Tryz.func33
theorem n_milepostref47_Infix : Tryz.f33.ntmps = 153 := Tryz.ntmps33
theorem k_milepostref47_Infix : Fn PP 33 := ⟨_, _, Tryz.func33, rfl, rfl⟩
abbrev N_milepostref29_SameInfix : FuncId := 34
theorem f_milepostref29_SameInfix : PP.funcs[34]? = some Tryz.f34 := Tryz.func34
theorem n_milepostref29_SameInfix : Tryz.f34.ntmps = 45 := Tryz.ntmps34
theorem k_milepostref29_SameInfix : Fn PP 34 := ⟨_, _, Tryz.func34, rfl, rfl⟩
abbrev N_valid_Check : FuncId := 35
theorem f_valid_Check : PP.funcs[35]? = some Tryz.f35 := Tryz.func35
theorem n_valid_Check : Tryz.f35.ntmps = 55 := Tryz.ntmps35
theorem k_valid_Check : Fn PP 35 := ⟨_, _, Tryz.func35, rfl, rfl⟩
abbrev N_rise_Above : FuncId := 36
theorem f_rise_Above : PP.funcs[36]? = some Tryz.f36 := Tryz.func36
theorem n_rise_Above : Tryz.f36.ntmps = 10 := Tryz.ntmps36
theorem k_rise_Above : Fn PP 36 := ⟨_, _, Tryz.func36, rfl, rfl⟩
abbrev N_milepostlaw50_awake : FuncId := 37
theorem f_milepostlaw50_awake : PP.funcs[37]? = some Tryz.f37 := Tryz.func37
theorem n_milepostlaw50_awake : Tryz.f37.ntmps = 23 := Tryz.ntmps37
theorem k_milepostlaw50_awake : Fn PP 37 := ⟨_, _, Tryz.func37, rfl, rfl⟩
abbrev N_within_Block : FuncId := 38
theorem f_within_Block : PP.funcs[38]? = some Tryz.f38 := Tryz.func38
theorem n_within_Block : Tryz.f38.ntmps = 31 := Tryz.ntmps38
theorem k_within_Block : Fn PP 38 := ⟨_, _, Tryz.func38, rfl, rfl⟩
abbrev N_within_Check : FuncId := 39
theorem f_within_Check : PP.funcs[39]? = some Tryz.f39 := Tryz.func39
theorem n_within_Check : Tryz.f39.ntmps = 39 := Tryz.ntmps39
theorem k_within_Check : Fn PP 39 := ⟨_, _, Tryz.func39, rfl, rfl⟩
abbrev N_milepostlaw22_Much : FuncId := 40
theorem f_milepostlaw22_Much : PP.funcs[40]? = some Tryz.f40 := Tryz.func40
theorem n_milepostlaw22_Much : Tryz.f40.ntmps = 41 := Tryz.ntmps40
theorem k_milepostlaw22_Much : Fn PP 40 := ⟨_, _, Tryz.func40, rfl, rfl⟩
abbrev N_ratio_May : FuncId := 41
theorem f_ratio_May : PP.funcs[41]? = some Tryz.f41 := Tryz.func41
theorem n_ratio_May : Tryz.f41.ntmps = 16 := Tryz.ntmps41
theorem k_ratio_May : Fn PP 41 := ⟨_, _, Tryz.func41, rfl, rfl⟩
abbrev N_chain_look_anchor : FuncId := 42
theorem f_chain_look_anchor : PP.funcs[42]? = some Tryz.f42 := Tryz.func42
theorem n_chain_look_anchor : Tryz.f42.ntmps = 15 := Tryz.ntmps42
theorem k_chain_look_anchor : Fn PP 42 := ⟨_, _, Tryz.func42, rfl, rfl⟩
abbrev N_chain_look_form : FuncId := 43
theorem f_chain_look_form : PP.funcs[43]? = some Tryz.f43 := Tryz.func43
theorem n_chain_look_form : Tryz.f43.ntmps = 11 := Tryz.ntmps43
theorem k_chain_look_form : Fn PP 43 := ⟨_, _, Tryz.func43, rfl, rfl⟩
abbrev N_chain_look_work : FuncId := 44
theorem f_chain_look_work : PP.funcs[44]? = some Tryz.f44 := Tryz.func44
theorem n_chain_look_work : Tryz.f44.ntmps = 11 := Tryz.ntmps44
theorem k_chain_look_work : Fn PP 44 := ⟨_, _, Tryz.func44, rfl, rfl⟩
abbrev N_chain_behind : FuncId := 45
theorem f_chain_behind : PP.funcs[45]? = some Tryz.f45 := Tryz.func45
theorem n_chain_behind : Tryz.f45.ntmps = 22 := Tryz.ntmps45
theorem k_chain_behind : Fn PP 45 := ⟨_, _, Tryz.func45, rfl, rfl⟩
abbrev N_work_Level : FuncId := 46
theorem f_work_Level : PP.funcs[46]? = some Tryz.f46 := Tryz.func46
theorem n_work_Level : Tryz.f46.ntmps = 25 := Tryz.ntmps46
theorem k_work_Level : Fn PP 46 := ⟨_, _, Tryz.func46, rfl, rfl⟩
abbrev N_chain_id : FuncId := 47
theorem f_chain_id : PP.funcs[47]? = some Tryz.f47 := Tryz.func47
theorem n_chain_id : Tryz.f47.ntmps = 6 := Tryz.ntmps47
theorem k_chain_id : Fn PP 47 := ⟨_, _, Tryz.func47, rfl, rfl⟩
abbrev N_pick_top : FuncId := 48
theorem f_pick_top : PP.funcs[48]? = some Tryz.f48 := Tryz.func48
theorem n_pick_top : Tryz.f48.ntmps = 21 := Tryz.ntmps48
theorem k_pick_top : Fn PP 48 := ⟨_, _, Tryz.func48, rfl, rfl⟩
abbrev N_up_Places : FuncId := 49
theorem f_up_Places : PP.funcs[49]? = some Tryz.f49 := Tryz.func49
theorem n_up_Places : Tryz.f49.ntmps = 19 := Tryz.ntmps49
theorem k_up_Places : Fn PP 49 := ⟨_, _, Tryz.func49, rfl, rfl⟩
abbrev N_pick_Begin : FuncId := 50
theorem f_pick_Begin : PP.funcs[50]? = some Tryz.f50 := Tryz.func50
theorem n_pick_Begin : Tryz.f50.ntmps = 49 := Tryz.ntmps50
theorem k_pick_Begin : Fn PP 50 := ⟨_, _, Tryz.func50, rfl, rfl⟩
abbrev N_milepostref22_All : FuncId := 51
theorem f_milepostref22_All : PP.funcs[51]? = some Tryz.f51 := Tryz.func51
theorem n_milepostref22_All : Tryz.f51.ntmps = 35 := Tryz.ntmps51
theorem k_milepostref22_All : Fn PP 51 := ⟨_, _, Tryz.func51, rfl, rfl⟩
abbrev N_near_Near : FuncId := 52
theorem f_near_Near : PP.funcs[52]? = some Tryz.f52 := Tryz.func52
theorem n_near_Near : Tryz.f52.ntmps = 25 := Tryz.ntmps52
theorem k_near_Near : Fn PP 52 := ⟨_, _, Tryz.func52, rfl, rfl⟩
abbrev N_milepostref47_Pick : FuncId := 53
theorem f_milepostref47_Pick : PP.funcs[53]? = some Tryz.f53 := Tryz.func53
theorem n_milepostref47_Pick : Tryz.f53.ntmps = 106 := Tryz.ntmps53
theorem k_milepostref47_Pick : Fn PP 53 := ⟨_, _, Tryz.func53, rfl, rfl⟩
abbrev N_milepostref22_Levels : FuncId := 54
theorem f_milepostref22_Levels : PP.funcs[54]? = some Tryz.f54 := Tryz.func54
theorem n_milepostref22_Levels : Tryz.f54.ntmps = 28 := Tryz.ntmps54
theorem k_milepostref22_Levels : Fn PP 54 := ⟨_, _, Tryz.func54, rfl, rfl⟩
abbrev N_milepostref22_Ids : FuncId := 55
theorem f_milepostref22_Ids : PP.funcs[55]? = some Tryz.f55 := Tryz.func55
theorem n_milepostref22_Ids : Tryz.f55.ntmps = 21 := Tryz.ntmps55
theorem k_milepostref22_Ids : Fn PP 55 := ⟨_, _, Tryz.func55, rfl, rfl⟩
abbrev N_milepostref29_SameStep : FuncId := 56
theorem f_milepostref29_SameStep : PP.funcs[56]? = some Tryz.f56 := Tryz.func56
theorem n_milepostref29_SameStep : Tryz.f56.ntmps = 17 := Tryz.ntmps56
theorem k_milepostref29_SameStep : Fn PP 56 := ⟨_, _, Tryz.func56, rfl, rfl⟩
abbrev N_milepostref22_Check : FuncId := 57
theorem f_milepostref22_Check : PP.funcs[57]? = some Tryz.f57 := Tryz.func57
theorem n_milepostref22_Check : Tryz.f57.ntmps = 68 := Tryz.ntmps57
theorem k_milepostref22_Check : Fn PP 57 := ⟨_, _, Tryz.func57, rfl, rfl⟩
abbrev N_milepostref47_May : FuncId := 58
theorem f_milepostref47_May : PP.funcs[58]? = some Tryz.f58 := Tryz.func58
theorem n_milepostref47_May : Tryz.f58.ntmps = 28 := Tryz.ntmps58
theorem k_milepostref47_May : Fn PP 58 := ⟨_, _, Tryz.func58, rfl, rfl⟩
abbrev N_chain_Vectors : FuncId := 59
theorem f_chain_Vectors : PP.funcs[59]? = some Tryz.f59 := Tryz.func59
theorem n_chain_Vectors : Tryz.f59.ntmps = 29 := Tryz.ntmps59
theorem k_chain_Vectors : Fn PP 59 := ⟨_, _, Tryz.func59, rfl, rfl⟩
abbrev N_down_Index : FuncId := 60
theorem f_down_Index : PP.funcs[60]? = some Tryz.f60 := Tryz.func60
theorem n_down_Index : Tryz.f60.ntmps = 23 := Tryz.ntmps60
theorem k_down_Index : Fn PP 60 := ⟨_, _, Tryz.func60, rfl, rfl⟩
abbrev N_link_Open : FuncId := 61
theorem f_link_Open : PP.funcs[61]? = some Tryz.f61 := Tryz.func61
theorem n_link_Open : Tryz.f61.ntmps = 12 := Tryz.ntmps61
theorem k_link_Open : Fn PP 61 := ⟨_, _, Tryz.func61, rfl, rfl⟩
abbrev N_milepostref11_Open : FuncId := 62
theorem f_milepostref11_Open : PP.funcs[62]? = some Tryz.f62 := Tryz.func62
theorem n_milepostref11_Open : Tryz.f62.ntmps = 27 := Tryz.ntmps62
theorem k_milepostref11_Open : Fn PP 62 := ⟨_, _, Tryz.func62, rfl, rfl⟩
abbrev N_milepostref17_Leaves : FuncId := 63
theorem f_milepostref17_Leaves : PP.funcs[63]? = some Tryz.f63 := Tryz.func63
theorem n_milepostref17_Leaves : Tryz.f63.ntmps = 20 := Tryz.ntmps63
theorem k_milepostref17_Leaves : Fn PP 63 := ⟨_, _, Tryz.func63, rfl, rfl⟩
abbrev N_milepostref22_Rule : FuncId := 64
theorem f_milepostref22_Rule : PP.funcs[64]? = some Tryz.f64 := Tryz.func64
theorem n_milepostref22_Rule : Tryz.f64.ntmps = 31 := Tryz.ntmps64
theorem k_milepostref22_Rule : Fn PP 64 := ⟨_, _, Tryz.func64, rfl, rfl⟩
abbrev N_down_Walk : FuncId := 65
theorem f_down_Walk : PP.funcs[65]? = some Tryz.f65 := Tryz.func65
theorem n_down_Walk : Tryz.f65.ntmps = 44 := Tryz.ntmps65
theorem k_down_Walk : Fn PP 65 := ⟨_, _, Tryz.func65, rfl, rfl⟩
abbrev N_slices_Reverse_int_int : FuncId := 66
theorem f_slices_Reverse_int_int : PP.funcs[66]? = some Tryz.f66 := Tryz.func66
theorem n_slices_Reverse_int_int : Tryz.f66.ntmps = 28 := Tryz.ntmps66
theorem k_slices_Reverse_int_int : Fn PP 66 := ⟨_, _, Tryz.func66, rfl, rfl⟩
abbrev N_milepostref22_Walk : FuncId := 67
theorem f_milepostref22_Walk : PP.funcs[67]? = some Tryz.f67 := Tryz.func67
theorem n_milepostref22_Walk : Tryz.f67.ntmps = 68 := Tryz.ntmps67
theorem k_milepostref22_Walk : Fn PP 67 := ⟨_, _, Tryz.func67, rfl, rfl⟩
abbrev N_txs_Open : FuncId := 68
theorem f_txs_Open : PP.funcs[68]? = some Tryz.f68 := Tryz.func68
theorem n_txs_Open : Tryz.f68.ntmps = 19 := Tryz.ntmps68
theorem k_txs_Open : Fn PP 68 := ⟨_, _, Tryz.func68, rfl, rfl⟩
abbrev N_way_around : FuncId := 69
theorem f_way_around : PP.funcs[69]? = some Tryz.f69 := Tryz.func69
theorem n_way_around : Tryz.f69.ntmps = 21 := Tryz.ntmps69
theorem k_way_around : Fn PP 69 := ⟨_, _, Tryz.func69, rfl, rfl⟩
abbrev N_way_inner : FuncId := 70
theorem f_way_inner : PP.funcs[70]? = some Tryz.f70 := Tryz.func70
theorem n_way_inner : Tryz.f70.ntmps = 73 := Tryz.ntmps70
theorem k_way_inner : Fn PP 70 := ⟨_, _, Tryz.func70, rfl, rfl⟩
abbrev N_milepostref22_OpenTx : FuncId := 71
theorem f_milepostref22_OpenTx : PP.funcs[71]? = some Tryz.f71 := Tryz.func71
theorem n_milepostref22_OpenTx : Tryz.f71.ntmps = 19 := Tryz.ntmps71
theorem k_milepostref22_OpenTx : Fn PP 71 := ⟨_, _, Tryz.func71, rfl, rfl⟩
abbrev N_milepostref11_Same : FuncId := 72
theorem f_milepostref11_Same : PP.funcs[72]? = some Tryz.f72 := Tryz.func72
theorem n_milepostref11_Same : Tryz.f72.ntmps = 24 := Tryz.ntmps72
theorem k_milepostref11_Same : Fn PP 72 := ⟨_, _, Tryz.func72, rfl, rfl⟩
abbrev N_anchor_Check : FuncId := 73
theorem f_anchor_Check : PP.funcs[73]? = some Tryz.f73 := Tryz.func73
theorem n_anchor_Check : Tryz.f73.ntmps = 23 := Tryz.ntmps73
theorem k_anchor_Check : Fn PP 73 := ⟨_, _, Tryz.func73, rfl, rfl⟩
abbrev N_valid_rules : FuncId := 74
theorem f_valid_rules : PP.funcs[74]? = some Tryz.f74 := Tryz.func74
theorem n_valid_rules : Tryz.f74.ntmps = 12 := Tryz.ntmps74
theorem k_valid_rules : Fn PP 74 := ⟨_, _, Tryz.func74, rfl, rfl⟩
abbrev N_tail_Check : FuncId := 75
theorem f_tail_Check : PP.funcs[75]? = some Tryz.f75 := Tryz.func75
theorem n_tail_Check : Tryz.f75.ntmps = 9 := Tryz.ntmps75
theorem k_tail_Check : Fn PP 75 := ⟨_, _, Tryz.func75, rfl, rfl⟩
abbrev N_within_place : FuncId := 76
theorem f_within_place : PP.funcs[76]? = some Tryz.f76 := Tryz.func76
theorem n_within_place : Tryz.f76.ntmps = 44 := Tryz.ntmps76
theorem k_within_place : Fn PP 76 := ⟨_, _, Tryz.func76, rfl, rfl⟩
abbrev N_within_inner : FuncId := 77
theorem f_within_inner : PP.funcs[77]? = some Tryz.f77 := Tryz.func77
theorem n_within_inner : Tryz.f77.ntmps = 59 := Tryz.ntmps77
theorem k_within_inner : Fn PP 77 := ⟨_, _, Tryz.func77, rfl, rfl⟩
abbrev N_txs_Check : FuncId := 78
theorem f_txs_Check : PP.funcs[78]? = some Tryz.f78 := Tryz.func78
theorem n_txs_Check : Tryz.f78.ntmps = 22 := Tryz.ntmps78
theorem k_txs_Check : Fn PP 78 := ⟨_, _, Tryz.func78, rfl, rfl⟩
abbrev N_block_Check : FuncId := 79
theorem f_block_Check : PP.funcs[79]? = some Tryz.f79 := Tryz.func79
theorem n_block_Check : Tryz.f79.ntmps = 31 := Tryz.ntmps79
theorem k_block_Check : Fn PP 79 := ⟨_, _, Tryz.func79, rfl, rfl⟩
abbrev N_work_Ok : FuncId := 80
theorem f_work_Ok : PP.funcs[80]? = some Tryz.f80 := Tryz.func80
theorem n_work_Ok : Tryz.f80.ntmps = 11 := Tryz.ntmps80
theorem k_work_Ok : Fn PP 80 := ⟨_, _, Tryz.func80, rfl, rfl⟩
abbrev N_inter_First : FuncId := 81
theorem f_inter_First : PP.funcs[81]? = some Tryz.f81 := Tryz.func81
theorem n_inter_First : Tryz.f81.ntmps = 5 := Tryz.ntmps81
theorem k_inter_First : Fn PP 81 := ⟨_, _, Tryz.func81, rfl, rfl⟩
abbrev N_inter_Next : FuncId := 82
theorem f_inter_Next : PP.funcs[82]? = some Tryz.f82 := Tryz.func82
theorem n_inter_Next : Tryz.f82.ntmps = 64 := Tryz.ntmps82
theorem k_inter_Next : Fn PP 82 := ⟨_, _, Tryz.func82, rfl, rfl⟩
abbrev N_wide_Of : FuncId := 83
theorem f_wide_Of : PP.funcs[83]? = some Tryz.f83 := Tryz.func83
theorem n_wide_Of : Tryz.f83.ntmps = 18 := Tryz.ntmps83
theorem k_wide_Of : Fn PP 83 := ⟨_, _, Tryz.func83, rfl, rfl⟩
abbrev N_wide_Cmp : FuncId := 84
theorem f_wide_Cmp : PP.funcs[84]? = some Tryz.f84 := Tryz.func84
theorem n_wide_Cmp : Tryz.f84.ntmps = 28 := Tryz.ntmps84
theorem k_wide_Cmp : Fn PP 84 := ⟨_, _, Tryz.func84, rfl, rfl⟩
abbrev N_wide_Shr : FuncId := 85
theorem f_wide_Shr : PP.funcs[85]? = some Tryz.f85 := Tryz.func85
theorem n_wide_Shr : Tryz.f85.ntmps = 59 := Tryz.ntmps85
theorem k_wide_Shr : Fn PP 85 := ⟨_, _, Tryz.func85, rfl, rfl⟩
abbrev N_ident_Id : FuncId := 86
theorem f_ident_Id : PP.funcs[86]? = some Tryz.f86 := Tryz.func86
theorem n_ident_Id : Tryz.f86.ntmps = 6 := Tryz.ntmps86
theorem k_ident_Id : Fn PP 86 := ⟨_, _, Tryz.func86, rfl, rfl⟩
abbrev N_up_each : FuncId := 87
theorem f_up_each : PP.funcs[87]? = some Tryz.f87 := Tryz.func87
theorem n_up_each : Tryz.f87.ntmps = 8 := Tryz.ntmps87
theorem k_up_each : Fn PP 87 := ⟨_, _, Tryz.func87, rfl, rfl⟩
abbrev N_good_Good : FuncId := 88
theorem f_good_Good : PP.funcs[88]? = some Tryz.f88 := Tryz.func88
theorem n_good_Good : Tryz.f88.ntmps = 25 := Tryz.ntmps88
theorem k_good_Good : Fn PP 88 := ⟨_, _, Tryz.func88, rfl, rfl⟩
abbrev N_milepostref22_Near : FuncId := 89
theorem f_milepostref22_Near : PP.funcs[89]? = some Tryz.f89 := Tryz.func89
theorem n_milepostref22_Near : Tryz.f89.ntmps = 28 := Tryz.ntmps89
theorem k_milepostref22_Near : Fn PP 89 := ⟨_, _, Tryz.func89, rfl, rfl⟩
abbrev N_milepostref38_Places : FuncId := 90
theorem f_milepostref38_Places : PP.funcs[90]? = some Tryz.f90 := Tryz.func90
theorem n_milepostref38_Places : Tryz.f90.ntmps = 31 := Tryz.ntmps90
theorem k_milepostref38_Places : Fn PP 90 := ⟨_, _, Tryz.func90, rfl, rfl⟩
abbrev N_milepostref47_Begin : FuncId := 91
theorem f_milepostref47_Begin : PP.funcs[91]? = some Tryz.f91 := Tryz.func91
theorem n_milepostref47_Begin : Tryz.f91.ntmps = 49 := Tryz.ntmps91
theorem k_milepostref47_Begin : Fn PP 91 := ⟨_, _, Tryz.func91, rfl, rfl⟩
abbrev N_milepostref17_Level : FuncId := 92
theorem f_milepostref17_Level : PP.funcs[92]? = some Tryz.f92 := Tryz.func92
theorem n_milepostref17_Level : Tryz.f92.ntmps = 26 := Tryz.ntmps92
theorem k_milepostref17_Level : Fn PP 92 := ⟨_, _, Tryz.func92, rfl, rfl⟩
abbrev N_milepostref17_Id : FuncId := 93
theorem f_milepostref17_Id : PP.funcs[93]? = some Tryz.f93 := Tryz.func93
theorem n_milepostref17_Id : Tryz.f93.ntmps = 7 := Tryz.ntmps93
theorem k_milepostref17_Id : Fn PP 93 := ⟨_, _, Tryz.func93, rfl, rfl⟩
abbrev N_milepostref22_CheckBlock : FuncId := 94
theorem f_milepostref22_CheckBlock : PP.funcs[94]? = some Tryz.f94 := Tryz.func94
theorem n_milepostref22_CheckBlock : Tryz.f94.ntmps = 34 := Tryz.ntmps94
theorem k_milepostref22_CheckBlock : Fn PP 94 := ⟨_, _, Tryz.func94, rfl, rfl⟩
abbrev N_milepostref17_Ok : FuncId := 95
theorem f_milepostref17_Ok : PP.funcs[95]? = some Tryz.f95 := Tryz.func95
theorem n_milepostref17_Ok : Tryz.f95.ntmps = 11 := Tryz.ntmps95
theorem k_milepostref17_Ok : Fn PP 95 := ⟨_, _, Tryz.func95, rfl, rfl⟩
abbrev N_milepostref06_May : FuncId := 96
theorem f_milepostref06_May : PP.funcs[96]? = some Tryz.f96 := Tryz.func96
theorem n_milepostref06_May : Tryz.f96.ntmps = 16 := Tryz.ntmps96
theorem k_milepostref06_May : Fn PP 96 := ⟨_, _, Tryz.func96, rfl, rfl⟩
abbrev N_open_Open : FuncId := 97
theorem f_open_Open : PP.funcs[97]? = some Tryz.f97 := Tryz.func97
theorem n_open_Open : Tryz.f97.ntmps = 29 := Tryz.ntmps97
theorem k_open_Open : Fn PP 97 := ⟨_, _, Tryz.func97, rfl, rfl⟩
abbrev N_link_texts : FuncId := 98
theorem f_link_texts : PP.funcs[98]? = some Tryz.f98 := Tryz.func98
theorem n_link_texts : Tryz.f98.ntmps = 19 := Tryz.ntmps98
theorem k_link_texts : Fn PP 98 := ⟨_, _, Tryz.func98, rfl, rfl⟩
abbrev N_milepostref11_path : FuncId := 99
theorem f_milepostref11_path : PP.funcs[99]? = some Tryz.f99 := Tryz.func99
theorem n_milepostref11_path : Tryz.f99.ntmps = 39 := Tryz.ntmps99
theorem k_milepostref11_path : Fn PP 99 := ⟨_, _, Tryz.func99, rfl, rfl⟩
abbrev N_milepostref11_Leaves : FuncId := 100
theorem f_milepostref11_Leaves : PP.funcs[100]? = some Tryz.f100 := Tryz.func100
theorem n_milepostref11_Leaves : Tryz.f100.ntmps = 20 := Tryz.ntmps100
theorem k_milepostref11_Leaves : Fn PP 100 := ⟨_, _, Tryz.func100, rfl, rfl⟩
abbrev N_milepostref17_Leaf : FuncId := 101
theorem f_milepostref17_Leaf : PP.funcs[101]? = some Tryz.f101 := Tryz.func101
theorem n_milepostref17_Leaf : Tryz.f101.ntmps = 6 := Tryz.ntmps101
theorem k_milepostref17_Leaf : Fn PP 101 := ⟨_, _, Tryz.func101, rfl, rfl⟩
abbrev N_milepostref17_Next : FuncId := 102
theorem f_milepostref17_Next : PP.funcs[102]? = some Tryz.f102 := Tryz.func102
theorem n_milepostref17_Next : Tryz.f102.ntmps = 64 := Tryz.ntmps102
theorem k_milepostref17_Next : Fn PP 102 := ⟨_, _, Tryz.func102, rfl, rfl⟩
abbrev N_down_far : FuncId := 103
theorem f_down_far : PP.funcs[103]? = some Tryz.f103 := Tryz.func103
theorem n_down_far : Tryz.f103.ntmps = 32 := Tryz.ntmps103
theorem k_down_far : Fn PP 103 := ⟨_, _, Tryz.func103, rfl, rfl⟩
abbrev N_txs_May : FuncId := 104
theorem f_txs_May : PP.funcs[104]? = some Tryz.f104 := Tryz.func104
theorem n_txs_May : Tryz.f104.ntmps = 18 := Tryz.ntmps104
theorem k_txs_May : Fn PP 104 := ⟨_, _, Tryz.func104, rfl, rfl⟩
abbrev N_txs_texts : FuncId := 105
theorem f_txs_texts : PP.funcs[105]? = some Tryz.f105 := Tryz.func105
theorem n_txs_texts : Tryz.f105.ntmps = 19 := Tryz.ntmps105
theorem k_txs_texts : Fn PP 105 := ⟨_, _, Tryz.func105, rfl, rfl⟩
abbrev N_milepostref22_MayTxs : FuncId := 106
theorem f_milepostref22_MayTxs : PP.funcs[106]? = some Tryz.f106 := Tryz.func106
theorem n_milepostref22_MayTxs : Tryz.f106.ntmps = 19 := Tryz.ntmps106
theorem k_milepostref22_MayTxs : Fn PP 106 := ⟨_, _, Tryz.func106, rfl, rfl⟩
abbrev N_milepostref22_Leaves : FuncId := 107
theorem f_milepostref22_Leaves : PP.funcs[107]? = some Tryz.f107 := Tryz.func107
theorem n_milepostref22_Leaves : Tryz.f107.ntmps = 20 := Tryz.ntmps107
theorem k_milepostref22_Leaves : Fn PP 107 := ⟨_, _, Tryz.func107, rfl, rfl⟩
abbrev N_milepostref11_Hashes : FuncId := 108
theorem f_milepostref11_Hashes : PP.funcs[108]? = some Tryz.f108 := Tryz.func108
theorem n_milepostref11_Hashes : Tryz.f108.ntmps = 26 := Tryz.ntmps108
theorem k_milepostref11_Hashes : Fn PP 108 := ⟨_, _, Tryz.func108, rfl, rfl⟩
abbrev N_open_None : FuncId := 109
theorem f_open_None : PP.funcs[109]? = some Tryz.f109 := Tryz.func109
theorem n_open_None : Tryz.f109.ntmps = 6 := Tryz.ntmps109
theorem k_open_None : Fn PP 109 := ⟨_, _, Tryz.func109, rfl, rfl⟩
abbrev N_valid_rules_1 : FuncId := 110
theorem f_valid_rules_1 : PP.funcs[110]? = some Tryz.f110 := Tryz.func110
theorem n_valid_rules_1 : Tryz.f110.ntmps = 20 := Tryz.ntmps110
theorem k_valid_rules_1 : Fn PP 110 := ⟨_, _, Tryz.func110, rfl, rfl⟩
abbrev N_valid_rules_2 : FuncId := 111
theorem f_valid_rules_2 : PP.funcs[111]? = some Tryz.f111 := Tryz.func111
theorem n_valid_rules_2 : Tryz.f111.ntmps = 14 := Tryz.ntmps111
theorem k_valid_rules_2 : Fn PP 111 := ⟨_, _, Tryz.func111, rfl, rfl⟩
abbrev N_valid_rules_3 : FuncId := 112
theorem f_valid_rules_3 : PP.funcs[112]? = some Tryz.f112 := Tryz.func112
theorem n_valid_rules_3 : Tryz.f112.ntmps = 19 := Tryz.ntmps112
theorem k_valid_rules_3 : Fn PP 112 := ⟨_, _, Tryz.func112, rfl, rfl⟩
abbrev N_join_Holds : FuncId := 113
theorem f_join_Holds : PP.funcs[113]? = some Tryz.f113 := Tryz.func113
theorem n_join_Holds : Tryz.f113.ntmps = 13 := Tryz.ntmps113
theorem k_join_Holds : Fn PP 113 := ⟨_, _, Tryz.func113, rfl, rfl⟩
abbrev N_tail_Len : FuncId := 114
theorem f_tail_Len : PP.funcs[114]? = some Tryz.f114 := Tryz.func114
theorem n_tail_Len : Tryz.f114.ntmps = 38 := Tryz.ntmps114
theorem k_tail_Len : Fn PP 114 := ⟨_, _, Tryz.func114, rfl, rfl⟩
abbrev N_within_one : FuncId := 115
theorem f_within_one : PP.funcs[115]? = some Tryz.f115 := Tryz.func115
theorem n_within_one : Tryz.f115.ntmps = 34 := Tryz.ntmps115
theorem k_within_one : Fn PP 115 := ⟨_, _, Tryz.func115, rfl, rfl⟩
abbrev N_hold_Check : FuncId := 116
theorem f_hold_Check : PP.funcs[116]? = some Tryz.f116 := Tryz.func116
theorem n_hold_Check : Tryz.f116.ntmps = 22 := Tryz.ntmps116
theorem k_hold_Check : Fn PP 116 := ⟨_, _, Tryz.func116, rfl, rfl⟩
abbrev N_txs_Text : FuncId := 117
theorem f_txs_Text : PP.funcs[117]? = some Tryz.f117 := Tryz.func117
theorem n_txs_Text : Tryz.f117.ntmps = 5 := Tryz.ntmps117
theorem k_txs_Text : Fn PP 117 := ⟨_, _, Tryz.func117, rfl, rfl⟩
abbrev N_block_Make : FuncId := 118
theorem f_block_Make : PP.funcs[118]? = some Tryz.f118 := Tryz.func118
theorem n_block_Make : Tryz.f118.ntmps = 21 := Tryz.ntmps118
theorem k_block_Make : Fn PP 118 := ⟨_, _, Tryz.func118, rfl, rfl⟩
abbrev N_word_Take64 : FuncId := 119
theorem f_word_Take64 : PP.funcs[119]? = some Tryz.f119 := Tryz.func119
theorem n_word_Take64 : Tryz.f119.ntmps = 8 := Tryz.ntmps119
theorem k_word_Take64 : Fn PP 119 := ⟨_, _, Tryz.func119, rfl, rfl⟩
abbrev N_tag_HeaderSum : FuncId := 120
theorem f_tag_HeaderSum : PP.funcs[120]? = some Tryz.f120 := Tryz.func120
theorem n_tag_HeaderSum : Tryz.f120.ntmps = 6 := Tryz.ntmps120
theorem k_tag_HeaderSum : Fn PP 120 := ⟨_, _, Tryz.func120, rfl, rfl⟩
abbrev N_head_Bytes : FuncId := 121
theorem f_head_Bytes : PP.funcs[121]? = some Tryz.f121 := Tryz.func121
theorem n_head_Bytes : Tryz.f121.ntmps = 18 := Tryz.ntmps121
theorem k_head_Bytes : Fn PP 121 := ⟨_, _, Tryz.func121, rfl, rfl⟩
abbrev N_up_each_1 : FuncId := 122
theorem f_up_each_1 : PP.funcs[122]? = some Tryz.f122 := Tryz.func122
theorem n_up_each_1 : Tryz.f122.ntmps = 26 := Tryz.ntmps122
theorem k_up_each_1 : Fn PP 122 := ⟨_, _, Tryz.func122, rfl, rfl⟩
abbrev N_good_Super : FuncId := 123
theorem f_good_Super : PP.funcs[123]? = some Tryz.f123 := Tryz.func123
theorem n_good_Super : Tryz.f123.ntmps = 43 := Tryz.ntmps123
theorem k_good_Super : Fn PP 123 := ⟨_, _, Tryz.func123, rfl, rfl⟩
abbrev N_good_Multi : FuncId := 124
theorem f_good_Multi : PP.funcs[124]? = some Tryz.f124 := Tryz.func124
theorem n_good_Multi : Tryz.f124.ntmps = 42 := Tryz.ntmps124
theorem k_good_Multi : Fn PP 124 := ⟨_, _, Tryz.func124, rfl, rfl⟩
abbrev N_milepostref38_Good : FuncId := 125
theorem f_milepostref38_Good : PP.funcs[125]? = some Tryz.f125 := Tryz.func125
theorem n_milepostref38_Good : Tryz.f125.ntmps = 25 := Tryz.ntmps125
theorem k_milepostref38_Good : Fn PP 125 := ⟨_, _, Tryz.func125, rfl, rfl⟩
abbrev N_milepostref04_Of : FuncId := 126
theorem f_milepostref04_Of : PP.funcs[126]? = some Tryz.f126 := Tryz.func126
theorem n_milepostref04_Of : Tryz.f126.ntmps = 28 := Tryz.ntmps126
theorem k_milepostref04_Of : Fn PP 126 := ⟨_, _, Tryz.func126, rfl, rfl⟩
abbrev N_milepostref04_Cmp : FuncId := 127
theorem f_milepostref04_Cmp : PP.funcs[127]? = some Tryz.f127 := Tryz.func127
theorem n_milepostref04_Cmp : Tryz.f127.ntmps = 26 := Tryz.ntmps127
theorem k_milepostref04_Cmp : Fn PP 127 := ⟨_, _, Tryz.func127, rfl, rfl⟩
abbrev N_milepostref04_Shr : FuncId := 128
theorem f_milepostref04_Shr : PP.funcs[128]? = some Tryz.f128 := Tryz.func128
theorem n_milepostref04_Shr : Tryz.f128.ntmps = 41 := Tryz.ntmps128
theorem k_milepostref04_Shr : Fn PP 128 := ⟨_, _, Tryz.func128, rfl, rfl⟩
abbrev N_milepostref02_Sum : FuncId := 129
theorem f_milepostref02_Sum : PP.funcs[129]? = some Tryz.f129 := Tryz.func129
theorem n_milepostref02_Sum : Tryz.f129.ntmps = 51 := Tryz.ntmps129
theorem k_milepostref02_Sum : Fn PP 129 := ⟨_, _, Tryz.func129, rfl, rfl⟩
abbrev N_milepostref03_HeaderText : FuncId := 130
theorem f_milepostref03_HeaderText : PP.funcs[130]? = some Tryz.f130 := Tryz.func130
theorem n_milepostref03_HeaderText : Tryz.f130.ntmps = 6 := Tryz.ntmps130
theorem k_milepostref03_HeaderText : Fn PP 130 := ⟨_, _, Tryz.func130, rfl, rfl⟩
abbrev N_milepostref17_Bytes : FuncId := 131
theorem f_milepostref17_Bytes : PP.funcs[131]? = some Tryz.f131 := Tryz.func131
theorem n_milepostref17_Bytes : Tryz.f131.ntmps = 19 := Tryz.ntmps131
theorem k_milepostref17_Bytes : Fn PP 131 := ⟨_, _, Tryz.func131, rfl, rfl⟩
abbrev N_milepostref17_Links : FuncId := 132
theorem f_milepostref17_Links : PP.funcs[132]? = some Tryz.f132 := Tryz.func132
theorem n_milepostref17_Links : Tryz.f132.ntmps = 6 := Tryz.ntmps132
theorem k_milepostref17_Links : Fn PP 132 := ⟨_, _, Tryz.func132, rfl, rfl⟩
abbrev N_milepostref22_Txs : FuncId := 133
theorem f_milepostref22_Txs : PP.funcs[133]? = some Tryz.f133 := Tryz.func133
theorem n_milepostref22_Txs : Tryz.f133.ntmps = 6 := Tryz.ntmps133
theorem k_milepostref22_Txs : Fn PP 133 := ⟨_, _, Tryz.func133, rfl, rfl⟩
abbrev N_open_path : FuncId := 134
theorem f_open_path : PP.funcs[134]? = some Tryz.f134 := Tryz.func134
theorem n_open_path : Tryz.f134.ntmps = 39 := Tryz.ntmps134
theorem k_open_path : Fn PP 134 := ⟨_, _, Tryz.func134, rfl, rfl⟩
abbrev N_tree_Leaves : FuncId := 135
theorem f_tree_Leaves : PP.funcs[135]? = some Tryz.f135 := Tryz.func135
theorem n_tree_Leaves : Tryz.f135.ntmps = 5 := Tryz.ntmps135
theorem k_tree_Leaves : Fn PP 135 := ⟨_, _, Tryz.func135, rfl, rfl⟩
abbrev N_link_Text : FuncId := 136
theorem f_link_Text : PP.funcs[136]? = some Tryz.f136 := Tryz.func136
theorem n_link_Text : Tryz.f136.ntmps = 6 := Tryz.ntmps136
theorem k_link_Text : Fn PP 136 := ⟨_, _, Tryz.func136, rfl, rfl⟩
abbrev N_milepostref11_Left : FuncId := 137
theorem f_milepostref11_Left : PP.funcs[137]? = some Tryz.f137 := Tryz.func137
theorem n_milepostref11_Left : Tryz.f137.ntmps = 16 := Tryz.ntmps137
theorem k_milepostref11_Left : Fn PP 137 := ⟨_, _, Tryz.func137, rfl, rfl⟩
abbrev N_milepostref11_Top : FuncId := 138
theorem f_milepostref11_Top : PP.funcs[138]? = some Tryz.f138 := Tryz.func138
theorem n_milepostref11_Top : Tryz.f138.ntmps = 26 := Tryz.ntmps138
theorem k_milepostref11_Top : Fn PP 138 := ⟨_, _, Tryz.func138, rfl, rfl⟩
abbrev N_milepostref03_Leaf : FuncId := 139
theorem f_milepostref03_Leaf : PP.funcs[139]? = some Tryz.f139 := Tryz.func139
theorem n_milepostref03_Leaf : Tryz.f139.ntmps = 6 := Tryz.ntmps139
theorem k_milepostref03_Leaf : Fn PP 139 := ⟨_, _, Tryz.func139, rfl, rfl⟩
abbrev N_milepostref03_Raw : FuncId := 140
theorem f_milepostref03_Raw : PP.funcs[140]? = some Tryz.f140 := Tryz.func140
theorem n_milepostref03_Raw : Tryz.f140.ntmps = 18 := Tryz.ntmps140
theorem k_milepostref03_Raw : Fn PP 140 := ⟨_, _, Tryz.func140, rfl, rfl⟩
abbrev N_open_Same : FuncId := 141
theorem f_open_Same : PP.funcs[141]? = some Tryz.f141 := Tryz.func141
theorem n_open_Same : Tryz.f141.ntmps = 45 := Tryz.ntmps141
theorem k_open_Same : Fn PP 141 := ⟨_, _, Tryz.func141, rfl, rfl⟩
abbrev N_link_Check : FuncId := 142
theorem f_link_Check : PP.funcs[142]? = some Tryz.f142 := Tryz.func142
theorem n_link_Check : Tryz.f142.ntmps = 17 := Tryz.ntmps142
theorem k_link_Check : Fn PP 142 := ⟨_, _, Tryz.func142, rfl, rfl⟩
abbrev N_rise_Next : FuncId := 143
theorem f_rise_Next : PP.funcs[143]? = some Tryz.f143 := Tryz.func143
theorem n_rise_Next : Tryz.f143.ntmps = 16 := Tryz.ntmps143
theorem k_rise_Next : Fn PP 143 := ⟨_, _, Tryz.func143, rfl, rfl⟩
abbrev N_hold_Root : FuncId := 144
theorem f_hold_Root : PP.funcs[144]? = some Tryz.f144 := Tryz.func144
theorem n_hold_Root : Tryz.f144.ntmps = 27 := Tryz.ntmps144
theorem k_hold_Root : Fn PP 144 := ⟨_, _, Tryz.func144, rfl, rfl⟩
abbrev N_link_Root : FuncId := 145
theorem f_link_Root : PP.funcs[145]? = some Tryz.f145 := Tryz.func145
theorem n_link_Root : Tryz.f145.ntmps = 6 := Tryz.ntmps145
theorem k_link_Root : Fn PP 145 := ⟨_, _, Tryz.func145, rfl, rfl⟩
abbrev N_txs_Root : FuncId := 146
theorem f_txs_Root : PP.funcs[146]? = some Tryz.f146 := Tryz.func146
theorem n_txs_Root : Tryz.f146.ntmps = 6 := Tryz.ntmps146
theorem k_txs_Root : Fn PP 146 := ⟨_, _, Tryz.func146, rfl, rfl⟩
abbrev N_word_take : FuncId := 147
theorem f_word_take : PP.funcs[147]? = some Tryz.f147 := Tryz.func147
theorem n_word_take : Tryz.f147.ntmps = 41 := Tryz.ntmps147
theorem k_word_take : Fn PP 147 := ⟨_, _, Tryz.func147, rfl, rfl⟩
abbrev N_sha_Sum : FuncId := 148
theorem f_sha_Sum : PP.funcs[148]? = some Tryz.f148 := Tryz.func148
theorem n_sha_Sum : Tryz.f148.ntmps = 10 := Tryz.ntmps148
theorem k_sha_Sum : Fn PP 148 := ⟨_, _, Tryz.func148, rfl, rfl⟩
abbrev N_tag_HeaderText : FuncId := 149
theorem f_tag_HeaderText : PP.funcs[149]? = some Tryz.f149 := Tryz.func149
theorem n_tag_HeaderText : Tryz.f149.ntmps = 6 := Tryz.ntmps149
theorem k_tag_HeaderText : Fn PP 149 := ⟨_, _, Tryz.func149, rfl, rfl⟩
abbrev N_word_Put32 : FuncId := 150
theorem f_word_Put32 : PP.funcs[150]? = some Tryz.f150 := Tryz.func150
theorem n_word_Put32 : Tryz.f150.ntmps = 6 := Tryz.ntmps150
theorem k_word_Put32 : Fn PP 150 := ⟨_, _, Tryz.func150, rfl, rfl⟩
abbrev N_word_Put64 : FuncId := 151
theorem f_word_Put64 : PP.funcs[151]? = some Tryz.f151 := Tryz.func151
theorem n_word_Put64 : Tryz.f151.ntmps = 5 := Tryz.ntmps151
theorem k_word_Put64 : Fn PP 151 := ⟨_, _, Tryz.func151, rfl, rfl⟩
abbrev N_good_Local : FuncId := 152
theorem f_good_Local : PP.funcs[152]? = some Tryz.f152 := Tryz.func152
theorem n_good_Local : Tryz.f152.ntmps = 35 := Tryz.ntmps152
theorem k_good_Local : Fn PP 152 := ⟨_, _, Tryz.func152, rfl, rfl⟩
abbrev N_good_counts : FuncId := 153
theorem f_good_counts : PP.funcs[153]? = some Tryz.f153 := Tryz.func153
theorem n_good_counts : Tryz.f153.ntmps = 39 := Tryz.ntmps153
theorem k_good_counts : Fn PP 153 := ⟨_, _, Tryz.func153, rfl, rfl⟩
abbrev N_good_stretches : FuncId := 154
theorem f_good_stretches : PP.funcs[154]? = some Tryz.f154 := Tryz.func154
theorem n_good_stretches : Tryz.f154.ntmps = 63 := Tryz.ntmps154
theorem k_good_stretches : Fn PP 154 := ⟨_, _, Tryz.func154, rfl, rfl⟩
abbrev N_milepostref38_Super : FuncId := 155
theorem f_milepostref38_Super : PP.funcs[155]? = some Tryz.f155 := Tryz.func155
theorem n_milepostref38_Super : Tryz.f155.ntmps = 52 := Tryz.ntmps155
theorem k_milepostref38_Super : Fn PP 155 := ⟨_, _, Tryz.func155, rfl, rfl⟩
abbrev N_milepostref38_Multi : FuncId := 156
theorem f_milepostref38_Multi : PP.funcs[156]? = some Tryz.f156 := Tryz.func156
theorem n_milepostref38_Multi : Tryz.f156.ntmps = 74 := Tryz.ntmps156
theorem k_milepostref38_Multi : Fn PP 156 := ⟨_, _, Tryz.func156, rfl, rfl⟩
abbrev N_milepostref02_First : FuncId := 157
theorem f_milepostref02_First : PP.funcs[157]? = some Tryz.f157 := Tryz.func157
theorem n_milepostref02_First : Tryz.f157.ntmps = 2 := Tryz.ntmps157
theorem k_milepostref02_First : Fn PP 157 := ⟨_, _, Tryz.func157, rfl, rfl⟩
abbrev N_milepostref02_Pad : FuncId := 158
theorem f_milepostref02_Pad : PP.funcs[158]? = some Tryz.f158 := Tryz.func158
theorem n_milepostref02_Pad : Tryz.f158.ntmps = 22 := Tryz.ntmps158
theorem k_milepostref02_Pad : Fn PP 158 := ⟨_, _, Tryz.func158, rfl, rfl⟩
abbrev N_milepostref02_Mix : FuncId := 159
theorem f_milepostref02_Mix : PP.funcs[159]? = some Tryz.f159 := Tryz.func159
theorem n_milepostref02_Mix : Tryz.f159.ntmps = 110 := Tryz.ntmps159
theorem k_milepostref02_Mix : Fn PP 159 := ⟨_, _, Tryz.func159, rfl, rfl⟩
abbrev N_milepostref01_Put : FuncId := 160
theorem f_milepostref01_Put : PP.funcs[160]? = some Tryz.f160 := Tryz.func160
theorem n_milepostref01_Put : Tryz.f160.ntmps = 21 := Tryz.ntmps160
theorem k_milepostref01_Put : Fn PP 160 := ⟨_, _, Tryz.func160, rfl, rfl⟩
abbrev N_milepostref01_Byte : FuncId := 161
theorem f_milepostref01_Byte : PP.funcs[161]? = some Tryz.f161 := Tryz.func161
theorem n_milepostref01_Byte : Tryz.f161.ntmps = 7 := Tryz.ntmps161
theorem k_milepostref01_Byte : Fn PP 161 := ⟨_, _, Tryz.func161, rfl, rfl⟩
abbrev N_milepostref11_Root : FuncId := 162
theorem f_milepostref11_Root : PP.funcs[162]? = some Tryz.f162 := Tryz.func162
theorem n_milepostref11_Root : Tryz.f162.ntmps = 10 := Tryz.ntmps162
theorem k_milepostref11_Root : Fn PP 162 := ⟨_, _, Tryz.func162, rfl, rfl⟩
abbrev N_shape_Left : FuncId := 163
theorem f_shape_Left : PP.funcs[163]? = some Tryz.f163 := Tryz.func163
theorem n_shape_Left : Tryz.f163.ntmps = 14 := Tryz.ntmps163
theorem k_shape_Left : Fn PP 163 := ⟨_, _, Tryz.func163, rfl, rfl⟩
abbrev N_tree_Top : FuncId := 164
theorem f_tree_Top : PP.funcs[164]? = some Tryz.f164 := Tryz.func164
theorem n_tree_Top : Tryz.f164.ntmps = 25 := Tryz.ntmps164
theorem k_tree_Top : Fn PP 164 := ⟨_, _, Tryz.func164, rfl, rfl⟩
abbrev N_tree_each_string_api_Hash : FuncId := 165
theorem f_tree_each_string_api_Hash : PP.funcs[165]? = some Tryz.f165 := Tryz.func165
theorem n_tree_each_string_api_Hash : Tryz.f165.ntmps = 22 := Tryz.ntmps165
theorem k_tree_each_string_api_Hash : Fn PP 165 := ⟨_, _, Tryz.func165, rfl, rfl⟩
abbrev N_tag_LeafSum : FuncId := 166
theorem f_tag_LeafSum : PP.funcs[166]? = some Tryz.f166 := Tryz.func166
theorem n_tag_LeafSum : Tryz.f166.ntmps = 6 := Tryz.ntmps166
theorem k_tag_LeafSum : Fn PP 166 := ⟨_, _, Tryz.func166, rfl, rfl⟩
abbrev N_milepostref03_Node : FuncId := 167
theorem f_milepostref03_Node : PP.funcs[167]? = some Tryz.f167 := Tryz.func167
theorem n_milepostref03_Node : Tryz.f167.ntmps = 9 := Tryz.ntmps167
theorem k_milepostref03_Node : Fn PP 167 := ⟨_, _, Tryz.func167, rfl, rfl⟩
abbrev N_milepostref03_LeafText : FuncId := 168
theorem f_milepostref03_LeafText : PP.funcs[168]? = some Tryz.f168 := Tryz.func168
theorem n_milepostref03_LeafText : Tryz.f168.ntmps = 6 := Tryz.ntmps168
theorem k_milepostref03_LeafText : Fn PP 168 := ⟨_, _, Tryz.func168, rfl, rfl⟩
abbrev N_hold_May : FuncId := 169
theorem f_hold_May : PP.funcs[169]? = some Tryz.f169 := Tryz.func169
theorem n_hold_May : Tryz.f169.ntmps = 34 := Tryz.ntmps169
theorem k_hold_May : Fn PP 169 := ⟨_, _, Tryz.func169, rfl, rfl⟩
abbrev N_hold_Up : FuncId := 170
theorem f_hold_Up : PP.funcs[170]? = some Tryz.f170 := Tryz.func170
theorem n_hold_Up : Tryz.f170.ntmps = 48 := Tryz.ntmps170
theorem k_hold_Up : Fn PP 170 := ⟨_, _, Tryz.func170, rfl, rfl⟩
abbrev N_tag_RootSum : FuncId := 171
theorem f_tag_RootSum : PP.funcs[171]? = some Tryz.f171 := Tryz.func171
theorem n_tag_RootSum : Tryz.f171.ntmps = 9 := Tryz.ntmps171
theorem k_tag_RootSum : Fn PP 171 := ⟨_, _, Tryz.func171, rfl, rfl⟩
abbrev N_tree_Root : FuncId := 172
theorem f_tree_Root : PP.funcs[172]? = some Tryz.f172 := Tryz.func172
theorem n_tree_Root : Tryz.f172.ntmps = 10 := Tryz.ntmps172
theorem k_tree_Root : Fn PP 172 := ⟨_, _, Tryz.func172, rfl, rfl⟩
abbrev N_sha_New : FuncId := 173
theorem f_sha_New : PP.funcs[173]? = some Tryz.f173 := Tryz.func173
theorem n_sha_New : Tryz.f173.ntmps = 3 := Tryz.ntmps173
theorem k_sha_New : Fn PP 173 := ⟨_, _, Tryz.func173, rfl, rfl⟩
abbrev N_sha_State_Write : FuncId := 174
theorem f_sha_State_Write : PP.funcs[174]? = some Tryz.f174 := Tryz.func174
theorem n_sha_State_Write : Tryz.f174.ntmps = 72 := Tryz.ntmps174
theorem k_sha_State_Write : Fn PP 174 := ⟨_, _, Tryz.func174, rfl, rfl⟩
abbrev N_sha_State_Sum : FuncId := 175
theorem f_sha_State_Sum : PP.funcs[175]? = some Tryz.f175 := Tryz.func175
theorem n_sha_State_Sum : Tryz.f175.ntmps = 37 := Tryz.ntmps175
theorem k_sha_State_Sum : Fn PP 175 := ⟨_, _, Tryz.func175, rfl, rfl⟩
abbrev N_tag_Text : FuncId := 176
theorem f_tag_Text : PP.funcs[176]? = some Tryz.f176 := Tryz.func176
theorem n_tag_Text : Tryz.f176.ntmps = 11 := Tryz.ntmps176
theorem k_tag_Text : Fn PP 176 := ⟨_, _, Tryz.func176, rfl, rfl⟩
abbrev N_word_put : FuncId := 177
theorem f_word_put : PP.funcs[177]? = some Tryz.f177 := Tryz.func177
theorem n_word_put : Tryz.f177.ntmps = 26 := Tryz.ntmps177
theorem k_word_put : Fn PP 177 := ⟨_, _, Tryz.func177, rfl, rfl⟩
abbrev N_ratio_Above : FuncId := 178
theorem f_ratio_Above : PP.funcs[178]? = some Tryz.f178 := Tryz.func178
theorem n_ratio_Above : Tryz.f178.ntmps = 31 := Tryz.ntmps178
theorem k_ratio_Above : Fn PP 178 := ⟨_, _, Tryz.func178, rfl, rfl⟩
abbrev N_ratio_Least : FuncId := 179
theorem f_ratio_Least : PP.funcs[179]? = some Tryz.f179 := Tryz.func179
theorem n_ratio_Least : Tryz.f179.ntmps = 31 := Tryz.ntmps179
theorem k_ratio_Least : Fn PP 179 := ⟨_, _, Tryz.func179, rfl, rfl⟩
abbrev N_milepostref38_Count : FuncId := 180
theorem f_milepostref38_Count : PP.funcs[180]? = some Tryz.f180 := Tryz.func180
theorem n_milepostref38_Count : Tryz.f180.ntmps = 22 := Tryz.ntmps180
theorem k_milepostref38_Count : Fn PP 180 := ⟨_, _, Tryz.func180, rfl, rfl⟩
abbrev N_milepostref38_Local : FuncId := 181
theorem f_milepostref38_Local : PP.funcs[181]? = some Tryz.f181 := Tryz.func181
theorem n_milepostref38_Local : Tryz.f181.ntmps = 36 := Tryz.ntmps181
theorem k_milepostref38_Local : Fn PP 181 := ⟨_, _, Tryz.func181, rfl, rfl⟩
abbrev N_milepostref06_Cmp : FuncId := 182
theorem f_milepostref06_Cmp : PP.funcs[182]? = some Tryz.f182 := Tryz.func182
theorem n_milepostref06_Cmp : Tryz.f182.ntmps = 75 := Tryz.ntmps182
theorem k_milepostref06_Cmp : Fn PP 182 := ⟨_, _, Tryz.func182, rfl, rfl⟩
abbrev N_milepostref02_Spread : FuncId := 183
theorem f_milepostref02_Spread : PP.funcs[183]? = some Tryz.f183 := Tryz.func183
theorem n_milepostref02_Spread : Tryz.f183.ntmps = 61 := Tryz.ntmps183
theorem k_milepostref02_Spread : Fn PP 183 := ⟨_, _, Tryz.func183, rfl, rfl⟩
abbrev N_milepostref02_turn : FuncId := 184
theorem f_milepostref02_turn : PP.funcs[184]? = some Tryz.f184 := Tryz.func184
theorem n_milepostref02_turn : Tryz.f184.ntmps = 13 := Tryz.ntmps184
theorem k_milepostref02_turn : Fn PP 184 := ⟨_, _, Tryz.func184, rfl, rfl⟩
abbrev N_milepostref02_number : FuncId := 185
theorem f_milepostref02_number : PP.funcs[185]? = some Tryz.f185 := Tryz.func185
theorem n_milepostref02_number : Tryz.f185.ntmps = 9 := Tryz.ntmps185
theorem k_milepostref02_number : Fn PP 185 := ⟨_, _, Tryz.func185, rfl, rfl⟩
abbrev N_milepostref03_Root : FuncId := 186
theorem f_milepostref03_Root : PP.funcs[186]? = some Tryz.f186 := Tryz.func186
theorem n_milepostref03_Root : Tryz.f186.ntmps = 9 := Tryz.ntmps186
theorem k_milepostref03_Root : Fn PP 186 := ⟨_, _, Tryz.func186, rfl, rfl⟩
abbrev N_tree_parted_api_Hash : FuncId := 187
theorem f_tree_parted_api_Hash : PP.funcs[187]? = some Tryz.f187 := Tryz.func187
theorem n_tree_parted_api_Hash : Tryz.f187.ntmps = 14 := Tryz.ntmps187
theorem k_tree_parted_api_Hash : Fn PP 187 := ⟨_, _, Tryz.func187, rfl, rfl⟩
abbrev N_tag_NodeSum : FuncId := 188
theorem f_tag_NodeSum : PP.funcs[188]? = some Tryz.f188 := Tryz.func188
theorem n_tag_NodeSum : Tryz.f188.ntmps = 9 := Tryz.ntmps188
theorem k_tag_NodeSum : Fn PP 188 := ⟨_, _, Tryz.func188, rfl, rfl⟩
abbrev N_tag_LeafText : FuncId := 189
theorem f_tag_LeafText : PP.funcs[189]? = some Tryz.f189 := Tryz.func189
theorem n_tag_LeafText : Tryz.f189.ntmps = 6 := Tryz.ntmps189
theorem k_tag_LeafText : Fn PP 189 := ⟨_, _, Tryz.func189, rfl, rfl⟩
abbrev N_milepostref03_NodeText : FuncId := 190
theorem f_milepostref03_NodeText : PP.funcs[190]? = some Tryz.f190 := Tryz.func190
theorem n_milepostref03_NodeText : Tryz.f190.ntmps = 12 := Tryz.ntmps190
theorem k_milepostref03_NodeText : Fn PP 190 := ⟨_, _, Tryz.func190, rfl, rfl⟩
abbrev N_shape_Depth : FuncId := 191
theorem f_shape_Depth : PP.funcs[191]? = some Tryz.f191 := Tryz.func191
theorem n_shape_Depth : Tryz.f191.ntmps = 16 := Tryz.ntmps191
theorem k_shape_Depth : Fn PP 191 := ⟨_, _, Tryz.func191, rfl, rfl⟩
abbrev N_shape_Sides : FuncId := 192
theorem f_shape_Sides : PP.funcs[192]? = some Tryz.f192 := Tryz.func192
theorem n_shape_Sides : Tryz.f192.ntmps = 22 := Tryz.ntmps192
theorem k_shape_Sides : Fn PP 192 := ⟨_, _, Tryz.func192, rfl, rfl⟩
abbrev N_tag_RootText : FuncId := 193
theorem f_tag_RootText : PP.funcs[193]? = some Tryz.f193 := Tryz.func193
theorem n_tag_RootText : Tryz.f193.ntmps = 11 := Tryz.ntmps193
theorem k_tag_RootText : Fn PP 193 := ⟨_, _, Tryz.func193, rfl, rfl⟩
abbrev N_sha_First : FuncId := 194
theorem f_sha_First : PP.funcs[194]? = some Tryz.f194 := Tryz.func194
theorem n_sha_First : Tryz.f194.ntmps = 2 := Tryz.ntmps194
theorem k_sha_First : Fn PP 194 := ⟨_, _, Tryz.func194, rfl, rfl⟩
abbrev N_sha_Mix : FuncId := 195
theorem f_sha_Mix : PP.funcs[195]? = some Tryz.f195 := Tryz.func195
theorem n_sha_Mix : Tryz.f195.ntmps = 122 := Tryz.ntmps195
theorem k_sha_Mix : Fn PP 195 := ⟨_, _, Tryz.func195, rfl, rfl⟩
abbrev N_sha_Pad : FuncId := 196
theorem f_sha_Pad : PP.funcs[196]? = some Tryz.f196 := Tryz.func196
theorem n_sha_Pad : Tryz.f196.ntmps = 16 := Tryz.ntmps196
theorem k_sha_Pad : Fn PP 196 := ⟨_, _, Tryz.func196, rfl, rfl⟩
abbrev N_strings_Join : FuncId := 197
theorem f_strings_Join : PP.funcs[197]? = some Tryz.f197 := Tryz.func197
theorem n_strings_Join : Tryz.f197.ntmps = 75 := Tryz.ntmps197
theorem k_strings_Join : Fn PP 197 := ⟨_, _, Tryz.func197, rfl, rfl⟩
abbrev N_ratio_sides : FuncId := 198
theorem f_ratio_sides : PP.funcs[198]? = some Tryz.f198 := Tryz.func198
theorem n_ratio_sides : Tryz.f198.ntmps = 43 := Tryz.ntmps198
theorem k_ratio_sides : Fn PP 198 := ⟨_, _, Tryz.func198, rfl, rfl⟩
abbrev N_large_Cmp : FuncId := 199
theorem f_large_Cmp : PP.funcs[199]? = some Tryz.f199 := Tryz.func199
theorem n_large_Cmp : Tryz.f199.ntmps = 26 := Tryz.ntmps199
theorem k_large_Cmp : Fn PP 199 := ⟨_, _, Tryz.func199, rfl, rfl⟩
abbrev N_milepostref05_Mul : FuncId := 200
theorem f_milepostref05_Mul : PP.funcs[200]? = some Tryz.f200 := Tryz.func200
theorem n_milepostref05_Mul : Tryz.f200.ntmps = 67 := Tryz.ntmps200
theorem k_milepostref05_Mul : Fn PP 200 := ⟨_, _, Tryz.func200, rfl, rfl⟩
abbrev N_milepostref05_Of : FuncId := 201
theorem f_milepostref05_Of : PP.funcs[201]? = some Tryz.f201 := Tryz.func201
theorem n_milepostref05_Of : Tryz.f201.ntmps = 6 := Tryz.ntmps201
theorem k_milepostref05_Of : Fn PP 201 := ⟨_, _, Tryz.func201, rfl, rfl⟩
abbrev N_milepostref05_Power : FuncId := 202
theorem f_milepostref05_Power : PP.funcs[202]? = some Tryz.f202 := Tryz.func202
theorem n_milepostref05_Power : Tryz.f202.ntmps = 16 := Tryz.ntmps202
theorem k_milepostref05_Power : Fn PP 202 := ⟨_, _, Tryz.func202, rfl, rfl⟩
abbrev N_milepostref05_Cmp : FuncId := 203
theorem f_milepostref05_Cmp : PP.funcs[203]? = some Tryz.f203 := Tryz.func203
theorem n_milepostref05_Cmp : Tryz.f203.ntmps = 41 := Tryz.ntmps203
theorem k_milepostref05_Cmp : Fn PP 203 := ⟨_, _, Tryz.func203, rfl, rfl⟩
abbrev N_milepostref01_Take : FuncId := 204
theorem f_milepostref01_Take : PP.funcs[204]? = some Tryz.f204 := Tryz.func204
theorem n_milepostref01_Take : Tryz.f204.ntmps = 41 := Tryz.ntmps204
theorem k_milepostref01_Take : Fn PP 204 := ⟨_, _, Tryz.func204, rfl, rfl⟩
abbrev N_milepostref03_RootText : FuncId := 205
theorem f_milepostref03_RootText : PP.funcs[205]? = some Tryz.f205 := Tryz.func205
theorem n_milepostref03_RootText : Tryz.f205.ntmps = 12 := Tryz.ntmps205
theorem k_milepostref03_RootText : Fn PP 205 := ⟨_, _, Tryz.func205, rfl, rfl⟩
abbrev N_tag_NodeText : FuncId := 206
theorem f_tag_NodeText : PP.funcs[206]? = some Tryz.f206 := Tryz.func206
theorem n_tag_NodeText : Tryz.f206.ntmps = 11 := Tryz.ntmps206
theorem k_tag_NodeText : Fn PP 206 := ⟨_, _, Tryz.func206, rfl, rfl⟩
abbrev N_shape_Sides_1 : FuncId := 207
theorem f_shape_Sides_1 : PP.funcs[207]? = some Tryz.f207 := Tryz.func207
theorem n_shape_Sides_1 : Tryz.f207.ntmps = 8 := Tryz.ntmps207
theorem k_shape_Sides_1 : Fn PP 207 := ⟨_, _, Tryz.func207, rfl, rfl⟩
abbrev N_shape_down : FuncId := 208
theorem f_shape_down : PP.funcs[208]? = some Tryz.f208 := Tryz.func208
theorem n_shape_down : Tryz.f208.ntmps = 27 := Tryz.ntmps208
theorem k_shape_down : Fn PP 208 := ⟨_, _, Tryz.func208, rfl, rfl⟩
abbrev N_sha_Spread : FuncId := 209
theorem f_sha_Spread : PP.funcs[209]? = some Tryz.f209 := Tryz.func209
theorem n_sha_Spread : Tryz.f209.ntmps = 61 := Tryz.ntmps209
theorem k_sha_Spread : Fn PP 209 := ⟨_, _, Tryz.func209, rfl, rfl⟩
abbrev N_sha_rounds : FuncId := 210
theorem f_sha_rounds : PP.funcs[210]? = some Tryz.f210 := Tryz.func210
theorem n_sha_rounds : Tryz.f210.ntmps = 2 := Tryz.ntmps210
theorem k_sha_rounds : Fn PP 210 := ⟨_, _, Tryz.func210, rfl, rfl⟩
abbrev N_word_Rot : FuncId := 211
theorem f_word_Rot : PP.funcs[211]? = some Tryz.f211 := Tryz.func211
theorem n_word_Rot : Tryz.f211.ntmps = 17 := Tryz.ntmps211
theorem k_word_Rot : Fn PP 211 := ⟨_, _, Tryz.func211, rfl, rfl⟩
abbrev N_strings_Repeat : FuncId := 212
theorem f_strings_Repeat : PP.funcs[212]? = some Tryz.f212 := Tryz.func212
theorem n_strings_Repeat : Tryz.f212.ntmps = 125 := Tryz.ntmps212
theorem k_strings_Repeat : Fn PP 212 := ⟨_, _, Tryz.func212, rfl, rfl⟩
abbrev N_strings_Builder_Grow : FuncId := 213
theorem f_strings_Builder_Grow : PP.funcs[213]? = some Tryz.f213 := Tryz.func213
theorem n_strings_Builder_Grow : Tryz.f213.ntmps = 25 := Tryz.ntmps213
theorem k_strings_Builder_Grow : Fn PP 213 := ⟨_, _, Tryz.func213, rfl, rfl⟩
abbrev N_strings_Builder_WriteString : FuncId := 214
theorem f_strings_Builder_WriteString : PP.funcs[214]? = some Tryz.f214 := Tryz.func214
theorem n_strings_Builder_WriteString : Tryz.f214.ntmps = 19 := Tryz.ntmps214
theorem k_strings_Builder_WriteString : Fn PP 214 := ⟨_, _, Tryz.func214, rfl, rfl⟩
abbrev N_strings_Builder_String : FuncId := 215
theorem f_strings_Builder_String : PP.funcs[215]? = some Tryz.f215 := Tryz.func215
theorem n_strings_Builder_String : Tryz.f215.ntmps = 14 := Tryz.ntmps215
theorem k_strings_Builder_String : Fn PP 215 := ⟨_, _, Tryz.func215, rfl, rfl⟩
abbrev N_ratio_Product : FuncId := 216
theorem f_ratio_Product : PP.funcs[216]? = some Tryz.f216 := Tryz.func216
theorem n_ratio_Product : Tryz.f216.ntmps = 31 := Tryz.ntmps216
theorem k_ratio_Product : Fn PP 216 := ⟨_, _, Tryz.func216, rfl, rfl⟩
abbrev N_milepostref05_trim : FuncId := 217
theorem f_milepostref05_trim : PP.funcs[217]? = some Tryz.f217 := Tryz.func217
theorem n_milepostref05_trim : Tryz.f217.ntmps = 21 := Tryz.ntmps217
theorem k_milepostref05_trim : Fn PP 217 := ⟨_, _, Tryz.func217, rfl, rfl⟩
abbrev N_milepostref05_Limbs : FuncId := 218
theorem f_milepostref05_Limbs : PP.funcs[218]? = some Tryz.f218 := Tryz.func218
theorem n_milepostref05_Limbs : Tryz.f218.ntmps = 31 := Tryz.ntmps218
theorem k_milepostref05_Limbs : Fn PP 218 := ⟨_, _, Tryz.func218, rfl, rfl⟩
abbrev N_word_Take32 : FuncId := 219
theorem f_word_Take32 : PP.funcs[219]? = some Tryz.f219 := Tryz.func219
theorem n_word_Take32 : Tryz.f219.ntmps = 9 := Tryz.ntmps219
theorem k_word_Take32 : Fn PP 219 := ⟨_, _, Tryz.func219, rfl, rfl⟩
abbrev N_math_bits_Mul : FuncId := 220
theorem f_math_bits_Mul : PP.funcs[220]? = some Tryz.f220 := Tryz.func220
theorem n_math_bits_Mul : Tryz.f220.ntmps = 30 := Tryz.ntmps220
theorem k_math_bits_Mul : Fn PP 220 := ⟨_, _, Tryz.func220, rfl, rfl⟩
abbrev N_strings_HasPrefix : FuncId := 221
theorem f_strings_HasPrefix : PP.funcs[221]? = some Tryz.f221 := Tryz.func221
theorem n_strings_HasPrefix : Tryz.f221.ntmps = 8 := Tryz.ntmps221
theorem k_strings_HasPrefix : Fn PP 221 := ⟨_, _, Tryz.func221, rfl, rfl⟩
abbrev N_strings_Builder_Len : FuncId := 222
theorem f_strings_Builder_Len : PP.funcs[222]? = some Tryz.f222 := Tryz.func222
theorem n_strings_Builder_Len : Tryz.f222.ntmps = 8 := Tryz.ntmps222
theorem k_strings_Builder_Len : Fn PP 222 := ⟨_, _, Tryz.func222, rfl, rfl⟩
abbrev N_strings_Builder_copyCheck : FuncId := 223
theorem f_strings_Builder_copyCheck : PP.funcs[223]? = some Tryz.f223 := Tryz.func223
theorem n_strings_Builder_copyCheck : Tryz.f223.ntmps = 20 := Tryz.ntmps223
theorem k_strings_Builder_copyCheck : Fn PP 223 := ⟨_, _, Tryz.func223, rfl, rfl⟩
abbrev N_strings_Builder_grow : FuncId := 224
theorem f_strings_Builder_grow : PP.funcs[224]? = some Tryz.f224 := Tryz.func224
theorem n_strings_Builder_grow : Tryz.f224.ntmps = 30 := Tryz.ntmps224
theorem k_strings_Builder_grow : Fn PP 224 := ⟨_, _, Tryz.func224, rfl, rfl⟩
abbrev N_large_Mul : FuncId := 225
theorem f_large_Mul : PP.funcs[225]? = some Tryz.f225 := Tryz.func225
theorem n_large_Mul : Tryz.f225.ntmps = 42 := Tryz.ntmps225
theorem k_large_Mul : Fn PP 225 := ⟨_, _, Tryz.func225, rfl, rfl⟩
abbrev N_large_Of : FuncId := 226
theorem f_large_Of : PP.funcs[226]? = some Tryz.f226 := Tryz.func226
theorem n_large_Of : Tryz.f226.ntmps = 5 := Tryz.ntmps226
theorem k_large_Of : Fn PP 226 := ⟨_, _, Tryz.func226, rfl, rfl⟩
abbrev N_large_Shl : FuncId := 227
theorem f_large_Shl : PP.funcs[227]? = some Tryz.f227 := Tryz.func227
theorem n_large_Shl : Tryz.f227.ntmps = 70 := Tryz.ntmps227
theorem k_large_Shl : Fn PP 227 := ⟨_, _, Tryz.func227, rfl, rfl⟩
abbrev N_math_bits_Mul32 : FuncId := 228
theorem f_math_bits_Mul32 : PP.funcs[228]? = some Tryz.f228 := Tryz.func228
theorem n_math_bits_Mul32 : Tryz.f228.ntmps = 17 := Tryz.ntmps228
theorem k_math_bits_Mul32 : Fn PP 228 := ⟨_, _, Tryz.func228, rfl, rfl⟩
abbrev N_math_bits_Mul64 : FuncId := 229
theorem f_math_bits_Mul64 : PP.funcs[229]? = some Tryz.f229 := Tryz.func229
theorem n_math_bits_Mul64 : Tryz.f229.ntmps = 51 := Tryz.ntmps229
theorem k_math_bits_Mul64 : Fn PP 229 := ⟨_, _, Tryz.func229, rfl, rfl⟩
abbrev N_internal_stringslite_HasPrefix : FuncId := 230
theorem f_internal_stringslite_HasPrefix : PP.funcs[230]? = some Tryz.f230 := Tryz.func230
theorem n_internal_stringslite_HasPrefix : Tryz.f230.ntmps = 18 := Tryz.ntmps230
theorem k_internal_stringslite_HasPrefix : Fn PP 230 := ⟨_, _, Tryz.func230, rfl, rfl⟩
abbrev N_large_half : FuncId := 233
theorem f_large_half : PP.funcs[233]? = some Tryz.f233 := Tryz.func233
theorem n_large_half : Tryz.f233.ntmps = 44 := Tryz.ntmps233
theorem k_large_half : Fn PP 233 := ⟨_, _, Tryz.func233, rfl, rfl⟩
abbrev N_large_Add : FuncId := 234
theorem f_large_Add : PP.funcs[234]? = some Tryz.f234 := Tryz.func234
theorem n_large_Add : Tryz.f234.ntmps = 51 := Tryz.ntmps234
theorem k_large_Add : Fn PP 234 := ⟨_, _, Tryz.func234, rfl, rfl⟩
abbrev N_large_Len : FuncId := 235
theorem f_large_Len : PP.funcs[235]? = some Tryz.f235 := Tryz.func235
theorem n_large_Len : Tryz.f235.ntmps = 21 := Tryz.ntmps235
theorem k_large_Len : Fn PP 235 := ⟨_, _, Tryz.func235, rfl, rfl⟩
abbrev N_word_Lead : FuncId := 236
theorem f_word_Lead : PP.funcs[236]? = some Tryz.f236 := Tryz.func236
theorem n_word_Lead : Tryz.f236.ntmps = 18 := Tryz.ntmps236
theorem k_word_Lead : Fn PP 236 := ⟨_, _, Tryz.func236, rfl, rfl⟩
end Go.Proofs.YtmcapgjdflohfaaGreat.L

namespace Go.Proofs.YtmcapgjdflohfaaGreat.L
open Go Go.RowKit

/-- Bytes as cells; a text of bytes. -/
def b8 (l : List UInt8) : List Value := l.map fun x => .int .u8 x.toNat
abbrev bs (l : List UInt8) : ByteArray := ⟨l.toArray⟩
theorem b8_length (l : List UInt8) : (b8 l).length = l.length := by simp [b8]
theorem b8_one (l : List UInt8) : one (b8 l) = true := by
  rw [one, List.all_eq_true]; intro v hv
  obtain ⟨x, _, rfl⟩ := List.mem_map.1 hv; rfl
theorem bs_app (a b : List UInt8) : bs a ++ bs b = bs (a ++ b) := by
  apply ByteArray.ext; simp
theorem bs_size (a : List UInt8) : (bs a).size = a.length := by simp [ByteArray.size]
theorem bs_inj {a b : List UInt8} : bs a = bs b ↔ a = b := by
  constructor
  · intro h
    have := congrArg (fun x => x.data.toList) h
    simpa using this
  · rintro rfl; rfl

section
variable {c : Cx} {n : Nat} {Q : Exit → Env → World → Prop} {σ : Env} {H : List Res} {K : List Fact}
variable {d : Option Tmp} {t : TypeId} {p : String} {af : Array Edge} {g : Option (Nat × Bool)}

theorem pick {x y z : Operand} {b : Bool} {v : Value} (hx : ev σ x = .bool b) (hv : (bif b then ev σ y else ev σ z) = v) : Det c σ H K ⟨d, .pick x y z, t, p, af, g⟩ v := fun w _ => by
  subst hv
  cases b <;> simp [execOp, hx, asBool]

/-! ### Texts -/
theorem lenT {x : Operand} {tx : TypeId} {l : List UInt8} (hu : c.P.underlying tx = some .string) (hx : ev σ x = .string (bs l)) :
    Det c σ H K ⟨d, .call { callee := .builtin .len, args := #[x], argTypes := #[tx] }, t, p, af, g⟩ (.int .i64 l.length) := fun w hm => by
  have := lenB (c := c) (H := H) (K := K) (d := d) (t := t) (p := p) (af := af) (g := g) hu hx w hm
  rw [this, bs_size]
theorem tadd {x y : Operand} {tx ty : TypeId} {a b : List UInt8} (hx : ev σ x = .string (bs a)) (hy : ev σ y = .string (bs b)) (h : a.length + b.length ≤ 9223372036854775807) :
    Det c σ H K ⟨d, .binOp .add tx x y ty, t, p, af, g⟩ (.string (bs (a ++ b))) := fun w hm => by
  have := sadd (c := c) (H := H) (K := K) (d := d) (t := t) (p := p) (af := af) (g := g) (tx := tx) (ty := ty) hx hy (by rw [bs_size, bs_size]; exact h) w hm
  rw [this, bs_app]
theorem teql {x y : Operand} {tx ty : TypeId} {a b : List UInt8} (hx : ev σ x = .string (bs a)) (hy : ev σ y = .string (bs b)) : Det c σ H K ⟨d, .binOp .eql tx x y ty, t, p, af, g⟩ (.bool (decide (a = b))) := fun w hm => by
  have := seql (c := c) (H := H) (K := K) (d := d) (t := t) (p := p) (af := af) (g := g) (tx := tx) (ty := ty) hx hy w hm
  rw [this]; simp only [bs_inj]
theorem tneq {x y : Operand} {tx ty : TypeId} {a b : List UInt8} (hx : ev σ x = .string (bs a)) (hy : ev σ y = .string (bs b)) : Det c σ H K ⟨d, .binOp .neq tx x y ty, t, p, af, g⟩ (.bool (!decide (a = b))) := fun w hm => by
  have := sneq (c := c) (H := H) (K := K) (d := d) (t := t) (p := p) (af := af) (g := g) (tx := tx) (ty := ty) hx hy w hm
  rw [this]; simp only [bs_inj]
theorem bs_extract (l : List UInt8) (a b : Nat) : (bs l).extract a b = bs ((l.take b).drop a) := by
  apply ByteArray.ext
  simp [ByteArray.data_extract]
  rw [List.drop_take]
/-- 's[a:b]', 's[a:]', 's[:b]' of a text. -/
theorem cutT {x y z : Operand} {tx : TypeId} {l : List UInt8} {k k' : IntKind} {a b : Int} (hu : c.P.underlying tx = some .string) (hx : ev σ x = .string (bs l)) (hy : ev σ y = .int k a) (hz : ev σ z = .int k' b) (h0 : 0 ≤ a) (h1 : a ≤ b) (h2 : b ≤ l.length) :
    Det c σ H K ⟨d, .slice tx x (some y) (some z) none, t, p, af, g⟩ (.string (bs ((l.take b.toNat).drop a.toNat))) := fun w _ => by
  have e : ((b.toNat : Nat) : Int) = b := by omega
  have h2' : b ≤ ((bs l).size : Int) := by rw [bs_size]; exact h2
  simp [execOp, hx, hy, hz, Instr.sliceAt, Instr.slice, run_und hu, Instr.sliceBounds, Instr.sliceBound, asIntOf, h0, show 0 ≤ b by omega, h2', e, h1]
  exact bs_extract l _ _
theorem cutTl {x y : Operand} {tx : TypeId} {l : List UInt8} {k : IntKind} {a : Int} (hu : c.P.underlying tx = some .string) (hx : ev σ x = .string (bs l)) (hy : ev σ y = .int k a) (h0 : 0 ≤ a) (h1 : a ≤ l.length) :
    Det c σ H K ⟨d, .slice tx x (some y) none none, t, p, af, g⟩ (.string (bs (l.drop a.toNat))) := fun w _ => by
  have h1' : a ≤ ((bs l).size : Int) := by rw [bs_size]; exact h1
  simp [execOp, hx, hy, Instr.sliceAt, Instr.slice, run_und hu, Instr.sliceBounds, Instr.sliceBound, asIntOf, h0, h1']
  rw [bs_size]
  have := bs_extract l a.toNat l.length
  rw [List.take_length] at this
  exact this
theorem cutTh {x z : Operand} {tx : TypeId} {l : List UInt8} {k : IntKind} {b : Int} (hu : c.P.underlying tx = some .string) (hx : ev σ x = .string (bs l)) (hz : ev σ z = .int k b) (h0 : 0 ≤ b) (h1 : b ≤ l.length) :
    Det c σ H K ⟨d, .slice tx x none (some z) none, t, p, af, g⟩ (.string (bs (l.take b.toNat))) := fun w _ => by
  have h1' : b ≤ ((bs l).size : Int) := by rw [bs_size]; exact h1
  simp [execOp, hx, hz, Instr.sliceAt, Instr.slice, run_und hu, Instr.sliceBounds, Instr.sliceBound, asIntOf, h0, h1']
  have := bs_extract l 0 b.toNat
  rw [List.drop_zero] at this
  exact this
theorem idxT {x y : Operand} {s : TypeId} {k : IntKind} {i : Int} {l : List UInt8} (hx : ev σ x = .string (bs l)) (hy : ev σ y = .int k i) (hs : c.P.underlying s = some .string)
    (h0 : 0 ≤ i) (h1 : i < l.length) : Det c σ H K ⟨d, .index s x y, t, p, af, g⟩ (.int .u8 (l.getD i.toNat 0).toNat) :=
  idxB hx hy hs h0 (by simp [show i.toNat < l.length by omega])

/-- The bytes of a block of the call's own, as a text. -/
theorem strB {x : Operand} {tx e dx e' : TypeId} {b off len cap : Nat} {l : List Value} {r : List UInt8} (i : Nat) (hs : c.P.underlying tx = some (.slice e)) (he : c.P.underlying e = some (.int .u8)) (hd : c.P.underlying dx = some .string)
    (hx : ev σ x = .slice (some ⟨b, off, none⟩) len cap) (hi : H[i]? = some (.blk b (ob l e'))) (hr : (l.drop off).take len = b8 r) (hl : r.length = len) : Det c σ H K ⟨d, .convert tx dx x, t, p, af, g⟩ (.string (bs r)) := fun w hm => by
  have hb := hm.blk i hi
  have := run_convert_bytes_arg (P := c.P) w tx e hs he b off len cap (r.map fun x => (x.toNat : Int)) (by simp [hl]) (fun j hj => by
    rw [cell_ob hb]
    have h1 : ((l.drop off).take len)[j]? = (b8 r)[j]? := by rw [hr]
    rw [List.getElem?_take, if_pos hj, List.getElem?_drop] at h1
    rw [h1]
    simp [b8, show j < r.length by omega]) dx hd
  simp only [execOp, hx, this, Sem.run_bind, Result.andThen_ok, Sem.run_pure]
  have e : strOfNums (r.map fun x => (x.toNat : Int)) = bs r := by
    apply ByteArray.ext
    simp only [strOfNums, List.map_map]
    congr 1
    have : ∀ r : List UInt8, List.map ((fun n : Int => UInt8.ofNat n.toNat) ∘ fun x : UInt8 => (x.toNat : Int)) r = r := by
      intro r
      induction r with
      | nil => rfl
      | cons x r ih => rw [List.map_cons, ih]; simp
    first | exact this r | (simp only [List.toArray_inj]; exact this r) | simp [this]
  rw [e]

/-- An array of the call's own, as a slice: 'h[:]'. -/
theorem arrS {x : Operand} {tx e : TypeId} {b off m : Nat} (hs : c.P.underlying tx = some (.array m e)) (hz : (c.P.info? e).map (·.size) = some 1) (hx : ev σ x = .pointer (some ⟨b, off, none⟩)) :
    Det c σ H K ⟨d, .slice tx x none none none, t, p, af, g⟩ (.slice (some ⟨b, off, none⟩) m m) := fun w _ => by
  simp [execOp, hx, Instr.sliceAt, run_und hs, Instr.sureAddr, Instr.sliceBounds, run_size hz, add0]
/-- 'h[a:b:m]'. -/
theorem arrS3 {x y z u : Operand} {tx e : TypeId} {b off m : Nat} {k k' k'' : IntKind} {lo hi mx : Int} (hs : c.P.underlying tx = some (.array m e)) (hz : (c.P.info? e).map (·.size) = some 1) (hx : ev σ x = .pointer (some ⟨b, off, none⟩))
    (hy : ev σ y = .int k lo) (hh : ev σ z = .int k' hi) (hu : ev σ u = .int k'' mx) (h0 : 0 ≤ lo) (h1 : lo ≤ hi) (h2 : hi ≤ mx) (h3 : mx ≤ m) (h4 : lo < mx) :
    Det c σ H K ⟨d, .slice tx x (some y) (some z) (some u), t, p, af, g⟩ (.slice (some ⟨b, off + lo.toNat, none⟩) (hi.toNat - lo.toNat) (mx.toNat - lo.toNat)) := fun w _ => by
  have e1 : ((mx.toNat : Nat) : Int) = mx := by omega
  have e2 : ((hi.toNat : Nat) : Int) = hi := by omega
  simp [execOp, hx, hy, hh, hu, Instr.sliceAt, run_und hs, Instr.sureAddr, Instr.sliceBounds, Instr.sliceBound, asIntOf, run_size hz, h0, show 0 ≤ hi by omega, show 0 ≤ mx by omega, h3, e1, h2, e2, h1, add0, show ¬ mx.toNat = lo.toNat by omega]
/-- 'h[a:]'. -/
theorem arrSl {x y : Operand} {tx e : TypeId} {b off m : Nat} {k : IntKind} {lo : Int} (hs : c.P.underlying tx = some (.array m e)) (hz : (c.P.info? e).map (·.size) = some 1) (hx : ev σ x = .pointer (some ⟨b, off, none⟩))
    (hy : ev σ y = .int k lo) (h0 : 0 ≤ lo) (h1 : lo < m) : Det c σ H K ⟨d, .slice tx x (some y) none none, t, p, af, g⟩ (.slice (some ⟨b, off + lo.toNat, none⟩) (m - lo.toNat) (m - lo.toNat)) := fun w _ => by
  simp [execOp, hx, hy, Instr.sliceAt, run_und hs, Instr.sureAddr, Instr.sliceBounds, Instr.sliceBound, asIntOf, run_size hz, h0, show lo ≤ (m : Int) by omega, add0, show ¬ m = lo.toNat by omega]

/-- The address of an element of a slice over a block of the call's own. -/
theorem ixB {x y : Operand} {s e : TypeId} {b off m cap sz : Nat} {kk : IntKind} {i : Int} (hx : ev σ x = .slice (some ⟨b, off, none⟩) m cap) (hy : ev σ y = .int kk i) (hs : c.P.underlying s = some (.slice e))
    (hz : (c.P.info? e).map (·.size) = some sz) (h0 : 0 ≤ i) (h1 : i < m) : Det c σ H K ⟨d, .indexAddr s x y, t, p, af, g⟩ (.pointer (some ⟨b, off + i.toNat * sz, none⟩)) := fun w _ => by
  simp [execOp, hx, hy, Instr.indexAt, asIntOf, run_und hs, h0, h1, run_size hz, add0]

/-- 'make([]T, m)', T of one cell: a block of the call's own. -/
theorem mks {ops : Array Oper} {d : Nat} {x y : Operand} {tt e : TypeId} {k k' : IntKind} {m : Nat} {a b : Int} {z : Value} {bytes : Nat} {l : List Oper} (ht : c.P.underlying tt = some (.slice e)) (hi : (c.P.info? e).map (fun i => (i.zero, i.size, i.bytes)) = some (some z, 1, bytes)) (hz : z.cells = #[z])
    (hx : ev σ x = .int k a) (hy : ev σ y = .int k' b) (ha : a = m) (hb : b = m) (hby : bytes * m ≤ 281474976710656) (hm : m ≤ 9223372036854775807) (hd : Nat.blt d n = true)
    (h : ∀ g, TL c n ops l Q (upd σ d (.slice (some ⟨g, 0, none⟩) m m)) (.blk g (ob (List.replicate m z) e) :: H) K) : TL c n ops (⟨some d, .makeSlice tt x y, t, p, af, none⟩ :: l) Q σ H K := by
  intro w hM a' hr
  refine wpList_run rfl ?_
  obtain ⟨i0, hi0, hzz⟩ := Option.map_eq_some_iff.1 hi
  simp only [Prod.mk.injEq] at hzz
  obtain ⟨hz0, hz1, hz2⟩ := hzz
  have hbb : ((i0.bytes : Nat) : Int) * (m : Int) ≤ 281474976710656 := by
    rw [hz2, ← Int.natCast_mul]
    generalize bytes * m = q at hby ⊢
    omega
  have hcells : madeCells z.cells ((m : Int).toNat * i0.size) = (List.replicate m z).toArray := by
    rw [hz, hz1]
    apply Array.ext
    · simp [madeCells]
    · intro i h1 h2
      simp [madeCells, Nat.mod_one]
  have hrun := run_make (P := c.P) w tt e i0 z ht hi0 hz0 k k' (m : Int) (m : Int) (by omega) (by omega) hbb (by omega)
  rw [hcells, Int.toNat_natCast] at hrun
  rw [hr.eval]
  simp only [execOp, hx, hy, ha, hb, hrun, Sem.run_bind, Result.andThen_ok, Sem.run_pure]
  exact h w.heap.size _ (hM.add (World.grownBy_alloc w _ none) (heap_alloc_new w _) (.inr ⟨_, rfl, Nat.le_refl _⟩)) _ (hr.put d _ (by simp [Nat.blt] at hd; omega))

/-! ### Literals of structs and arrays -/
theorem fill_step {place : Nat → Option (Nat × Nat)} {l vs r : List Value} {i off size : Nat} {v : Value} {rest : List (Nat × Value)} {out : Option (Array Value)} (hp : place i = some (off, size)) (hv : v.cells = vs.toArray) (hs : vs.length = size) (hl : off + size ≤ l.length)
    (hr : l.take off ++ vs ++ l.drop (off + size) = r) (h : Instr.fill place r.toArray rest = out) : Instr.fill place l.toArray ((i, v) :: rest) = out := by
  subst hs
  simp only [Instr.fill, hp, hv, List.size_toArray, ne_eq, not_true_eq_false, decide_false, Bool.false_or]
  rw [if_neg (by simp; omega), ← h, ← hr]
  congr 1
  rw [← Array.foldl_toList, Array.toList_zipIdx]
  have key : ∀ (xs : List Value) (k : Nat) (a : Array Value), off + k + xs.length ≤ a.size → (xs.zipIdx k).foldl (fun cs (c, j) => cs.setIfInBounds (off + j) c) a = (a.toList.take (off + k) ++ xs ++ a.toList.drop (off + k + xs.length)).toArray := by
    intro xs
    induction xs with
    | nil => intro k a _; simp
    | cons x r ih =>
      intro k a hk
      simp only [List.length_cons] at hk
      rw [List.zipIdx_cons, List.foldl_cons, ih (k + 1) _ (by simp; omega)]
      congr 1
      apply List.ext_getElem?
      intro j
      simp only [Array.toList_setIfInBounds, List.getElem?_append, List.length_take, List.length_set, Array.length_toList, List.length_append, List.length_cons, List.getElem?_take, List.getElem?_set, List.getElem?_drop]
      have hm1 : min (off + (k + 1)) a.size = off + (k + 1) := by omega
      have hm2 : min (off + k) a.size = off + k := by omega
      rw [hm1, hm2]
      by_cases hj : j < off + k
      · simp [hj, show j < off + (k + 1) by omega, show j < off + (k + 1) + r.length by omega, show j < off + k + (r.length + 1) by omega, show off + k ≠ j by omega]
      · by_cases hj2 : j = off + k
        · subst hj2
          simp [show off + k < off + (k + 1) + r.length by omega, show off + k < off + k + (r.length + 1) by omega, show off + k < a.size by omega, show off + k < off + (k + 1) by omega]
        · have h1 : ¬ j < off + (k + 1) := by omega
          simp only [hj, h1, if_false]
          by_cases hj3 : j < off + (k + 1) + r.length
          · rw [if_pos hj3, if_pos (by omega), show j - (off + k) = (j - (off + (k + 1))) + 1 by omega, List.getElem?_cons_succ]
          · have h5 : ¬ j < off + k + (r.length + 1) := by omega
            have h6 : ¬ off + k = off + (k + 1) + r.length + (j - (off + (k + 1) + r.length)) := by omega
            simp only [hj3, h5, h6, if_false]
            congr 1; omega
  have := key vs 0 l.toArray (by simp; omega)
  simpa using this
theorem fill_nil {place : Nat → Option (Nat × Nat)} {l : List Value} : Instr.fill place l.toArray [] = some l.toArray := rfl

/-- A struct's literal: its zero value, filled. -/
theorem bldS {tt : TypeId} {parts : Array (Nat × Operand)} {ps : List (Nat × Value)} {fs : Array Field} {pl : Array (Nat × Nat)} {z cs : List Value} (hz : (c.P.info? tt).map (·.zero) = some (some (ag z))) (ht : c.P.underlying tt = some (.struct fs))
    (hpl : ∀ w, (fs.mapM (fun f => do Pure.pure (f.offset, ← sizeOf f.type) : Field → Sem (Nat × Nat))).run c.P w = .ok pl w) (hps : (parts.map fun (i, x) => (i, ev σ x)).toList = ps) (hf : Instr.fill (pl[·]?) z.toArray ps = some cs.toArray) :
    Det c σ H K ⟨d, .build tt parts, t, p, af, g⟩ (ag cs) := fun w _ => by
  simp only [execOp, Instr.build, Sem.run_bind, run_zero hz, Result.andThen_ok, run_und ht, hpl, Value.cells, hps, hf, Sem.run_pure]
/-- An array's literal. -/
theorem bldA {tt e : TypeId} {m sz : Nat} {parts : Array (Nat × Operand)} {ps : List (Nat × Value)} {z cs : List Value} (hz : (c.P.info? tt).map (·.zero) = some (some (ag z))) (ht : c.P.underlying tt = some (.array m e)) (hs : (c.P.info? e).map (·.size) = some sz)
    (hps : (parts.map fun (i, x) => (i, ev σ x)).toList = ps) (hf : Instr.fill (fun i => some (i * sz, sz)) z.toArray ps = some cs.toArray) :
    Det c σ H K ⟨d, .build tt parts, t, p, af, g⟩ (ag cs) := fun w _ => by
  simp only [execOp, Instr.build, Sem.run_bind, run_zero hz, Result.andThen_ok, run_und ht, run_size hs, Value.cells, hps, hf, Sem.run_pure]
end
end Go.Proofs.YtmcapgjdflohfaaGreat.L

namespace Go.Proofs.YtmcapgjdflohfaaGreat.L
open Go Go.RowKit
set_option linter.unusedVariables false

/-- Guarded operations whose base is false: passed over. -/

theorem wrap_u8_range (x : Int) : 0 ≤ IntKind.u8.wrap x ∧ IntKind.u8.wrap x < 256 := by
  simp [IntKind.wrap, IntKind.signed, IntKind.bits]
  omega
/-- The byte that a number's conversion makes. -/
def byteOf (x : Int) : UInt8 := UInt8.ofNat (IntKind.u8.wrap x).toNat
theorem byteOf_toNat (x : Int) : ((byteOf x).toNat : Int) = IntKind.u8.wrap x := by
  have := wrap_u8_range x
  simp only [byteOf, UInt8.toNat_ofNat']
  omega
theorem wrap_u64_byte (x : UInt8) : IntKind.u64.wrap (x.toNat : Int) = x.toNat := by
  have := x.toNat_lt
  simp [IntKind.wrap, IntKind.signed, IntKind.bits]
  omega

/-- put: the number's lowest bytes, the highest ahead. -/
def putL (x : Int) : Nat → List UInt8
  | 0 => []
  | k + 1 => putL (bshr .u64 x 8) k ++ [byteOf x]
theorem putL_length (x : Int) (k : Nat) : (putL x k).length = k := by
  induction k generalizing x with
  | zero => rfl
  | succ k ih => simp [putL, ih]

/-- take: so many bytes from a place on, as a number; a byte that is not there counts as 0. -/
def takeN (b : List UInt8) (a : Int) : Nat → Int
  | 0 => 0
  | i + 1 => if 0 ≤ a ∧ a < b.length ∧ (i : Int) < b.length - a then bor .u64 (bshl .u64 (takeN b a i) 8) (b.getD (a + i).toNat 0).toNat else bshl .u64 (takeN b a i) 8

theorem rep_set {z y : Value} (k : Nat) (r : List Value) : (List.replicate (k + 1) z ++ r).take k ++ [y] ++ (List.replicate (k + 1) z ++ r).drop (k + 1) = List.replicate k z ++ (y :: r) := by
  rw [List.take_append_of_le_length (by simp), List.drop_append_of_le_length (by simp)]
  simp

theorem word_put_ (x : Int) (m : Nat) (hm : m ≤ 1000000) : Pure PP N_word_put #[.int .u64 x, .int .i64 m] (.string (bs (putL x m))) := by
  refine enter0 f_word_put rfl n_word_put rfl fun w => ?_
  refine seq (region (det rfl (asg rfl) (nilS ?_)))   -- region 0
  refine seq (region (det rfl (mv rfl) (mks u_sl_uint8 i_uint8 rfl rfl rfl rfl rfl (by omega) (by omega) rfl fun b0 => det rfl (asg rfl) (nilS ?_))))   -- region 1
  refine seq ?_
  refine seq (region (det rfl (mv rfl) (det rfl (mv rfl) (nilS ?_))))   -- region 2
  refine block ?_   -- block 0
  refine loopV (ι := Nat × Int × List UInt8) (fun (k, y, r) => k ≤ m ∧ r.length = k ∧ putL y (m - k) ++ r = putL x m) (fun (k, y, r) => [(0, .int .u64 y), (1, .int .i64 m), (5, .slice (some ⟨b0, 0, none⟩) m m), (9, .int .i64 m), (10, .int .i64 k)])
    (fun (k, y, r) => [.blk b0 (ob (List.replicate (m - k) (.int .u8 0) ++ b8 r) T_uint8)]) (fun _ => []) (fun (k, y, r) => m - k) (0, x, []) ⟨by omega, rfl, by simp⟩ ⟨rfl, rfl, rfl, rfl, rfl, trivial⟩ (fun w hm => by simpa [b8] using hm) ?_
  rintro ⟨k, y, r⟩ σ ⟨hk, hr, hp⟩
  dsimp only
  refine seq (region (det rfl (lss rfl rfl) (nilS ?_)))   -- region 3
  refine seq ?_
  refine cond rfl (fun h => ?_) (fun h => ?_)   -- on t11
  · have h := of_decide_eq_true h
    obtain ⟨q, hq⟩ : ∃ q, m - k = q + 1 := ⟨m - k - 1, by omega⟩
    rw [hq]
    have e : ((m : Int) - 1 - k).toNat * 1 = q := by omega
    refine skipS ?_
    refine seq ?_
    refine block ?_   -- block 1
    refine seq (region (det rfl (mv rfl) (det rfl (asg rfl) (nilS ?_))))   -- region 4
    refine seq (region (det rfl (mv rfl) (det rfl (mv rfl) (det rfl (subI rfl rfl (by omega) (by omega)) (det rfl (mv rfl) (det rfl (subI rfl rfl (by omega) (by omega)) (det rfl (mv rfl) (det rfl (conv u_uint64 u_uint8 rfl) (det rfl (ixB rfl rfl u_sl_uint8 s_uint8 (by omega) (by omega)) (sto 0 (vs := [.int .u8 (byteOf y).toNat]) rfl (vi (byteOf_toNat y).symm) rfl rfl s_uint8 rfl (by simp; omega) (rs := List.replicate q (.int .u8 0) ++ b8 (byteOf y :: r)) (by rw [Nat.zero_add, e]; exact rep_set q (b8 r)) (nilS ?_)))))))))))   -- region 5
    refine region (det rfl (mv rfl) (det rfl (shr rfl rfl (by decide)) (det rfl (asg rfl) (nil ?_))))   -- region 6
    show Tr _ _ _ _ _ _ _
    refine region (det rfl (addI rfl rfl (by omega) (by omega)) (det rfl (mv rfl) (nil ?_)))   -- region 7
    refine again (k + 1, bshr .u64 y 8, byteOf y :: r) ⟨by omega, by simp [hr], ?_⟩ ⟨rfl, rfl, rfl, rfl, rfl, trivial⟩ (fun w hm => ?_) (by (first | omega | (dsimp only; omega)))
    · rw [← hp, hq, putL, show m - (k + 1) = q by omega]; simp
    · dsimp only; rw [show m - (k + 1) = q by omega]; exact hm
  · have h := of_decide_eq_false h
    have e : m - k = 0 := by omega
    rw [e] at hp ⊢
    refine exit ?_   -- 0
    show Tr _ _ _ _ _ _ _
    refine seq (region (det rfl (mv rfl) (det rfl (strB 0 (r := r) (len := m) u_sl_uint8 u_uint8 u_string rfl rfl (by rw [List.replicate_zero, List.nil_append, List.drop_zero, List.take_of_length_le (by rw [b8_length]; omega)]) (by omega)) (det rfl (asg rfl) (nilS ?_)))))   -- region 8
    exact ret (retT rfl rfl (pr' (by rw [← hp]; rfl)))

theorem word_take_ (b : List UInt8) (a : Int) (m : Nat) (hm : m ≤ 1000000) (hb : b.length ≤ 1000000000000) (ha : -1000000000000 ≤ a) (ha2 : a ≤ 1000000000000) : Pure PP N_word_take #[.string (bs b), .int .i64 a, .int .i64 m] (.int .u64 (takeN b a m)) := by
  refine enter0 f_word_take rfl n_word_take rfl fun w => ?_
  refine seq (region (det rfl (asg rfl) (nilS ?_)))   -- region 0
  refine seq (region (det rfl (asg rfl) (nilS ?_)))   -- region 1
  refine seq ?_
  refine seq (region (det rfl (mv rfl) (det rfl (mv rfl) (nilS ?_))))   -- region 2
  refine block ?_   -- block 0
  refine loopV (ι := Nat) (fun k => k ≤ m) (fun k => [(0, .string (bs b)), (1, .int .i64 a), (7, .int .u64 (takeN b a k)), (9, .int .i64 m), (10, .int .i64 k)]) (fun _ => []) (fun _ => []) (fun k => m - k) 0 (by omega) ⟨rfl, rfl, rfl, rfl, rfl, trivial⟩ (fun w hm => hm) ?_
  intro k σ hk
  refine seq (region (det rfl (lss rfl rfl) (nilS ?_)))   -- region 3
  refine seq ?_
  refine cond rfl (fun h => ?_) (fun h => ?_)   -- on t11
  · have h := of_decide_eq_true h
    refine skipS ?_
    refine seq ?_
    refine block ?_   -- block 1
    refine seq (region (det rfl (mv rfl) (det rfl (asg rfl) (nilS ?_))))   -- region 4
    refine seq (region (det rfl (mv rfl) (det rfl (shl rfl rfl (by decide)) (det rfl (asg rfl) (nilS ?_)))))   -- region 5
    by_cases hc : 0 ≤ a ∧ a < b.length ∧ (k : Int) < b.length - a
    · obtain ⟨c1, c2, c3⟩ := hc
      refine seq (region (det rfl (mv rfl) (det rfl (geq rfl rfl) (det rfl (mv rfl) ?_))))
      refine guardT rfl (vb (decide_eq_true c1)) (det rfl (mv rfl) ?_)
      refine guardT rfl (vb (decide_eq_true c1)) (det rfl (mv rfl) ?_)
      refine guardT rfl (vb (decide_eq_true c1)) (det rfl (lenT u_string rfl) ?_)
      refine guardT rfl (vb (decide_eq_true c1)) (det rfl (lss rfl rfl) ?_)
      refine det rfl (pick (vb (decide_eq_true c1)) (vb (decide_eq_true c2))) (det rfl (mv rfl) ?_)
      refine guardT rfl rfl (det rfl (mv rfl) ?_)
      refine guardT rfl rfl (det rfl (mv rfl) ?_)
      refine guardT rfl rfl (det rfl (lenT u_string rfl) ?_)
      refine guardT rfl rfl (det rfl (mv rfl) ?_)
      refine guardT rfl rfl (det rfl (subI rfl rfl (by omega) (by omega)) ?_)
      refine guardT rfl rfl (det rfl (lss rfl rfl) ?_)
      refine det rfl (pick rfl (vb (decide_eq_true c3))) (nilS ?_)
      refine condT rfl ?_
      refine region (det rfl (mv rfl) (det rfl (mv rfl) (det rfl (mv rfl) (det rfl (mv rfl) (det rfl (addI rfl rfl (by omega) (by omega)) (det rfl (idxT rfl rfl u_string (by omega) (by omega)) (det rfl (conv u_uint8 u_uint64 rfl) (det rfl (or rfl rfl) (det rfl (asg rfl) (nil ?_))))))))))   -- region 7
      show Tr _ _ _ _ _ _ _
      refine region (det rfl (addI rfl rfl (by omega) (by omega)) (det rfl (mv rfl) (nil ?_)))   -- region 8
      refine again (k + 1) (by omega) ⟨rfl, rfl, vi ?_, rfl, rfl, trivial⟩ (fun w hm => hm) (by (first | omega | (dsimp only; omega)))
      rw [takeN, if_pos ⟨c1, c2, c3⟩, wrap_u64_byte]; rfl
    · refine seq (region (det rfl (mv rfl) (det rfl (geq rfl rfl) (det rfl (mv rfl) ?_))))
      by_cases c1 : 0 ≤ a
      · refine guardT rfl (vb (decide_eq_true c1)) (det rfl (mv rfl) ?_)
        refine guardT rfl (vb (decide_eq_true c1)) (det rfl (mv rfl) ?_)
        refine guardT rfl (vb (decide_eq_true c1)) (det rfl (lenT u_string rfl) ?_)
        refine guardT rfl (vb (decide_eq_true c1)) (det rfl (lss rfl rfl) ?_)
        by_cases c2 : a < b.length
        · refine det rfl (pick (vb (decide_eq_true c1)) (vb (decide_eq_true c2))) (det rfl (mv rfl) ?_)
          refine guardT rfl rfl (det rfl (mv rfl) ?_)
          refine guardT rfl rfl (det rfl (mv rfl) ?_)
          refine guardT rfl rfl (det rfl (lenT u_string rfl) ?_)
          refine guardT rfl rfl (det rfl (mv rfl) ?_)
          refine guardT rfl rfl (det rfl (subI rfl rfl (by omega) (by omega)) ?_)
          refine guardT rfl rfl (det rfl (lss rfl rfl) ?_)
          refine det rfl (pick rfl (vb (decide_eq_false (by omega)))) (nilS ?_)
          refine condF rfl ?_
          refine skip ?_
          show Tr _ _ _ _ _ _ _
          refine region (det rfl (addI rfl rfl (by omega) (by omega)) (det rfl (mv rfl) (nil ?_)))   -- region 8
          refine again (k + 1) (by omega) ⟨rfl, rfl, vi ?_, rfl, rfl, trivial⟩ (fun w hm => hm) (by (first | omega | (dsimp only; omega)))
          rw [takeN, if_neg hc]; rfl
        · refine det rfl (pick (vb (decide_eq_true c1)) (vb (decide_eq_false c2))) (det rfl (mv rfl) ?_)
          repeat (first | refine guardF rfl (vb (rfl : false = !true)) rfl ?_ | refine guardU rfl rfl rfl ?_)
          refine det rfl (pick rfl rfl) (nilS ?_)
          refine condF rfl ?_
          refine skip ?_
          show Tr _ _ _ _ _ _ _
          refine region (det rfl (addI rfl rfl (by omega) (by omega)) (det rfl (mv rfl) (nil ?_)))   -- region 8
          refine again (k + 1) (by omega) ⟨rfl, rfl, vi ?_, rfl, rfl, trivial⟩ (fun w hm => hm) (by (first | omega | (dsimp only; omega)))
          rw [takeN, if_neg hc]; rfl
      · repeat (first | refine guardF rfl (vb (decide_eq_false c1)) rfl ?_ | refine guardU rfl rfl rfl ?_)
        refine det rfl (pick (vb (decide_eq_false c1)) rfl) (det rfl (mv rfl) ?_)
        repeat (first | refine guardF rfl (vb (rfl : false = !true)) rfl ?_ | refine guardU rfl rfl rfl ?_)
        refine det rfl (pick rfl rfl) (nilS ?_)
        refine condF rfl ?_
        refine skip ?_
        show Tr _ _ _ _ _ _ _
        refine region (det rfl (addI rfl rfl (by omega) (by omega)) (det rfl (mv rfl) (nil ?_)))   -- region 8
        refine again (k + 1) (by omega) ⟨rfl, rfl, vi ?_, rfl, rfl, trivial⟩ (fun w hm => hm) (by (first | omega | (dsimp only; omega)))
        rw [takeN, if_neg hc]; rfl
  · have h := of_decide_eq_false h
    refine exit ?_   -- 0
    show Tr _ _ _ _ _ _ _
    have e : k = m := by omega
    subst e
    refine seq (region (det rfl (mv rfl) (det rfl (asg rfl) (nilS ?_))))   -- region 9
    exact ret (retT rfl rfl pr)

theorem word_Put32_ (x : Int) : Pure PP N_word_Put32 #[.int .u32 x] (.string (bs (putL (IntKind.u64.wrap x) 4))) := by
  refine enter0 f_word_Put32 rfl n_word_Put32 rfl fun w => ?_
  refine seq (region (det rfl (asg rfl) (nilS ?_)))   -- region 0
  refine seq (region (det rfl (mv rfl) (det rfl (conv u_uint32 u_uint64 rfl) (call k_word_put rfl rfl (fun w _ => word_put_ _ 4 (by omega) w) (det rfl (asg rfl) (nilS ?_))))))   -- region 1
  exact ret (retT rfl rfl pr)
theorem word_Put64_ (x : Int) : Pure PP N_word_Put64 #[.int .u64 x] (.string (bs (putL x 8))) := by
  refine enter0 f_word_Put64 rfl n_word_Put64 rfl fun w => ?_
  refine seq (region (det rfl (asg rfl) (nilS ?_)))   -- region 0
  refine seq (region (det rfl (mv rfl) (call k_word_put rfl rfl (fun w _ => word_put_ _ 8 (by omega) w) (det rfl (asg rfl) (nilS ?_)))))   -- region 1
  exact ret (retT rfl rfl pr)
theorem word_Take32_ (b : List UInt8) (a : Int) (hb : b.length ≤ 1000000000000) (ha : -1000000000000 ≤ a) (ha2 : a ≤ 1000000000000) : Pure PP N_word_Take32 #[.string (bs b), .int .i64 a] (.int .u32 (IntKind.u32.wrap (takeN b a 4))) := by
  refine enter0 f_word_Take32 rfl n_word_Take32 rfl fun w => ?_
  refine seq (region (det rfl (asg rfl) (nilS ?_)))   -- region 0
  refine seq (region (det rfl (mv rfl) (det rfl (mv rfl) (call k_word_take rfl rfl (fun w _ => word_take_ b a 4 (by omega) hb ha ha2 w) (det rfl (conv u_uint64 u_uint32 rfl) (det rfl (asg rfl) (nilS ?_)))))))   -- region 1
  exact ret (retT rfl rfl pr)
theorem word_Take64_ (b : List UInt8) (a : Int) (hb : b.length ≤ 1000000000000) (ha : -1000000000000 ≤ a) (ha2 : a ≤ 1000000000000) : Pure PP N_word_Take64 #[.string (bs b), .int .i64 a] (.int .u64 (takeN b a 8)) := by
  refine enter0 f_word_Take64 rfl n_word_Take64 rfl fun w => ?_
  refine seq (region (det rfl (asg rfl) (nilS ?_)))   -- region 0
  refine seq (region (det rfl (mv rfl) (det rfl (mv rfl) (call k_word_take rfl rfl (fun w _ => word_take_ b a 8 (by omega) hb ha ha2 w) (det rfl (asg rfl) (nilS ?_))))))   -- region 1
  exact ret (retT rfl rfl pr)
end Go.Proofs.YtmcapgjdflohfaaGreat.L

namespace Go.Proofs.YtmcapgjdflohfaaGreat.L
open Go Go.RowKit

/-- The lowest five bits. -/
theorem band31 (a : Int) : 0 ≤ band .u64 a 31 ∧ band .u64 a 31 ≤ 31 := by
  have h : (BitVec.ofInt 64 a &&& BitVec.ofInt 64 31).toNat ≤ 31 := by
    rw [BitVec.toNat_and]
    exact Nat.le_trans Nat.and_le_right (by decide)
  have e : band .u64 a 31 = IntKind.u64.wrap (BitVec.ofInt 64 a &&& BitVec.ofInt 64 31).toNat := rfl
  rw [e]
  generalize (BitVec.ofInt 64 a &&& BitVec.ofInt 64 31).toNat = q at h ⊢
  simp [IntKind.wrap, IntKind.signed, IntKind.bits]
  omega
theorem u64_nn (x : Int) : 0 ≤ IntKind.u64.wrap x := by
  simp only [IntKind.wrap, IntKind.bits, IntKind.signed]; simp; omega
def rotI (x n : Int) : Int := bor .u32 (bshr .u32 x (band .u64 (IntKind.u64.wrap n) 31).toNat) (bshl .u32 x (IntKind.u64.wrap (32 - band .u64 (IntKind.u64.wrap n) 31)).toNat)

def w32 (l : List Int) : List Value := l.map fun x => .int .u32 x
theorem w32_length (l : List Int) : (w32 l).length = l.length := by simp [w32]
theorem w32_one (l : List Int) : one (w32 l) = true := by
  rw [one, List.all_eq_true]; intro v hv
  obtain ⟨x, _, rfl⟩ := List.mem_map.1 hv; rfl
theorem w32_at {l : List Int} {o j : Nat} (ho : o = j) (h : j < l.length) : (w32 l)[o]? = some (.int .u32 (l.getD j 0)) := by
  subst ho; simp [w32, h]
theorem w32_set {l : List Int} {j : Nat} {x : Int} : (w32 l).set j (.int .u32 x) = w32 (l.set j x) := by
  simp [w32, List.map_set]
theorem w32_rep (m : Nat) (x : Int) : List.replicate m (Value.int .u32 x) = w32 (List.replicate m x) := by simp [w32]

def kRounds : List Int := [1116352408, 1899447441, 3049323471, 3921009573, 961987163, 1508970993, 2453635748, 2870763221, 3624381080, 310598401, 607225278, 1426881987, 1925078388, 2162078206, 2614888103, 3248222580, 3835390401, 4022224774, 264347078, 604807628, 770255983, 1249150122, 1555081692, 1996064986, 2554220882, 2821834349, 2952996808, 3210313671, 3336571891, 3584528711, 113926993, 338241895, 666307205, 773529912, 1294757372, 1396182291, 1695183700, 1986661051, 2177026350, 2456956037, 2730485921, 2820302411, 3259730800, 3345764771, 3516065817, 3600352804, 4094571909, 275423344, 430227734, 506948616, 659060556, 883997877, 958139571, 1322822218, 1537002063, 1747873779, 1955562222, 2024104815, 2227730452, 2361852424, 2428436474, 2756734187, 3204031479, 3329325298]
def kFirst : List Int := [1779033703, 3144134277, 1013904242, 2773480762, 1359893119, 2600822924, 528734635, 1541459225]

/-- Spread: the place `i`'s word out of those ahead. -/
def sprV (b : List UInt8) (w : List Int) (i : Nat) : Int :=
  if i < 16 then IntKind.u32.wrap (takeN b (4 * (i : Int)) 4) else
  IntKind.u32.wrap (IntKind.u32.wrap (IntKind.u32.wrap (w.getD (i - 16) 0 + bxor .u32 (bxor .u32 (rotI (w.getD (i - 15) 0) 7) (rotI (w.getD (i - 15) 0) 18)) (bshr .u32 (w.getD (i - 15) 0) 3)) + w.getD (i - 7) 0)
    + bxor .u32 (bxor .u32 (rotI (w.getD (i - 2) 0) 17) (rotI (w.getD (i - 2) 0) 19)) (bshr .u32 (w.getD (i - 2) 0) 10))
def spr (b : List UInt8) : Nat → List Int
  | 0 => List.replicate 64 0
  | i + 1 => (spr b i).set i (sprV b (spr b i) i)
theorem spr_length (b : List UInt8) (i : Nat) : (spr b i).length = 64 := by
  induction i with
  | zero => rfl
  | succ i ih => simp only [spr, List.length_set, ih]

/-- One round. -/
def mixStep (w k v : List Int) (i : Nat) : List Int :=
  let g := fun j => v.getD j 0
  let s := bxor .u32 (bxor .u32 (rotI (g 4) 6) (rotI (g 4) 11)) (rotI (g 4) 25)
  let c := bxor .u32 (band .u32 (g 4) (g 5)) (band .u32 (bnot .u32 (g 4)) (g 6))
  let t := IntKind.u32.wrap (IntKind.u32.wrap (IntKind.u32.wrap (IntKind.u32.wrap (g 7 + s) + c) + k.getD i 0) + w.getD i 0)
  let s2 := bxor .u32 (bxor .u32 (rotI (g 0) 2) (rotI (g 0) 13)) (rotI (g 0) 22)
  let m := bxor .u32 (bxor .u32 (band .u32 (g 0) (g 1)) (band .u32 (g 0) (g 2))) (band .u32 (g 1) (g 2))
  [IntKind.u32.wrap (IntKind.u32.wrap (t + s2) + m), g 0, g 1, g 2, IntKind.u32.wrap (g 3 + t), g 4, g 5, g 6]
def mixV (w k h : List Int) : Nat → List Int
  | 0 => h
  | i + 1 => mixStep w k (mixV w k h i) i
theorem mixV_length {w k h : List Int} (hh : h.length = 8) (i : Nat) : (mixV w k h i).length = 8 := by
  cases i <;> simp [mixV, mixStep, hh]
def mixH (h v : List Int) : Nat → List Int
  | 0 => h
  | i + 1 => (mixH h v i).set i (IntKind.u32.wrap ((mixH h v i).getD i 0 + v.getD i 0))
theorem mixH_length (h v : List Int) (i : Nat) : (mixH h v i).length = h.length := by
  induction i with
  | zero => rfl
  | succ i ih => simp only [mixH, List.length_set, ih]
def mixF (h : List Int) (b : List UInt8) : List Int := mixH h (mixV (spr b 64) kRounds h 64) 8
theorem mixF_length {h : List Int} (b : List UInt8) (hh : h.length = 8) : (mixF h b).length = 8 := by rw [mixF, mixH_length, hh]

/-- Whole blocks of 64 bytes, as many as there are. -/
def shaW (h : List Int) (b : List UInt8) : Nat → List Int × List UInt8
  | 0 => (h, b)
  | q + 1 => if 64 ≤ b.length then shaW (mixF h (b.take 64)) (b.drop 64) q else (h, b)
/-- The bytes that a number's padding has. -/
def padL (m : Nat) : List UInt8 := 128 :: (List.replicate ((119 - m % 64) % 64) 0 ++ putL (8 * m) 8)
/-- Sum: the bytes of the words, the highest ahead. -/
def outL (h : List Int) : List UInt8 := (h.map fun x => putL (IntKind.u64.wrap x) 4).flatten
end Go.Proofs.YtmcapgjdflohfaaGreat.L

namespace Go.Proofs.YtmcapgjdflohfaaGreat.L
open Go Go.RowKit

theorem one_cells {v : Value} (h : v.oneCell' = true) : v.cells = #[v] := by
  cases v <;> first | rfl | simp [Value.oneCell'] at h
theorem set_at {l : List Value} {j : Nat} {v : Value} (h : j < l.length) : l.take j ++ [v] ++ l.drop (j + [v].length) = l.set j v := by
  rw [List.set_eq_take_append_cons_drop, if_pos h]; simp

/-- Bytes of an array of the call's own are a text's. -/
theorem whole8 {l : List UInt8} {m : Nat} (h : l.length = m) : ((b8 l).drop 0).take m = b8 l := by
  rw [List.drop_zero, List.take_of_length_le (by rw [b8_length]; omega)]
section
variable {c : Cx} {n : Nat} {Q : Exit → Env → World → Prop} {σ : Env} {H : List Res} {K : List Fact}
variable {d : Option Tmp} {t : TypeId} {p : String} {af : Array Edge} {g : Option (Nat × Bool)}

/-- One cell stored into a block that is known. -/
theorem sto1 {ops : Array Oper} {tx e : TypeId} {x y : Operand} {l : List Oper} (i j : Nat) {b off : Nat} {ls rs : List Value} {v : Value} (hx : ev σ x = .pointer (some ⟨b, off, none⟩)) (hy : ev σ y = v)
    (hi : H[i]? = some (.blk b (ob ls e))) (hs : (c.P.info? tx).map (·.size) = some 1) (h1 : v.oneCell' = true) (ho : off = j) (hj : j < ls.length)
    (hr : ls.set j v = rs) (h : TL c n ops l Q σ (H.set i (.blk b (ob rs e))) K) : TL c n ops (⟨none, .store tx x y, t, p, af, none⟩ :: l) Q σ H K := by
  subst ho
  refine sto i (vs := [v]) hx hy (one_cells h1) hi hs (by simp [one, h1]) (by simp; omega) ?_ h
  rw [← hr]; exact set_at hj
/-- A block that is known stored whole. -/
theorem stoA {ops : Array Oper} {tx e : TypeId} {x y : Operand} {l : List Oper} (i : Nat) {b : Nat} {ls rs : List Value} {m : Nat} (hx : ev σ x = .pointer (some ⟨b, 0, none⟩)) (hy : ev σ y = ag rs)
    (hi : H[i]? = some (.blk b (ob ls e))) (hs : (c.P.info? tx).map (·.size) = some m) (hm : rs.length = m) (h1 : one rs = true) (hl : ls.length = m) (h : TL c n ops l Q σ (H.set i (.blk b (ob rs e))) K) : TL c n ops (⟨none, .store tx x y, t, p, af, none⟩ :: l) Q σ H K := by
  refine sto i (vs := rs) hx hy rfl hi (by rw [hs, hm]) h1 (by omega) ?_ h
  rw [hm, ← hl]; simp

/-- A block that is known read whole. -/
theorem ldAll {x : Operand} {tx e : TypeId} (i : Nat) {b m : Nat} {l : List Value} (hx : ev σ x = .pointer (some ⟨b, 0, none⟩)) (hi : H[i]? = some (.blk b (ob l e))) (hu : isAg c.P tx m) (hm : l.length = m) :
    Det c σ H K ⟨d, .load tx x, t, p, af, g⟩ (ag l) :=
  ldA i hx hi hu (by rw [List.drop_zero, List.take_of_length_le (by omega)]) hm

/-- A literal of an array of one-celled elements, all of them given, in their order. -/
theorem fill_all {xs zs : List Value} (h1 : one xs = true) (hz : zs.length = xs.length) : Instr.fill (fun i => some (i * 1, 1)) zs.toArray (xs.zipIdx.map fun (v, i) => (i, v)) = some xs.toArray := by
  have key : ∀ (r : List Value) (k : Nat) (a : List Value), one r = true → a.length = k + r.length → Instr.fill (fun i => some (i * 1, 1)) a.toArray ((r.zipIdx k).map fun (v, i) => (i, v)) = some (a.take k ++ r).toArray := by
    intro r
    induction r with
    | nil => intro k a _ ha; simp at ha; simp [Instr.fill, ← ha]
    | cons x r ih =>
      intro k a h1 ha
      simp only [one, List.all_cons, Bool.and_eq_true] at h1
      rw [List.zipIdx_cons, List.map_cons]
      simp only [List.length_cons] at ha
      refine fill_step (off := k) (size := 1) (vs := [x]) (r := a.set k x) (by simp) (one_cells h1.1) rfl (by omega) ?_ ?_
      · exact set_at (by omega)
      · rw [ih (k + 1) _ h1.2 (by simp; omega)]
        congr 2
        apply List.ext_getElem?
        intro j
        simp only [List.getElem?_append, List.getElem?_take, List.length_take, List.length_set, List.getElem?_set]
        rw [show min (k + 1) a.length = k + 1 by omega, show min k a.length = k by omega]
        by_cases hj : j < k
        · simp [hj, show j < k + 1 by omega, show k ≠ j by omega]
        · by_cases hj2 : j = k
          · subst hj2; simp [show j < a.length by omega]
          · rw [if_neg (by omega), if_neg (by omega), show j - k = (j - (k + 1)) + 1 by omega, List.getElem?_cons_succ]
  have := key xs 0 zs h1 (by omega)
  simpa using this
theorem bldL {tt e : TypeId} {m : Nat} {parts : Array (Nat × Operand)} {xs z : List Value} (hz : (c.P.info? tt).map (·.zero) = some (some (ag z))) (ht : c.P.underlying tt = some (.array m e)) (hs : (c.P.info? e).map (·.size) = some 1)
    (hps : (parts.toList.map fun (i, x) => (i, ev σ x)) = xs.zipIdx.map fun (v, i) => (i, v)) (h1 : one xs = true) (hl : z.length = xs.length) : Det c σ H K ⟨d, .build tt parts, t, p, af, g⟩ (ag xs) :=
  bldA hz ht hs (by rw [← hps]; simp) (fill_all h1 hl)
/-- A struct's literal that names no field. -/
theorem bldZ {tt : TypeId} {fs : Array Field} {z : List Value} (hz : (c.P.info? tt).map (·.zero) = some (some (ag z))) (ht : c.P.underlying tt = some (.struct fs)) (hpl : ∀ w, (fs.mapM (fun f => do Pure.pure (f.offset, ← sizeOf f.type) : Field → Sem (Nat × Nat))).run c.P w = .ok (fs.map fun f => (f.offset, ((c.P.info? f.type).map (·.size)).getD 0)) w) :
    Det c σ H K ⟨d, .build tt #[], t, p, af, g⟩ (ag z) :=
  bldS hz ht hpl rfl (by simp [Instr.fill])
theorem run_places {P : Program} (fs : List Field) (h : ∀ f ∈ fs, ((P.info? f.type).map (·.size)).isSome = true) (w : World) : (fs.toArray.mapM (fun f => do Pure.pure (f.offset, ← sizeOf f.type) : Field → Sem (Nat × Nat))).run P w = .ok (fs.toArray.map fun f => (f.offset, ((P.info? f.type).map (·.size)).getD 0)) w := by
  rw [List.mapM_toArray]
  have key : ∀ fs : List Field, (∀ f ∈ fs, ((P.info? f.type).map (·.size)).isSome = true) → (fs.mapM (fun f => do Pure.pure (f.offset, ← sizeOf f.type) : Field → Sem (Nat × Nat))).run P w = .ok (fs.map fun f => (f.offset, ((P.info? f.type).map (·.size)).getD 0)) w := by
    intro fs
    induction fs with
    | nil => intro _; rfl
    | cons f r ih =>
      intro h
      obtain ⟨m, hm⟩ := Option.isSome_iff_exists.1 (h f (List.mem_cons_self ..))
      simp only [List.mapM_cons, Sem.run_bind, run_size hm, Result.andThen_ok, Sem.run_pure, ih (fun f hf => h f (List.mem_cons_of_mem _ hf)), List.map_cons, hm, Option.getD_some]
  have := key fs h
  have e : ∀ (A B : Type) (g : A → B) (x : Sem A), (g <$> x) = x >>= fun a => Pure.pure (g a) := fun _ _ _ _ => rfl
  rw [e, Sem.run_bind, this]
  simp

/-- copy of a text into a block of the call's own. -/
theorem cpT {ops : Array Oper} {dd : Nat} {x y : Operand} {tx ty e e' : TypeId} {l : List Oper} (i : Nat) {b off m cap : Nat} {ls rs : List Value} {r : List UInt8} (hx : ev σ x = .slice (some ⟨b, off, none⟩) m cap) (hy : ev σ y = .string (bs r))
    (hi : H[i]? = some (.blk b (ob ls e))) (hu : c.P.underlying tx = some (.slice e')) (hs : (c.P.info? e').map (·.size) = some 1) (hd : Nat.blt dd n = true) (hlen : off + (min r.length m) ≤ ls.length)
    (hr : ls.take off ++ b8 (r.take m) ++ ls.drop (off + min r.length m) = rs) (h : TL c n ops l Q (upd σ dd (.int .i64 (min r.length m : Nat))) (H.set i (.blk b (ob rs e))) K) :
    TL c n ops (⟨some dd, .call { callee := .builtin .copy, args := #[x, y], argTypes := #[tx, ty] }, t, p, af, none⟩ :: l) Q σ H K := by
  intro w hm a hrep
  refine wpList_run rfl ?_
  have hb := hm.blk i hi
  have hl8 : (b8 (r.take m)).length = min r.length m := by rw [b8_length, List.length_take, Nat.min_comm]
  have hst := run_storeCells_at (P := c.P) b off e (b8 (r.take m)) 0 ls.toArray w hb (by simp only [List.size_toArray]; omega) (fun u hu => List.all_eq_true.1 (b8_one (r.take m)) u hu)
  have hfc : (Builtin.firstCells 1 (min r.length m) (.string (bs r))).run c.P w = .ok (b8 (r.take m)).toArray w := by
    simp only [Builtin.firstCells, Sem.run_pure]
    rw [bs_extract, List.drop_zero]
    congr 1
    simp [b8]
    exact Nat.min_comm _ _
  have hrun : (execOp a.eval ⟨some dd, .call { callee := .builtin .copy, args := #[x, y], argTypes := #[tx, ty] }, t, p, af, none⟩).run c.P w = .ok (.value (.int .i64 (min r.length m : Nat))) (w.setRow b rs.toArray) := by
    simp only [execOp, hrep.eval, resolve, invoke, builtin, List.map_toArray, List.map_cons, List.map_nil, hx, hy, Builtin.copy_, Sem.run_bind, Sem.run_pure, Result.andThen_ok, List.getElem?_toArray, List.getElem?_cons_zero, List.getElem?_cons_succ, run_und hu, Builtin.lenOf, run_size hs, bs_size]
    rw [show Nat.min r.length m = min r.length m from rfl, hfc]
    simp only [Result.andThen_ok]
    rw [hst, hl8, Nat.add_zero]
    simp only [Result.andThen_ok, hr, goInt]
  rw [hrun]
  exact h _ (hm.change i hi (grownBy_setRow w b _) (setRow_heap w b _ _ e _ hb) (.inl rfl)) _ (hrep.put dd _ (by simp [Nat.blt] at hd; omega))
end
end Go.Proofs.YtmcapgjdflohfaaGreat.L
