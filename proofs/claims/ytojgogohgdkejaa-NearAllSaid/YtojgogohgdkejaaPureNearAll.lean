/- The plain law of NearAll: what the printed functions compute answers as the statement says. Condition: none beside the statement's own. -/
import Derived.Test.YtojgogohgdkejaaPNearAllx2
namespace Go.Proofs.Ytojgogohgdkejaa.Pure
open Go.RowKit Go.Proofs.Ytojgogohgdkejaa.PNearAll Go.Proofs.YtojgogohgdkejaaW.PrintWords Go.Proofs.YtojgogohgdkejaaW.PrintLast Go.Proofs.YtojgogohgdkejaaW.PrintMore

def nearN (l : List Int) (level : Int) : Nat → Int
  | 0 => -1
  | i + 1 => if rd l i ≥ level then (i : Int) else nearN l level i

def near (l : List Int) (a level : Int) : Int := nearN l level (min (max a 0) (l.length : Int)).toNat

theorem nearN_range (l : List Int) (lv : Int) (n : Nat) : -1 ≤ nearN l lv n ∧ nearN l lv n < n := by
  induction n with
  | zero => simp [nearN]
  | succ n ih => simp only [nearN]; split <;> omega

def allFrom (l : List Int) (a : Int) : Nat → Int → List Int
  | 0, _ => []
  | k + 1, lv => if near l a lv < 0 then [] else if near l a lv = 0 then [near l a lv] else near l a lv :: allFrom l a k (lv + 1)

theorem w1 {x : Int} (h0 : -9223372036854775808 ≤ x) (h1 : x ≤ 9223372036854775807) : wrap64 x = x := by unfold wrap64; omega

theorem near_l0 (l : List Int) (lv : Int) (hl : l.length ≤ 200) (n : Nat) : ∀ k, n < k → n ≤ l.length → near_Near.l0 k l lv ((n : Int) - 1) = some (nearN l lv n) := by
  induction n with
  | zero =>
    intro k hk _
    obtain ⟨k, rfl⟩ : ∃ m, k = m + 1 := ⟨k - 1, by omega⟩
    simp only [near_Near.l0]
    rw [if_neg (by omega)]; rfl
  | succ n ih =>
    intro k hk hn
    obtain ⟨k, rfl⟩ : ∃ m, k = m + 1 := ⟨k - 1, by omega⟩
    simp only [near_Near.l0]
    rw [show (((n + 1 : Nat) : Int) - 1) = (n : Int) from by omega, if_pos (by omega), if_pos (by omega), if_pos (by omega)]
    simp only [nearN]
    by_cases h : rd l n ≥ lv
    · rw [if_pos h, if_pos h]
    · rw [if_neg h, if_neg h, w1 (by omega) (by omega)]
      exact ih k (by omega) (by omega)

theorem near_f (l : List Int) (a lv : Int) (hl : l.length ≤ 200) (k : Nat) (hk : 201 < k) : near_Near.f k l a lv = some (near l a lv) := by
  unfold near_Near.f near mn mx
  have e : wrap64 ((if (l.length : Int) < (if a < 0 then 0 else a) then (l.length : Int) else (if a < 0 then 0 else a)) - 1) = (((min (max a 0) (l.length : Int)).toNat : Nat) : Int) - 1 := by
    unfold wrap64; omega
  rw [e]
  exact near_l0 l lv hl _ k (by omega) (by omega)

theorem all_l0 (l : List Int) (a : Int) (hl : l.length ≤ 200) (d : Nat) : ∀ (k : Nat) (j : Int) (x : List Int), j + d = 257 → 0 ≤ j → x.length ≤ j → 202 + d < k →
    near_All.l0 k l a x j = some (x ++ allFrom l a d j) := by
  induction d with
  | zero =>
    intro k j x hj h0 hx hk
    obtain ⟨k, rfl⟩ : ∃ m, k = m + 1 := ⟨k - 1, by omega⟩
    simp only [near_All.l0]
    rw [if_neg (by omega)]; simp [allFrom]
  | succ d ih =>
    intro k j x hj h0 hx hk
    obtain ⟨k, rfl⟩ : ∃ m, k = m + 1 := ⟨k - 1, by omega⟩
    simp only [near_All.l0, allFrom]
    rw [if_pos (by omega), near_f l a j hl k (by omega)]
    simp only [Option.bind_some]
    by_cases h1 : near l a j < 0
    · rw [if_pos h1, if_pos h1]; simp
    · rw [if_neg h1, if_neg h1, if_pos (by omega)]
      by_cases h2 : near l a j = 0
      · rw [if_pos h2, if_pos h2]
      · rw [if_neg h2, if_neg h2, w1 (by omega) (by omega), ih k (j + 1) (x ++ [near l a j]) (by omega) (by omega) (by simp; omega) (by omega)]
        simp

def all (l : List Int) (a : Int) : List Int := if a < 1 ∨ (l.length : Int) < a then [] else allFrom l a 257 0

theorem all_f (l : List Int) (a : Int) (hl : l.length ≤ 200) (k : Nat) (hk : 500 < k) : near_All.f k l a = some (all l a) := by
  obtain ⟨k, rfl⟩ : ∃ m, k = m + 1 := ⟨k - 1, by omega⟩
  have hL := all_l0 l a hl 257 k 0 [] (by omega) (by omega) (by simp) (by omega)
  unfold near_All.f
  simp only [near_All.j0]
  by_cases h1 : a < 1
  · have e : all l a = [] := by unfold all; rw [if_pos (Or.inl h1)]
    rw [e, if_pos h1, if_pos trivial]
  · by_cases h2 : a > (l.length : Int)
    · have e : all l a = [] := by unfold all; rw [if_pos (Or.inr h2)]
      rw [e, if_neg h1, if_pos (by simpa using h2)]
    · have e : all l a = allFrom l a 257 0 := by unfold all; rw [if_neg (by omega)]
      rw [e, if_neg h1, if_neg (by simpa using h2), hL]; rfl

theorem rnear_l0 (l : List Int) (a lv : Int) (hl : l.length ≤ 200) (d : Nat) : ∀ (k i : Nat), i + d = (min (max a 0) (l.length : Int)).toNat → 2 * d + 1 < k →
    milepostref22_Near.l0 k l a lv (nearN l lv i) (i : Int) = some (near l a lv) := by
  induction d with
  | zero =>
    intro k i hi hk
    obtain ⟨k, rfl⟩ : ∃ m, k = m + 2 := ⟨k - 2, by omega⟩
    simp only [milepostref22_Near.l0, milepostref22_Near.j1]
    have e : nearN l lv i = near l a lv := by unfold near; rw [← hi]; rfl
    by_cases h : (i : Int) < (l.length : Int)
    · rw [if_pos h, if_neg (by simp; omega), e]
    · rw [if_neg h, if_neg (by simp), e]
  | succ d ih =>
    intro k i hi hk
    obtain ⟨k, rfl⟩ : ∃ m, k = m + 2 := ⟨k - 2, by omega⟩
    simp only [milepostref22_Near.l0, milepostref22_Near.j1]
    have ih' := ih k (i + 1) (by omega) (by omega)
    simp only [nearN] at ih'
    rw [if_pos (by omega), if_pos (by simp; omega), if_pos (by omega), if_pos (by omega), w1 (by omega) (by omega)]
    by_cases h : rd l i ≥ lv
    · rw [if_pos h]; rw [if_pos h] at ih'; exact ih'
    · rw [if_neg h]; rw [if_neg h] at ih'; exact ih'

theorem rnear_f (l : List Int) (a lv : Int) (hl : l.length ≤ 200) (k : Nat) (hk : 402 < k) : milepostref22_Near.f k l a lv = some (near l a lv) := by
  unfold milepostref22_Near.f
  exact rnear_l0 l a lv hl (min (max a 0) (l.length : Int)).toNat k 0 (by omega) (by omega)

theorem rall_l0 (l : List Int) (a : Int) (hl : l.length ≤ 200) (d : Nat) : ∀ (k : Nat) (j : Int) (x : List Int), j + d = 257 → 0 ≤ j → x.length ≤ j → 403 + d < k →
    milepostref22_All.l0 k l a x j = some (x ++ allFrom l a d j) := by
  induction d with
  | zero =>
    intro k j x hj h0 hx hk
    obtain ⟨k, rfl⟩ : ∃ m, k = m + 1 := ⟨k - 1, by omega⟩
    simp only [milepostref22_All.l0]
    rw [if_neg (by omega)]; simp [allFrom]
  | succ d ih =>
    intro k j x hj h0 hx hk
    obtain ⟨k, rfl⟩ : ∃ m, k = m + 1 := ⟨k - 1, by omega⟩
    simp only [milepostref22_All.l0, allFrom]
    rw [if_pos (by omega), rnear_f l a j hl k (by omega)]
    simp only [Option.bind_some]
    by_cases h1 : near l a j < 0
    · rw [if_pos h1, if_pos h1]; simp
    · rw [if_neg h1, if_neg h1, if_pos (by omega)]
      by_cases h2 : near l a j = 0
      · rw [if_pos h2, if_pos h2]
      · rw [if_neg h2, if_neg h2, w1 (by omega) (by omega), ih k (j + 1) (x ++ [near l a j]) (by omega) (by omega) (by simp; omega) (by omega)]
        simp

theorem rall_f (l : List Int) (a : Int) (hl : l.length ≤ 200) (k : Nat) (hk : 700 < k) : milepostref22_All.f k l a = some (all l a) := by
  obtain ⟨k, rfl⟩ : ∃ m, k = m + 1 := ⟨k - 1, by omega⟩
  have hL := rall_l0 l a hl 257 k 0 [] (by omega) (by omega) (by simp) (by omega)
  unfold milepostref22_All.f
  simp only [milepostref22_All.j0]
  by_cases h1 : a < 1
  · have e : all l a = [] := by unfold all; rw [if_pos (Or.inl h1)]
    rw [e, if_pos h1, if_pos trivial]
  · by_cases h2 : a > (l.length : Int)
    · have e : all l a = [] := by unfold all; rw [if_pos (Or.inr h2)]
      rw [e, if_neg h1, if_pos (by simpa using h2)]
    · have e : all l a = allFrom l a 257 0 := by unfold all; rw [if_neg (by omega)]
      rw [e, if_neg h1, if_neg (by simpa using h2), hL]; rfl

theorem allFrom_length (l : List Int) (a : Int) (d : Nat) : ∀ j, (allFrom l a d j).length ≤ d := by
  induction d with
  | zero => simp [allFrom]
  | succ d ih => intro j; simp only [allFrom]; split; simp; split; simp; have := ih (j + 1); simp; omega

theorem all_length (l : List Int) (a : Int) : (all l a).length ≤ 257 := by
  unfold all; split; simp; exact allFrom_length _ _ _ _

theorem same_l0 (x : List Int) (hx : x.length ≤ 257) (d : Nat) : ∀ (k i : Nat), i + d = x.length → d < k → milepostref22_Same.l0 k x x (i : Int) = some true := by
  induction d with
  | zero =>
    intro k i hi hk
    obtain ⟨k, rfl⟩ : ∃ m, k = m + 1 := ⟨k - 1, by omega⟩
    simp only [milepostref22_Same.l0]
    rw [if_neg (by omega)]
  | succ d ih =>
    intro k i hi hk
    obtain ⟨k, rfl⟩ : ∃ m, k = m + 1 := ⟨k - 1, by omega⟩
    simp only [milepostref22_Same.l0]
    rw [if_pos (by omega), if_pos (by omega), if_pos (by omega), if_pos trivial, w1 (by omega) (by omega)]
    exact ih k (i + 1) (by omega) (by omega)

theorem same_f (x : List Int) (hx : x.length ≤ 257) (k : Nat) (hk : 257 < k) : milepostref22_Same.f k x x = some true := by
  unfold milepostref22_Same.f
  rw [if_pos rfl]
  exact same_l0 x hx x.length k 0 (by omega) (by omega)

theorem awake_f (k : Nat) (hk : 700 < k) : milepostlaw26_awake.f k = some true := by
  unfold milepostlaw26_awake.f
  rw [all_f _ 4 (by simp) k (by omega)]
  have e : all [256, 0, 2, 0] 4 = [3, 2, 2, 0] := by decide
  rw [e]
  simp only [Option.bind_some]
  rw [same_f _ (by simp) k (by omega)]; rfl

theorem NearAll : milepostlaw26_NearAll.Pure := by
  intro l a hm hb hw ha
  refine ⟨1000, ?_⟩
  unfold milepostlaw26_NearAll.f
  by_cases h : (l.length : Int) > 200
  · rw [if_pos h, awake_f _ (by omega)]; rfl
  · rw [if_neg h, all_f l a (by omega) _ (by omega), rall_f l a (by omega) _ (by omega)]
    simp only [Option.bind_some]
    rw [same_f _ (all_length l a) _ (by omega)]
    simp only [Option.bind_some, if_true]
    rw [awake_f _ (by omega)]; rfl

end Go.Proofs.Ytojgogohgdkejaa.Pure
