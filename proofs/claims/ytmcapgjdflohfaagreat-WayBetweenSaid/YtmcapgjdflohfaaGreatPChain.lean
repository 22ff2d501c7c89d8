/- Plain law: what Check tells of levels; the vectors by the rule. -/
import Derived.Test.YtmcapgjdflohfaaGreatMuch
set_option linter.all false
namespace Go.Proofs.YtmcapgjdflohfaaGreat.L
open Go Go.RowKit
set_option linter.unusedVariables false

def idsA (l : List Bl) : List (List UInt8) := l.map fun b => idL b.h
theorem idsA_length (l : List Bl) : (idsA l).length = l.length := by simp [idsA]
theorem idsA_get {l : List Bl} {k : Nat} (h : k < l.length) : (idsA l).getD k [] = idL (l.getD k bl0).h := by simp [idsA, h]
theorem levs_get {t : List UInt8} {l : List Bl} {k : Nat} (h : k < l.length) : (levs t l).getD k 0 = levF1 t k (l.getD k bl0) := by simp [levs, h]
theorem vecA_vec (t : List UInt8) (l : List Bl) (k : Nat) (hk : k ≤ l.length) : vecA t l k = Mp.vec [] (idsA l) (levs t l) k := by
  induction k with
  | zero => rfl
  | succ k ih =>
    rw [vecA, Mp.vec, behindS, ih (by omega)]
    by_cases h0 : k = 0
    · subst h0; rw [if_pos rfl, if_pos rfl, idsA_get (by omega)]
    · rw [if_neg h0, if_neg h0, idsA_get (by omega), levs_get (by omega), levF1, if_neg h0]

theorem okW_lev {i t : List UInt8} (h : okW i t = true) : 0 ≤ levW i t := by
  have h := of_decide_eq_true h
  unfold levW
  rw [show (256 : Nat) = 255 + 1 from rfl, levF, shrN, if_pos rfl, if_neg (by omega)]
  have := levF_range (ofN i 4) (ofN t 4) 255 1
  simp only [Nat.zero_add]
  omega
theorem chkGo_zero (c : Cf) (l : List Bl) (r k : Nat) (h : (chkGo c l r k).1 = 0) : ∀ j, k ≤ j → j < k + r → ask3 c l j = 0 := by
  induction r generalizing k with
  | zero => intro j h1 h2; omega
  | succ r ih =>
    intro j h1 h2
    rw [chkGo] at h
    by_cases e : ask3 c l k = 0
    · rw [if_neg (fun x => x e)] at h
      by_cases ej : j = k
      · rw [ej]; exact e
      · exact ih (k + 1) h j (by omega) (by omega)
    · rw [if_pos e] at h; exact absurd h e
theorem ask3_work {c : Cf} {l : List Bl} {k : Nat} (h : ask3 c l k = 0) : askF c k (l.getD k bl0) (vecA c.t l k) 0 = 0 ∧ askF c k (l.getD k bl0) (vecA c.t l k) 1 = 0 ∧ askF c k (l.getD k bl0) (vecA c.t l k) 2 = 0 := by
  unfold ask3 at h
  dsimp only at h
  split at h
  · rename_i h1; exact absurd h h1
  · split at h
    · rename_i h1; exact absurd h h1
    · rename_i h1 h2
      exact ⟨Decidable.not_not.1 h1, Decidable.not_not.1 h2, h⟩
/-- What a chain that may be is. -/
structure Chn (c : Cf) (l : List Bl) : Prop where
  pos : 0 < l.length
  le : l.length ≤ 1024
  ask : ∀ k, k < l.length → ask3 c l k = 0
theorem chk_chn {c : Cf} {l : List Bl} (h : (chkF c l).1 = 0) : Chn c l := by
  unfold chkF at h
  split at h
  · cases h
  · split at h
    · cases h
    · exact ⟨by omega, by omega, fun k hk => chkGo_zero c l _ 0 h k (by omega) (by omega)⟩
theorem Chn.work {c : Cf} {l : List Bl} (h : Chn c l) {k : Nat} (hk : k < l.length) : okW (idL (l.getD k bl0).h) c.t = true := by
  have := (ask3_work (h.ask k hk)).2.2
  simp only [askF, workF] at this
  rw [if_neg (by decide), if_neg (by decide)] at this
  by_cases e : okW (idL (l.getD k bl0).h) c.t = true
  · exact e
  · rw [if_neg e] at this; cases this
theorem Chn.levels {c : Cf} {l : List Bl} (h : Chn c l) : Mp.ChainLevels (levs c.t l) := by
  refine ⟨fun _ => by rw [levs_get h.pos, levF1, if_pos rfl], fun i h0 hi => ?_⟩
  rw [levs_length] at hi
  rw [levs_get hi, levF1, if_neg (by omega)]
  exact ⟨okW_lev (h.work hi), (levW_range _ _).2⟩
/-- The vectors by what is near. -/
theorem Chn.vec {c : Cf} {l : List Bl} (h : Chn c l) {k : Nat} (hk : k ≤ l.length) : vecA c.t l k = (Mp.all (levs c.t l) k).map fun p => (idsA l).getD p.toNat [] := by
  rw [vecA_vec _ _ _ hk, Mp.vec_eq _ _ _ h.levels _ (by rw [levs_length]; exact hk)]
end Go.Proofs.YtmcapgjdflohfaaGreat.L
