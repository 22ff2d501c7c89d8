/- Loops by a family of slots' values, in the logic of Core. Nothing here speaks of the program. -/
import Derived.Test.YtmcapgjdflohfaaGreatCall
set_option linter.all false
namespace Go.Proofs.YtmcapgjdflohfaaGreat.L
open Go Go.RowKit

/-- So many slots have these values. -/
def At : List (Nat × Value) → Env → Prop
  | [], _ => True
  | (s, v) :: r, σ => σ s = v ∧ At r σ
/-- A state's slots, written out. -/
def fix : List (Nat × Value) → Env → Env
  | [], σ => σ
  | (s, v) :: r, σ => upd (fix r σ) s v

theorem fix_at {l : List (Nat × Value)} {σ : Env} (h : At l σ) : fix l σ = σ := by
  induction l with
  | nil => rfl
  | cons p r ih =>
    obtain ⟨s, v⟩ := p
    simp only [fix, At] at *
    rw [ih h.2]
    funext i
    by_cases e : i = s
    · subst e; rw [upd_same, h.1]
    · rw [upd_ne _ _ _ _ e]

section
variable {c : Cx} {n : Nat} {Q : Exit → Env → World → Prop} {σ : Env} {H : List Res} {K : List Fact}

/-- What a round owes. -/
def Again {ι : Type} (c : Cx) (Inv : ι → Prop) (V : ι → List (Nat × Value)) (HH : ι → List Res) (KK : ι → List Fact) (μ : ι → Nat) (i : ι) : Env → World → Prop :=
  fun σ' w' => ∃ j, (Inv j ∧ At (V j) σ') ∧ M c (HH j) (KK j) w' ∧ μ j < μ i

theorem loopV {ι : Type} {x : Code} (Inv : ι → Prop) (V : ι → List (Nat × Value)) (HH : ι → List Res) (KK : ι → List Fact) (μ : ι → Nat) (i0 : ι)
    (hi0 : Inv i0) (h0 : At (V i0) σ) (hm0 : ∀ w, M c H K w → M c (HH i0) (KK i0) w)
    (round : ∀ i σ, Inv i → Tr c n x (thn (Again c Inv V HH KK μ i) Q) (fix (V i) σ) (HH i) (KK i)) : Tr c n (.loop x) Q σ H K := by
  refine loop (fun i σ => Inv i ∧ At (V i) σ) HH KK μ i0 ⟨hi0, h0⟩ hm0 ?_
  rintro i σ ⟨h1, h2⟩
  have := round i σ h1
  rw [fix_at h2] at this
  exact this

theorem again {ι : Type} {Inv : ι → Prop} {V : ι → List (Nat × Value)} {HH : ι → List Res} {KK : ι → List Fact} {μ : ι → Nat} {i : ι} (j : ι) (hj : Inv j) (ha : At (V j) σ)
    (hm : ∀ w, M c H K w → M c (HH j) (KK j) w) (hl : μ j < μ i) : ∀ w, M c H K w → Again c Inv V HH KK μ i σ w :=
  fun w h => ⟨j, ⟨hj, ha⟩, hm w h, hl⟩

/-- A cut in a sequence, by slots' values. -/
def Meets {ι : Type} (c : Cx) (Inv : ι → Prop) (V : ι → List (Nat × Value)) (HH : ι → List Res) (KK : ι → List Fact) : Env → World → Prop :=
  fun σ w => ∃ i, (Inv i ∧ At (V i) σ) ∧ M c (HH i) (KK i) w
theorem cutV {ι : Type} {x y : Code} (Inv : ι → Prop) (V : ι → List (Nat × Value)) (HH : ι → List Res) (KK : ι → List Fact)
    (h1 : Tr c n x (thn (Meets c Inv V HH KK) Q) σ H K) (h2 : ∀ i σ, Inv i → Tr c n y Q (fix (V i) σ) (HH i) (KK i)) : Tr c n (x.seq y) Q σ H K := by
  refine cut (fun i σ => Inv i ∧ At (V i) σ) HH KK h1 ?_
  rintro i σ ⟨h3, h4⟩
  have := h2 i σ h3
  rw [fix_at h4] at this
  exact this
theorem meets {ι : Type} {Inv : ι → Prop} {V : ι → List (Nat × Value)} {HH : ι → List Res} {KK : ι → List Fact} (j : ι) (hj : Inv j) (ha : At (V j) σ)
    (hm : ∀ w, M c H K w → M c (HH j) (KK j) w) : ∀ w, M c H K w → Meets c Inv V HH KK σ w := fun w h => ⟨j, ⟨hj, ha⟩, hm w h⟩

/-- On to what stands behind. -/
theorem skipS {y : Code} (h : Tr c n y Q σ H K) : Tr c n .skip (thn (Wp c n y Q) Q) σ H K := skip h
end
end Go.Proofs.YtmcapgjdflohfaaGreat.L
