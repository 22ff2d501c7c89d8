/- How a step of the world carries what is held of it, in the logic of Core. Nothing here speaks of the program. -/
import Derived.Test.YtmcapgjdflohfaaGreatCore
import Derived.Laws.OwnMore
import Derived.Laws.Tables
set_option linter.all false
namespace Go.Proofs.YtmcapgjdflohfaaGreat.L
open Go Go.RowKit

theorem mem_places {b : Nat} {H : List Res} : b ∈ places H ↔ ∃ r ∈ H, r.at = some b := by
  induction H with
  | nil => simp [places]
  | cons r l ih => simp [places, ih]

theorem Res.keep {base : Nat} {w w' : World} {r : Res} (h : r.holds base w) (hk : ∀ b, r.at = some b → w'.heap[b]? = w.heap[b]?) : r.holds base w' := by
  cases r with
  | blk b o => simp only [Res.holds] at *; rw [hk b rfl]; exact h
  | row v e sz n xs =>
    simp only [Res.holds] at *
    refine ⟨h.1, ?_⟩
    rcases h.2 with h2 | ⟨g, cap, cur, rfl, hb, hg, hrest⟩
    · exact .inl h2
    · exact .inr ⟨g, cap, cur, rfl, hb, by rw [hk g rfl]; exact hg, hrest⟩

theorem Res.lt {base : Nat} {w : World} {r : Res} (h : r.holds base w) (b : Nat) (hb : r.at = some b) : b < w.heap.size := by
  cases r with
  | blk b' o =>
    simp only [Res.at, Option.some.injEq] at hb
    subst hb
    exact (Array.getElem?_eq_some_iff.1 h).1
  | row v e sz n xs => exact (World.ownsRow.lt h b hb).2

/-- Which block a set's turned entry has. -/
theorem places_set {H : List Res} {i : Nat} {r' : Res} (b : Nat) : b ∈ places (H.set i r') → b ∈ places H ∨ r'.at = some b := by
  intro h
  obtain ⟨x, hx, hb⟩ := mem_places.1 h
  rcases List.mem_or_eq_of_mem_set hx with hx | rfl
  · exact .inl (mem_places.2 ⟨x, hx, hb⟩)
  · exact .inr hb

theorem nodup_set {H : List Res} {i : Nat} {r r' : Res} (hi : H[i]? = some r) (h : (places H).Nodup) (hat : r'.at = r.at ∨ r'.at = none ∨ ∃ k, r'.at = some k ∧ k ∉ places H) : (places (H.set i r')).Nodup := by
  induction H generalizing i with
  | nil => simp at hi
  | cons x l ih =>
    cases i with
    | zero =>
      simp only [List.getElem?_cons_zero, Option.some.injEq] at hi
      subst hi
      simp only [List.set_cons_zero, places] at *
      rcases hat with hat | hat | ⟨k, hk, hn⟩
      · rw [hat]; exact h
      · rw [hat]; simp; exact (List.nodup_append.1 h).2.1
      · rw [hk]
        simp only [Option.toList_some, List.cons_append, List.nil_append, List.nodup_cons]
        exact ⟨fun hm => hn (List.mem_append_right _ hm), (List.nodup_append.1 h).2.1⟩
    | succ i =>
      simp only [List.getElem?_cons_succ] at hi
      simp only [List.set_cons_succ, places] at *
      obtain ⟨h1, h2, h3⟩ := List.nodup_append.1 h
      refine List.nodup_append.2 ⟨h1, ih hi h2 ?_, ?_⟩
      · rcases hat with hat | hat | ⟨k, hk, hn⟩
        · exact .inl hat
        · exact .inr (.inl hat)
        · exact .inr (.inr ⟨k, hk, fun hm => hn (List.mem_append_right _ hm)⟩)
      · intro a ha b hb
        rcases places_set b hb with hb | hb
        · exact h3 a ha b hb
        · rcases hat with hat | hat | ⟨k, hk, hn⟩
          · rw [hat] at hb
            exact h3 a ha b (mem_places.2 ⟨r, List.mem_of_getElem? hi, hb⟩)
          · rw [hat] at hb; cases hb
          · rw [hk] at hb
            obtain rfl := Option.some.inj hb
            rintro rfl
            exact hn (List.mem_append_left _ ha)

theorem other_block {H : List Res} {i j : Nat} {r x : Res} (hi : H[i]? = some r) (hj : H[j]? = some x) (hne : i ≠ j) (h : (places H).Nodup) (b : Nat) (hb : x.at = some b) : r.at ≠ some b := by
  induction H generalizing i j with
  | nil => simp at hi
  | cons y l ih =>
    simp only [places] at h
    obtain ⟨h1, h2, h3⟩ := List.nodup_append.1 h
    cases i with
    | zero =>
      cases j with
      | zero => exact absurd rfl hne
      | succ j =>
        simp only [List.getElem?_cons_zero, Option.some.injEq, List.getElem?_cons_succ] at hi hj
        subst hi
        intro hr
        exact h3 b (by simp [hr]) b (mem_places.2 ⟨x, List.mem_of_getElem? hj, hb⟩) rfl
    | succ i =>
      cases j with
      | zero =>
        simp only [List.getElem?_cons_zero, Option.some.injEq, List.getElem?_cons_succ] at hi hj
        subst hj
        intro hr
        exact h3 b (by simp [hb]) b (mem_places.2 ⟨r, List.mem_of_getElem? hi, hr⟩) rfl
      | succ j =>
        simp only [List.getElem?_cons_succ] at hi hj
        exact ih hi hj (by omega) h2

section
variable {c : Cx} {H : List Res} {K : List Fact} {w w' : World}

theorem M.get (hm : M c H K w) {i : Nat} {r : Res} (hi : H[i]? = some r) : r.holds c.w0.heap.size w := hm.holds r (List.mem_of_getElem? hi)
theorem M.blk (hm : M c H K w) (i : Nat) {b : Nat} {o : Obj} (hi : H[i]? = some (.blk b o)) : w.heap[b]? = some o := hm.get hi

/-- One entry turns, the world grows and is written at that entry's block alone. -/
theorem M.change (hm : M c H K w) (i : Nat) {r r' : Res} (hi : H[i]? = some r) (hg : w.grownBy w' r.at) (hr : r'.holds c.w0.heap.size w')
    (hat : r'.at = r.at ∨ r'.at = none ∨ ∃ k, r'.at = some k ∧ w.heap.size ≤ k) : M c (H.set i r') K w' := by
  have hown : ∀ b, r.at = some b → b ∈ places H := fun b hb => mem_places.2 ⟨r, List.mem_of_getElem? hi, hb⟩
  have hfresh : ∀ k, w.heap.size ≤ k → k ∉ places H := fun k hk hmem => by have := (hm.mine k hmem).2; omega
  have hplace : ∀ b, b ∈ places (H.set i r') → b ∈ places H ∨ (w.heap.size ≤ b ∧ r'.at = some b) := by
    intro b hb
    rcases places_set b hb with hb | hb
    · exact .inl hb
    · rcases hat with hat | hat | ⟨k, hk, hn⟩
      · rw [hat] at hb; exact .inl (hown b hb)
      · rw [hat] at hb; cases hb
      · have e := hb; rw [hk] at e; obtain rfl := Option.some.inj e; exact .inr ⟨hn, hb⟩
  refine ⟨hg.os.trans hm.os, hg.tape.trans hm.tape, hg.output.trans hm.output, Nat.le_trans hm.size hg.size, ?_, ?_, ?_, ?_, hm.stable, ?_⟩
  · intro k hk hkS
    have := hm.size
    rw [hg.block k (by omega) ?_]
    · exact hm.frame k hk hkS
    · intro e
      rcases (hm.mine k (hown k e.symm)).1 with h | h
      · omega
      · exact hkS h
  · intro x hx
    obtain ⟨j, hj, hxj⟩ := List.getElem_of_mem hx
    by_cases hij : i = j
    · subst hij
      rw [List.getElem_set_self] at hxj
      subst hxj; exact hr
    · rw [List.getElem_set_ne hij] at hxj
      have hj' : H[j]? = some x := by
        rw [List.getElem?_eq_getElem (by simpa using hj)]; rw [hxj]
      have hx' := hm.get hj'
      refine Res.keep hx' fun b hb => hg.block b (Res.lt hx' b hb) ?_
      intro e
      exact other_block hi hj' hij hm.nodup b hb e.symm
  · intro b hb
    rcases hplace b hb with h | ⟨h, h2⟩
    · have := hm.mine b h
      exact ⟨this.1, Nat.lt_of_lt_of_le this.2 hg.size⟩
    · have := hm.size
      exact ⟨.inl (by omega), Res.lt hr b h2⟩
  · refine nodup_set hi hm.nodup ?_
    rcases hat with hat | hat | ⟨k, hk, hn⟩
    · exact .inl hat
    · exact .inr (.inl hat)
    · exact .inr (.inr ⟨k, hk, hfresh k hn⟩)
  · obtain ⟨D, d1, d2, d3, d4, d5⟩ := hm.data
    refine ⟨D, d1, d2, fun k hk => Nat.lt_of_lt_of_le (d3 k hk) hg.size, ?_, d5.step hm.stable (fun _ h => h) ?_⟩
    · intro b hb
      rcases hplace b hb with h | h
      · exact d4 b h
      · intro hD; have := d3 b hD; omega
    · intro k hk hlt
      refine hg.block k hlt ?_
      intro e
      exact d4 k (hown k e.symm) hk

/-- A new entry, in new memory. -/
theorem M.add (hm : M c H K w) {r : Res} (hg : w.grownBy w' none) (hr : r.holds c.w0.heap.size w') (hat : r.at = none ∨ ∃ k, r.at = some k ∧ w.heap.size ≤ k) : M c (r :: H) K w' := by
  have hfresh : ∀ k, w.heap.size ≤ k → k ∉ places H := fun k hk hmem => by have := (hm.mine k hmem).2; omega
  have hplace : ∀ b, b ∈ places (r :: H) → b ∈ places H ∨ (w.heap.size ≤ b ∧ r.at = some b) := by
    intro b hb
    simp only [places, List.mem_append, Option.mem_toList] at hb
    rcases hb with hb | hb
    · rcases hat with hat | ⟨k, hk, hn⟩
      · rw [hat] at hb; cases hb
      · have e := hb; rw [hk] at e; obtain rfl := Option.some.inj e; exact .inr ⟨hn, hb⟩
    · exact .inl hb
  refine ⟨hg.os.trans hm.os, hg.tape.trans hm.tape, hg.output.trans hm.output, Nat.le_trans hm.size hg.size, ?_, ?_, ?_, ?_, hm.stable, ?_⟩
  · intro k hk hkS
    have := hm.size
    rw [hg.block k (by omega) (by simp)]
    exact hm.frame k hk hkS
  · intro x hx
    rcases List.mem_cons.1 hx with rfl | hx
    · exact hr
    · have hx' := hm.holds x hx
      exact Res.keep hx' fun b hb => hg.block b (Res.lt hx' b hb) (by simp)
  · intro b hb
    rcases hplace b hb with h | ⟨h, h2⟩
    · have := hm.mine b h
      exact ⟨this.1, Nat.lt_of_lt_of_le this.2 hg.size⟩
    · have := hm.size
      exact ⟨.inl (by omega), Res.lt hr b h2⟩
  · simp only [places]
    rcases hat with hat | ⟨k, hk, hn⟩
    · rw [hat]; simpa using hm.nodup
    · rw [hk]
      simp only [Option.toList_some, List.cons_append, List.nil_append, List.nodup_cons]
      exact ⟨hfresh k hn, hm.nodup⟩
  · obtain ⟨D, d1, d2, d3, d4, d5⟩ := hm.data
    refine ⟨D, d1, d2, fun k hk => Nat.lt_of_lt_of_le (d3 k hk) hg.size, ?_, d5.step hm.stable (fun _ h => h) ?_⟩
    · intro b hb
      rcases hplace b hb with h | h
      · exact d4 b h
      · intro hD; have := d3 b hD; omega
    · intro k hk hlt
      exact hg.block k hlt (by simp)

/-- New memory, and a fact on it. -/
theorem M.learn (hm : M c H K w) {f : Fact} (hs : Stable f) (hg : w.grownBy w' none)
    (hf : ∀ D : Nat → Prop, KAll K D w → f (fun k => D k ∨ (w.heap.size ≤ k ∧ k < w'.heap.size)) w') : M c H (f :: K) w' := by
  refine ⟨hg.os.trans hm.os, hg.tape.trans hm.tape, hg.output.trans hm.output, Nat.le_trans hm.size hg.size, ?_, ?_, ?_, hm.nodup, ⟨hs, hm.stable⟩, ?_⟩
  · intro k hk hkS
    have := hm.size
    rw [hg.block k (by omega) (by simp)]
    exact hm.frame k hk hkS
  · intro x hx
    have hx' := hm.holds x hx
    exact Res.keep hx' fun b hb => hg.block b (Res.lt hx' b hb) (by simp)
  · intro b hb
    have := hm.mine b hb
    exact ⟨this.1, Nat.lt_of_lt_of_le this.2 hg.size⟩
  · obtain ⟨D, d1, d2, d3, d4, d5⟩ := hm.data
    refine ⟨fun k => D k ∨ (w.heap.size ≤ k ∧ k < w'.heap.size), ?_, fun k hk => .inl (d2 k hk), ?_, ?_, hf D d5, d5.step hm.stable (fun _ h => .inl h) fun k hk hlt => hg.block k hlt (by simp)⟩
    · rintro k (hk | hk)
      · exact d1 k hk
      · have := hm.size; exact .inr (by omega)
    · rintro k (hk | hk)
      · exact Nat.lt_of_lt_of_le (d3 k hk) hg.size
      · exact hk.2
    · rintro b hb (hD | hD)
      · exact d4 b hb hD
      · have := (hm.mine b hb).2; omega

theorem M.pure (hm : M c H K w) (hg : w.grownBy w' none) : M c H K w' := by
  refine ⟨hg.os.trans hm.os, hg.tape.trans hm.tape, hg.output.trans hm.output, Nat.le_trans hm.size hg.size, ?_, ?_, ?_, hm.nodup, hm.stable, ?_⟩
  · intro k hk hkS
    have := hm.size
    rw [hg.block k (by omega) (by simp)]
    exact hm.frame k hk hkS
  · intro x hx
    have hx' := hm.holds x hx
    exact Res.keep hx' fun b hb => hg.block b (Res.lt hx' b hb) (by simp)
  · intro b hb
    have := hm.mine b hb
    exact ⟨this.1, Nat.lt_of_lt_of_le this.2 hg.size⟩
  · obtain ⟨D, d1, d2, d3, d4, d5⟩ := hm.data
    exact ⟨D, d1, d2, fun k hk => Nat.lt_of_lt_of_le (d3 k hk) hg.size, d4, d5.step hm.stable (fun _ h => h) fun k hk hlt => hg.block k hlt (by simp)⟩

/-- A fact that follows. -/
theorem M.also (hm : M c H K w) {f : Fact} (hs : Stable f) (hf : ∀ D : Nat → Prop, KAll K D w → f D w) : M c H (f :: K) w := by
  obtain ⟨D, d1, d2, d3, d4, d5⟩ := hm.data
  exact ⟨hm.os, hm.tape, hm.output, hm.size, hm.frame, hm.holds, hm.mine, hm.nodup, ⟨hs, hm.stable⟩, D, d1, d2, d3, d4, hf D d5, d5⟩

/-- At the end: what a pure call owes. -/
theorem M.below (hm : M c H K w) (hS : c.S = []) : Below c.w0.heap.size c.w0 w :=
  ⟨hm.os, hm.tape, hm.output, hm.size, fun k hk => hm.frame k hk (by simp [hS])⟩

theorem grown_below {w w' : World} (h : Below w.heap.size w w') : w.grownBy w' none := ⟨h.os, h.tape, h.output, h.size, fun k hk _ => h.block k hk⟩

/-- The beginning of a call: nothing is held yet but what the blocks of data tell. -/
theorem M.init (P : Program) (w : World) (D : Nat → Prop) (S : List Nat) (K : List Fact) (hK : KStable K) (hD : ∀ k, D k → k < w.heap.size) (h : KAll K D w) : M ⟨P, w, D, S⟩ [] K w :=
  { os := rfl, tape := rfl, output := rfl, size := Nat.le_refl _, frame := fun _ _ _ => rfl, holds := fun _ h => (by cases h), mine := fun _ h => (by cases h), nodup := List.nodup_nil, stable := hK,
    data := ⟨D, fun k hk => Or.inl hk, fun _ h => h, hD, fun _ h => (by cases h), h⟩ }
end
end Go.Proofs.YtmcapgjdflohfaaGreat.L
