/- Slices: as facts that are read, and as rows of the call's own; in the logic of Core. Nothing here speaks of the program. -/
import Derived.Test.YtmcapgjdflohfaaGreatLoop
import Derived.Laws.BytesArg
import Derived.Laws.MakeOwn
set_option linter.all false
namespace Go.Proofs.YtmcapgjdflohfaaGreat.L
open Go Go.RowKit

/-- A slice value reads as a list of elements, each so many cells. -/
def Sl (sz : Nat) (A : Option Addr) (n cap : Nat) (ls : List (List Value)) : Fact := fun D w =>
  ls.length = n ∧ n ≤ cap ∧ cap ≤ maxLen ∧ (∀ l ∈ ls, l.length = sz ∧ one l = true) ∧
  (0 < n → ∃ b off, A = some ⟨b, off, none⟩ ∧ D b ∧ ∀ i l, ls[i]? = some l → ∀ j u, l[j]? = some u → w.cell? ⟨b, off + i * sz + j, none⟩ = some u)

theorem Sl.stable {sz : Nat} {A : Option Addr} {n cap : Nat} {ls : List (List Value)} : Stable (Sl sz A n cap ls) := by
  rintro D D' w w' hD hw ⟨h1, h2, h3, h4, h5⟩
  refine ⟨h1, h2, h3, h4, fun hn => ?_⟩
  obtain ⟨b, off, hA, hb, hc⟩ := h5 hn
  refine ⟨b, off, hA, hD b hb, fun i l hl j u hu => ?_⟩
  have h := hc i l hl j u hu
  have hlt := World.block_lt_of_cell? w _ h
  exact (World.cell?_of_block (w := w) (hw b hb hlt)).trans h

theorem KAll.at {K : List Fact} {D : Nat → Prop} {w : World} (h : KAll K D w) {k : Nat} {f : Fact} (hk : K[k]? = some f) : f D w := by
  induction K generalizing k with
  | nil => simp at hk
  | cons x r ih =>
    cases k with
    | zero => simp only [List.getElem?_cons_zero, Option.some.injEq] at hk; subst hk; exact h.1
    | succ k => exact ih h.2 (by simpa using hk)

section
variable {c : Cx} {n : Nat} {Q : Exit → Env → World → Prop} {σ : Env} {H : List Res} {K : List Fact}
variable {d : Option Tmp} {t : TypeId} {p : String} {af : Array Edge} {g : Option (Nat × Bool)}

theorem M.fact {w : World} (hm : M c H K w) {k : Nat} {f : Fact} (hk : K[k]? = some f) : ∃ D, (∀ k, D k → (c.D0 k ∨ c.w0.heap.size ≤ k)) ∧ KAll K D w ∧ f D w := by
  obtain ⟨D, d1, d2, d3, d4, d5⟩ := hm.data
  exact ⟨D, d1, d5, d5.at hk⟩

/-- The address of an element of a slice that is read. -/
theorem ixS {x y : Operand} {s e : TypeId} {A : Option Addr} {m cap sz : Nat} {ls : List (List Value)} {kk : IntKind} {i : Int} (k : Nat) (hx : ev σ x = .slice A m cap) (hy : ev σ y = .int kk i) (hs : c.P.underlying s = some (.slice e))
    (hz : (c.P.info? e).map (·.size) = some sz) (hk : K[k]? = some (Sl sz A m cap ls)) (h0 : 0 ≤ i) (h1 : i < m) : Det c σ H K ⟨d, .indexAddr s x y, t, p, af, g⟩ (at_ A (i.toNat * sz)) := fun w hm => by
  obtain ⟨D, _, _, h⟩ := hm.fact hk
  obtain ⟨b, off, rfl, _⟩ := h.2.2.2.2 (by omega)
  simp [execOp, hx, hy, Instr.indexAt, asIntOf, run_und hs, h0, h1, run_size hz, add0, at_]
/-- A field of such an element. -/
theorem fadrS {x : Operand} {s : TypeId} {f o m n' cap sz : Nat} {A : Option Addr} {ls : List (List Value)} {fs : Array Field} {fd : Field} (k : Nat) (hx : ev σ x = at_ A o) (hs : c.P.underlying s = some (.struct fs)) (hf : fs[f]? = some fd)
    (hm : (c.P.info? fd.type).map (·.size) = some (m + 1)) (hk : K[k]? = some (Sl sz A n' cap ls)) (hn : 0 < n') : Det c σ H K ⟨d, .fieldAddr s x f, t, p, af, g⟩ (at_ A (o + fd.offset)) := fun w hM => by
  obtain ⟨D, _, _, h⟩ := hM.fact hk
  obtain ⟨b, off, rfl, _⟩ := h.2.2.2.2 hn
  simp [execOp, hx, Instr.fieldAt, run_und hs, hf, Instr.sureAddr, fieldPlace, run_size hm, add0, at_, Nat.add_assoc]
/-- Such an element, whole; and one of one cell. -/
theorem ldSA {x : Operand} {tx : TypeId} {A : Option Addr} {m cap sz i : Nat} {ls : List (List Value)} {l : List Value} (k : Nat) (hx : ev σ x = at_ A (i * sz)) (hk : K[k]? = some (Sl sz A m cap ls)) (hu : isAg c.P tx sz) (hl : ls[i]? = some l) :
    Det c σ H K ⟨d, .load tx x, t, p, af, g⟩ (ag l) := fun w hm => by
  obtain ⟨D, _, _, h⟩ := hm.fact hk
  have hi : i < ls.length := (List.getElem?_eq_some_iff.1 hl).1
  obtain ⟨b, off, rfl, _, hc⟩ := h.2.2.2.2 (by rw [← h.1]; omega)
  have hlen : l.length = sz := (h.2.2.2.1 l (List.mem_of_getElem? hl)).1
  simp only [execOp, hx, at_, Option.map_some, Instr.loadAt, Instr.sureAddr, Sem.run_bind, Sem.run_pure, Result.andThen_ok]
  rw [run_loadAg (l := l) (by rw [hlen]; exact hu) (fun j u hj => hc i l hl j u hj)]; rfl
theorem ldSO {x : Operand} {tx : TypeId} {A : Option Addr} {m cap i : Nat} {ls : List (List Value)} {v : Value} (k : Nat) (hx : ev σ x = at_ A (i * 1)) (hk : K[k]? = some (Sl 1 A m cap ls)) (hu : isOne c.P tx) (hl : ls[i]? = some [v]) :
    Det c σ H K ⟨d, .load tx x, t, p, af, g⟩ v := fun w hm => by
  obtain ⟨D, _, _, h⟩ := hm.fact hk
  have hi : i < ls.length := (List.getElem?_eq_some_iff.1 hl).1
  obtain ⟨b, off, rfl, _, hc⟩ := h.2.2.2.2 (by rw [← h.1]; omega)
  have := hc i [v] hl 0 v rfl
  simp only [execOp, hx, at_, Option.map_some, Instr.loadAt, Instr.sureAddr, Sem.run_bind, Sem.run_pure, Result.andThen_ok]
  rw [run_loadOne hu (by simpa using this)]; rfl
/-- A part of such an element. -/
theorem ldSP {x : Operand} {tx : TypeId} {A : Option Addr} {m cap sz i o q : Nat} {ls : List (List Value)} {l r : List Value} (k : Nat) (hx : ev σ x = at_ A (i * sz + o)) (hk : K[k]? = some (Sl sz A m cap ls)) (hu : isAg c.P tx q) (hl : ls[i]? = some l)
    (hr : (l.drop o).take q = r) (hq : r.length = q) : Det c σ H K ⟨d, .load tx x, t, p, af, g⟩ (ag r) := fun w hm => by
  obtain ⟨D, _, _, h⟩ := hm.fact hk
  have hi : i < ls.length := (List.getElem?_eq_some_iff.1 hl).1
  obtain ⟨b, off, rfl, _, hc⟩ := h.2.2.2.2 (by rw [← h.1]; omega)
  simp only [execOp, hx, at_, Option.map_some, Instr.loadAt, Instr.sureAddr, Sem.run_bind, Sem.run_pure, Result.andThen_ok]
  rw [run_loadAg (l := r) (by rw [hq]; exact hu) (fun j u hj => ?_)]; rfl
  have := hc i l hl (o + j) u (by
    rw [← hj, ← hr, List.getElem?_take, List.getElem?_drop]
    have : j < q := by have := (List.getElem?_eq_some_iff.1 hj).1; omega
    rw [if_pos this])
  rwa [show off + (i * sz + o) + j = off + i * sz + (o + j) from by omega]
theorem ldSQ {x : Operand} {tx : TypeId} {A : Option Addr} {m cap sz i o : Nat} {ls : List (List Value)} {l : List Value} {v : Value} (k : Nat) (hx : ev σ x = at_ A (i * sz + o)) (hk : K[k]? = some (Sl sz A m cap ls)) (hu : isOne c.P tx) (hl : ls[i]? = some l)
    (hv : l[o]? = some v) : Det c σ H K ⟨d, .load tx x, t, p, af, g⟩ v := fun w hm => by
  obtain ⟨D, _, _, h⟩ := hm.fact hk
  have hi : i < ls.length := (List.getElem?_eq_some_iff.1 hl).1
  obtain ⟨b, off, rfl, _, hc⟩ := h.2.2.2.2 (by rw [← h.1]; omega)
  have := hc i l hl o v hv
  simp only [execOp, hx, at_, Option.map_some, Instr.loadAt, Instr.sureAddr, Sem.run_bind, Sem.run_pure, Result.andThen_ok]
  rw [run_loadOne hu (by rwa [show off + (i * sz + o) = off + i * sz + o from by omega])]; rfl

/-! ### Rows of the call's own -/
/-- A row reads as a slice. -/
theorem row_sl {w : World} {base sz n' : Nat} {e : TypeId} {v : Value} {ls : List (List Value)} (h : w.ownsRow base e sz v n' ls.flatten) (hl : ∀ l ∈ ls, l.length = sz ∧ one l = true) (hn : ls.length = n') :
    ∃ A cap, v = .slice A n' cap ∧ ∀ D : Nat → Prop, (∀ b, v.ownBlock = some b → D b) → Sl sz A n' cap ls D w := by
  rcases h.2 with ⟨rfl, rfl⟩ | ⟨gg, cap, cur, rfl, hb, hg, hc1, hc2, hc3, hc4⟩
  · exact ⟨none, 0, rfl, fun D hD => ⟨hn, Nat.le_refl _, by simp [maxLen], hl, fun h => by omega⟩⟩
  · refine ⟨_, cap, rfl, fun D hD => ⟨hn, hc1, hc2, hl, fun _ => ⟨gg, 0, rfl, hD gg rfl, fun i l hil j u hju => ?_⟩⟩⟩
    have hcell := h.cells (g := gg) rfl (i * sz + j) u ?_
    · rw [add0] at hcell; simpa using hcell
    · have key : ∀ (ls : List (List Value)) (i : Nat), (∀ l ∈ ls, l.length = sz ∧ one l = true) → ls[i]? = some l → ls.flatten[i * sz + j]? = some u := by
        intro ls
        induction ls with
        | nil => intro i _ hi; simp at hi
        | cons x r ih =>
          intro i hls hi
          have hx := (hls x (List.mem_cons_self)).1
          cases i with
          | zero =>
            simp only [List.getElem?_cons_zero, Option.some.injEq] at hi
            subst hi
            have hj := (List.getElem?_eq_some_iff.1 hju).1
            rw [List.flatten_cons, List.getElem?_append_left (by omega)]
            simpa using hju
          | succ i =>
            simp only [List.getElem?_cons_succ] at hi
            rw [List.flatten_cons, List.getElem?_append_right (by rw [hx]; simp only [Nat.succ_mul]; omega), hx]
            rw [show (i + 1) * sz + j - sz = i * sz + j from by simp only [Nat.succ_mul]; omega]
            exact ih i (fun l hl => hls l (List.mem_cons_of_mem _ hl)) hi
      exact key ls i hl hil

/-- 'var out []T', an empty row of one's own: it costs nothing. -/
theorem M.nilRow {w : World} (hm : M c H K w) (e : TypeId) (sz : Nat) : M c (.row (.slice none 0 0) e sz 0 [] :: H) K w :=
  hm.add ⟨rfl, rfl, rfl, Nat.le_refl _, fun _ _ _ => rfl⟩ (World.ownsRow_nil w _ e sz) (.inl rfl)

/-- append of what a block of the call's own holds, onto a row of its own. -/
theorem appB {ops : Array Oper} {d : Nat} {s x : Operand} {tt e : TypeId} {l : List Oper} {z v : Value} {sz bytes n' m cp b : Nat} {xs ys : List Value} (i k : Nat)
    (ht : c.P.underlying tt = some (.slice e)) (hinfo : (c.P.info? e).map (fun i => (i.zero, i.size, i.bytes)) = some (some z, sz, bytes)) (hz : z.cells.size = sz) (hsz : 0 < sz)
    (hs : ev σ s = v) (hx : ev σ x = .slice (some ⟨b, 0, none⟩) m cp) (hi : H[i]? = some (.row v e sz n' xs)) (hk : H[k]? = some (.blk b (ob ys e))) (hm : ys.length = m * sz) (h1 : one ys = true)
    (hlen : n' + m ≤ maxLen) (hby : (n' + m) * bytes ≤ 140737488355328) (hd : Nat.blt d n = true)
    (h : ∀ A cap, TL c n ops l Q (upd σ d (.slice A (n' + m) cap)) (H.set i (.row (.slice A (n' + m) cap) e sz (n' + m) (xs ++ ys))) K) :
    TL c n ops (⟨some d, .call { callee := .builtin .append, args := #[s, x], argTypes := #[tt, tt] }, t, p, af, none⟩ :: l) Q σ H K := by
  intro w hM a hr
  obtain ⟨i0, hi0, hzz⟩ := Option.map_eq_some_iff.1 hinfo
  simp only [Prod.mk.injEq] at hzz
  obtain ⟨hz0, hz1, hz2⟩ := hzz
  have hown : w.ownsRow c.w0.heap.size e sz v n' xs := hM.get hi
  have hb := hM.blk k hk
  obtain ⟨v', w', hrun, hown', hg, _, hat⟩ := run_append_own_at (P := c.P) w c.w0.heap.size tt t e i0 z sz bytes ht hi0 hz0 hz1 hz2 hz hsz v n' xs hown ⟨b, 0, none⟩ m cp ys hm
    (fun j u hj => by rw [add0, cell_ob hb]; simpa using hj) (fun u hu => List.all_eq_true.1 h1 u hu) hlen hby hM.size
  refine wpList_run rfl ?_
  rw [hr.eval]
  simp only [execOp, resolve, invoke, builtin, Sem.run_bind, Sem.run_pure, Result.andThen_ok, List.map_toArray, List.map_cons, List.map_nil, hs, hx, hrun]
  obtain ⟨A, cap, rfl⟩ : ∃ A cap, v' = .slice A (n' + m) cap := by
    rcases hown'.2 with ⟨rfl, h0⟩ | ⟨gg, cap, cur, rfl, _⟩
    · exact ⟨none, 0, by rw [h0]⟩
    · exact ⟨_, cap, rfl⟩
  exact h A cap w' (hM.change i hi hg hown' (by rcases hat with hat | hat; exact .inl hat; exact .inr (.inr ⟨_, hat, Nat.le_refl _⟩))) _ (hr.put d _ (by simp [Nat.blt] at hd; omega))

/-- A slice literal: a block of the call's own. -/
theorem bsl {ops : Array Oper} {d : Nat} {tt e : TypeId} {m : Nat} {parts : Array (Nat × Operand)} {l : List Oper} {cs : List Value} (hd : Nat.blt d n = true)
    (hrun : ∀ w, (Instr.buildSlice tt m (parts.map fun (i, x) => (i, ev σ x))).run c.P w = .ok (.slice (some ⟨w.heap.size, 0, none⟩) m m) (w.alloc (ob cs e)))
    (h : ∀ b, TL c n ops l Q (upd σ d (.slice (some ⟨b, 0, none⟩) m m)) (.blk b (ob cs e) :: H) K) : TL c n ops (⟨some d, .buildSlice tt m parts, t, p, af, none⟩ :: l) Q σ H K := by
  intro w hm a hr
  refine wpList_run rfl ?_
  rw [hr.eval]
  simp only [execOp, Sem.run_bind, hrun, Result.andThen_ok, Sem.run_pure]
  exact h w.heap.size _ (hm.add (World.grownBy_alloc w _ none) (heap_alloc_new w _) (.inr ⟨_, rfl, Nat.le_refl _⟩)) _ (hr.put d _ (by simp [Nat.blt] at hd; omega))
end

/-- A literal of one element. -/
theorem bsl1 {P : Program} {tt e : TypeId} {sz : Nat} {z v : Value} {cs : List Value} (ht : P.underlying tt = some (.slice e)) (hz : (P.info? e).map (·.zero) = some (some z)) (hs : (P.info? e).map (·.size) = some sz) (h0 : 0 < sz) (h24 : sz ≤ 16777216)
    (hc : v.cells = cs.toArray) (hl : cs.length = sz) (w : World) : (Instr.buildSlice tt 1 #[(0, v)]).run P w = .ok (.slice (some ⟨w.heap.size, 0, none⟩) 1 1) (w.alloc (ob cs e)) := by
  have hf : Instr.fill (fun i => some (i * sz, sz)) ((Array.range (1 * sz)).map (z.cells[· % z.cells.size]!)) [(0, v)] = some cs.toArray := by
    simp only [Instr.fill, Nat.zero_mul, hc, List.size_toArray, hl, ne_eq, not_true_eq_false, decide_false, Bool.false_or]
    rw [if_neg (by simp)]
    congr 1
    rw [← Array.foldl_toList, Array.toList_zipIdx]
    have key : ∀ (xs : List Value) (k : Nat) (a : Array Value), k + xs.length ≤ a.size → (xs.zipIdx k).foldl (fun cs (c, j) => cs.setIfInBounds (0 + j) c) a = (a.toList.take k ++ xs ++ a.toList.drop (k + xs.length)).toArray := by
      intro xs
      induction xs with
      | nil => intro k a _; simp
      | cons x r ih =>
        intro k a hk
        simp only [List.length_cons] at hk
        rw [List.zipIdx_cons, List.foldl_cons, ih (k + 1) _ (by simp; omega)]
        congr 1
        apply List.ext_getElem?
        intro j
        simp only [Nat.zero_add, Array.toList_setIfInBounds, List.getElem?_append, List.length_take, List.length_set, Array.length_toList, List.length_append, List.length_cons, List.getElem?_take, List.getElem?_set, List.getElem?_drop]
        have hm1 : min (k + 1) a.size = k + 1 := by omega
        have hm2 : min k a.size = k := by omega
        rw [hm1, hm2]
        by_cases hj : j < k
        · simp [hj, show j < k + 1 by omega, show j < k + 1 + r.length by omega, show j < k + (r.length + 1) by omega, show k ≠ j by omega]
        · by_cases hj2 : j = k
          · subst hj2
            simp [show j < j + 1 + r.length by omega, show j < j + (r.length + 1) by omega, show j < a.size by omega]
          · have h1 : ¬ j < k + 1 := by omega
            simp only [hj, h1, if_false]
            by_cases hj3 : j < k + 1 + r.length
            · rw [if_pos hj3, if_pos (by omega), show j - k = (j - (k + 1)) + 1 by omega, List.getElem?_cons_succ]
            · have h5 : ¬ j < k + (r.length + 1) := by omega
              have h6 : ¬ k = k + 1 + r.length + (j - (k + 1 + r.length)) := by omega
              simp only [hj3, h5, h6, if_false]
              congr 1; omega
    have := key cs 0 ((Array.range (1 * sz)).map (z.cells[· % z.cells.size]!)) (by simp [hl])
    rw [this]
    simp [hl]
  simp only [Instr.buildSlice, Sem.run_bind, run_und ht, run_size hs, Result.andThen_ok]
  rw [if_neg (by omega), if_neg (by omega)]
  simp only [Sem.run_bind, Sem.run_pure, run_zero hz, Result.andThen_ok, hf]
  simp [newRow]
end Go.Proofs.YtmcapgjdflohfaaGreat.L
