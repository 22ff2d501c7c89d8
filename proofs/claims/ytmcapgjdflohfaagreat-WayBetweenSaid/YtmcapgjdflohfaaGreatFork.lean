/- Drawn regions where several operations may come up that make memory; literals of slices in them; in the logic of Core. Nothing here speaks of the program. -/
import Derived.Test.YtmcapgjdflohfaaGreatWrite
set_option linter.all false
namespace Go.Proofs.YtmcapgjdflohfaaGreat.L
open Go Go.RowKit

/-- A literal of one-celled elements, all of them given, in their order. -/
theorem bslL {P : Program} {tt e : TypeId} {z : Value} {m : Nat} {xs : List Value} (ht : P.underlying tt = some (.slice e)) (hz : (P.info? e).map (·.zero) = some (some z)) (hs : (P.info? e).map (·.size) = some 1)
    (h1 : one xs = true) (hm : xs.length = m) (hm0 : 0 < m) (h24 : m ≤ 16777216) (w : World) : (Instr.buildSlice tt m (xs.zipIdx.map fun (v, i) => (i, v)).toArray).run P w = .ok (.slice (some ⟨w.heap.size, 0, none⟩) m m) (w.alloc (ob xs e)) := by
  have hf : Instr.fill (fun i => some (i * 1, 1)) ((Array.range (m * 1)).map (z.cells[· % z.cells.size]!)) (xs.zipIdx.map fun (v, i) => (i, v)) = some xs.toArray := by
    have := fill_all (xs := xs) (zs := ((Array.range (m * 1)).map (z.cells[· % z.cells.size]!)).toList) h1 (by simp [hm])
    rw [Array.toArray_toList] at this
    exact this
  simp only [Instr.buildSlice, Sem.run_bind, run_und ht, run_size hs, Result.andThen_ok]
  rw [if_neg (by omega), if_neg (by omega)]
  simp only [Sem.run_bind, Sem.run_pure, run_zero hz, Result.andThen_ok, hf]
  simp [newRow]

theorem map_parts {parts : Array (Nat × Operand)} {f : Nat × Operand → Nat × Value} {l : List (Nat × Value)} (h : parts.toList.map f = l) : parts.map f = l.toArray := by
  apply Array.toList_inj.1; rw [Array.toList_map]; exact h
/-- One element, of so many cells; elements of one cell. -/
theorem bs1 {P : Program} {σ : Env} {tt e : TypeId} {parts : Array (Nat × Operand)} {sz : Nat} {z v : Value} {cs : List Value} (ht : P.underlying tt = some (.slice e)) (hz : (P.info? e).map (·.zero) = some (some z)) (hs : (P.info? e).map (·.size) = some sz)
    (hp : (parts.toList.map fun (i, x) => (i, ev σ x)) = [(0, v)]) (hc : v.cells = cs.toArray) (hl : cs.length = sz) (h0 : 0 < sz) (h24 : sz ≤ 16777216) (w : World) : (Instr.buildSlice tt 1 (parts.map fun (i, x) => (i, ev σ x))).run P w = .ok (.slice (some ⟨w.heap.size, 0, none⟩) 1 1) (w.alloc (ob cs e)) := by
  rw [map_parts hp]; exact bsl1 ht hz hs h0 h24 hc hl w
theorem bsm {P : Program} {σ : Env} {tt e : TypeId} {parts : Array (Nat × Operand)} {z : Value} {m : Nat} {xs : List Value} (ht : P.underlying tt = some (.slice e)) (hz : (P.info? e).map (·.zero) = some (some z)) (hs : (P.info? e).map (·.size) = some 1)
    (hp : (parts.toList.map fun (i, x) => (i, ev σ x)) = xs.zipIdx.map fun (v, i) => (i, v)) (h1 : one xs = true) (hm : xs.length = m) (hm0 : 0 < m) (h24 : m ≤ 16777216) (w : World) : (Instr.buildSlice tt m (parts.map fun (i, x) => (i, ev σ x))).run P w = .ok (.slice (some ⟨w.heap.size, 0, none⟩) m m) (w.alloc (ob xs e)) := by
  rw [map_parts hp]; exact bslL ht hz hs h1 hm hm0 h24 w

section
variable {c : Cx} {n : Nat} {Q : Exit → Env → World → Prop} {σ : Env} {H : List Res} {K : List Fact}
variable {ops : Array Oper} {m f : Nat} {listed : Array Bool}
variable {d : Option Tmp} {t : TypeId} {p : String} {af : Array Edge} {g : Option (Nat × Bool)}

/-- What a literal of a slice does. -/
theorem run_bsl {tt e : TypeId} {k : Nat} {parts : Array (Nat × Operand)} {cs : List Value}
    (hrun : ∀ w, (Instr.buildSlice tt k (parts.map fun (i, x) => (i, ev σ x))).run c.P w = .ok (.slice (some ⟨w.heap.size, 0, none⟩) k k) (w.alloc (ob cs e))) :
    ∀ w, M c H K w → ∃ b w', (execOp (ev σ) ⟨d, .buildSlice tt k parts, t, p, af, g⟩).run c.P w = .ok (.value (.slice (some ⟨b, 0, none⟩) k k)) w' ∧ M c (.blk b (ob cs e) :: H) K w' := by
  intro w hm
  refine ⟨w.heap.size, _, ?_, hm.add (World.grownBy_alloc w _ none) (heap_alloc_new w _) (.inr ⟨_, rfl, Nat.le_refl _⟩)⟩
  simp only [execOp, Sem.run_bind, hrun, Result.andThen_ok, Sem.run_pure]
/-- What an allocation does. -/
theorem run_alloc {e : TypeId} {z : Value} {cs : List Value} (hz : (c.P.info? e).map (·.zero) = some (some z)) (hc : z.cells = cs.toArray) :
    ∀ w, M c H K w → ∃ b w', (execOp (ev σ) ⟨d, .alloc e, t, p, af, g⟩).run c.P w = .ok (.value (.pointer (some ⟨b, 0, none⟩))) w' ∧ M c (.blk b (ob cs e) :: H) K w' := by
  intro w hm
  refine ⟨w.heap.size, _, ?_, hm.add (World.grownBy_alloc w _ none) (heap_alloc_new w _) (.inr ⟨_, rfl, Nat.le_refl _⟩)⟩
  simp [execOp, Instr.alloc, run_zero hz, newVar, newRow, hc]
theorem M.swap {w : World} {x y : Res} {r : List Res} (hm : M c (x :: y :: r) K w) : M c (y :: x :: r) K w := by
  have hp : ∀ k, k ∈ places (y :: x :: r) ↔ k ∈ places (x :: y :: r) := fun k => by simp only [places, List.mem_append]; constructor <;> (rintro (h | h | h) <;> simp [h])
  refine ⟨hm.os, hm.tape, hm.output, hm.size, hm.frame, fun q hq => hm.holds q (by simp only [List.mem_cons] at hq ⊢; rcases hq with h | h | h <;> simp [h]), fun k hk => hm.mine k ((hp k).1 hk), ?_, hm.stable, ?_⟩
  · have := hm.nodup
    simp only [places] at this ⊢
    refine (List.Perm.nodup_iff ?_).1 this
    rw [← List.append_assoc, ← List.append_assoc]
    exact List.Perm.append_right _ List.perm_append_comm
  · obtain ⟨D, d1, d2, d3, d4, d5⟩ := hm.data
    exact ⟨D, d1, d2, d3, fun k hk => d4 k ((hp k).1 hk), d5⟩
theorem pA {w : World} {x y : Res} {r : List Res} (hm : M c (x :: y :: r) K w) : M c [x, y] K w := hm.sub (.cons_cons _ (.cons_cons _ (List.nil_sublist _)))
theorem pB {w : World} {x y : Res} {r : List Res} (hm : M c (y :: x :: r) K w) : M c [x, y] K w := pA hm.swap
theorem drop1 {w : World} {r : Res} (hm : M c (r :: H) K w) : M c H K w := hm.sub (.cons _ (List.Sublist.refl _))

/-- One of those that may come up. -/
def Can (c : Cx) (n : Nat) (ops : Array Oper) (Q : Exit → Env → World → Prop) (m f : Nat) (listed : Array Bool) (σ : Env) (H : List Res) (K : List Fact) (i : Nat) : Prop :=
  okDraw ops m = true → HeadInv .any ops m listed → i ∈ Region.ready .any ops listed → ∀ w, M c H K w → ∀ a, Rep n a σ → i < m ∧ wpOp c.P ops (lift n Q) i (fun a' w' => M c H K w' ∧ wpHd c.P .any ops (lift n Q) (M c H K) m (LT c n ops Q m) f (listed.setIfInBounds i true) a' w') a w

theorem fork2 (i j : Nat) (hr : Region.ready .any ops listed = [i, j]) (hi : Can c n ops Q m f listed σ H K i) (hj : Can c n ops Q m f listed σ H K j) : HD c n ops Q m (f + 1) listed σ H K := by
  intro hok inv w hM a hrep
  refine ⟨by rw [hr]; simp, fun k hk => ?_⟩
  have hk' := hk
  rw [hr] at hk'
  simp only [List.mem_cons, List.not_mem_nil, or_false] at hk'
  rcases hk' with rfl | rfl
  · exact hi hok inv hk w hM a hrep
  · exact hj hok inv hk w hM a hrep
theorem fork3 (i j l : Nat) (hr : Region.ready .any ops listed = [i, j, l]) (hi : Can c n ops Q m f listed σ H K i) (hj : Can c n ops Q m f listed σ H K j) (hl : Can c n ops Q m f listed σ H K l) : HD c n ops Q m (f + 1) listed σ H K := by
  intro hok inv w hM a hrep
  refine ⟨by rw [hr]; simp, fun k hk => ?_⟩
  have hk' := hk
  rw [hr] at hk'
  simp only [List.mem_cons, List.not_mem_nil, or_false] at hk'
  rcases hk' with rfl | rfl | rfl
  · exact hi hok inv hk w hM a hrep
  · exact hj hok inv hk w hM a hrep
  · exact hl hok inv hk w hM a hrep

theorem canE [NoP Q] {β : Type} (V : β → Value) (H' : β → List Res) (K' : β → List Fact) (i : Nat) {d : Nat} {op : Op} {t : TypeId} {p : String} {af : Array Edge} (hi : ops[i]? = some ⟨some d, op, t, p, af, none⟩)
    (him : Nat.blt i m = true) (hd : Nat.blt d n = true)
    (he : ∀ w, M c H K w → ∃ b w', (execOp (ev σ) ⟨some d, op, t, p, af, none⟩).run c.P w = .ok (.value (V b)) w' ∧ M c (H' b) (K' b) w')
    (hw : ∀ b w, M c (H' b) (K' b) w → M c H K w)
    (h : ∀ b, HD c n ops Q m f (listed.setIfInBounds i true) (upd σ d (V b)) (H' b) (K' b)) : Can c n ops Q m f listed σ H K i := by
  intro hok inv hri w hM a hr
  have him' : i < m := by simp [Nat.blt] at him; omega
  refine ⟨him', ?_⟩
  unfold wpOp
  simp only [hi, Region.wanted, if_true]
  refine .inl ?_
  unfold Oper.wp
  obtain ⟨b, w', hrun, hM'⟩ := he w hM
  rw [hr.eval, hrun]
  exact ⟨hw b w' hM', wpHd_mono (hw b) f _ _ _ (h b hok (inv.set hri him') w' hM' _ (hr.put d _ (by simp [Nat.blt] at hd; omega)))⟩

/-- Of them, a literal of a slice. -/
theorem canL [NoP Q] (i : Nat) {d : Nat} {tt e : TypeId} {k : Nat} {parts : Array (Nat × Operand)} {t : TypeId} {p : String} {af : Array Edge} {cs : List Value} (hi : ops[i]? = some ⟨some d, .buildSlice tt k parts, t, p, af, none⟩)
    (him : Nat.blt i m = true) (hd : Nat.blt d n = true)
    (hrun : ∀ w, (Instr.buildSlice tt k (parts.map fun (i, x) => (i, ev σ x))).run c.P w = .ok (.slice (some ⟨w.heap.size, 0, none⟩) k k) (w.alloc (ob cs e)))
    (h : ∀ b, HD c n ops Q m f (listed.setIfInBounds i true) (upd σ d (.slice (some ⟨b, 0, none⟩) k k)) (.blk b (ob cs e) :: H) K) : Can c n ops Q m f listed σ H K i :=
  canE (fun b => .slice (some ⟨b, 0, none⟩) k k) (fun b => .blk b (ob cs e) :: H) (fun _ => K) i hi him hd (run_bsl hrun) (fun _ _ => drop1) h
/-- Of them, an allocation. -/
theorem canA [NoP Q] (i : Nat) {d : Nat} {e : TypeId} {z : Value} {t : TypeId} {p : String} {af : Array Edge} {cs : List Value} (hi : ops[i]? = some ⟨some d, .alloc e, t, p, af, none⟩)
    (him : Nat.blt i m = true) (hz : (c.P.info? e).map (·.zero) = some (some z)) (hc : z.cells = cs.toArray) (hd : Nat.blt d n = true)
    (h : ∀ b, HD c n ops Q m f (listed.setIfInBounds i true) (upd σ d (.pointer (some ⟨b, 0, none⟩))) (.blk b (ob cs e) :: H) K) : Can c n ops Q m f listed σ H K i :=
  canE (fun b => .pointer (some ⟨b, 0, none⟩)) (fun b => .blk b (ob cs e) :: H) (fun _ => K) i hi him hd (run_alloc hz hc) (fun _ _ => drop1) h
/-- The only one, a literal of a slice. -/
theorem only1 (i : Nat) (hr : Region.ready .any ops listed = [i]) (hi : Can c n ops Q m f listed σ H K i) : HD c n ops Q m (f + 1) listed σ H K := by
  intro hok inv w hM a hrep
  refine ⟨by rw [hr]; simp, fun k hk => ?_⟩
  have hk' := hk
  rw [hr] at hk'
  simp only [List.mem_cons, List.not_mem_nil, or_false] at hk'
  subst hk'
  exact hi hok inv hk w hM a hrep

theorem canP [NoP Q] (i : Nat) {d : Nat} {fid : FuncId} {args : Array Operand} {ats : Array TypeId} {vs : List Value} {t : TypeId} {p : String} {af : Array Edge} {v : Value} (hi : ops[i]? = some ⟨some d, .call { callee := .value (.func fid), args := args, argTypes := ats }, t, p, af, none⟩)
    (him : Nat.blt i m = true) (hf : Fn c.P fid) (ha : args.toList.map (ev σ) = vs) (hd : Nat.blt d n = true)
    (spec : ∀ w, M c H K w → Calls c.P fid vs.toArray w fun e w' => e = .returned v ∧ Below w.heap.size w w') (h : HD c n ops Q m f (listed.setIfInBounds i true) (upd σ d v) H K) : Can c n ops Q m f listed σ H K i := by
  intro hok inv hri w hM a hr
  have him' : i < m := by simp [Nat.blt] at him; omega
  refine ⟨him', ?_⟩
  unfold wpOp
  simp only [hi, Region.wanted, if_true]
  refine .inl ?_
  unfold Oper.wp
  rw [hr.eval, hf.run, map_args ha]
  refine (spec w hM).mono ?_
  rintro e w' ⟨rfl, hbel⟩
  have hM' := hM.pure (grown_below hbel)
  exact ⟨hM', h hok (inv.set hri him') w' hM' _ (hr.put d _ (by simp [Nat.blt] at hd; omega))⟩
end
end Go.Proofs.YtmcapgjdflohfaaGreat.L
