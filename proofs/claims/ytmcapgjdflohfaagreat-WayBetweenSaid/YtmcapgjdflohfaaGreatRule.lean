/- More rules still: one cell stored, whole literals, copy; in the logic of Core. Nothing here speaks of the program. -/
import Derived.Test.YtmcapgjdflohfaaGreatMore
set_option linter.all false
namespace Go.Proofs.YtmcapgjdflohfaaGreat.L
open Go Go.RowKit

theorem one_cells {v : Value} (h : v.oneCell' = true) : v.cells = #[v] := by
  cases v <;> first | rfl | simp [Value.oneCell'] at h
theorem set_at {l : List Value} {j : Nat} {v : Value} (h : j < l.length) : l.take j ++ [v] ++ l.drop (j + [v].length) = l.set j v := by
  rw [List.set_eq_take_append_cons_drop, if_pos h]; simp

/-- Bytes of an array of the call's own are a text's. -/
theorem whole8 {l : List UInt8} {m : Nat} (h : l.length = m) : ((b8 l).drop 0).take m = b8 l := by
  rw [List.drop_zero, List.take_of_length_le (by rw [b8_length]; omega)]
section
variable {c : Cx} {n : Nat} {Q : Exit → Env → World → Prop} {σ : Env} {H : List Res} {K : List Fact}
variable {d : Option Tmp} {t : TypeId} {p : String} {af : Array Edge} {g : Option (Nat × Bool)}

/-- One cell stored into a block that is known. -/
theorem sto1 {ops : Array Oper} {tx e : TypeId} {x y : Operand} {l : List Oper} (i j : Nat) {b off : Nat} {ls rs : List Value} {v : Value} (hx : ev σ x = .pointer (some ⟨b, off, none⟩)) (hy : ev σ y = v)
    (hi : H[i]? = some (.blk b (ob ls e))) (hs : (c.P.info? tx).map (·.size) = some 1) (h1 : v.oneCell' = true) (ho : off = j) (hj : j < ls.length)
    (hr : ls.set j v = rs) (h : TL c n ops l Q σ (H.set i (.blk b (ob rs e))) K) : TL c n ops (⟨none, .store tx x y, t, p, af, none⟩ :: l) Q σ H K := by
  subst ho
  refine sto i (vs := [v]) hx hy (one_cells h1) hi hs (by simp [one, h1]) (by simp; omega) ?_ h
  rw [← hr]; exact set_at hj
/-- A block that is known stored whole. -/
theorem stoA {ops : Array Oper} {tx e : TypeId} {x y : Operand} {l : List Oper} (i : Nat) {b : Nat} {ls rs : List Value} {m : Nat} (hx : ev σ x = .pointer (some ⟨b, 0, none⟩)) (hy : ev σ y = ag rs)
    (hi : H[i]? = some (.blk b (ob ls e))) (hs : (c.P.info? tx).map (·.size) = some m) (hm : rs.length = m) (h1 : one rs = true) (hl : ls.length = m) (h : TL c n ops l Q σ (H.set i (.blk b (ob rs e))) K) : TL c n ops (⟨none, .store tx x y, t, p, af, none⟩ :: l) Q σ H K := by
  refine sto i (vs := rs) hx hy rfl hi (by rw [hs, hm]) h1 (by omega) ?_ h
  rw [hm, ← hl]; simp

/-- A block that is known read whole. -/
theorem ldAll {x : Operand} {tx e : TypeId} (i : Nat) {b m : Nat} {l : List Value} (hx : ev σ x = .pointer (some ⟨b, 0, none⟩)) (hi : H[i]? = some (.blk b (ob l e))) (hu : isAg c.P tx m) (hm : l.length = m) :
    Det c σ H K ⟨d, .load tx x, t, p, af, g⟩ (ag l) :=
  ldA i hx hi hu (by rw [List.drop_zero, List.take_of_length_le (by omega)]) hm

/-- A literal of an array of one-celled elements, all of them given, in their order. -/
theorem fill_all {xs zs : List Value} (h1 : one xs = true) (hz : zs.length = xs.length) : Instr.fill (fun i => some (i * 1, 1)) zs.toArray (xs.zipIdx.map fun (v, i) => (i, v)) = some xs.toArray := by
  have key : ∀ (r : List Value) (k : Nat) (a : List Value), one r = true → a.length = k + r.length → Instr.fill (fun i => some (i * 1, 1)) a.toArray ((r.zipIdx k).map fun (v, i) => (i, v)) = some (a.take k ++ r).toArray := by
    intro r
    induction r with
    | nil => intro k a _ ha; simp at ha; simp [Instr.fill, ← ha]
    | cons x r ih =>
      intro k a h1 ha
      simp only [one, List.all_cons, Bool.and_eq_true] at h1
      rw [List.zipIdx_cons, List.map_cons]
      simp only [List.length_cons] at ha
      refine fill_step (off := k) (size := 1) (vs := [x]) (r := a.set k x) (by simp) (one_cells h1.1) rfl (by omega) ?_ ?_
      · exact set_at (by omega)
      · rw [ih (k + 1) _ h1.2 (by simp; omega)]
        congr 2
        apply List.ext_getElem?
        intro j
        simp only [List.getElem?_append, List.getElem?_take, List.length_take, List.length_set, List.getElem?_set]
        rw [show min (k + 1) a.length = k + 1 by omega, show min k a.length = k by omega]
        by_cases hj : j < k
        · simp [hj, show j < k + 1 by omega, show k ≠ j by omega]
        · by_cases hj2 : j = k
          · subst hj2; simp [show j < a.length by omega]
          · rw [if_neg (by omega), if_neg (by omega), show j - k = (j - (k + 1)) + 1 by omega, List.getElem?_cons_succ]
  have := key xs 0 zs h1 (by omega)
  simpa using this
theorem bldL {tt e : TypeId} {m : Nat} {parts : Array (Nat × Operand)} {xs z : List Value} (hz : (c.P.info? tt).map (·.zero) = some (some (ag z))) (ht : c.P.underlying tt = some (.array m e)) (hs : (c.P.info? e).map (·.size) = some 1)
    (hps : (parts.toList.map fun (i, x) => (i, ev σ x)) = xs.zipIdx.map fun (v, i) => (i, v)) (h1 : one xs = true) (hl : z.length = xs.length) : Det c σ H K ⟨d, .build tt parts, t, p, af, g⟩ (ag xs) :=
  bldA hz ht hs (by rw [← hps]; simp) (fill_all h1 hl)
/-- A struct's literal that names no field. -/
theorem bldZ {tt : TypeId} {fs : Array Field} {z : List Value} (hz : (c.P.info? tt).map (·.zero) = some (some (ag z))) (ht : c.P.underlying tt = some (.struct fs)) (hpl : ∀ w, (fs.mapM (fun f => do Pure.pure (f.offset, ← sizeOf f.type) : Field → Sem (Nat × Nat))).run c.P w = .ok (fs.map fun f => (f.offset, ((c.P.info? f.type).map (·.size)).getD 0)) w) :
    Det c σ H K ⟨d, .build tt #[], t, p, af, g⟩ (ag z) :=
  bldS hz ht hpl rfl (by simp [Instr.fill])
theorem run_places {P : Program} (fs : List Field) (h : ∀ f ∈ fs, ((P.info? f.type).map (·.size)).isSome = true) (w : World) : (fs.toArray.mapM (fun f => do Pure.pure (f.offset, ← sizeOf f.type) : Field → Sem (Nat × Nat))).run P w = .ok (fs.toArray.map fun f => (f.offset, ((P.info? f.type).map (·.size)).getD 0)) w := by
  rw [List.mapM_toArray]
  have key : ∀ fs : List Field, (∀ f ∈ fs, ((P.info? f.type).map (·.size)).isSome = true) → (fs.mapM (fun f => do Pure.pure (f.offset, ← sizeOf f.type) : Field → Sem (Nat × Nat))).run P w = .ok (fs.map fun f => (f.offset, ((P.info? f.type).map (·.size)).getD 0)) w := by
    intro fs
    induction fs with
    | nil => intro _; rfl
    | cons f r ih =>
      intro h
      obtain ⟨m, hm⟩ := Option.isSome_iff_exists.1 (h f (List.mem_cons_self ..))
      simp only [List.mapM_cons, Sem.run_bind, run_size hm, Result.andThen_ok, Sem.run_pure, ih (fun f hf => h f (List.mem_cons_of_mem _ hf)), List.map_cons, hm, Option.getD_some]
  have := key fs h
  have e : ∀ (A B : Type) (g : A → B) (x : Sem A), (g <$> x) = x >>= fun a => Pure.pure (g a) := fun _ _ _ _ => rfl
  rw [e, Sem.run_bind, this]
  simp

/-- copy of a text into a block of the call's own. -/
theorem cpT {ops : Array Oper} {dd : Nat} {x y : Operand} {tx ty e e' : TypeId} {l : List Oper} (i : Nat) {b off m cap : Nat} {ls rs : List Value} {r : List UInt8} (hx : ev σ x = .slice (some ⟨b, off, none⟩) m cap) (hy : ev σ y = .string (bs r))
    (hi : H[i]? = some (.blk b (ob ls e))) (hu : c.P.underlying tx = some (.slice e')) (hs : (c.P.info? e').map (·.size) = some 1) (hd : Nat.blt dd n = true) (hlen : off + (min r.length m) ≤ ls.length)
    (hr : ls.take off ++ b8 (r.take m) ++ ls.drop (off + min r.length m) = rs) (h : TL c n ops l Q (upd σ dd (.int .i64 (min r.length m : Nat))) (H.set i (.blk b (ob rs e))) K) :
    TL c n ops (⟨some dd, .call { callee := .builtin .copy, args := #[x, y], argTypes := #[tx, ty] }, t, p, af, none⟩ :: l) Q σ H K := by
  intro w hm a hrep
  refine wpList_run rfl ?_
  have hb := hm.blk i hi
  have hl8 : (b8 (r.take m)).length = min r.length m := by rw [b8_length, List.length_take, Nat.min_comm]
  have hst := run_storeCells_at (P := c.P) b off e (b8 (r.take m)) 0 ls.toArray w hb (by simp only [List.size_toArray]; omega) (fun u hu => List.all_eq_true.1 (b8_one (r.take m)) u hu)
  have hfc : (Builtin.firstCells 1 (min r.length m) (.string (bs r))).run c.P w = .ok (b8 (r.take m)).toArray w := by
    simp only [Builtin.firstCells, Sem.run_pure]
    rw [bs_extract, List.drop_zero]
    congr 1
    simp [b8]
    exact Nat.min_comm _ _
  have hrun : (execOp a.eval ⟨some dd, .call { callee := .builtin .copy, args := #[x, y], argTypes := #[tx, ty] }, t, p, af, none⟩).run c.P w = .ok (.value (.int .i64 (min r.length m : Nat))) (w.setRow b rs.toArray) := by
    simp only [execOp, hrep.eval, resolve, invoke, builtin, List.map_toArray, List.map_cons, List.map_nil, hx, hy, Builtin.copy_, Sem.run_bind, Sem.run_pure, Result.andThen_ok, List.getElem?_toArray, List.getElem?_cons_zero, List.getElem?_cons_succ, run_und hu, Builtin.lenOf, run_size hs, bs_size]
    rw [show Nat.min r.length m = min r.length m from rfl, hfc]
    simp only [Result.andThen_ok]
    rw [hst, hl8, Nat.add_zero]
    simp only [Result.andThen_ok, hr, goInt]
  rw [hrun]
  exact h _ (hm.change i hi (grownBy_setRow w b _) (setRow_heap w b _ _ e _ hb) (.inl rfl)) _ (hrep.put dd _ (by simp [Nat.blt] at hd; omega))
end
end Go.Proofs.YtmcapgjdflohfaaGreat.L
