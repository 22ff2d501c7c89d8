/- Rules for the operations on memory, in the logic of Core. Nothing here speaks of the program. -/
import Derived.Test.YtmcapgjdflohfaaGreatOps
import Derived.Test.YtmcapgjdflohfaaGreatHeap
import Derived.Maps.AppendAt
import Derived.Laws.Rows
import Derived.Laws.Strings
set_option linter.all false
namespace Go.Proofs.YtmcapgjdflohfaaGreat.L
open Go Go.RowKit

/-- A struct's or an array's value, by its cells. -/
abbrev ag (l : List Value) : Value := .agg l.toArray
/-- An object's cells. -/
abbrev ob (l : List Value) (e : TypeId) : Obj := .cells l.toArray e
/-- The address that lies behind one, if there is one. -/
def at_ (A : Option Addr) (o : Nat) : Value := .pointer (A.map fun a => ⟨a.block, a.off + o, none⟩)

def one (l : List Value) : Bool := l.all (·.oneCell')

/-- A type of one cell; a struct or an array of so many cells. -/
def isOne (P : Program) (t : TypeId) : Prop := ∃ d, P.underlying t = some d ∧ (match d with | .struct _ | .array _ _ => false | _ => true) = true
def isAg (P : Program) (t : TypeId) (m : Nat) : Prop := ∃ d, P.underlying t = some d ∧ (match d with | .struct _ | .array _ _ => true | _ => false) = true ∧ (P.info? t).map (·.size) = some m

theorem isOne.run {P : Program} {t : TypeId} (h : isOne P t) (w : World) : (isAgg t).run P w = .ok false w := by
  obtain ⟨d, h1, h2⟩ := h
  unfold isAgg
  rw [Sem.run_bind, run_underlying h1 w]
  cases d <;> simp_all
theorem isAg.run {P : Program} {t : TypeId} {m : Nat} (h : isAg P t m) (w : World) : (isAgg t).run P w = .ok true w := by
  obtain ⟨d, h1, h2, _⟩ := h
  unfold isAgg
  rw [Sem.run_bind, run_underlying h1 w]
  cases d <;> simp_all
theorem run_size {P : Program} {t : TypeId} {m : Nat} (h : (P.info? t).map (·.size) = some m) (w : World) : (sizeOf t).run P w = .ok m w := by
  obtain ⟨i, h1, h2⟩ := Option.map_eq_some_iff.1 h
  simp [sizeOf, typeInfo, h1, h2]
theorem run_zero {P : Program} {t : TypeId} {z : Value} (h : (P.info? t).map (·.zero) = some (some z)) (w : World) : (zeroValue t).run P w = .ok z w := by
  obtain ⟨i, h1, h2⟩ := Option.map_eq_some_iff.1 h
  simp [zeroValue, typeInfo, h1, h2]

theorem add0 (b o j : Nat) : (⟨b, o, none⟩ : Addr).add j = ⟨b, o + j, none⟩ := by unfold Addr.add; split <;> simp_all

theorem run_loadAg {P : Program} {w : World} {t : TypeId} {b off : Nat} {l : List Value} (h : isAg P t l.length) (hc : ∀ j u, l[j]? = some u → w.cell? ⟨b, off + j, none⟩ = some u) :
    (loadVar t ⟨b, off, none⟩).run P w = .ok (ag l) w := by
  have hl := run_loadCells_list (P := P) w ⟨b, off, none⟩ l (fun j v hv => by rw [add0]; exact hc j v hv)
  obtain ⟨d, _, _, h3⟩ := id h
  simp [loadVar, Sem.run_bind, h.run, run_size h3, hl]
theorem run_loadOne {P : Program} {w : World} {t : TypeId} {b off : Nat} {v : Value} (h : isOne P t) (hc : w.cell? ⟨b, off, none⟩ = some v) :
    (loadVar t ⟨b, off, none⟩).run P w = .ok v w := by
  simp [loadVar, Sem.run_bind, h.run, hc]

theorem cell_ob {w : World} {b : Nat} {l : List Value} {e : TypeId} (h : w.heap[b]? = some (ob l e)) (j : Nat) : w.cell? ⟨b, j, none⟩ = l[j]? := by
  rw [cell_of_row w b j l.toArray e (0, 0) h]; simp

section
variable {c : Cx} {n : Nat} {Q : Exit → Env → World → Prop} {σ : Env} {H : List Res} {K : List Fact}
variable {d : Option Tmp} {t : TypeId} {p : String} {af : Array Edge} {g : Option (Nat × Bool)}

/-! ### Addresses -/
theorem nilchk {x : Operand} {a : Addr} (hx : ev σ x = .pointer (some a)) : Det c σ H K ⟨d, .nilCheck x, t, p, af, g⟩ (.pointer (some a)) := fun w _ => by
  simp [execOp, hx]
theorem fadr {x : Operand} {s : TypeId} {f b off m : Nat} {fs : Array Field} {fd : Field} (hx : ev σ x = .pointer (some ⟨b, off, none⟩)) (hs : c.P.underlying s = some (.struct fs)) (hf : fs[f]? = some fd)
    (hm : (c.P.info? fd.type).map (·.size) = some (m + 1)) : Det c σ H K ⟨d, .fieldAddr s x f, t, p, af, g⟩ (.pointer (some ⟨b, off + fd.offset, none⟩)) := fun w _ => by
  simp [execOp, hx, Instr.fieldAt, run_und hs, hf, Instr.sureAddr, fieldPlace, run_size hm, add0]
theorem iadr {x y : Operand} {s e : TypeId} {b off m z : Nat} {k : IntKind} {i : Int} (hx : ev σ x = .pointer (some ⟨b, off, none⟩)) (hy : ev σ y = .int k i) (hs : c.P.underlying s = some (.array m e))
    (hz : (c.P.info? e).map (·.size) = some z) (h0 : 0 ≤ i) (h1 : i < m) : Det c σ H K ⟨d, .indexAddr s x y, t, p, af, g⟩ (.pointer (some ⟨b, off + i.toNat * z, none⟩)) := fun w _ => by
  simp [execOp, hx, hy, Instr.indexAt, asIntOf, run_und hs, Instr.sureAddr, h0, h1, run_size hz, add0]

/-! ### Reading a block that is known -/
theorem ldB {x : Operand} {tx e : TypeId} (i : Nat) {b off : Nat} {l : List Value} {v : Value} (hx : ev σ x = .pointer (some ⟨b, off, none⟩)) (hi : H[i]? = some (.blk b (ob l e))) (hu : isOne c.P tx) (hv : l[off]? = some v) :
    Det c σ H K ⟨d, .load tx x, t, p, af, g⟩ v := fun w hm => by
  have hb := hm.blk i hi
  simp only [execOp, hx, Instr.loadAt, Instr.sureAddr, Sem.run_bind, Sem.run_pure, Result.andThen_ok]
  rw [run_loadOne hu (by rw [cell_ob hb]; exact hv)]; rfl
theorem ldA {x : Operand} {tx e : TypeId} (i : Nat) {b off m : Nat} {l r : List Value} (hx : ev σ x = .pointer (some ⟨b, off, none⟩)) (hi : H[i]? = some (.blk b (ob l e))) (hu : isAg c.P tx m) (hr : (l.drop off).take m = r) (hm : r.length = m) :
    Det c σ H K ⟨d, .load tx x, t, p, af, g⟩ (ag r) := fun w hM => by
  have hb := hM.blk i hi
  simp only [execOp, hx, Instr.loadAt, Instr.sureAddr, Sem.run_bind, Sem.run_pure, Result.andThen_ok]
  rw [run_loadAg (l := r) (by rw [hm]; exact hu) ?_]; rfl
  intro j u hj
  rw [cell_ob hb, ← hj, ← hr, List.getElem?_take, List.getElem?_drop]
  have : j < m := by have := (List.getElem?_eq_some_iff.1 hj).1; omega
  rw [if_pos this]

/-! ### Values of structs and arrays -/
theorem fldA {x : Operand} {s : TypeId} {f m : Nat} {l r : List Value} {fs : Array Field} {fd : Field} (hx : ev σ x = ag l) (hs : c.P.underlying s = some (.struct fs)) (hf : fs[f]? = some fd) (hu : isAg c.P fd.type m)
    (hr : (l.drop fd.offset).take m = r) : Det c σ H K ⟨d, .field s x f, t, p, af, g⟩ (ag r) := fun w _ => by
  obtain ⟨dd, _, _, h3⟩ := id hu
  simp [execOp, hx, Instr.field, run_und hs, hf, asAgg, part, hu.run, run_size h3, hr]
theorem fldO {x : Operand} {s : TypeId} {f : Nat} {l : List Value} {v : Value} {fs : Array Field} {fd : Field} (hx : ev σ x = ag l) (hs : c.P.underlying s = some (.struct fs)) (hf : fs[f]? = some fd) (hu : isOne c.P fd.type)
    (hr : l[fd.offset]? = some v) : Det c σ H K ⟨d, .field s x f, t, p, af, g⟩ v := fun w _ => by
  simp [execOp, hx, Instr.field, run_und hs, hf, asAgg, part, hu.run, hr]
theorem idxO {x y : Operand} {s e : TypeId} {m : Nat} {k : IntKind} {i : Int} {l : List Value} {v : Value} (hx : ev σ x = ag l) (hy : ev σ y = .int k i) (hs : c.P.underlying s = some (.array m e)) (hu : isOne c.P e)
    (hz : (c.P.info? e).map (·.size) = some 1) (h0 : 0 ≤ i) (h1 : i < m) (hv : l[i.toNat]? = some v) : Det c σ H K ⟨d, .index s x y, t, p, af, g⟩ v := fun w _ => by
  simp [execOp, hx, hy, Instr.index, asIntOf, run_und hs, h0, h1, part, hu.run, run_size hz, hv]
theorem idxB {x y : Operand} {s : TypeId} {k : IntKind} {i : Int} {z : ByteArray} {v : UInt8} (hx : ev σ x = .string z) (hy : ev σ y = .int k i) (hs : c.P.underlying s = some .string)
    (h0 : 0 ≤ i) (hv : z.data.toList[i.toNat]? = some v) : Det c σ H K ⟨d, .index s x y, t, p, af, g⟩ (.int .u8 v.toNat) := fun w _ => by
  have h1 : i.toNat < z.size := by have := (List.getElem?_eq_some_iff.1 hv).1; simpa using this
  have h2 : z[i.toNat]? = some v := by
    rw [getElem?_pos z i.toNat h1]
    have := (List.getElem?_eq_some_iff.1 hv).2
    congr 1
  simp [execOp, hx, hy, Instr.index, asIntOf, run_und hs, h0, h2]
theorem extr {x : Operand} {i : Nat} {vs : Array Value} {v : Value} (hx : ev σ x = .tuple vs) (hv : vs[i]? = some v) : Det c σ H K ⟨d, .extract x i, t, p, af, g⟩ v := fun w _ => by
  simp [execOp, hx, Instr.extract, hv]

/-! ### Strings -/
theorem sadd {x y : Operand} {tx ty : TypeId} {a b : ByteArray} (hx : ev σ x = .string a) (hy : ev σ y = .string b) (h : a.size + b.size ≤ 9223372036854775807) :
    Det c σ H K ⟨d, .binOp .add tx x y ty, t, p, af, g⟩ (.string (a ++ b)) := fun w _ => by
  have h' : ¬ ((a.size + b.size : Nat) : Int) > IntKind.i64.max := by simp [IntKind.max, IntKind.signed, IntKind.bits]; omega
  have he : (eqGuard .add tx x y (.string a) (.string b)).run c.P w = .ok () w := rfl
  simp only [execOp, hx, hy, Sem.run_bind, he, Result.andThen_ok, binOp, Op.stringOp]
  rw [if_neg h']; rfl
theorem toList_eq (a : ByteArray) : a.toList = a.data.toList := by
  exact ByteArray.toList_eq a
theorem seql {x y : Operand} {tx ty : TypeId} {a b : ByteArray} (hx : ev σ x = .string a) (hy : ev σ y = .string b) : Det c σ H K ⟨d, .binOp .eql tx x y ty, t, p, af, g⟩ (.bool (decide (a = b))) := fun w _ => by
  have he : (eqGuard .eql tx x y (.string a) (.string b)).run c.P w = .ok () w := rfl
  have hb : (a.toList == b.toList) = decide (a = b) := by
    rw [Bool.eq_iff_iff]; simp only [beq_iff_eq, decide_eq_true_eq, toList_eq]
    constructor
    · intro h; cases a; cases b; simp only [ByteArray.mk.injEq]; exact Array.toList_inj.1 h
    · rintro rfl; rfl
  simp only [execOp, hx, hy, Sem.run_bind, he, Result.andThen_ok, binOp, Op.stringOp, hb]; rfl
theorem sneq {x y : Operand} {tx ty : TypeId} {a b : ByteArray} (hx : ev σ x = .string a) (hy : ev σ y = .string b) : Det c σ H K ⟨d, .binOp .neq tx x y ty, t, p, af, g⟩ (.bool (!decide (a = b))) := fun w _ => by
  have he : (eqGuard .neq tx x y (.string a) (.string b)).run c.P w = .ok () w := rfl
  have hb : (a.toList == b.toList) = decide (a = b) := by
    rw [Bool.eq_iff_iff]; simp only [beq_iff_eq, decide_eq_true_eq, toList_eq]
    constructor
    · intro h; cases a; cases b; simp only [ByteArray.mk.injEq]; exact Array.toList_inj.1 h
    · rintro rfl; rfl
  simp only [execOp, hx, hy, Sem.run_bind, he, Result.andThen_ok, binOp, Op.stringOp, hb]; rfl

/-! ### New memory, and stores -/
theorem alloc {ops : Array Oper} {d : Nat} {e : TypeId} {z : Value} {l : List Oper} {cs : List Value} (hz : (c.P.info? e).map (·.zero) = some (some z)) (hc : z.cells = cs.toArray) (hd : Nat.blt d n = true)
    (h : ∀ b, TL c n ops l Q (upd σ d (.pointer (some ⟨b, 0, none⟩))) (.blk b (ob cs e) :: H) K) : TL c n ops (⟨some d, .alloc e, t, p, af, none⟩ :: l) Q σ H K := by
  intro w hm a hr
  refine wpList_run rfl ?_
  have hrun : (execOp a.eval ⟨some d, .alloc e, t, p, af, none⟩).run c.P w = .ok (.value (.pointer (some ⟨w.heap.size, 0, none⟩))) (w.alloc (ob cs e)) := by
    simp [execOp, Instr.alloc, run_zero hz, newVar, newRow, hc]
  rw [hrun]
  exact h w.heap.size _ (hm.add (World.grownBy_alloc w _ none) (heap_alloc_new w _) (.inr ⟨_, rfl, Nat.le_refl _⟩)) _ (hr.put d _ (by simp [Nat.blt] at hd; omega))

theorem box {ops : Array Oper} {d : Nat} {e : TypeId} {x : Operand} {l : List Oper} {v : Value} {cs : List Value} (hx : ev σ x = v) (hc : v.cells = cs.toArray) (hd : Nat.blt d n = true)
    (h : ∀ b, TL c n ops l Q (upd σ d (.pointer (some ⟨b, 0, none⟩))) (.blk b (ob cs e) :: H) K) : TL c n ops (⟨some d, .box e x, t, p, af, none⟩ :: l) Q σ H K := by
  intro w hm a hr
  refine wpList_run rfl ?_
  have hrun : (execOp a.eval ⟨some d, .box e x, t, p, af, none⟩).run c.P w = .ok (.value (.pointer (some ⟨w.heap.size, 0, none⟩))) (w.alloc (ob cs e)) := by
    subst hx
    simp [execOp, Instr.box, newVar, newRow, hr.eval, hc]
  rw [hrun]
  exact h w.heap.size _ (hm.add (World.grownBy_alloc w _ none) (heap_alloc_new w _) (.inr ⟨_, rfl, Nat.le_refl _⟩)) _ (hr.put d _ (by simp [Nat.blt] at hd; omega))

theorem grownBy_setRow (w : World) (b : Nat) (cs : Array Value) : w.grownBy (w.setRow b cs) (some b) := by
  refine ⟨rfl, rfl, rfl, by simp [World.setRow], fun k hk hne => ?_⟩
  simp only [World.setRow, Array.getElem?_modify]
  rw [if_neg (by rintro rfl; exact hne rfl)]

/-- A store into a block that is known. -/
theorem sto {ops : Array Oper} {tx e : TypeId} {x y : Operand} {l : List Oper} (i : Nat) {b off : Nat} {ls vs rs : List Value} {v : Value} (hx : ev σ x = .pointer (some ⟨b, off, none⟩)) (hy : ev σ y = v) (hv : v.cells = vs.toArray)
    (hi : H[i]? = some (.blk b (ob ls e))) (hs : (c.P.info? tx).map (·.size) = some vs.length) (h1 : one vs = true) (hlen : off + vs.length ≤ ls.length)
    (hr : ls.take off ++ vs ++ ls.drop (off + vs.length) = rs) (h : TL c n ops l Q σ (H.set i (.blk b (ob rs e))) K) : TL c n ops (⟨none, .store tx x y, t, p, af, none⟩ :: l) Q σ H K := by
  intro w hm a hrep
  refine wpList_run rfl ?_
  have hb := hm.blk i hi
  have hst := run_storeCells_at (P := c.P) b off e vs 0 ls.toArray w hb (by simpa using hlen) (fun u hu => List.all_eq_true.1 h1 u hu)
  have hrun : (execOp a.eval ⟨none, .store tx x y, t, p, af, none⟩).run c.P w = .ok .skip (w.setRow b rs.toArray) := by
    simp only [execOp, hrep.eval, hx, hy, Instr.storeAt, Instr.sureAddr, Sem.run_bind, Sem.run_pure, Result.andThen_ok, storeVar, run_size hs, hv]
    simp only [List.size_toArray, ne_eq, not_true_eq_false, if_false]
    rw [hst, Nat.add_zero]
    simp [hr]
  rw [hrun]
  exact h _ (hm.change i hi (grownBy_setRow w b _) (setRow_heap w b _ _ e _ hb) (.inl rfl)) _ hrep

/-- What is held may be let go. -/
theorem M.sub {w : World} {H' : List Res} (hm : M c H K w) (hs : H'.Sublist H) : M c H' K w := by
  have hp : (places H').Sublist (places H) := by
    induction hs with
    | slnil => exact List.Sublist.refl _
    | cons a _ ih => exact (ih (by
        refine ⟨hm.os, hm.tape, hm.output, hm.size, hm.frame, fun r hr => hm.holds r (List.mem_cons_of_mem _ hr), fun b hb => hm.mine b (List.mem_append_right _ hb), (List.nodup_append.1 hm.nodup).2.1, hm.stable, ?_⟩
        obtain ⟨D, d1, d2, d3, d4, d5⟩ := hm.data
        exact ⟨D, d1, d2, d3, fun b hb => d4 b (List.mem_append_right _ hb), d5⟩)).trans (List.sublist_append_right _ _)
    | cons_cons a _ ih => exact List.Sublist.append (List.Sublist.refl _) (ih (by
        refine ⟨hm.os, hm.tape, hm.output, hm.size, hm.frame, fun r hr => hm.holds r (List.mem_cons_of_mem _ hr), fun b hb => hm.mine b (List.mem_append_right _ hb), (List.nodup_append.1 hm.nodup).2.1, hm.stable, ?_⟩
        obtain ⟨D, d1, d2, d3, d4, d5⟩ := hm.data
        exact ⟨D, d1, d2, d3, fun b hb => d4 b (List.mem_append_right _ hb), d5⟩))
  refine ⟨hm.os, hm.tape, hm.output, hm.size, hm.frame, fun r hr => hm.holds r (hs.subset hr), fun b hb => hm.mine b (hp.subset hb), hp.nodup hm.nodup, hm.stable, ?_⟩
  obtain ⟨D, d1, d2, d3, d4, d5⟩ := hm.data
  exact ⟨D, d1, d2, d3, fun b hb => d4 b (hp.subset hb), d5⟩

/-! ### Calls -/
/-- A function that can be called: it has a body. -/
def Fn (P : Program) (f : FuncId) : Prop := ∃ fn code, P.funcs[f]? = some fn ∧ fn.body = some code ∧ (fn.name == "runtime.NumGoroutine") = false

theorem Fn.run {P : Program} {f : FuncId} (h : Fn P f) (σ : Env) (d : Option Tmp) (t : TypeId) (p : String) (af : Array Edge) (args : Array Operand) (ats : Array TypeId) (w : World) :
    (execOp (ev σ) ⟨d, .call { callee := .value (.func f), args := args, argTypes := ats }, t, p, af, none⟩).run P w = .ok (.enter f (args.map (ev σ))) w := by
  obtain ⟨fn, code, hf, hb, hn⟩ := h
  have hn' : ¬ fn.name = "runtime.NumGoroutine" := by simpa using hn
  simp [execOp, resolve, Deferred.ofValue, ev, invoke, callFunc, hf, hn', hb]

theorem map_args {args : Array Operand} {vs : List Value} {f : Operand → Value} (h : args.toList.map f = vs) : args.map f = vs.toArray := by
  apply Array.toList_inj.1; rw [Array.toList_map]; exact h
/-- A call that hands back a value that the arguments tell, and makes memory alone. -/
theorem call {ops : Array Oper} {d : Nat} {f : FuncId} {args : Array Operand} {ats : Array TypeId} {vs : List Value} {l : List Oper} {v : Value} (hf : Fn c.P f) (ha : args.toList.map (ev σ) = vs) (hd : Nat.blt d n = true)
    (spec : ∀ w, M c H K w → Calls c.P f vs.toArray w fun e w' => e = .returned v ∧ Below w.heap.size w w') (h : TL c n ops l Q (upd σ d v) H K) :
    TL c n ops (⟨some d, .call { callee := .value (.func f), args := args, argTypes := ats }, t, p, af, none⟩ :: l) Q σ H K := by
  intro w hm a hr
  refine wpList_run rfl ?_
  rw [hr.eval, hf.run, map_args ha]
  refine (spec w hm).mono ?_
  rintro e w' ⟨rfl, hbel⟩
  exact h w' (hm.pure (grown_below hbel)) _ (hr.put d _ (by simp [Nat.blt] at hd; omega))
end
end Go.Proofs.YtmcapgjdflohfaaGreat.L
