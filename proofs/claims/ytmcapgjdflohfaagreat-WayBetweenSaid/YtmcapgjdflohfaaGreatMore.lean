/- More rules: bytes and texts, slices cut, literals, made slices; in the logic of Core. Nothing here speaks of the program. -/
import Derived.Test.YtmcapgjdflohfaaGreatDraw
set_option linter.all false
namespace Go.Proofs.YtmcapgjdflohfaaGreat.L
open Go Go.RowKit

/-- Bytes as cells; a text of bytes. -/
def b8 (l : List UInt8) : List Value := l.map fun x => .int .u8 x.toNat
abbrev bs (l : List UInt8) : ByteArray := ⟨l.toArray⟩
theorem b8_length (l : List UInt8) : (b8 l).length = l.length := by simp [b8]
theorem b8_one (l : List UInt8) : one (b8 l) = true := by
  rw [one, List.all_eq_true]; intro v hv
  obtain ⟨x, _, rfl⟩ := List.mem_map.1 hv; rfl
theorem bs_app (a b : List UInt8) : bs a ++ bs b = bs (a ++ b) := by
  apply ByteArray.ext; simp
theorem bs_size (a : List UInt8) : (bs a).size = a.length := by simp [ByteArray.size]
theorem bs_inj {a b : List UInt8} : bs a = bs b ↔ a = b := by
  constructor
  · intro h
    have := congrArg (fun x => x.data.toList) h
    simpa using this
  · rintro rfl; rfl

section
variable {c : Cx} {n : Nat} {Q : Exit → Env → World → Prop} {σ : Env} {H : List Res} {K : List Fact}
variable {d : Option Tmp} {t : TypeId} {p : String} {af : Array Edge} {g : Option (Nat × Bool)}

theorem pick {x y z : Operand} {b : Bool} {v : Value} (hx : ev σ x = .bool b) (hv : (bif b then ev σ y else ev σ z) = v) : Det c σ H K ⟨d, .pick x y z, t, p, af, g⟩ v := fun w _ => by
  subst hv
  cases b <;> simp [execOp, hx, asBool]

/-! ### Texts -/
theorem lenT {x : Operand} {tx : TypeId} {l : List UInt8} (hu : c.P.underlying tx = some .string) (hx : ev σ x = .string (bs l)) :
    Det c σ H K ⟨d, .call { callee := .builtin .len, args := #[x], argTypes := #[tx] }, t, p, af, g⟩ (.int .i64 l.length) := fun w hm => by
  have := lenB (c := c) (H := H) (K := K) (d := d) (t := t) (p := p) (af := af) (g := g) hu hx w hm
  rw [this, bs_size]
theorem tadd {x y : Operand} {tx ty : TypeId} {a b : List UInt8} (hx : ev σ x = .string (bs a)) (hy : ev σ y = .string (bs b)) (h : a.length + b.length ≤ 9223372036854775807) :
    Det c σ H K ⟨d, .binOp .add tx x y ty, t, p, af, g⟩ (.string (bs (a ++ b))) := fun w hm => by
  have := sadd (c := c) (H := H) (K := K) (d := d) (t := t) (p := p) (af := af) (g := g) (tx := tx) (ty := ty) hx hy (by rw [bs_size, bs_size]; exact h) w hm
  rw [this, bs_app]
theorem teql {x y : Operand} {tx ty : TypeId} {a b : List UInt8} (hx : ev σ x = .string (bs a)) (hy : ev σ y = .string (bs b)) : Det c σ H K ⟨d, .binOp .eql tx x y ty, t, p, af, g⟩ (.bool (decide (a = b))) := fun w hm => by
  have := seql (c := c) (H := H) (K := K) (d := d) (t := t) (p := p) (af := af) (g := g) (tx := tx) (ty := ty) hx hy w hm
  rw [this]; simp only [bs_inj]
theorem tneq {x y : Operand} {tx ty : TypeId} {a b : List UInt8} (hx : ev σ x = .string (bs a)) (hy : ev σ y = .string (bs b)) : Det c σ H K ⟨d, .binOp .neq tx x y ty, t, p, af, g⟩ (.bool (!decide (a = b))) := fun w hm => by
  have := sneq (c := c) (H := H) (K := K) (d := d) (t := t) (p := p) (af := af) (g := g) (tx := tx) (ty := ty) hx hy w hm
  rw [this]; simp only [bs_inj]
theorem bs_extract (l : List UInt8) (a b : Nat) : (bs l).extract a b = bs ((l.take b).drop a) := by
  apply ByteArray.ext
  simp [ByteArray.data_extract]
  rw [List.drop_take]
/-- 's[a:b]', 's[a:]', 's[:b]' of a text. -/
theorem cutT {x y z : Operand} {tx : TypeId} {l : List UInt8} {k k' : IntKind} {a b : Int} (hu : c.P.underlying tx = some .string) (hx : ev σ x = .string (bs l)) (hy : ev σ y = .int k a) (hz : ev σ z = .int k' b) (h0 : 0 ≤ a) (h1 : a ≤ b) (h2 : b ≤ l.length) :
    Det c σ H K ⟨d, .slice tx x (some y) (some z) none, t, p, af, g⟩ (.string (bs ((l.take b.toNat).drop a.toNat))) := fun w _ => by
  have e : ((b.toNat : Nat) : Int) = b := by omega
  have h2' : b ≤ ((bs l).size : Int) := by rw [bs_size]; exact h2
  simp [execOp, hx, hy, hz, Instr.sliceAt, Instr.slice, run_und hu, Instr.sliceBounds, Instr.sliceBound, asIntOf, h0, show 0 ≤ b by omega, h2', e, h1]
  exact bs_extract l _ _
theorem cutTl {x y : Operand} {tx : TypeId} {l : List UInt8} {k : IntKind} {a : Int} (hu : c.P.underlying tx = some .string) (hx : ev σ x = .string (bs l)) (hy : ev σ y = .int k a) (h0 : 0 ≤ a) (h1 : a ≤ l.length) :
    Det c σ H K ⟨d, .slice tx x (some y) none none, t, p, af, g⟩ (.string (bs (l.drop a.toNat))) := fun w _ => by
  have h1' : a ≤ ((bs l).size : Int) := by rw [bs_size]; exact h1
  simp [execOp, hx, hy, Instr.sliceAt, Instr.slice, run_und hu, Instr.sliceBounds, Instr.sliceBound, asIntOf, h0, h1']
  rw [bs_size]
  have := bs_extract l a.toNat l.length
  rw [List.take_length] at this
  exact this
theorem cutTh {x z : Operand} {tx : TypeId} {l : List UInt8} {k : IntKind} {b : Int} (hu : c.P.underlying tx = some .string) (hx : ev σ x = .string (bs l)) (hz : ev σ z = .int k b) (h0 : 0 ≤ b) (h1 : b ≤ l.length) :
    Det c σ H K ⟨d, .slice tx x none (some z) none, t, p, af, g⟩ (.string (bs (l.take b.toNat))) := fun w _ => by
  have h1' : b ≤ ((bs l).size : Int) := by rw [bs_size]; exact h1
  simp [execOp, hx, hz, Instr.sliceAt, Instr.slice, run_und hu, Instr.sliceBounds, Instr.sliceBound, asIntOf, h0, h1']
  have := bs_extract l 0 b.toNat
  rw [List.drop_zero] at this
  exact this
theorem idxT {x y : Operand} {s : TypeId} {k : IntKind} {i : Int} {l : List UInt8} (hx : ev σ x = .string (bs l)) (hy : ev σ y = .int k i) (hs : c.P.underlying s = some .string)
    (h0 : 0 ≤ i) (h1 : i < l.length) : Det c σ H K ⟨d, .index s x y, t, p, af, g⟩ (.int .u8 (l.getD i.toNat 0).toNat) :=
  idxB hx hy hs h0 (by simp [show i.toNat < l.length by omega])

/-- The bytes of a block of the call's own, as a text. -/
theorem strB {x : Operand} {tx e dx e' : TypeId} {b off len cap : Nat} {l : List Value} {r : List UInt8} (i : Nat) (hs : c.P.underlying tx = some (.slice e)) (he : c.P.underlying e = some (.int .u8)) (hd : c.P.underlying dx = some .string)
    (hx : ev σ x = .slice (some ⟨b, off, none⟩) len cap) (hi : H[i]? = some (.blk b (ob l e'))) (hr : (l.drop off).take len = b8 r) (hl : r.length = len) : Det c σ H K ⟨d, .convert tx dx x, t, p, af, g⟩ (.string (bs r)) := fun w hm => by
  have hb := hm.blk i hi
  have := run_convert_bytes_arg (P := c.P) w tx e hs he b off len cap (r.map fun x => (x.toNat : Int)) (by simp [hl]) (fun j hj => by
    rw [cell_ob hb]
    have h1 : ((l.drop off).take len)[j]? = (b8 r)[j]? := by rw [hr]
    rw [List.getElem?_take, if_pos hj, List.getElem?_drop] at h1
    rw [h1]
    simp [b8, show j < r.length by omega]) dx hd
  simp only [execOp, hx, this, Sem.run_bind, Result.andThen_ok, Sem.run_pure]
  have e : strOfNums (r.map fun x => (x.toNat : Int)) = bs r := by
    apply ByteArray.ext
    simp only [strOfNums, List.map_map]
    congr 1
    have : ∀ r : List UInt8, List.map ((fun n : Int => UInt8.ofNat n.toNat) ∘ fun x : UInt8 => (x.toNat : Int)) r = r := by
      intro r
      induction r with
      | nil => rfl
      | cons x r ih => rw [List.map_cons, ih]; simp
    first | exact this r | (simp only [List.toArray_inj]; exact this r) | simp [this]
  rw [e]

/-- An array of the call's own, as a slice: 'h[:]'. -/
theorem arrS {x : Operand} {tx e : TypeId} {b off m : Nat} (hs : c.P.underlying tx = some (.array m e)) (hz : (c.P.info? e).map (·.size) = some 1) (hx : ev σ x = .pointer (some ⟨b, off, none⟩)) :
    Det c σ H K ⟨d, .slice tx x none none none, t, p, af, g⟩ (.slice (some ⟨b, off, none⟩) m m) := fun w _ => by
  simp [execOp, hx, Instr.sliceAt, run_und hs, Instr.sureAddr, Instr.sliceBounds, run_size hz, add0]
/-- 'h[a:b:m]'. -/
theorem arrS3 {x y z u : Operand} {tx e : TypeId} {b off m : Nat} {k k' k'' : IntKind} {lo hi mx : Int} (hs : c.P.underlying tx = some (.array m e)) (hz : (c.P.info? e).map (·.size) = some 1) (hx : ev σ x = .pointer (some ⟨b, off, none⟩))
    (hy : ev σ y = .int k lo) (hh : ev σ z = .int k' hi) (hu : ev σ u = .int k'' mx) (h0 : 0 ≤ lo) (h1 : lo ≤ hi) (h2 : hi ≤ mx) (h3 : mx ≤ m) (h4 : lo < mx) :
    Det c σ H K ⟨d, .slice tx x (some y) (some z) (some u), t, p, af, g⟩ (.slice (some ⟨b, off + lo.toNat, none⟩) (hi.toNat - lo.toNat) (mx.toNat - lo.toNat)) := fun w _ => by
  have e1 : ((mx.toNat : Nat) : Int) = mx := by omega
  have e2 : ((hi.toNat : Nat) : Int) = hi := by omega
  simp [execOp, hx, hy, hh, hu, Instr.sliceAt, run_und hs, Instr.sureAddr, Instr.sliceBounds, Instr.sliceBound, asIntOf, run_size hz, h0, show 0 ≤ hi by omega, show 0 ≤ mx by omega, h3, e1, h2, e2, h1, add0, show ¬ mx.toNat = lo.toNat by omega]
/-- 'h[a:]'. -/
theorem arrSl {x y : Operand} {tx e : TypeId} {b off m : Nat} {k : IntKind} {lo : Int} (hs : c.P.underlying tx = some (.array m e)) (hz : (c.P.info? e).map (·.size) = some 1) (hx : ev σ x = .pointer (some ⟨b, off, none⟩))
    (hy : ev σ y = .int k lo) (h0 : 0 ≤ lo) (h1 : lo < m) : Det c σ H K ⟨d, .slice tx x (some y) none none, t, p, af, g⟩ (.slice (some ⟨b, off + lo.toNat, none⟩) (m - lo.toNat) (m - lo.toNat)) := fun w _ => by
  simp [execOp, hx, hy, Instr.sliceAt, run_und hs, Instr.sureAddr, Instr.sliceBounds, Instr.sliceBound, asIntOf, run_size hz, h0, show lo ≤ (m : Int) by omega, add0, show ¬ m = lo.toNat by omega]

/-- The address of an element of a slice over a block of the call's own. -/
theorem ixB {x y : Operand} {s e : TypeId} {b off m cap sz : Nat} {kk : IntKind} {i : Int} (hx : ev σ x = .slice (some ⟨b, off, none⟩) m cap) (hy : ev σ y = .int kk i) (hs : c.P.underlying s = some (.slice e))
    (hz : (c.P.info? e).map (·.size) = some sz) (h0 : 0 ≤ i) (h1 : i < m) : Det c σ H K ⟨d, .indexAddr s x y, t, p, af, g⟩ (.pointer (some ⟨b, off + i.toNat * sz, none⟩)) := fun w _ => by
  simp [execOp, hx, hy, Instr.indexAt, asIntOf, run_und hs, h0, h1, run_size hz, add0]

/-- 'make([]T, m)', T of one cell: a block of the call's own. -/
theorem mks {ops : Array Oper} {d : Nat} {x y : Operand} {tt e : TypeId} {k k' : IntKind} {m : Nat} {a b : Int} {z : Value} {bytes : Nat} {l : List Oper} (ht : c.P.underlying tt = some (.slice e)) (hi : (c.P.info? e).map (fun i => (i.zero, i.size, i.bytes)) = some (some z, 1, bytes)) (hz : z.cells = #[z])
    (hx : ev σ x = .int k a) (hy : ev σ y = .int k' b) (ha : a = m) (hb : b = m) (hby : bytes * m ≤ 281474976710656) (hm : m ≤ 9223372036854775807) (hd : Nat.blt d n = true)
    (h : ∀ g, TL c n ops l Q (upd σ d (.slice (some ⟨g, 0, none⟩) m m)) (.blk g (ob (List.replicate m z) e) :: H) K) : TL c n ops (⟨some d, .makeSlice tt x y, t, p, af, none⟩ :: l) Q σ H K := by
  intro w hM a' hr
  refine wpList_run rfl ?_
  obtain ⟨i0, hi0, hzz⟩ := Option.map_eq_some_iff.1 hi
  simp only [Prod.mk.injEq] at hzz
  obtain ⟨hz0, hz1, hz2⟩ := hzz
  have hbb : ((i0.bytes : Nat) : Int) * (m : Int) ≤ 281474976710656 := by
    rw [hz2, ← Int.natCast_mul]
    generalize bytes * m = q at hby ⊢
    omega
  have hcells : madeCells z.cells ((m : Int).toNat * i0.size) = (List.replicate m z).toArray := by
    rw [hz, hz1]
    apply Array.ext
    · simp [madeCells]
    · intro i h1 h2
      simp [madeCells, Nat.mod_one]
  have hrun := run_make (P := c.P) w tt e i0 z ht hi0 hz0 k k' (m : Int) (m : Int) (by omega) (by omega) hbb (by omega)
  rw [hcells, Int.toNat_natCast] at hrun
  rw [hr.eval]
  simp only [execOp, hx, hy, ha, hb, hrun, Sem.run_bind, Result.andThen_ok, Sem.run_pure]
  exact h w.heap.size _ (hM.add (World.grownBy_alloc w _ none) (heap_alloc_new w _) (.inr ⟨_, rfl, Nat.le_refl _⟩)) _ (hr.put d _ (by simp [Nat.blt] at hd; omega))

/-! ### Literals of structs and arrays -/
theorem fill_step {place : Nat → Option (Nat × Nat)} {l vs r : List Value} {i off size : Nat} {v : Value} {rest : List (Nat × Value)} {out : Option (Array Value)} (hp : place i = some (off, size)) (hv : v.cells = vs.toArray) (hs : vs.length = size) (hl : off + size ≤ l.length)
    (hr : l.take off ++ vs ++ l.drop (off + size) = r) (h : Instr.fill place r.toArray rest = out) : Instr.fill place l.toArray ((i, v) :: rest) = out := by
  subst hs
  simp only [Instr.fill, hp, hv, List.size_toArray, ne_eq, not_true_eq_false, decide_false, Bool.false_or]
  rw [if_neg (by simp; omega), ← h, ← hr]
  congr 1
  rw [← Array.foldl_toList, Array.toList_zipIdx]
  have key : ∀ (xs : List Value) (k : Nat) (a : Array Value), off + k + xs.length ≤ a.size → (xs.zipIdx k).foldl (fun cs (c, j) => cs.setIfInBounds (off + j) c) a = (a.toList.take (off + k) ++ xs ++ a.toList.drop (off + k + xs.length)).toArray := by
    intro xs
    induction xs with
    | nil => intro k a _; simp
    | cons x r ih =>
      intro k a hk
      simp only [List.length_cons] at hk
      rw [List.zipIdx_cons, List.foldl_cons, ih (k + 1) _ (by simp; omega)]
      congr 1
      apply List.ext_getElem?
      intro j
      simp only [Array.toList_setIfInBounds, List.getElem?_append, List.length_take, List.length_set, Array.length_toList, List.length_append, List.length_cons, List.getElem?_take, List.getElem?_set, List.getElem?_drop]
      have hm1 : min (off + (k + 1)) a.size = off + (k + 1) := by omega
      have hm2 : min (off + k) a.size = off + k := by omega
      rw [hm1, hm2]
      by_cases hj : j < off + k
      · simp [hj, show j < off + (k + 1) by omega, show j < off + (k + 1) + r.length by omega, show j < off + k + (r.length + 1) by omega, show off + k ≠ j by omega]
      · by_cases hj2 : j = off + k
        · subst hj2
          simp [show off + k < off + (k + 1) + r.length by omega, show off + k < off + k + (r.length + 1) by omega, show off + k < a.size by omega, show off + k < off + (k + 1) by omega]
        · have h1 : ¬ j < off + (k + 1) := by omega
          simp only [hj, h1, if_false]
          by_cases hj3 : j < off + (k + 1) + r.length
          · rw [if_pos hj3, if_pos (by omega), show j - (off + k) = (j - (off + (k + 1))) + 1 by omega, List.getElem?_cons_succ]
          · have h5 : ¬ j < off + k + (r.length + 1) := by omega
            have h6 : ¬ off + k = off + (k + 1) + r.length + (j - (off + (k + 1) + r.length)) := by omega
            simp only [hj3, h5, h6, if_false]
            congr 1; omega
  have := key vs 0 l.toArray (by simp; omega)
  simpa using this
theorem fill_nil {place : Nat → Option (Nat × Nat)} {l : List Value} : Instr.fill place l.toArray [] = some l.toArray := rfl

/-- A struct's literal: its zero value, filled. -/
theorem bldS {tt : TypeId} {parts : Array (Nat × Operand)} {ps : List (Nat × Value)} {fs : Array Field} {pl : Array (Nat × Nat)} {z cs : List Value} (hz : (c.P.info? tt).map (·.zero) = some (some (ag z))) (ht : c.P.underlying tt = some (.struct fs))
    (hpl : ∀ w, (fs.mapM (fun f => do Pure.pure (f.offset, ← sizeOf f.type) : Field → Sem (Nat × Nat))).run c.P w = .ok pl w) (hps : (parts.map fun (i, x) => (i, ev σ x)).toList = ps) (hf : Instr.fill (pl[·]?) z.toArray ps = some cs.toArray) :
    Det c σ H K ⟨d, .build tt parts, t, p, af, g⟩ (ag cs) := fun w _ => by
  simp only [execOp, Instr.build, Sem.run_bind, run_zero hz, Result.andThen_ok, run_und ht, hpl, Value.cells, hps, hf, Sem.run_pure]
/-- An array's literal. -/
theorem bldA {tt e : TypeId} {m sz : Nat} {parts : Array (Nat × Operand)} {ps : List (Nat × Value)} {z cs : List Value} (hz : (c.P.info? tt).map (·.zero) = some (some (ag z))) (ht : c.P.underlying tt = some (.array m e)) (hs : (c.P.info? e).map (·.size) = some sz)
    (hps : (parts.map fun (i, x) => (i, ev σ x)).toList = ps) (hf : Instr.fill (fun i => some (i * sz, sz)) z.toArray ps = some cs.toArray) :
    Det c σ H K ⟨d, .build tt parts, t, p, af, g⟩ (ag cs) := fun w _ => by
  simp only [execOp, Instr.build, Sem.run_bind, run_zero hz, Result.andThen_ok, run_und ht, run_size hs, Value.cells, hps, hf, Sem.run_pure]
end
end Go.Proofs.YtmcapgjdflohfaaGreat.L
