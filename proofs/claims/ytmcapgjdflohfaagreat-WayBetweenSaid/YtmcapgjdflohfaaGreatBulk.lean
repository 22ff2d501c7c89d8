/- Blocks of elements of many cells: made, stored into, copied into; in the logic of Core. Nothing here speaks of the program. -/
import Derived.Test.YtmcapgjdflohfaaGreatSlice
set_option linter.all false
namespace Go.Proofs.YtmcapgjdflohfaaGreat.L
open Go Go.RowKit

theorem flat_length {sz : Nat} {ls : List (List Value)} (h : ∀ l ∈ ls, l.length = sz) : ls.flatten.length = ls.length * sz := by
  induction ls with
  | nil => simp
  | cons x r ih =>
    rw [List.flatten_cons, List.length_append, h x (List.mem_cons_self ..), ih (fun l hl => h l (List.mem_cons_of_mem _ hl)), List.length_cons, Nat.succ_mul]; omega
theorem flat_take {sz : Nat} {ls : List (List Value)} (h : ∀ l ∈ ls, l.length = sz) (i : Nat) : ls.flatten.take (i * sz) = (ls.take i).flatten := by
  induction ls generalizing i with
  | nil => simp
  | cons x r ih =>
    cases i with
    | zero => simp
    | succ i =>
      have hx := h x (List.mem_cons_self ..)
      rw [List.take_succ_cons, List.flatten_cons, List.flatten_cons, List.take_append, List.take_of_length_le (by rw [hx, Nat.succ_mul]; omega), hx]
      rw [show (i + 1) * sz - sz = i * sz by rw [Nat.succ_mul]; omega, ih (fun l hl => h l (List.mem_cons_of_mem _ hl))]
theorem flat_drop {sz : Nat} {ls : List (List Value)} (h : ∀ l ∈ ls, l.length = sz) (i : Nat) : ls.flatten.drop (i * sz) = (ls.drop i).flatten := by
  induction ls generalizing i with
  | nil => simp
  | cons x r ih =>
    cases i with
    | zero => simp
    | succ i =>
      have hx := h x (List.mem_cons_self ..)
      rw [List.drop_succ_cons, List.flatten_cons, List.drop_append, List.drop_of_length_le (by rw [hx, Nat.succ_mul]; omega), hx, List.nil_append]
      rw [show (i + 1) * sz - sz = i * sz by rw [Nat.succ_mul]; omega, ih (fun l hl => h l (List.mem_cons_of_mem _ hl))]
theorem flat_set {sz i : Nat} {ls : List (List Value)} {x : List Value} (h : ∀ l ∈ ls, l.length = sz) (hx : x.length = sz) (hi : i < ls.length) : ls.flatten.take (i * sz) ++ x ++ ls.flatten.drop (i * sz + x.length) = (ls.set i x).flatten := by
  rw [hx, show i * sz + sz = (i + 1) * sz by rw [Nat.succ_mul], flat_take h, flat_drop h, List.set_eq_take_append_cons_drop, if_pos hi]
  simp
theorem flat_copy {sz m : Nat} {ls ks : List (List Value)} (h : ∀ l ∈ ls, l.length = sz) (hk : ∀ l ∈ ks, l.length = sz) (hm : ks.length = m) : ls.flatten.take 0 ++ ks.flatten ++ ls.flatten.drop (0 + ks.flatten.length) = (ks ++ ls.drop m).flatten := by
  rw [List.take_zero, List.nil_append, Nat.zero_add, flat_length hk, hm, flat_drop h, List.flatten_append]
theorem flat_one {ls : List (List Value)} (h : ∀ l ∈ ls, one l = true) : one ls.flatten = true := by
  induction ls with
  | nil => rfl
  | cons x r ih =>
    have : one (x ++ r.flatten) = (one x && one r.flatten) := by simp [one]
    rw [List.flatten_cons, this, h x (List.mem_cons_self ..), ih fun l hl => h l (List.mem_cons_of_mem _ hl)]; rfl

section
variable {c : Cx} {n : Nat} {Q : Exit → Env → World → Prop} {σ : Env} {H : List Res} {K : List Fact}
variable {d : Option Tmp} {t : TypeId} {p : String} {af : Array Edge} {g : Option (Nat × Bool)}

/-- 'make([]T, m)', T of so many cells: a block of the call's own. -/
theorem mksA {ops : Array Oper} {d : Nat} {x y : Operand} {tt e : TypeId} {k k' : IntKind} {m sz : Nat} {a b : Int} {z : List Value} {bytes : Nat} {l : List Oper} (ht : c.P.underlying tt = some (.slice e)) (hi : (c.P.info? e).map (fun i => (i.zero, i.size, i.bytes)) = some (some (ag z), sz, bytes)) (hz : z.length = sz) (hs0 : 0 < sz)
    (hx : ev σ x = .int k a) (hy : ev σ y = .int k' b) (ha : a = m) (hb : b = m) (hby : bytes * m ≤ 281474976710656) (hm : m ≤ 9223372036854775807) (hd : Nat.blt d n = true)
    (h : ∀ g, TL c n ops l Q (upd σ d (.slice (some ⟨g, 0, none⟩) m m)) (.blk g (ob (List.replicate m z).flatten e) :: H) K) : TL c n ops (⟨some d, .makeSlice tt x y, t, p, af, none⟩ :: l) Q σ H K := by
  intro w hM a' hr
  refine wpList_run rfl ?_
  obtain ⟨i0, hi0, hzz⟩ := Option.map_eq_some_iff.1 hi
  simp only [Prod.mk.injEq] at hzz
  obtain ⟨hz0, hz1, hz2⟩ := hzz
  have hbb : ((i0.bytes : Nat) : Int) * (m : Int) ≤ 281474976710656 := by
    rw [hz2, ← Int.natCast_mul]
    generalize bytes * m = q at hby ⊢
    omega
  have hall : ∀ l ∈ List.replicate m z, l.length = sz := fun l hl => by rw [(List.mem_replicate.1 hl).2, hz]
  have hcells : madeCells (ag z).cells ((m : Int).toNat * i0.size) = (List.replicate m z).flatten.toArray := by
    rw [hz1]
    apply Array.ext
    · simp [madeCells, hz]
    · intro i h1 h2
      simp only [madeCells, Int.toNat_natCast, Array.size_map, Array.size_range] at h1
      have hq : i / sz < m := (Nat.div_lt_iff_lt_mul hs0).2 h1
      have hr : i % sz < z.length := by rw [hz]; exact Nat.mod_lt _ hs0
      have e1 : (madeCells (ag z).cells ((m : Int).toNat * sz))[i] = z[i % sz] := by
        simp only [madeCells, Value.cells, Array.getElem_map, Array.getElem_range, List.size_toArray, hz]
        rw [getElem!_pos _ _ (by simpa using hr)]; simp
      have e2 : (List.replicate m z).flatten[i]? = z[i % sz]? := by
        have := flat_drop hall (i / sz)
        have h3 : i = i / sz * sz + i % sz := by rw [Nat.mul_comm]; exact (Nat.div_add_mod i sz).symm
        have h4 : ((List.replicate m z).flatten.drop (i / sz * sz))[i % sz]? = (List.replicate m z).flatten[i]? := by rw [List.getElem?_drop, ← h3]
        rw [← h4, this, List.drop_replicate]
        obtain ⟨q, hq2⟩ : ∃ q, m - i / sz = q + 1 := ⟨m - i / sz - 1, by omega⟩
        rw [hq2, List.replicate_succ, List.flatten_cons, List.getElem?_append_left hr]
      rw [e1]
      have h5 : i < (List.replicate m z).flatten.length := by simpa using h2
      rw [List.getElem?_eq_getElem h5, List.getElem?_eq_getElem hr] at e2
      simpa using (Option.some.inj e2).symm
  have hrun := run_make (P := c.P) w tt e i0 (ag z) ht hi0 hz0 k k' (m : Int) (m : Int) (by omega) (by omega) hbb (by omega)
  rw [hcells, Int.toNat_natCast] at hrun
  rw [hr.eval]
  simp only [execOp, hx, hy, ha, hb, hrun, Sem.run_bind, Result.andThen_ok, Sem.run_pure]
  exact h w.heap.size _ (hM.add (World.grownBy_alloc w _ none) (heap_alloc_new w _) (.inr ⟨_, rfl, Nat.le_refl _⟩)) _ (hr.put d _ (by simp [Nat.blt] at hd; omega))
/-- An element stored into such a block. -/
theorem stoE {ops : Array Oper} {tx e : TypeId} {x y : Operand} {l : List Oper} (i j : Nat) {b off sz : Nat} {ls : List (List Value)} {vs : List Value} (hx : ev σ x = .pointer (some ⟨b, off, none⟩)) (hy : ev σ y = ag vs) (ho : off = j * sz)
    (hi : H[i]? = some (.blk b (ob ls.flatten e))) (hs : (c.P.info? tx).map (·.size) = some sz) (hv : vs.length = sz) (h1 : one vs = true) (hls : ∀ l ∈ ls, l.length = sz) (hj : j < ls.length)
    (h : TL c n ops l Q σ (H.set i (.blk b (ob (ls.set j vs).flatten e))) K) : TL c n ops (⟨none, .store tx x y, t, p, af, none⟩ :: l) Q σ H K := by
  subst ho
  refine sto i (vs := vs) hx hy rfl hi (by rw [hs, hv]) h1 ?_ (flat_set hls hv hj) h
  rw [flat_length hls, hv]
  have := Nat.mul_le_mul_right sz (show j + 1 ≤ ls.length by omega)
  rw [Nat.succ_mul] at this
  exact this

theorem flat_at {sz : Nat} (hs0 : 0 < sz) {ls : List (List Value)} (h : ∀ l ∈ ls, l.length = sz) {j : Nat} {v : Value} (hj : ls.flatten[j]? = some v) : ∃ l, ls[j / sz]? = some l ∧ l[j % sz]? = some v := by
  have hlt : j < ls.flatten.length := (List.getElem?_eq_some_iff.1 hj).1
  rw [flat_length h] at hlt
  have hi : j / sz < ls.length := (Nat.div_lt_iff_lt_mul hs0).2 hlt
  have h3 : j = j / sz * sz + j % sz := by rw [Nat.mul_comm]; exact (Nat.div_add_mod j sz).symm
  have h4 : (ls.flatten.drop (j / sz * sz))[j % sz]? = ls.flatten[j]? := by rw [List.getElem?_drop, ← h3]
  rw [← h4, flat_drop h, List.drop_eq_getElem_cons hi, List.flatten_cons] at hj
  have hl : (ls[j / sz]).length = sz := h _ (List.getElem_mem hi)
  rw [List.getElem?_append_left (by rw [hl]; exact Nat.mod_lt _ hs0)] at hj
  exact ⟨_, List.getElem?_eq_getElem hi, hj⟩
theorem Sl.flatCells {sz m cap : Nat} {A : Option Addr} {ls : List (List Value)} {D : Nat → Prop} {w : World} (h : Sl sz A m cap ls D w) (hs0 : 0 < sz) (hm : 0 < m) : ∃ b off, A = some ⟨b, off, none⟩ ∧ ∀ (j : Nat) v, ls.flatten[j]? = some v → w.cell? ⟨b, off + j, none⟩ = some v := by
  obtain ⟨b, off, hA, _, hc⟩ := h.2.2.2.2 hm
  refine ⟨b, off, hA, fun j v hj => ?_⟩
  obtain ⟨l, hl, hv⟩ := flat_at hs0 (fun l hl => (h.2.2.2.1 l hl).1) hj
  have h3 : j = j / sz * sz + j % sz := by rw [Nat.mul_comm]; exact (Nat.div_add_mod j sz).symm
  have := hc _ l hl _ v hv
  rw [h3, ← Nat.add_assoc]
  exact this

/-- copy of a slice that is known onto the beginning of such a block. -/
theorem cpS {ops : Array Oper} {dd : Nat} {x y : Operand} {tx ty e e' : TypeId} {l : List Oper} (i k : Nat) {b m cap n' cap' sz : Nat} {A : Option Addr} {ls ks : List (List Value)} (hx : ev σ x = .slice (some ⟨b, 0, none⟩) m cap) (hy : ev σ y = .slice A n' cap') (hk : K[k]? = some (Sl sz A n' cap' ks))
    (hi : H[i]? = some (.blk b (ob ls.flatten e))) (hu : c.P.underlying tx = some (.slice e')) (hs : (c.P.info? e').map (·.size) = some sz) (hs0 : 0 < sz) (hn0 : 0 < n') (hnm : n' ≤ m) (hls : ∀ l ∈ ls, l.length = sz) (hlm : ls.length = m) (hd : Nat.blt dd n = true)
    (h : TL c n ops l Q (upd σ dd (.int .i64 n')) (H.set i (.blk b (ob (ks ++ ls.drop n').flatten e))) K) :
    TL c n ops (⟨some dd, .call { callee := .builtin .copy, args := #[x, y], argTypes := #[tx, ty] }, t, p, af, none⟩ :: l) Q σ H K := by
  intro w hm a hrep
  refine wpList_run rfl ?_
  have hb := hm.blk i hi
  obtain ⟨D, _, hsl⟩ := hm.sl hk
  obtain ⟨b2, off2, rfl, hcells⟩ := hsl.flatCells hs0 hn0
  have hks : ∀ l ∈ ks, l.length = sz := fun l hl => (hsl.2.2.2.1 l hl).1
  have hk1 : one ks.flatten = true := flat_one fun l hl => (hsl.2.2.2.1 l hl).2
  have hkl : ks.flatten.length = n' * sz := by rw [flat_length hks, hsl.1]
  have hfit : 0 + 0 + ks.flatten.length ≤ ls.flatten.toArray.size := by
    simp only [List.size_toArray]
    rw [hkl, flat_length hls, hlm]
    have := Nat.mul_le_mul_right sz hnm
    omega
  have hst := run_storeCells_at (P := c.P) b 0 e ks.flatten 0 ls.flatten.toArray w hb hfit (fun u hu => List.all_eq_true.1 hk1 u hu)
  have hfc := run_firstCells_some (P := c.P) (w := w) sz n' ⟨b2, off2, none⟩ n' cap' ks.flatten hkl (fun j v hj => by rw [add0]; exact hcells j v hj)
  have hrun : (execOp a.eval ⟨some dd, .call { callee := .builtin .copy, args := #[x, y], argTypes := #[tx, ty] }, t, p, af, none⟩).run c.P w = .ok (.value (.int .i64 n')) (w.setRow b (ks ++ ls.drop n').flatten.toArray) := by
    simp only [execOp, hrep.eval, resolve, invoke, builtin, List.map_toArray, List.map_cons, List.map_nil, hx, hy, Builtin.copy_, Sem.run_bind, Sem.run_pure, Result.andThen_ok, List.getElem?_toArray, List.getElem?_cons_zero, List.getElem?_cons_succ, run_und hu, Builtin.lenOf, run_size hs]
    rw [show Nat.min n' m = n' from Nat.min_eq_left hnm, hfc]
    simp only [Result.andThen_ok]
    rw [hst]
    simp only [Result.andThen_ok, goInt]
    have e := flat_copy (m := n') hls hks hsl.1
    simp only [Nat.zero_add, Nat.add_zero] at e ⊢
    rw [e]
  rw [hrun]
  exact h _ (hm.change i hi (grownBy_setRow w b _) (setRow_heap w b _ _ e _ hb) (.inl rfl)) _ (hrep.put dd _ (by simp [Nat.blt] at hd; omega))

/-- 'xs[:h:m]' of a slice, m not 0. -/
theorem slFull {x z u : Operand} {tx e : TypeId} {A : Option Addr} {m cap : Nat} {k k' : IntKind} {h q mx : Nat} (hu : c.P.underlying tx = some (.slice e)) (hz : (c.P.info? e).map (·.size) = some q) (hx : ev σ x = .slice A m cap) (hh : ev σ z = .int k h) (hm : ev σ u = .int k' mx) (h1 : h ≤ mx) (h2 : mx ≤ cap) :
    Det c σ H K ⟨d, .slice tx x none (some z) (some u), t, p, af, g⟩ (.slice A h mx) := fun w _ => by
  have e1 : (h : Int) ≤ (mx : Int) := by omega
  have e3 : (mx : Int) ≤ (cap : Int) := by omega
  have e2 : A.map (fun a => a.add 0) = A := by
    cases A with
    | none => rfl
    | some a => simp [Addr.add]
  simp [execOp, hx, hh, hm, Instr.sliceAt, Instr.slice, run_und hu, Instr.sliceBounds, Instr.sliceBound, asIntOf, h1, h2, run_size hz, e2]
theorem Sl.shrink {sz n cap cap' : Nat} {A : Option Addr} {ls : List (List Value)} {D : Nat → Prop} {w : World} (h : Sl sz A n cap ls D w) (h1 : n ≤ cap') (h2 : cap' ≤ cap) : Sl sz A n cap' ls D w := ⟨h.1, h1, Nat.le_trans h2 h.2.2.1, h.2.2.2.1, h.2.2.2.2⟩
end
end Go.Proofs.YtmcapgjdflohfaaGreat.L
