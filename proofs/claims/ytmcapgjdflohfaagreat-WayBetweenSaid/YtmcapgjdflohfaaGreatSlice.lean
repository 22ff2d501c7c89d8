/- Slices handed over and handed back, parts of slices, calls of function values; in the logic of Core. Nothing here speaks of the program. -/
import Derived.Test.YtmcapgjdflohfaaGreatFork
set_option linter.all false
namespace Go.Proofs.YtmcapgjdflohfaaGreat.L
open Go Go.RowKit

/-- A call that hands back a slice of its own. -/
abbrev RS (w : World) (sz : Nat) (ls : List (List Value)) : Ending → World → Prop := fun e w' =>
  ∃ A cap, e = .returned (.slice A ls.length cap) ∧ Below w.heap.size w w' ∧ Sl sz A ls.length cap ls (fun k => w.heap.size ≤ k ∧ k < w'.heap.size) w'

theorem Sl.mono {sz : Nat} {A : Option Addr} {n cap : Nat} {ls : List (List Value)} {D D' : Nat → Prop} {w : World} (h : Sl sz A n cap ls D w) (hD : ∀ k, D k → D' k) : Sl sz A n cap ls D' w :=
  Sl.stable D D' w w hD (fun _ _ _ => rfl) h
theorem Sl.nil {sz : Nat} {D : Nat → Prop} {w : World} : Sl sz none 0 0 [] D w := ⟨rfl, Nat.le_refl _, by simp [maxLen], fun _ h => (by cases h), fun h => (by omega)⟩

/-- Parts of a slice. -/
theorem Sl.take {sz n cap m : Nat} {A : Option Addr} {ls : List (List Value)} {D : Nat → Prop} {w : World} (h : Sl sz A n cap ls D w) (hm : m ≤ n) : Sl sz A m cap (ls.take m) D w := by
  obtain ⟨h1, h2, h3, h4, h5⟩ := h
  refine ⟨by rw [List.length_take]; omega, by omega, h3, fun l hl => h4 l (List.mem_of_mem_take hl), fun h0 => ?_⟩
  obtain ⟨b, off, hA, hb, hc⟩ := h5 (by omega)
  refine ⟨b, off, hA, hb, fun i l hl j u hu => hc i l ?_ j u hu⟩
  rw [List.getElem?_take] at hl
  split at hl
  · exact hl
  · cases hl
theorem Sl.cut {sz n cap cap' m : Nat} {A : Option Addr} {ls : List (List Value)} {D : Nat → Prop} {w : World} (h : Sl sz A n cap ls D w) (hm : m ≤ n) (hc1 : n - m ≤ cap') (hc2 : cap' ≤ cap) : Sl sz (if cap = m then A else A.map fun a => a.add (m * sz)) (n - m) cap' (ls.drop m) D w := by
  obtain ⟨h1, h2, h3, h4, h5⟩ := h
  refine ⟨by rw [List.length_drop]; omega, by omega, by omega, fun l hl => h4 l (List.mem_of_mem_drop hl), fun h0 => ?_⟩
  obtain ⟨b, off, hA, hb, hc⟩ := h5 (by omega)
  subst hA
  rw [if_neg (by omega)]
  refine ⟨b, off + m * sz, by simp [add0], hb, fun i l hl j u hu => ?_⟩
  rw [List.getElem?_drop] at hl
  have := hc (m + i) l hl j u hu
  rw [Nat.add_mul] at this
  rw [show off + m * sz + i * sz + j = off + (m * sz + i * sz) + j by omega]
  exact this

section
variable {c : Cx} {n : Nat} {Q : Exit → Env → World → Prop} {σ : Env} {H : List Res} {K : List Fact}
variable {d : Option Tmp} {t : TypeId} {p : String} {af : Array Edge} {g : Option (Nat × Bool)}

/-- A slice in a world where it is known. -/
theorem M.sl {w : World} (hm : M c H K w) {k sz m cap : Nat} {A : Option Addr} {ls : List (List Value)} (hk : K[k]? = some (Sl sz A m cap ls)) : ∃ D, (∀ k, D k → k < w.heap.size) ∧ Sl sz A m cap ls D w := by
  obtain ⟨D, d1, d2, d3, d4, d5⟩ := hm.data
  exact ⟨D, d3, d5.at hk⟩
theorem M.slLen {w : World} (hm : M c H K w) {k sz m cap : Nat} {A : Option Addr} {ls : List (List Value)} (hk : K[k]? = some (Sl sz A m cap ls)) : ls.length = m := by
  obtain ⟨D, _, h⟩ := hm.sl hk
  exact h.1

/-- The beginning of a call with slices. -/
theorem M.init1 (P : Program) (w : World) {D : Nat → Prop} {f : Fact} (hf : Stable f) (hD : ∀ k, D k → k < w.heap.size) (h : f D w) : M ⟨P, w, D, []⟩ [] [f] w :=
  M.init P w D [] [f] ⟨hf, trivial⟩ hD ⟨h, trivial⟩

/-- 'xs[:h]', 'xs[l:]' of a slice that is known. -/
theorem slTake {x z : Operand} {tx e : TypeId} {A : Option Addr} {m cap : Nat} {k : IntKind} {h q : Nat} (hu : c.P.underlying tx = some (.slice e)) (hz : (c.P.info? e).map (·.size) = some q) (hx : ev σ x = .slice A m cap) (hh : ev σ z = .int k h) (h1 : h ≤ cap) :
    Det c σ H K ⟨d, .slice tx x none (some z) none, t, p, af, g⟩ (.slice A h cap) := fun w _ => by
  have : (h : Int) ≤ (cap : Int) := by omega
  have e2 : A.map (fun a => a.add 0) = A := by
    cases A with
    | none => rfl
    | some a => simp [Addr.add]
  simp [execOp, hx, hh, Instr.sliceAt, Instr.slice, run_und hu, Instr.sliceBounds, Instr.sliceBound, asIntOf, this, run_size hz, e2]
  intro hc; omega
theorem slDrop {x y : Operand} {tx e : TypeId} {A : Option Addr} {m cap : Nat} {k : IntKind} {l q : Nat} (hu : c.P.underlying tx = some (.slice e)) (hz : (c.P.info? e).map (·.size) = some q) (hx : ev σ x = .slice A m cap) (hl : ev σ y = .int k l) (h1 : l ≤ m) (h2 : m ≤ cap) :
    Det c σ H K ⟨d, .slice tx x (some y) none none, t, p, af, g⟩ (.slice (if cap = l then A else A.map fun a => a.add (l * q)) (m - l) (cap - l)) := fun w _ => by
  have : (l : Int) ≤ (m : Int) := by omega
  simp [execOp, hx, hl, Instr.sliceAt, Instr.slice, run_und hu, Instr.sliceBounds, Instr.sliceBound, asIntOf, this, run_size hz]
  intro hc; omega

/-- A call that hands back a slice of its own. -/
theorem callS {ops : Array Oper} {d : Nat} {f : FuncId} {args : Array Operand} {ats : Array TypeId} {vs : List Value} {l : List Oper} {sz : Nat} {ls : List (List Value)} (hf : Fn c.P f) (ha : args.toList.map (ev σ) = vs) (hd : Nat.blt d n = true)
    (spec : ∀ w, M c H K w → Calls c.P f vs.toArray w (RS w sz ls)) (h : ∀ A cap, TL c n ops l Q (upd σ d (.slice A ls.length cap)) H (Sl sz A ls.length cap ls :: K)) :
    TL c n ops (⟨some d, .call { callee := .value (.func f), args := args, argTypes := ats }, t, p, af, none⟩ :: l) Q σ H K := by
  intro w hm a hr
  refine wpList_run rfl ?_
  rw [hr.eval, hf.run, map_args ha]
  refine (spec w hm).mono ?_
  rintro e w' ⟨A, cap, rfl, hb, hs⟩
  exact h A cap w' (hm.learn Sl.stable (grown_below hb) (fun D _ => hs.mono fun k hk => .inr hk)) _ (hr.put d _ (by simp [Nat.blt] at hd; omega))

/-- A fact that follows from the others. -/
theorem also {x : Code} {f : Fact} (hs : Stable f) (hf : ∀ D w, KAll K D w → f D w) (h : Tr c n x Q σ H (f :: K)) : Tr c n x Q σ H K :=
  fun w hm => h w (hm.also hs fun D hD => hf D w hD)
/-- A fact on blocks that are new since a mark. -/
def Fr (b : Nat) (f : Fact) : Fact := fun D w => f (fun k => D k ∧ b ≤ k) w
theorem Fr.stable {b : Nat} {f : Fact} (hf : Stable f) : Stable (Fr b f) := fun D D' w w' hD hw h => hf _ _ w w' (fun k hk => ⟨hD k hk.1, hk.2⟩) (fun k hk => hw k hk.1) h
theorem callSN {ops : Array Oper} {d : Nat} {f : FuncId} {args : Array Operand} {ats : Array TypeId} {vs : List Value} {l : List Oper} {sz : Nat} {ls : List (List Value)} (hf : Fn c.P f) (ha : args.toList.map (ev σ) = vs) (hd : Nat.blt d n = true)
    (spec : ∀ w, M c H K w → Calls c.P f vs.toArray w (RS w sz ls)) (h : ∀ A cap, TL c n ops l Q (upd σ d (.slice A ls.length cap)) H (Fr c.w0.heap.size (Sl sz A ls.length cap ls) :: K)) :
    TL c n ops (⟨some d, .call { callee := .value (.func f), args := args, argTypes := ats }, t, p, af, none⟩ :: l) Q σ H K := by
  intro w hm a hr
  refine wpList_run rfl ?_
  rw [hr.eval, hf.run, map_args ha]
  refine (spec w hm).mono ?_
  rintro e w' ⟨A, cap, rfl, hb, hs⟩
  exact h A cap w' (hm.learn (Fr.stable Sl.stable) (grown_below hb) (fun D _ => hs.mono fun k hk => ⟨.inr hk, Nat.le_trans hm.size hk.1⟩)) _ (hr.put d _ (by simp [Nat.blt] at hd; omega))
theorem retFr {fn : Func} {s sz m cap : Nat} {A : Option Addr} {ls : List (List Value)} (hr : fn.results = #[.tmp s]) (hS : c.S = []) (hv : σ s = .slice A m cap) (j : Nat) (hk : K[j]? = some (Fr c.w0.heap.size (Sl sz A m cap ls))) :
    ∀ w, M c H K w → post c.P fn n (RS c.w0 sz ls) .ret σ w := fun w hm => by
  obtain ⟨D, d1, d2, d3, d4, d5⟩ := hm.data
  have hs : Sl sz A m cap ls (fun k => D k ∧ c.w0.heap.size ≤ k) w := d5.at hk
  refine ⟨.slice A m cap, fun a ha => by rw [results_tmp hr, ha.val, hv], A, cap, by rw [hs.1], hm.below hS, ?_⟩
  rw [hs.1]
  exact hs.mono fun k hk => ⟨hk.2, d3 k hk.1⟩

/-- The end of such a call: a row of its own is handed back. -/
theorem retRow {fn : Func} {s i sz m : Nat} {v : Value} {e : TypeId} {ls : List (List Value)} (hr : fn.results = #[.tmp s]) (hS : c.S = []) (hv : σ s = v) (hi : H[i]? = some (.row v e sz m ls.flatten)) (hn : ls.length = m) (hl : ∀ l ∈ ls, l.length = sz ∧ one l = true) :
    ∀ w, M c H K w → post c.P fn n (RS c.w0 sz ls) .ret σ w := fun w hm => by
  obtain ⟨A, cap, rfl, hsl⟩ := row_sl (hm.get hi) hl hn
  refine ⟨.slice A m cap, fun a ha => by rw [results_tmp hr, ha.val, hv], A, cap, by rw [hn], hm.below hS, ?_⟩
  rw [hn]
  refine hsl _ fun b hb => ?_
  have := hm.mine b (mem_places.2 ⟨_, List.mem_of_getElem? hi, hb⟩)
  rw [hS] at this
  exact ⟨by simpa using this.1, this.2⟩
/-- A slice that is known, handed back as one's own: its blocks are new. -/
theorem retNil {fn : Func} {s sz : Nat} (hr : fn.results = #[.tmp s]) (hS : c.S = []) (hv : σ s = .slice none 0 0) : ∀ w, M c H K w → post c.P fn n (RS c.w0 sz []) .ret σ w := fun w hm =>
  ⟨.slice none 0 0, fun a ha => by rw [results_tmp hr, ha.val, hv], none, 0, rfl, hm.below hS, Sl.nil⟩

/-- The only one in a drawn region: a call that hands back a slice of its own. -/
theorem onlySN [NoP Q] {ops : Array Oper} {m f : Nat} {listed : Array Bool} (i : Nat) {d : Nat} {fid : FuncId} {args : Array Operand} {ats : Array TypeId} {vs : List Value} {t : TypeId} {p : String} {af : Array Edge} {sz : Nat} {ls : List (List Value)}
    (hi : ops[i]? = some ⟨some d, .call { callee := .value (.func fid), args := args, argTypes := ats }, t, p, af, none⟩)
    (hr1 : Region.ready .any ops listed = [i]) (him : Nat.blt i m = true) (hf : Fn c.P fid) (ha : args.toList.map (ev σ) = vs) (hd : Nat.blt d n = true)
    (spec : ∀ w, M c H K w → Calls c.P fid vs.toArray w (RS w sz ls))
    (h : ∀ A cap, HD c n ops Q m f (listed.setIfInBounds i true) (upd σ d (.slice A ls.length cap)) H (Fr c.w0.heap.size (Sl sz A ls.length cap ls) :: K)) : HD c n ops Q m (f + 1) listed σ H K :=
  onlyC (β := Option Addr × Nat) (fun p => .slice p.1 ls.length p.2) (fun _ => H) (fun p => Fr c.w0.heap.size (Sl sz p.1 ls.length p.2 ls) :: K) i hi hr1 him hf ha hd
    (fun w hm => (spec w hm).mono fun e w' ⟨A, cap, he, hb, hs⟩ => ⟨(A, cap), he, hm.learn (Fr.stable Sl.stable) (grown_below hb) (fun D _ => hs.mono fun k hk => ⟨.inr hk, Nat.le_trans hm.size hk.1⟩)⟩)
    (fun _ _ hm => hm.more) (fun p => h p.1 p.2)
/-- A literal's block is a row of one's own. -/
theorem M.asRow {w : World} (hm : M c H K w) (i : Nat) {b m sz : Nat} {cs : List Value} {e : TypeId} (hi : H[i]? = some (.blk b (ob cs e))) (hS : c.S = []) (hl : cs.length = m * sz) (hmx : m ≤ maxLen) :
    M c (H.set i (.row (.slice (some ⟨b, 0, none⟩) m m) e sz m cs)) K w := by
  refine hm.change i hi ⟨rfl, rfl, rfl, Nat.le_refl _, fun _ _ _ => rfl⟩ ?_ (.inl rfl)
  refine ⟨hl, .inr ⟨b, m, cs.toArray, rfl, ?_, hm.blk i hi, Nat.le_refl _, hmx, by simp [hl], by simp [← hl]⟩⟩
  have := (hm.mine b (mem_places.2 ⟨_, List.mem_of_getElem? hi, rfl⟩)).1
  rw [hS] at this
  simpa using this
/-- A call of a function value. -/
theorem callF {ops : Array Oper} {d s : Nat} {f : FuncId} {args : Array Operand} {ats : Array TypeId} {vs : List Value} {l : List Oper} {v : Value} (hf : Fn c.P f) (hs : σ s = .func (.func f) #[] #[]) (ha : args.toList.map (ev σ) = vs) (hd : Nat.blt d n = true)
    (spec : ∀ w, M c H K w → Calls c.P f vs.toArray w fun e w' => e = .returned v ∧ Below w.heap.size w w') (h : TL c n ops l Q (upd σ d v) H K) :
    TL c n ops (⟨some d, .call { callee := .value (.tmp s), args := args, argTypes := ats }, t, p, af, none⟩ :: l) Q σ H K := by
  intro w hm a hr
  have e : (execOp (ev σ) ⟨some d, .call { callee := .value (.tmp s), args := args, argTypes := ats }, t, p, af, none⟩) = execOp (ev σ) ⟨some d, .call { callee := .value (.func f), args := args, argTypes := ats }, t, p, af, none⟩ := by
    simp only [execOp, resolve, ev, hs]
  refine wpList_run rfl ?_
  rw [hr.eval, e, hf.run, map_args ha]
  refine (spec w hm).mono ?_
  rintro e w' ⟨rfl, hbel⟩
  exact h w' (hm.pure (grown_below hbel)) _ (hr.put d _ (by simp [Nat.blt] at hd; omega))
end

/-- A call that hands back a row of its own. -/
abbrev RO (w : World) (e : TypeId) (sz n : Nat) (xs : List Value) : Ending → World → Prop := fun x w' =>
  ∃ v, x = .returned v ∧ Below w.heap.size w w' ∧ w'.ownsRow w.heap.size e sz v n xs
section
variable {c : Cx} {n : Nat} {Q : Exit → Env → World → Prop} {σ : Env} {H : List Res} {K : List Fact} {t : TypeId} {p : String} {af : Array Edge}
theorem retOwn {fn : Func} {s i sz m : Nat} {v : Value} {e : TypeId} {xs : List Value} (hr : fn.results = #[.tmp s]) (hS : c.S = []) (hv : σ s = v) (hi : H[i]? = some (.row v e sz m xs)) :
    ∀ w, M c H K w → post c.P fn n (RO c.w0 e sz m xs) .ret σ w := fun w hm =>
  ⟨v, fun a ha => by rw [results_tmp hr, ha.val, hv], v, rfl, hm.below hS, hm.get hi⟩
theorem retOwn0 {fn : Func} {s sz : Nat} {e : TypeId} (hr : fn.results = #[.tmp s]) (hS : c.S = []) (hv : σ s = .slice none 0 0) : ∀ w, M c H K w → post c.P fn n (RO c.w0 e sz 0 []) .ret σ w := fun w hm =>
  ⟨.slice none 0 0, fun a ha => by rw [results_tmp hr, ha.val, hv], _, rfl, hm.below hS, World.ownsRow_nil w _ e sz⟩
/-- A row reads as a slice. -/
theorem RO.rs {w : World} {e : TypeId} {sz m : Nat} {ls : List (List Value)} (hn : ls.length = m) (hl : ∀ l ∈ ls, l.length = sz ∧ one l = true) (x : Ending) (w' : World) (h : RO w e sz m ls.flatten x w') : RS w sz ls x w' := by
  obtain ⟨v, rfl, hb, ho⟩ := h
  obtain ⟨A, cap, rfl, hsl⟩ := row_sl ho hl hn
  refine ⟨A, cap, by rw [hn], hb, ?_⟩
  rw [hn]
  refine hsl _ fun b hb' => ?_
  have hlt := (World.ownsRow.lt ho b hb')
  exact hlt
/-- A call that hands back a row of its own: the caller has it. -/
theorem callO {ops : Array Oper} {d : Nat} {f : FuncId} {args : Array Operand} {ats : Array TypeId} {vs : List Value} {l : List Oper} {sz m : Nat} {e : TypeId} {xs : List Value} (hf : Fn c.P f) (ha : args.toList.map (ev σ) = vs) (hd : Nat.blt d n = true)
    (spec : ∀ w, M c H K w → Calls c.P f vs.toArray w (RO w e sz m xs)) (h : ∀ A cap, TL c n ops l Q (upd σ d (.slice A m cap)) (.row (.slice A m cap) e sz m xs :: H) K) :
    TL c n ops (⟨some d, .call { callee := .value (.func f), args := args, argTypes := ats }, t, p, af, none⟩ :: l) Q σ H K := by
  intro w hm a hr
  refine wpList_run rfl ?_
  rw [hr.eval, hf.run, map_args ha]
  refine (spec w hm).mono ?_
  rintro x w' ⟨v, rfl, hb, ho⟩
  have hown : w'.ownsRow c.w0.heap.size e sz v m xs := by
    refine ⟨ho.1, ?_⟩
    rcases ho.2 with h2 | ⟨gg, cap, cur, h2, hge, hrest⟩
    · exact .inl h2
    · exact .inr ⟨gg, cap, cur, h2, Nat.le_trans hm.size hge, hrest⟩
  obtain ⟨A, cap, rfl⟩ : ∃ A cap, v = .slice A m cap := by
    rcases ho.2 with ⟨rfl, h0⟩ | ⟨gg, cap, cur, rfl, _⟩
    · exact ⟨none, 0, by rw [h0]⟩
    · exact ⟨_, cap, rfl⟩
  refine h A cap w' (hm.add (grown_below hb) hown ?_) _ (hr.put d _ (by simp [Nat.blt] at hd; omega))
  rcases ho.2 with ⟨h2, _⟩ | ⟨gg, cap', cur, h2, hge, _⟩
  · cases h2; exact .inl rfl
  · cases h2; exact .inr ⟨gg, rfl, hge⟩
end
end Go.Proofs.YtmcapgjdflohfaaGreat.L
