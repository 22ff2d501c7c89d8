/- Drawn regions gone through in the order of their text, the edges asked once; in the logic of Core. Nothing here speaks of the program. -/
import Derived.Test.YtmcapgjdflohfaaGreatVecs
set_option linter.all false
namespace Go.Proofs.YtmcapgjdflohfaaGreat.L
open Go Go.RowKit
set_option linter.unusedVariables false

/-- So many of the first operations have come up. -/
def pref (n i : Nat) : Array Bool := (List.replicate i true ++ List.replicate (n - i) false).toArray
theorem pref_zero (n : Nat) : pref n 0 = Array.replicate n false := by simp [pref]
theorem pref_set {n i : Nat} (h : i < n) : (pref n i).setIfInBounds i true = pref n (i + 1) := by
  obtain ⟨k, hk⟩ : ∃ k, n - i = k + 1 := ⟨n - i - 1, by omega⟩
  have hk2 : n - (i + 1) = k := by omega
  apply Array.toList_inj.1
  simp only [pref, Array.toList_setIfInBounds, hk, hk2]
  rw [List.set_append_right _ _ (by simp), List.length_replicate, Nat.sub_self, List.replicate_succ, List.set_cons_zero, List.replicate_succ' (n := i), List.append_assoc]
  rfl

def okAt (ops : Array Oper) (m : Nat) (calls : List Nat) (i : Nat) : Bool :=
  if calls.contains i then Nat.blt i m && (Region.ready .any ops (pref ops.size i) == [i]) else okTake ops m i (pref ops.size i)
/-- What is asked of a region, once: each operation may be taken first, or is the only one, in the text's order. -/
def okIn (ops : Array Oper) (m : Nat) (calls : List Nat) : Bool := (List.range m).all (okAt ops m calls) && Region.seqB .any ops (ops.size - m) m (pref ops.size m)

section
variable {c : Cx} {n : Nat} {Q : Exit → Env → World → Prop} {σ : Env} {H : List Res} {K : List Fact}
variable {ops : Array Oper} {m i : Nat} {calls : List Nat} {l : List Oper}

def HI (c : Cx) (n : Nat) (ops : Array Oper) (Q : Exit → Env → World → Prop) (m : Nat) (calls : List Nat) (i : Nat) (l : List Oper) (σ : Env) (H : List Res) (K : List Fact) : Prop :=
  ops.toList.drop i = l → okIn ops m calls = true → m ≤ ops.size → HD c n ops Q m (m - i) (pref ops.size i) σ H K

theorem drawI {id : Nat} {l : List Oper} (m : Nat) (calls : List Nat) (hm : c.P.follows .mixedOrders = true) (hok : okDraw l.toArray m = true) (hin : okIn l.toArray m calls = true)
    (h : HI c n l.toArray Q m calls 0 l σ H K) : Tr c n (.region id l.toArray true) Q σ H K := by
  refine draw hm hok ?_
  have hle : m ≤ l.toArray.size := by
    simp only [okDraw, Bool.and_eq_true] at hok
    exact Nat.le_of_ble_eq_true hok.1.2
  have := h (by simp) hin hle
  rw [pref_zero] at this
  simpa using this

theorem HI.at {o : Oper} {r : List Oper} (h : ops.toList.drop i = o :: r) : ops[i]? = some o ∧ ops.toList.drop (i + 1) = r := by
  have h1 : (ops.toList.drop i)[0]? = some o := by rw [h]; rfl
  rw [List.getElem?_drop, Nat.add_zero] at h1
  refine ⟨by simpa using h1, ?_⟩
  rw [← List.drop_drop, h]; rfl
theorem okIn.at (h : okIn ops m calls = true) (hi : i < m) : okAt ops m calls i = true := by
  simp only [okIn, Bool.and_eq_true] at h
  exact List.all_eq_true.1 h.1 i (List.mem_range.2 hi)
theorem okIn.take (h : okIn ops m calls = true) (hi : i < m) (hc : calls.contains i = false) : okTake ops m i (pref ops.size i) = true := by
  have := okIn.at h hi
  rw [okAt, hc] at this; exact this
theorem okIn.only (h : okIn ops m calls = true) (hi : i < m) (hc : calls.contains i = true) : Region.ready .any ops (pref ops.size i) = [i] := by
  have := okIn.at h hi
  rw [okAt, hc, if_pos rfl, Bool.and_eq_true] at this
  simpa using this.2

theorem blt_lt {a b : Nat} (h : Nat.blt a b = true) : a < b := by simp [Nat.blt] at h; omega
/-- One that yields a value. -/
theorem nI [NoP Q] {d : Nat} {op : Op} {t : TypeId} {p : String} {af : Array Edge} {v : Value} (him : Nat.blt i m = true) (hc : calls.contains i = false) (hd : Nat.blt d n = true)
    (hv : Det c σ H K ⟨some d, op, t, p, af, none⟩ v) (h : HI c n ops Q m calls (i + 1) l (upd σ d v) H K) : HI c n ops Q m calls i (⟨some d, op, t, p, af, none⟩ :: l) σ H K := by
  intro hl hok hms
  have hi := blt_lt him
  obtain ⟨h1, h2⟩ := HI.at hl
  have := h h2 hok hms
  rw [← pref_set (show i < ops.size by omega)] at this
  rw [show m - i = (m - (i + 1)) + 1 by omega]
  exact take i h1 (okIn.take hok hi hc) hd hv this
/-- One that its guard lets run. -/
theorem gI [NoP Q] {d j s : Nat} {b : Bool} {op : Op} {t : TypeId} {p : String} {af : Array Edge} {v : Value} (him : Nat.blt i m = true) (hc : calls.contains i = false) (hj : (ops[j]?).bind (·.dst) = some s) (hs : σ s = .bool b) (hd : Nat.blt d n = true)
    (hv : Det c σ H K ⟨some d, op, t, p, af, some (j, b)⟩ v) (h : HI c n ops Q m calls (i + 1) l (upd σ d v) H K) : HI c n ops Q m calls i (⟨some d, op, t, p, af, some (j, b)⟩ :: l) σ H K := by
  intro hl hok hms
  have hi := blt_lt him
  obtain ⟨h1, h2⟩ := HI.at hl
  have := h h2 hok hms
  rw [← pref_set (show i < ops.size by omega)] at this
  rw [show m - i = (m - (i + 1)) + 1 by omega]
  exact takeG i h1 hj hs (okIn.take hok hi hc) hd hv this
/-- One that its guard does not let run. -/
theorem uI [NoP Q] {d j s : Nat} {b : Bool} {op : Op} {t : TypeId} {p : String} {af : Array Edge} (him : Nat.blt i m = true) (hc : calls.contains i = false) (hj : (ops[j]?).bind (·.dst) = some s) (hs : σ s = .bool (!b) ∨ σ s = undef) (hd : Nat.blt d n = true)
    (h : HI c n ops Q m calls (i + 1) l (upd σ d undef) H K) : HI c n ops Q m calls i (⟨some d, op, t, p, af, some (j, b)⟩ :: l) σ H K := by
  intro hl hok hms
  have hi := blt_lt him
  obtain ⟨h1, h2⟩ := HI.at hl
  have := h h2 hok hms
  rw [← pref_set (show i < ops.size by omega)] at this
  rw [show m - i = (m - (i + 1)) + 1 by omega]
  exact takeU i h1 hj hs (okIn.take hok hi hc) hd this
/-- A call, the only one that may come up. -/
theorem cI [NoP Q] {β : Type} (V : β → Value) (H' : β → List Res) (K' : β → List Fact) {d : Nat} {fid : FuncId} {args : Array Operand} {ats : Array TypeId} {vs : List Value} {t : TypeId} {p : String} {af : Array Edge}
    (him : Nat.blt i m = true) (hc : calls.contains i = true) (hf : Fn c.P fid) (ha : args.toList.map (ev σ) = vs) (hd : Nat.blt d n = true)
    (spec : ∀ w, M c H K w → Calls c.P fid vs.toArray w fun e w' => ∃ b, e = .returned (V b) ∧ M c (H' b) (K' b) w')
    (hw : ∀ b w, M c (H' b) (K' b) w → M c H K w)
    (h : ∀ b, HI c n ops Q m calls (i + 1) l (upd σ d (V b)) (H' b) (K' b)) : HI c n ops Q m calls i (⟨some d, .call { callee := .value (.func fid), args := args, argTypes := ats }, t, p, af, none⟩ :: l) σ H K := by
  intro hl hok hms
  have hi := blt_lt him
  obtain ⟨h1, h2⟩ := HI.at hl
  rw [show m - i = (m - (i + 1)) + 1 by omega]
  refine onlyC V H' K' i h1 (okIn.only hok hi hc) him hf ha hd spec hw fun b => ?_
  have := h b h2 hok hms
  rw [← pref_set (show i < ops.size by omega)] at this
  exact this
theorem pI [NoP Q] {d : Nat} {fid : FuncId} {args : Array Operand} {ats : Array TypeId} {vs : List Value} {t : TypeId} {p : String} {af : Array Edge} {v : Value}
    (him : Nat.blt i m = true) (hc : calls.contains i = true) (hf : Fn c.P fid) (ha : args.toList.map (ev σ) = vs) (hd : Nat.blt d n = true)
    (spec : ∀ w, M c H K w → Calls c.P fid vs.toArray w fun e w' => e = .returned v ∧ Below w.heap.size w w') (h : HI c n ops Q m calls (i + 1) l (upd σ d v) H K) :
    HI c n ops Q m calls i (⟨some d, .call { callee := .value (.func fid), args := args, argTypes := ats }, t, p, af, none⟩ :: l) σ H K :=
  cI (β := Unit) (fun _ => v) (fun _ => H) (fun _ => K) him hc hf ha hd (fun w hm => (spec w hm).mono fun e w' ⟨he, hb⟩ => ⟨(), he, hm.pure (grown_below hb)⟩) (fun _ _ hm => hm) (fun _ => h)
/-- A call that hands back a slice. -/
theorem sI [NoP Q] {d : Nat} {fid : FuncId} {args : Array Operand} {ats : Array TypeId} {vs : List Value} {t : TypeId} {p : String} {af : Array Edge} {sz k : Nat} {ls : List (List Value)} (hk : ls.length = k)
    (him : Nat.blt i m = true) (hc : calls.contains i = true) (hf : Fn c.P fid) (ha : args.toList.map (ev σ) = vs) (hd : Nat.blt d n = true)
    (spec : ∀ w, M c H K w → Calls c.P fid vs.toArray w (RS w sz ls))
    (h : ∀ A cap, HI c n ops Q m calls (i + 1) l (upd σ d (.slice A k cap)) H (Sl sz A k cap ls :: K)) : HI c n ops Q m calls i (⟨some d, .call { callee := .value (.func fid), args := args, argTypes := ats }, t, p, af, none⟩ :: l) σ H K := by
  subst hk
  exact cI (β := Option Addr × Nat) (fun p => .slice p.1 ls.length p.2) (fun _ => H) (fun p => Sl sz p.1 ls.length p.2 ls :: K) him hc hf ha hd
    (fun w hm => (spec w hm).mono fun e w' ⟨A, cap, he, hb, hs⟩ => ⟨(A, cap), he, hm.learn Sl.stable (grown_below hb) (fun D _ => hs.mono fun k hk => .inr hk)⟩)
    (fun _ _ hm => hm.more) (fun p => h p.1 p.2)
/-- A call that hands back a slice of slices. -/
theorem vI [NoP Q] {d : Nat} {fid : FuncId} {args : Array Operand} {ats : Array TypeId} {vs : List Value} {t : TypeId} {p : String} {af : Array Edge} {k : Nat} {ls : List (List (List UInt8))} (hk : ls.length = k)
    (him : Nat.blt i m = true) (hc : calls.contains i = true) (hf : Fn c.P fid) (ha : args.toList.map (ev σ) = vs) (hd : Nat.blt d n = true)
    (spec : ∀ w, M c H K w → Calls c.P fid vs.toArray w (RV w ls))
    (h : ∀ A cap (L : {L : List Vc // L.map Vc.xs = ls}), HI c n ops Q m calls (i + 1) l (upd σ d (.slice A k cap)) H (VV A k cap L.1 :: K)) : HI c n ops Q m calls i (⟨some d, .call { callee := .value (.func fid), args := args, argTypes := ats }, t, p, af, none⟩ :: l) σ H K := by
  subst hk
  exact cI (β := Option Addr × Nat × {L : List Vc // L.map Vc.xs = ls}) (fun p => .slice p.1 ls.length p.2.1) (fun _ => H) (fun p => VV p.1 ls.length p.2.1 p.2.2.1 :: K) him hc hf ha hd
    (fun w hm => (spec w hm).mono fun e w' ⟨A, cap, L, hL, he, hb, hs⟩ => ⟨(A, cap, ⟨L, hL⟩), he, hm.learn VV.stable (grown_below hb) (fun D _ => VV.stable _ _ _ _ (fun k hk => .inr hk) (fun _ _ _ => rfl) hs)⟩)
    (fun _ _ hm => hm.more) (fun p => h p.1 p.2.1 p.2.2)
/-- One that makes memory, the only one. -/
theorem mI [NoP Q] {β : Type} (V : β → Value) (H' : β → List Res) (K' : β → List Fact) {d : Nat} {op : Op} {t : TypeId} {p : String} {af : Array Edge} (him : Nat.blt i m = true) (hc : calls.contains i = true) (hd : Nat.blt d n = true)
    (he : ∀ w, M c H K w → ∃ b w', (execOp (ev σ) ⟨some d, op, t, p, af, none⟩).run c.P w = .ok (.value (V b)) w' ∧ M c (H' b) (K' b) w')
    (hw : ∀ b w, M c (H' b) (K' b) w → M c H K w)
    (h : ∀ b, HI c n ops Q m calls (i + 1) l (upd σ d (V b)) (H' b) (K' b)) : HI c n ops Q m calls i (⟨some d, op, t, p, af, none⟩ :: l) σ H K := by
  intro hl hok hms
  have hi := blt_lt him
  obtain ⟨h1, h2⟩ := HI.at hl
  rw [show m - i = (m - (i + 1)) + 1 by omega]
  refine onlyE V H' K' i h1 (okIn.only hok hi hc) him hd he hw fun b => ?_
  have := h b h2 hok hms
  rw [← pref_set (show i < ops.size by omega)] at this
  exact this
/-- The head is done. -/
theorem endI (him : i = m) (h : TL c n ops l Q σ H K) : HI c n ops Q m calls i l σ H K := by
  subst him
  intro hl hok hms
  rw [Nat.sub_self]
  refine tail ?_ hl h
  simp only [okIn, Bool.and_eq_true] at hok
  exact hok.2

/-- The only one, a call that its guard lets run. -/
theorem onlyCG [NoP Q] {f : Nat} {listed : Array Bool} {β : Type} (V : β → Value) (H' : β → List Res) (K' : β → List Fact) (i : Nat) {d j s : Nat} {b : Bool} {fid : FuncId} {args : Array Operand} {ats : Array TypeId} {vs : List Value} {t : TypeId} {p : String} {af : Array Edge}
    (hi : ops[i]? = some ⟨some d, .call { callee := .value (.func fid), args := args, argTypes := ats }, t, p, af, some (j, b)⟩) (hj : (ops[j]?).bind (·.dst) = some s) (hs : σ s = .bool b)
    (hr1 : Region.ready .any ops listed = [i]) (him : Nat.blt i m = true) (hf : Fn c.P fid) (ha : args.toList.map (ev σ) = vs) (hd : Nat.blt d n = true)
    (spec : ∀ w, M c H K w → Calls c.P fid vs.toArray w fun e w' => ∃ b, e = .returned (V b) ∧ M c (H' b) (K' b) w')
    (hw : ∀ b w, M c (H' b) (K' b) w → M c H K w)
    (h : ∀ b, HD c n ops Q m f (listed.setIfInBounds i true) (upd σ d (V b)) (H' b) (K' b)) : HD c n ops Q m (f + 1) listed σ H K := by
  intro hok inv w hM a hr
  have him' : i < m := by simp [Nat.blt] at him; omega
  refine ⟨by rw [hr1]; simp, fun l hl => ?_⟩
  have hlr := hl
  rw [hr1] at hl
  have hli : l = i := by simpa using hl
  subst hli
  refine ⟨him', ?_⟩
  have hwant : Region.wanted ⟨some d, .call { callee := .value (.func fid), args := args, argTypes := ats }, t, p, af, some (j, b)⟩ (yielded ops a.tmps) = true := by
    have hv := hr.val s
    rw [hs] at hv
    have hlt : s < a.tmps.size := by
      rcases Nat.lt_or_ge s a.tmps.size with h' | h'
      · exact h'
      · simp [Array.getElem?_eq_none h', undef] at hv
    have : a.tmps[s]? = some (.bool b) := by
      rw [Array.getElem?_eq_getElem hlt]
      simpa [hlt] using hv
    simp [Region.wanted, yielded, hj, this]
  unfold wpOp
  simp only [hi, hwant, if_true]
  refine .inl ?_
  unfold Oper.wp
  have e : execOp (ev σ) ⟨some d, .call { callee := .value (.func fid), args := args, argTypes := ats }, t, p, af, some (j, b)⟩ = execOp (ev σ) ⟨some d, .call { callee := .value (.func fid), args := args, argTypes := ats }, t, p, af, none⟩ := rfl
  rw [hr.eval, e, hf.run, map_args ha]
  refine (spec w hM).mono ?_
  rintro e w' ⟨b, rfl, hM'⟩
  exact ⟨hw b w' hM', wpHd_mono (hw b) f _ _ _ (h b hok (inv.set hlr him') w' hM' _ (hr.put d _ (by simp [Nat.blt] at hd; omega)))⟩
theorem cgI [NoP Q] {β : Type} (V : β → Value) (H' : β → List Res) (K' : β → List Fact) {d j s : Nat} {b : Bool} {fid : FuncId} {args : Array Operand} {ats : Array TypeId} {vs : List Value} {t : TypeId} {p : String} {af : Array Edge}
    (him : Nat.blt i m = true) (hc : calls.contains i = true) (hj : (ops[j]?).bind (·.dst) = some s) (hs : σ s = .bool b) (hf : Fn c.P fid) (ha : args.toList.map (ev σ) = vs) (hd : Nat.blt d n = true)
    (spec : ∀ w, M c H K w → Calls c.P fid vs.toArray w fun e w' => ∃ b, e = .returned (V b) ∧ M c (H' b) (K' b) w')
    (hw : ∀ b w, M c (H' b) (K' b) w → M c H K w)
    (h : ∀ b, HI c n ops Q m calls (i + 1) l (upd σ d (V b)) (H' b) (K' b)) : HI c n ops Q m calls i (⟨some d, .call { callee := .value (.func fid), args := args, argTypes := ats }, t, p, af, some (j, b)⟩ :: l) σ H K := by
  intro hl hok hms
  have hi := blt_lt him
  obtain ⟨h1, h2⟩ := HI.at hl
  rw [show m - i = (m - (i + 1)) + 1 by omega]
  refine onlyCG V H' K' i h1 hj hs (okIn.only hok hi hc) him hf ha hd spec hw fun b => ?_
  have := h b h2 hok hms
  rw [← pref_set (show i < ops.size by omega)] at this
  exact this
theorem pgI [NoP Q] {d j s : Nat} {b : Bool} {fid : FuncId} {args : Array Operand} {ats : Array TypeId} {vs : List Value} {t : TypeId} {p : String} {af : Array Edge} {v : Value}
    (him : Nat.blt i m = true) (hc : calls.contains i = true) (hj : (ops[j]?).bind (·.dst) = some s) (hs : σ s = .bool b) (hf : Fn c.P fid) (ha : args.toList.map (ev σ) = vs) (hd : Nat.blt d n = true)
    (spec : ∀ w, M c H K w → Calls c.P fid vs.toArray w fun e w' => e = .returned v ∧ Below w.heap.size w w') (h : HI c n ops Q m calls (i + 1) l (upd σ d v) H K) :
    HI c n ops Q m calls i (⟨some d, .call { callee := .value (.func fid), args := args, argTypes := ats }, t, p, af, some (j, b)⟩ :: l) σ H K :=
  cgI (β := Unit) (fun _ => v) (fun _ => H) (fun _ => K) him hc hj hs hf ha hd (fun w hm => (spec w hm).mono fun e w' ⟨he, hb⟩ => ⟨(), he, hm.pure (grown_below hb)⟩) (fun _ _ hm => hm) (fun _ => h)
theorem sgI [NoP Q] {d j s : Nat} {b : Bool} {fid : FuncId} {args : Array Operand} {ats : Array TypeId} {vs : List Value} {t : TypeId} {p : String} {af : Array Edge} {sz k : Nat} {ls : List (List Value)} (hk : ls.length = k)
    (him : Nat.blt i m = true) (hc : calls.contains i = true) (hj : (ops[j]?).bind (·.dst) = some s) (hs : σ s = .bool b) (hf : Fn c.P fid) (ha : args.toList.map (ev σ) = vs) (hd : Nat.blt d n = true)
    (spec : ∀ w, M c H K w → Calls c.P fid vs.toArray w (RS w sz ls))
    (h : ∀ A cap, HI c n ops Q m calls (i + 1) l (upd σ d (.slice A k cap)) H (Sl sz A k cap ls :: K)) : HI c n ops Q m calls i (⟨some d, .call { callee := .value (.func fid), args := args, argTypes := ats }, t, p, af, some (j, b)⟩ :: l) σ H K := by
  subst hk
  exact cgI (β := Option Addr × Nat) (fun p => .slice p.1 ls.length p.2) (fun _ => H) (fun p => Sl sz p.1 ls.length p.2 ls :: K) him hc hj hs hf ha hd
    (fun w hm => (spec w hm).mono fun e w' ⟨A, cap, he, hb, hs⟩ => ⟨(A, cap), he, hm.learn Sl.stable (grown_below hb) (fun D _ => hs.mono fun k hk => .inr hk)⟩)
    (fun _ _ hm => hm.more) (fun p => h p.1 p.2)
end
end Go.Proofs.YtmcapgjdflohfaaGreat.L
