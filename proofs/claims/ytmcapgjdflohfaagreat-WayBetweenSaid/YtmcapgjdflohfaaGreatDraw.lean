/- Regions that draw their order: a head whose operations may come in many orders, and a tail behind it; in the logic of Core. Nothing here speaks of the program. -/
import Derived.Test.YtmcapgjdflohfaaGreatData
import Derived.StillTail
set_option linter.all false
namespace Go.Proofs.YtmcapgjdflohfaaGreat.L
open Go Go.RowKit

section
variable {P : Program} {ops : Array Oper} {md : Region.Mode} {Q : Exit → Act → World → Prop} {S : World → Prop}

/-- The head, whatever order is picked: the first `f` operations that come up all lie below `m`; `S` holds behind each; then `L`. -/
def wpHd (P : Program) (md : Region.Mode) (ops : Array Oper) (Q : Exit → Act → World → Prop) (S : World → Prop) (m : Nat) (L : Array Bool → Act → World → Prop) : Nat → Array Bool → Act → World → Prop
  | 0, listed, a, w => L listed a w
  | f + 1, listed, a, w => Region.ready md ops listed ≠ [] ∧ ∀ i ∈ Region.ready md ops listed, i < m ∧ wpOp P ops Q i (fun a' w' => S w' ∧ wpHd P md ops Q S m L f (listed.setIfInBounds i true) a' w') a w

theorem wpHd_mono {S' : World → Prop} {m : Nat} {L : Array Bool → Act → World → Prop} (h : ∀ w, S' w → S w) :
    ∀ (f : Nat) (listed : Array Bool) (a : Act) (w : World), wpHd P md ops Q S' m L f listed a w → wpHd P md ops Q S m L f listed a w
  | 0, _, _, _, h' => h'
  | f + 1, _, _, _, h' => ⟨h'.1, fun i hi => ⟨(h'.2 i hi).1, wpOp_mono (fun a' w' h'' => ⟨h w' h''.1, wpHd_mono h f _ a' w' h''.2⟩) (h'.2 i hi).2⟩⟩

theorem wpAny_of_hd {m g : Nat} {L : Array Bool → Act → World → Prop} (hL : ∀ listed a w, L listed a w → wpAny P md ops Q g listed a w) :
    ∀ (f : Nat) (listed : Array Bool) (a : Act) (w : World), wpHd P md ops Q S m L f listed a w → wpAny P md ops Q (f + g) listed a w
  | 0, listed, a, w, h => by rw [Nat.zero_add]; exact hL _ _ _ h
  | f + 1, listed, a, w, h => by
    rw [show f + 1 + g = (f + g) + 1 by omega]
    exact ⟨fun h0 => absurd h0 h.1, fun i hi => wpOp_mono (fun a' w' h' => wpAny_of_hd hL f _ a' w' h'.2) (h.2 i hi).2⟩

theorem wpHd_first {m i : Nat} {oi : Oper} {v : Value} {L : Array Bool → Act → World → Prop} (hi : ops[i]? = some oi) (hsel : ∀ (j : Nat) (o : Oper) cs b, ops[j]? = some o → o.op ≠ .select cs b)
    (hQ : ∀ ch a w, Q (.panic ch) (a.put oi.dst v) w → Q (.panic ch) a w)
    (hw : m < ops.size → Region.sinkB md ops m = true ∧ Region.chainB md ops m = true) (hin : i < m)
    (hdone : ∀ listed a w, L listed a w → ∀ j ∈ Region.ready md ops listed, m ≤ j) :
    ∀ (f : Nat) (listed : Array Bool) (a : Act) (w : World), HeadInv md ops m listed →
      (∀ j oj, ops[j]? = some oj → j ≠ i → listed.getD j true = false → (∀ e ∈ oj.after, Region.binds md e = true → e.on ≠ i) → oi.apart ops oj = true) →
      i ∈ Region.ready md ops listed → YieldsIf P ops S oi v a → S w →
      wpHd P md ops Q S m L f (listed.setIfInBounds i true) (a.put oi.dst v) w → wpHd P md ops Q S m L (f + 1) listed a w := by
  intro f
  have below : ∀ (listed : Array Bool), HeadInv md ops m listed → i ∈ Region.ready md ops listed → ∀ j ∈ Region.ready md ops listed, j < m := by
    intro listed inv hr j hj
    rcases Nat.lt_or_ge j m with h | h
    · exact h
    · have hjs : j < ops.size := by
        obtain ⟨_, o, ho, _⟩ := mem_ready.1 hj
        exact (Array.getElem?_eq_some_iff.1 ho).1
      obtain ⟨h1, h2⟩ := hw (by omega)
      exact absurd hj (tail_waits h1 h2 (by omega) inv _ i rfl hin (mem_ready.1 hr).1 j h)
  induction f with
  | zero =>
    intro listed a w inv _ hr hy hS H
    refine ⟨fun h => (by rw [h] at hr; cases hr), fun j hj => ⟨below listed inv hr j hj, ?_⟩⟩
    by_cases hji : j = i
    · subst hji; exact hy.wpOp hi hS ⟨hS, H⟩
    · have := hdone _ _ _ H j (ready_mono hj hji)
      have := below listed inv hr j hj
      omega
  | succ f ih =>
    intro listed a w inv hfree hr hy hS H
    have hun := (mem_ready.1 hr).1
    refine ⟨fun h => (by rw [h] at hr; cases hr), fun j hj => ⟨below listed inv hr j hj, ?_⟩⟩
    by_cases hji : j = i
    · subst hji; exact hy.wpOp hi hS ⟨hS, H⟩
    · have h1 := (H.2 j (ready_mono hj hji)).2
      obtain ⟨hjun, oj, hoj, hall⟩ := mem_ready.1 hj
      have hnot : ∀ e ∈ oj.after, Region.binds md e = true → e.on ≠ i := fun e he hb heq => by
        have h1 := hall e he hb
        rw [heq, getD_both hun] at h1
        cases h1
      have h2 := wpOp_putIf hoj (hfree j oj hoj hji hjun hnot) (fun cs b => hsel i oi cs b hi) (fun cs b => hsel j oj cs b hoj) hQ hy h1
      have hfree' : ∀ k ok, ops[k]? = some ok → k ≠ i → (listed.setIfInBounds j true).getD k true = false →
          (∀ e ∈ ok.after, Region.binds md e = true → e.on ≠ i) → oi.apart ops ok = true := fun k ok hk hki hu hno => by
        refine hfree k ok hk hki ?_ hno
        by_cases hjk : j = k
        · subst hjk; exact hjun
        · rw [getD_set_ne true hjk] at hu; exact hu
      refine wpOp_mono (fun a' w' h3 => ⟨h3.2.1, ih (listed.setIfInBounds j true) a' w' (inv.set hj (below listed inv hr j hj)) hfree' (ready_mono hr (Ne.symm hji)) h3.1 h3.2.1 ?_⟩) h2
      rw [Array.setIfInBounds_comm _ _ hji]
      exact h3.2.2
end

/-- A panic's post doesn't look at the slots. -/
class NoP (Q : Exit → Env → World → Prop) : Prop where
  h : ∀ ch σ σ' w, Q (.panic ch) σ w → Q (.panic ch) σ' w
instance {P : Program} {fn : Func} {n : Nat} {R : Ending → World → Prop} : NoP (post P fn n R) := ⟨fun _ _ _ _ h => h⟩
instance {next : Env → World → Prop} {Q : Exit → Env → World → Prop} [q : NoP Q] : NoP (thn next Q) := ⟨fun ch σ σ' w h => q.h ch σ σ' w h⟩
instance {id : Nat} {Q : Exit → Env → World → Prop} [q : NoP Q] : NoP (inBlock id Q) := ⟨fun ch σ σ' w h => q.h ch σ σ' w h⟩

/-- What stands behind the head. -/
def LT (c : Cx) (n : Nat) (ops : Array Oper) (Q : Exit → Env → World → Prop) (m : Nat) (listed : Array Bool) (a : Act) (w : World) : Prop :=
  Region.seqB .any ops (ops.size - m) m listed = true ∧ wpList c.P ops (lift n Q) (ops.toList.drop m) a w

/-- What is asked of a region's edges, once. -/
def okDraw (ops : Array Oper) (m : Nat) : Bool := Region.noSelect ops && Nat.ble m ops.size && (Nat.ble ops.size m || (Region.sinkB .any ops m && Region.chainB .any ops m))
/-- The judgement in a head: so many operations are still to come up, these have. -/
def HD (c : Cx) (n : Nat) (ops : Array Oper) (Q : Exit → Env → World → Prop) (m f : Nat) (listed : Array Bool) (σ : Env) (H : List Res) (K : List Fact) : Prop :=
  okDraw ops m = true → HeadInv .any ops m listed → ∀ w, M c H K w → ∀ a, Rep n a σ → wpHd c.P .any ops (lift n Q) (M c H K) m (LT c n ops Q m) f listed a w

/-- What is asked when an operation is taken first. -/
def okTake (ops : Array Oper) (m i : Nat) (listed : Array Bool) : Bool := Nat.blt i m && (Region.ready .any ops listed).contains i && Region.free .any ops listed i

section
variable {c : Cx} {n : Nat} {Q : Exit → Env → World → Prop} {σ : Env} {H : List Res} {K : List Fact}

theorem draw {id m : Nat} {l : List Oper} (hm : c.P.follows .mixedOrders = true) (hok : okDraw l.toArray m = true)
    (h : HD c n l.toArray Q m m (Array.replicate l.length false) σ H K) : Tr c n (.region id l.toArray true) Q σ H K := by
  intro w hM a hr
  refine wp_region_any hm ?_
  have hok0 := hok
  simp only [okDraw, Bool.and_eq_true] at hok
  obtain ⟨⟨_, hle⟩, _⟩ := hok
  have hle : m ≤ l.toArray.size := Nat.le_of_ble_eq_true hle
  have inv0 : HeadInv .any l.toArray m (Array.replicate l.toArray.size false) :=
    ⟨by simp, fun j oj _ hl => (by rw [getD_replicate_false] at hl; cases hl), fun t _ ht => getD_in (by simpa using ht) (getD_replicate_false _ _)⟩
  have hM' : M c H K { w with drawn := w.drawn + 1 } := hM.pure ⟨rfl, rfl, rfl, Nat.le_refl _, fun _ _ _ => rfl⟩
  have H1 := h hok0 (by simpa using inv0) _ hM' a hr
  have := wpAny_of_hd (Q := lift n Q) (S := M c H K) (g := l.toArray.size - m) (L := LT c n l.toArray Q m) (fun listed a' w' hL => by
    have := wpAny_of_seq (P := c.P) (ops := l.toArray) (md := .any) (Q' := lift n Q) (l.drop m) m listed a' w' (fun j => by simp [List.getElem?_drop]) (by
      have e : (l.drop m).length = l.toArray.size - m := by simp
      rw [e]; exact hL.1) (by have := hL.2; simpa using this)
    have e : (l.drop m).length = l.toArray.size - m := by simp
    rwa [e] at this) _ _ _ _ H1
  rw [show m + (l.toArray.size - m) = l.toArray.size by omega] at this
  simpa using this

theorem M.more {w : World} {f : Fact} (h : M c H (f :: K) w) : M c H K w := by
  obtain ⟨D, d1, d2, d3, d4, d5⟩ := h.data
  exact ⟨h.os, h.tape, h.output, h.size, h.frame, h.holds, h.mine, h.nodup, h.stable.2, D, d1, d2, d3, d4, d5.2⟩

variable {ops : Array Oper} {m f : Nat} {listed : Array Bool}

theorem seqB_ready' {g k : Nat} (h : Region.seqB .any ops g k listed = true) : ∀ j ∈ Region.ready .any ops listed, k ≤ j := seqB_ready h

/-- An operation that yields a value and leaves the world is taken first. -/
theorem take [q : NoP Q] (i : Nat) {d : Nat} {op : Op} {t : TypeId} {p : String} {af : Array Edge} {v : Value} (hi : ops[i]? = some ⟨some d, op, t, p, af, none⟩) (ht : okTake ops m i listed = true) (hd : Nat.blt d n = true)
    (hv : Det c σ H K ⟨some d, op, t, p, af, none⟩ v) (h : HD c n ops Q m f (listed.setIfInBounds i true) (upd σ d v) H K) : HD c n ops Q m (f + 1) listed σ H K := by
  intro hok0 inv w hM a hr
  have hok := hok0
  simp only [okTake, Bool.and_eq_true] at ht
  simp only [okDraw, Bool.and_eq_true, Bool.or_eq_true] at hok
  have him : i < m := by have := ht.1.1; simp [Nat.blt] at this; omega
  have hri : i ∈ Region.ready .any ops listed := by simpa using ht.1.2
  refine wpHd_first hi (Region.noSelect_spec hok.1.1) ?_ (fun hlt => by
      rcases hok.2 with h' | h'
      · have := Nat.le_of_ble_eq_true h'; omega
      · exact h') him (fun listed' a' w' hL => seqB_ready hL.1) f listed a w inv (Region.free_spec hi ht.2) hri (.inl ⟨by simp [Region.wanted], fun w' hw' => by rw [hr.eval]; exact hv w' hw'⟩) hM
    (h hok0 (inv.set hri him) w hM _ (hr.put d v (by simp [Nat.blt] at hd; omega)))
  rintro ch a' w' ⟨σ', hr', hq⟩
  refine ⟨fun i => a'.tmps.getD i undef, ⟨hr'.defers, by have := hr'.size; simpa [Act.put] using this, fun _ => rfl⟩, q.h ch σ' _ w' hq⟩

/-- The only one that may come up: a call. -/
theorem only [NoP Q] (i : Nat) {d : Nat} {fid : FuncId} {args : Array Operand} {ats : Array TypeId} {vs : List Value} {t : TypeId} {p : String} {af : Array Edge} {v : Value} (hi : ops[i]? = some ⟨some d, .call { callee := .value (.func fid), args := args, argTypes := ats }, t, p, af, none⟩)
    (hr1 : Region.ready .any ops listed = [i]) (him : Nat.blt i m = true) (hf : Fn c.P fid) (ha : args.toList.map (ev σ) = vs) (hd : Nat.blt d n = true)
    (spec : ∀ w, M c H K w → Calls c.P fid vs.toArray w fun e w' => e = .returned v ∧ Below w.heap.size w w') (h : HD c n ops Q m f (listed.setIfInBounds i true) (upd σ d v) H K) : HD c n ops Q m (f + 1) listed σ H K := by
  intro hok inv w hM a hr
  have him' : i < m := by simp [Nat.blt] at him; omega
  refine ⟨by rw [hr1]; simp, fun j hj => ?_⟩
  have hjr := hj
  rw [hr1] at hj
  have hji : j = i := by simpa using hj
  subst hji
  refine ⟨him', ?_⟩
  unfold wpOp
  simp only [hi, Region.wanted, if_true]
  refine .inl ?_
  unfold Oper.wp
  rw [hr.eval, hf.run, map_args ha]
  refine (spec w hM).mono ?_
  rintro e w' ⟨rfl, hbel⟩
  have hM' := hM.pure (grown_below hbel)
  exact ⟨hM', h hok (inv.set hjr him') w' hM' _ (hr.put d _ (by simp [Nat.blt] at hd; omega))⟩

/-- One that its guard lets run, and one that it does not. -/
theorem takeG [q : NoP Q] (i : Nat) {d j s : Nat} {b : Bool} {op : Op} {t : TypeId} {p : String} {af : Array Edge} {v : Value} (hi : ops[i]? = some ⟨some d, op, t, p, af, some (j, b)⟩) (hj : (ops[j]?).bind (·.dst) = some s) (hs : σ s = .bool b)
    (ht : okTake ops m i listed = true) (hd : Nat.blt d n = true) (hv : Det c σ H K ⟨some d, op, t, p, af, some (j, b)⟩ v) (h : HD c n ops Q m f (listed.setIfInBounds i true) (upd σ d v) H K) : HD c n ops Q m (f + 1) listed σ H K := by
  intro hok0 inv w hM a hr
  have hok := hok0
  simp only [okTake, Bool.and_eq_true] at ht
  simp only [okDraw, Bool.and_eq_true, Bool.or_eq_true] at hok
  have him : i < m := by have := ht.1.1; simp [Nat.blt] at this; omega
  have hri : i ∈ Region.ready .any ops listed := by simpa using ht.1.2
  refine wpHd_first hi (Region.noSelect_spec hok.1.1) ?_ (fun hlt => by
      rcases hok.2 with h' | h'
      · have := Nat.le_of_ble_eq_true h'; omega
      · exact h') him (fun listed' a' w' hL => seqB_ready hL.1) f listed a w inv (Region.free_spec hi ht.2) hri (.inl ⟨?_, fun w' hw' => by rw [hr.eval]; exact hv w' hw'⟩) hM
    (h hok0 (inv.set hri him) w hM _ (hr.put d v (by simp [Nat.blt] at hd; omega)))
  · rintro ch a' w' ⟨σ', hr', hq⟩
    exact ⟨fun i => a'.tmps.getD i undef, ⟨hr'.defers, by have := hr'.size; simpa [Act.put] using this, fun _ => rfl⟩, q.h ch σ' _ w' hq⟩
  · have hv := hr.val s
    rw [hs] at hv
    have hlt : s < a.tmps.size := by
      rcases Nat.lt_or_ge s a.tmps.size with h' | h'
      · exact h'
      · simp [Array.getElem?_eq_none h', undef] at hv
    have : a.tmps[s]? = some (.bool b) := by
      rw [Array.getElem?_eq_getElem hlt]
      simpa [hlt] using hv
    simp [Region.wanted, yielded, hj, this]

theorem takeU [q : NoP Q] (i : Nat) {d j s : Nat} {b : Bool} {op : Op} {t : TypeId} {p : String} {af : Array Edge} (hi : ops[i]? = some ⟨some d, op, t, p, af, some (j, b)⟩) (hj : (ops[j]?).bind (·.dst) = some s) (hs : σ s = .bool (!b) ∨ σ s = undef)
    (ht : okTake ops m i listed = true) (hd : Nat.blt d n = true) (h : HD c n ops Q m f (listed.setIfInBounds i true) (upd σ d undef) H K) : HD c n ops Q m (f + 1) listed σ H K := by
  intro hok0 inv w hM a hr
  have hok := hok0
  simp only [okTake, Bool.and_eq_true] at ht
  simp only [okDraw, Bool.and_eq_true, Bool.or_eq_true] at hok
  have him : i < m := by have := ht.1.1; simp [Nat.blt] at this; omega
  have hri : i ∈ Region.ready .any ops listed := by simpa using ht.1.2
  refine wpHd_first hi (Region.noSelect_spec hok.1.1) ?_ (fun hlt => by
      rcases hok.2 with h' | h'
      · have := Nat.le_of_ble_eq_true h'; omega
      · exact h') him (fun listed' a' w' hL => seqB_ready hL.1) f listed a w inv (Region.free_spec hi ht.2) hri (.inr ⟨?_, rfl⟩) hM
    (h hok0 (inv.set hri him) w hM _ (hr.put d undef (by simp [Nat.blt] at hd; omega)))
  · rintro ch a' w' ⟨σ', hr', hq⟩
    exact ⟨fun i => a'.tmps.getD i undef, ⟨hr'.defers, by have := hr'.size; simpa [Act.put] using this, fun _ => rfl⟩, q.h ch σ' _ w' hq⟩
  · have hv := hr.val s
    rcases hs with hs | hs
    · rw [hs] at hv
      have hlt : s < a.tmps.size := by
        rcases Nat.lt_or_ge s a.tmps.size with h' | h'
        · exact h'
        · simp [Array.getElem?_eq_none h', undef] at hv
      have : a.tmps[s]? = some (.bool (!b)) := by
        rw [Array.getElem?_eq_getElem hlt]
        simpa [hlt] using hv
      simp [Region.wanted, yielded, hj, this]
    · rw [hs] at hv
      simp only [Region.wanted, yielded, hj, Option.bind_some]
      cases hx : a.tmps[s]? with
      | none => simp
      | some x =>
        have : x = undef := by simpa [hx] using hv
        subst this
        simp [undef]

/-- The only one that may come up, an operation that makes memory: what is held and known grows. -/
theorem onlyE [NoP Q] {β : Type} (V : β → Value) (H' : β → List Res) (K' : β → List Fact) (i : Nat) {d : Nat} {op : Op} {t : TypeId} {p : String} {af : Array Edge} (hi : ops[i]? = some ⟨some d, op, t, p, af, none⟩)
    (hr1 : Region.ready .any ops listed = [i]) (him : Nat.blt i m = true) (hd : Nat.blt d n = true)
    (he : ∀ w, M c H K w → ∃ b w', (execOp (ev σ) ⟨some d, op, t, p, af, none⟩).run c.P w = .ok (.value (V b)) w' ∧ M c (H' b) (K' b) w')
    (hw : ∀ b w, M c (H' b) (K' b) w → M c H K w)
    (h : ∀ b, HD c n ops Q m f (listed.setIfInBounds i true) (upd σ d (V b)) (H' b) (K' b)) : HD c n ops Q m (f + 1) listed σ H K := by
  intro hok inv w hM a hr
  have him' : i < m := by simp [Nat.blt] at him; omega
  refine ⟨by rw [hr1]; simp, fun j hj => ?_⟩
  have hjr := hj
  rw [hr1] at hj
  have hji : j = i := by simpa using hj
  subst hji
  refine ⟨him', ?_⟩
  unfold wpOp
  simp only [hi, Region.wanted, if_true]
  refine .inl ?_
  unfold Oper.wp
  obtain ⟨b, w', hrun, hM'⟩ := he w hM
  rw [hr.eval, hrun]
  exact ⟨hw b w' hM', wpHd_mono (hw b) f _ _ _ (h b hok (inv.set hjr him') w' hM' _ (hr.put d _ (by simp [Nat.blt] at hd; omega)))⟩

/-- The only one that may come up, a call that makes memory. -/
theorem onlyC [NoP Q] {β : Type} (V : β → Value) (H' : β → List Res) (K' : β → List Fact) (i : Nat) {d : Nat} {fid : FuncId} {args : Array Operand} {ats : Array TypeId} {vs : List Value} {t : TypeId} {p : String} {af : Array Edge}
    (hi : ops[i]? = some ⟨some d, .call { callee := .value (.func fid), args := args, argTypes := ats }, t, p, af, none⟩)
    (hr1 : Region.ready .any ops listed = [i]) (him : Nat.blt i m = true) (hf : Fn c.P fid) (ha : args.toList.map (ev σ) = vs) (hd : Nat.blt d n = true)
    (spec : ∀ w, M c H K w → Calls c.P fid vs.toArray w fun e w' => ∃ b, e = .returned (V b) ∧ M c (H' b) (K' b) w')
    (hw : ∀ b w, M c (H' b) (K' b) w → M c H K w)
    (h : ∀ b, HD c n ops Q m f (listed.setIfInBounds i true) (upd σ d (V b)) (H' b) (K' b)) : HD c n ops Q m (f + 1) listed σ H K := by
  intro hok inv w hM a hr
  have him' : i < m := by simp [Nat.blt] at him; omega
  refine ⟨by rw [hr1]; simp, fun j hj => ?_⟩
  have hjr := hj
  rw [hr1] at hj
  have hji : j = i := by simpa using hj
  subst hji
  refine ⟨him', ?_⟩
  unfold wpOp
  simp only [hi, Region.wanted, if_true]
  refine .inl ?_
  unfold Oper.wp
  rw [hr.eval, hf.run, map_args ha]
  refine (spec w hM).mono ?_
  rintro e w' ⟨b, rfl, hM'⟩
  exact ⟨hw b w' hM', wpHd_mono (hw b) f _ _ _ (h b hok (inv.set hjr him') w' hM' _ (hr.put d _ (by simp [Nat.blt] at hd; omega)))⟩

/-- The head is done. -/
theorem tail (hs : Region.seqB .any ops (ops.size - m) m listed = true) {l : List Oper} (hl : ops.toList.drop m = l) (h : TL c n ops l Q σ H K) : HD c n ops Q m 0 listed σ H K := by
  intro _ _ w hM a hr
  exact ⟨hs, by rw [hl]; exact h w hM a hr⟩
end
end Go.Proofs.YtmcapgjdflohfaaGreat.L
