/- Calls that turn one block of the caller's; pointers against nil; in the logic of Core. Nothing here speaks of the program. -/
import Derived.Test.YtmcapgjdflohfaaGreatRule
set_option linter.all false
namespace Go.Proofs.YtmcapgjdflohfaaGreat.L
open Go Go.RowKit

section
variable {c : Cx} {n : Nat} {Q : Exit → Env → World → Prop} {σ : Env} {H : List Res} {K : List Fact}
variable {d : Option Tmp} {t : TypeId} {p : String} {af : Array Edge} {g : Option (Nat × Bool)}

theorem Det.to {o : Oper} {v v' : Value} (h : Det c σ H K o v) (e : v = v') : Det c σ H K o v' := e ▸ h

theorem equal_nil {P : Program} {tx e : TypeId} (a : Addr) (hu : P.underlying tx = some (.pointer e)) (w : World) : (Op.equal tx (.pointer (some a)) (.pointer none)).run P w = .ok false w := by
  have key : ∀ k, (Op.equalIn (k + 1) tx (.pointer (some a)) (.pointer none)).run P w = .ok false w := by
    intro k
    unfold Op.equalIn
    rw [Sem.run_bind, run_und hu]
    rfl
  exact key 9999
/-- A pointer against nil. -/
theorem peqS {x y : Operand} {tx ty e : TypeId} {a : Addr} (hu : c.P.underlying tx = some (.pointer e)) (hx : ev σ x = .pointer (some a)) (hy : ev σ y = .pointer none) : Det c σ H K ⟨d, .binOp .eql tx x y ty, t, p, af, g⟩ (.bool false) := fun w _ => by
  have hg : (eqGuard .eql tx x y (.pointer (some a)) (.pointer none)).run c.P w = .ok () w := rfl
  simp only [execOp, hx, hy, Sem.run_bind, hg, Result.andThen_ok, binOp, equal_nil a hu, Sem.run_pure]
theorem pneS {x y : Operand} {tx ty e : TypeId} {a : Addr} (hu : c.P.underlying tx = some (.pointer e)) (hx : ev σ x = .pointer (some a)) (hy : ev σ y = .pointer none) : Det c σ H K ⟨d, .binOp .neq tx x y ty, t, p, af, g⟩ (.bool true) := fun w _ => by
  have hg : (eqGuard .neq tx x y (.pointer (some a)) (.pointer none)).run c.P w = .ok () w := rfl
  simp only [execOp, hx, hy, Sem.run_bind, hg, Result.andThen_ok, binOp, equal_nil a hu, Sem.run_pure]; rfl

/-- A call that turns one block. -/
def Writes (P : Program) (f : FuncId) (args : Array Value) (b : Nat) (o o' : Obj) (v : Value) : Prop :=
  ∀ w, w.heap[b]? = some o → Calls P f args w fun e w' => e = .returned v ∧ w'.heap[b]? = some o' ∧ w.grownBy w' (some b)

theorem M.initW (P : Program) (w : World) (b : Nat) (o : Obj) (hb : w.heap[b]? = some o) : M ⟨P, w, fun _ => False, [b]⟩ [.blk b o] [] w :=
  { os := rfl, tape := rfl, output := rfl, size := Nat.le_refl _, frame := fun _ _ _ => rfl
    holds := fun r h => by simp only [List.mem_singleton] at h; subst h; exact hb
    mine := fun k h => by
      have : k = b := by simpa [places, Res.at] using h
      subst this
      refine ⟨.inr (List.mem_singleton.2 rfl), ?_⟩
      rcases Nat.lt_or_ge k w.heap.size with h | h
      · exact h
      · rw [Array.getElem?_eq_none h] at hb; cases hb
    nodup := by simp [places, Res.at]
    stable := trivial
    data := ⟨fun _ => False, fun _ h => h.elim, fun _ h => h, fun _ h => h.elim, fun _ _ h => h, trivial⟩ }

theorem enterW {P : Program} {f : FuncId} {fn : Func} {code : Code} {n : Nat} {args : Array Value} {b : Nat} {o o' : Obj} {v : Value}
    (hf : P.funcs[f]? = some fn) (hb : fn.body = some code) (hn : fn.ntmps = n) (ha : Nat.ble args.size n = true)
    (h : ∀ w, Tr ⟨P, w, fun _ => False, [b]⟩ n code (post P fn n fun e w' => e = .returned v ∧ w'.heap[b]? = some o' ∧ w.grownBy w' (some b)) (start args) [.blk b o] []) : Writes P f args b o o' v :=
  fun w hw => enter hf hb hn ha (M.initW P w b o hw) (h w)

/-- The end of such a call. -/
theorem prW {b : Nat} {o : Obj} {v : Value} (i : Nat) (hS : c.S = [b]) (hH : H[i]? = some (.blk b o)) : ∀ w', M c H K w' → (Ending.returned v = .returned v ∧ w'.heap[b]? = some o ∧ c.w0.grownBy w' (some b)) := fun w' hm =>
  ⟨rfl, hm.blk i hH, hm.os, hm.tape, hm.output, hm.size, fun k hk hne => hm.frame k hk (by rw [hS]; intro hc; exact hne (congrArg some (List.mem_singleton.1 hc)))⟩

theorem callW {ops : Array Oper} {d : Nat} {f : FuncId} {args : Array Operand} {ats : Array TypeId} {vs : List Value} {l : List Oper} {v : Value} {b : Nat} {o o' : Obj} (i : Nat) (hf : Fn c.P f) (ha : args.toList.map (ev σ) = vs) (hd : Nat.blt d n = true)
    (hi : H[i]? = some (.blk b o)) (spec : Writes c.P f vs.toArray b o o' v) (h : TL c n ops l Q (upd σ d v) (H.set i (.blk b o')) K) :
    TL c n ops (⟨some d, .call { callee := .value (.func f), args := args, argTypes := ats }, t, p, af, none⟩ :: l) Q σ H K := by
  intro w hm a hr
  refine wpList_run rfl ?_
  rw [hr.eval, hf.run, map_args ha]
  refine (spec w (hm.blk i hi)).mono ?_
  rintro e w' ⟨rfl, hb, hg⟩
  exact h w' (hm.change i hi hg hb (.inl rfl)) _ (hr.put d _ (by simp [Nat.blt] at hd; omega))

/-- A call that makes one new block and hands its address back. -/
def Makes (P : Program) (f : FuncId) (args : Array Value) (o : Obj) : Prop :=
  ∀ w, Calls P f args w fun e w' => ∃ b, e = .returned (.pointer (some ⟨b, 0, none⟩)) ∧ w'.heap[b]? = some o ∧ w.heap.size ≤ b ∧ w.grownBy w' none
theorem prN {b : Nat} {o : Obj} (i : Nat) (hS : c.S = []) (hH : H[i]? = some (.blk b o)) : ∀ w', M c H K w' → ∃ b', Ending.returned (.pointer (some ⟨b, 0, none⟩)) = .returned (.pointer (some ⟨b', 0, none⟩)) ∧ w'.heap[b']? = some o ∧ c.w0.heap.size ≤ b' ∧ c.w0.grownBy w' none := fun w' hm => by
  refine ⟨b, rfl, hm.blk i hH, ?_, grown_below (hm.below hS)⟩
  have := (hm.mine b (mem_places.2 ⟨_, List.mem_of_getElem? hH, rfl⟩)).1
  rw [hS] at this
  rcases this with h | h
  · exact h
  · cases h
theorem callN {ops : Array Oper} {d : Nat} {f : FuncId} {args : Array Operand} {ats : Array TypeId} {vs : List Value} {l : List Oper} {o : Obj} (hf : Fn c.P f) (ha : args.toList.map (ev σ) = vs) (hd : Nat.blt d n = true)
    (spec : Makes c.P f vs.toArray o) (h : ∀ b, TL c n ops l Q (upd σ d (.pointer (some ⟨b, 0, none⟩))) (.blk b o :: H) K) :
    TL c n ops (⟨some d, .call { callee := .value (.func f), args := args, argTypes := ats }, t, p, af, none⟩ :: l) Q σ H K := by
  intro w hm a hr
  refine wpList_run rfl ?_
  rw [hr.eval, hf.run, map_args ha]
  refine (spec w).mono ?_
  rintro e w' ⟨b, rfl, hb, hlt, hg⟩
  exact h b w' (hm.add hg hb (.inr ⟨b, rfl, hlt⟩)) _ (hr.put d _ (by simp [Nat.blt] at hd; omega))
end
end Go.Proofs.YtmcapgjdflohfaaGreat.L
