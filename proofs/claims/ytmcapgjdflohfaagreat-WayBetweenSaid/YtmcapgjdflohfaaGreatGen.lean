/- Rules and small facts that the laws' walks share. -/
import Derived.Test.YtmcapgjdflohfaaGreatPChain
import Derived.Test.YtmcapgjdflohfaaGreatSeq
set_option linter.all false
namespace Go.Proofs.YtmcapgjdflohfaaGreat.L
open Go Go.RowKit
set_option linter.unusedVariables false

section
variable {c : Cx} {n : Nat} {Q : Exit → Env → World → Prop} {σ : Env} {H : List Res} {K : List Fact}
variable {t : TypeId} {p : String} {af : Array Edge}
/-- Facts that follow, in place of those that are known. -/
theorem refactT {x : Code} {K' : List Fact} (hs : KStable K') (hf : ∀ (D : Nat → Prop) w, KAll K D w → KAll K' D w) (h : Tr c n x Q σ H K') : Tr c n x Q σ H K :=
  fun w hm => h w (hm.refact hs fun D hD => hf D w hD)
theorem callS' {ops : Array Oper} {d : Nat} {f : FuncId} {args : Array Operand} {ats : Array TypeId} {vs : List Value} {l : List Oper} {sz m : Nat} {ls : List (List Value)} (hm : ls.length = m) (hf : Fn c.P f) (ha : args.toList.map (ev σ) = vs) (hd : Nat.blt d n = true)
    (spec : ∀ w, M c H K w → Calls c.P f vs.toArray w (RS w sz ls)) (h : ∀ A cap, TL c n ops l Q (upd σ d (.slice A m cap)) H (Sl sz A m cap ls :: K)) :
    TL c n ops (⟨some d, .call { callee := .value (.func f), args := args, argTypes := ats }, t, p, af, none⟩ :: l) Q σ H K := by
  subst hm; exact callS hf ha hd spec h
/-- A call of which it is told that there is something that it hands back. -/
theorem callX {β : Type} (V : β → Value) (H' : β → List Res) (K' : β → List Fact) {ops : Array Oper} {d : Nat} {f : FuncId} {args : Array Operand} {ats : Array TypeId} {vs : List Value} {l : List Oper} (hf : Fn c.P f) (ha : args.toList.map (ev σ) = vs) (hd : Nat.blt d n = true)
    (spec : ∀ w, M c H K w → Calls c.P f vs.toArray w fun e w' => ∃ b, e = .returned (V b) ∧ M c (H' b) (K' b) w') (h : ∀ b, TL c n ops l Q (upd σ d (V b)) (H' b) (K' b)) :
    TL c n ops (⟨some d, .call { callee := .value (.func f), args := args, argTypes := ats }, t, p, af, none⟩ :: l) Q σ H K := by
  intro w hm a hr
  refine wpList_run rfl ?_
  rw [hr.eval, hf.run, map_args ha]
  refine (spec w hm).mono ?_
  rintro e w' ⟨b, rfl, hm'⟩
  exact h b w' hm' _ (hr.put d _ (by simp [Nat.blt] at hd; omega))
/-- The only one in a drawn region: a call that hands back a slice; a slice of slices. -/
theorem onlyS [NoP Q] {ops : Array Oper} {m f : Nat} {listed : Array Bool} (i : Nat) {d : Nat} {fid : FuncId} {args : Array Operand} {ats : Array TypeId} {vs : List Value} {t : TypeId} {p : String} {af : Array Edge} {sz k : Nat} {ls : List (List Value)} (hk : ls.length = k)
    (hi : ops[i]? = some ⟨some d, .call { callee := .value (.func fid), args := args, argTypes := ats }, t, p, af, none⟩)
    (hr1 : Region.ready .any ops listed = [i]) (him : Nat.blt i m = true) (hf : Fn c.P fid) (ha : args.toList.map (ev σ) = vs) (hd : Nat.blt d n = true)
    (spec : ∀ w, M c H K w → Calls c.P fid vs.toArray w (RS w sz ls))
    (h : ∀ A cap, HD c n ops Q m f (listed.setIfInBounds i true) (upd σ d (.slice A k cap)) H (Sl sz A k cap ls :: K)) : HD c n ops Q m (f + 1) listed σ H K := by
  subst hk
  exact onlyC (β := Option Addr × Nat) (fun p => .slice p.1 ls.length p.2) (fun _ => H) (fun p => Sl sz p.1 ls.length p.2 ls :: K) i hi hr1 him hf ha hd
    (fun w hm => (spec w hm).mono fun e w' ⟨A, cap, he, hb, hs⟩ => ⟨(A, cap), he, hm.learn Sl.stable (grown_below hb) (fun D _ => hs.mono fun k hk => .inr hk)⟩)
    (fun _ _ hm => hm.more) (fun p => h p.1 p.2)
theorem onlyV [NoP Q] {ops : Array Oper} {m f : Nat} {listed : Array Bool} (i : Nat) {d : Nat} {fid : FuncId} {args : Array Operand} {ats : Array TypeId} {vs : List Value} {t : TypeId} {p : String} {af : Array Edge} {k : Nat} {ls : List (List (List UInt8))} (hk : ls.length = k)
    (hi : ops[i]? = some ⟨some d, .call { callee := .value (.func fid), args := args, argTypes := ats }, t, p, af, none⟩)
    (hr1 : Region.ready .any ops listed = [i]) (him : Nat.blt i m = true) (hf : Fn c.P fid) (ha : args.toList.map (ev σ) = vs) (hd : Nat.blt d n = true)
    (spec : ∀ w, M c H K w → Calls c.P fid vs.toArray w (RV w ls))
    (h : ∀ A cap (L : {L : List Vc // L.map Vc.xs = ls}), HD c n ops Q m f (listed.setIfInBounds i true) (upd σ d (.slice A k cap)) H (VV A k cap L.1 :: K)) : HD c n ops Q m (f + 1) listed σ H K := by
  subst hk
  exact onlyC (β := Option Addr × Nat × {L : List Vc // L.map Vc.xs = ls}) (fun p => .slice p.1 ls.length p.2.1) (fun _ => H) (fun p => VV p.1 ls.length p.2.1 p.2.2.1 :: K) i hi hr1 him hf ha hd
    (fun w hm => (spec w hm).mono fun e w' ⟨A, cap, L, hL, he, hb, hs⟩ => ⟨(A, cap, ⟨L, hL⟩), he, hm.learn VV.stable (grown_below hb) (fun D _ => VV.stable _ _ _ _ (fun k hk => .inr hk) (fun _ _ _ => rfl) hs)⟩)
    (fun _ _ hm => hm.more) (fun p => h p.1 p.2.1 p.2.2)
end

theorem il_flat (xs : List Int) : (il xs).flatten = xs.map fun x => .int .i64 x := by
  induction xs with
  | nil => rfl
  | cons x r ih => simp only [il, List.map_cons, List.flatten_cons] at *; rw [ih]; rfl
theorem lit_sl {w : World} {b : Nat} {e : TypeId} {xs : List Int} {n : Nat} (h : w.heap[b]? = some (ob (xs.map fun x => .int .i64 x) e)) (hn : xs.length = n) (hm : n ≤ maxLen) : Sl 1 (some ⟨b, 0, none⟩) n n (il xs) (fun k => k = b) w :=
  blk_sl (by rw [il_flat]; exact h) (il_ok xs) (by rw [il_length, hn]) hm

theorem Bok_of_much {l : List Bl} (h : much24 l = false) (hl1 : ∀ b ∈ l, b.h.ok) : ∀ b ∈ l, Bok b := fun b hb => by
  have := much22_false ((much24_false h).2 b hb)
  exact ⟨hl1 b hb, by omega, fun x hx => by have := this.2 x hx; omega⟩
theorem eqH (a b : List UInt8) (ha : a.length = 32) (hb : b.length = 32) (w : World) : (Op.equalIn 10000 T_api_Hash (ag (b8 a)) (ag (b8 b))).run PP w = .ok (decide (a = b)) w :=
  eqHash u_api_Hash u_uint8 s_uint8 9998 a b ha hb w
theorem idsA_ok (l : List Bl) : ∀ y ∈ idsA l, y.length = 32 := fun y hy => by obtain ⟨b, _, rfl⟩ := List.mem_map.1 hy; exact idL_length _

end Go.Proofs.YtmcapgjdflohfaaGreat.L
