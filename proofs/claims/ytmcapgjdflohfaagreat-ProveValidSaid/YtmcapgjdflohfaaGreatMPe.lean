/- The statement ProveValidSaid: of each input the given function returns true, and the arguments read as before. Conditions: none. The walk is in LPJ, the arguments are opened in Open; the row's steps are the guide's template for a law. -/
import Derived.Test.YtmcapgjdflohfaaGreatMPd
import Derived.Test.YtmcapgjdflohfaaGreatRows
import Derived.WalkKit
import Derived.ProofKit
import Derived.OpenShut
import Derived.ShutString
import Derived.ChangeOld
import Derived.Below
import Derived.SizedLaws
set_option linter.all false
namespace Go.Proofs.YtmcapgjdflohfaaGreat.L
open Go Go.RowKit
set_option linter.unusedVariables false

section
variable {c : Cx} {n : Nat} {Q : Exit → Env → World → Prop} {σ : Env} {H : List Res} {K : List Fact}
variable {d : Option Tmp} {t : TypeId} {p : String} {af : Array Edge} {g : Option (Nat × Bool)}
/-- A closure. -/
theorem mkC {f : FuncId} {first caps : Array Operand} {vs cs : List Value} (hv : first.toList.map (ev σ) = vs) (hc : caps.toList.map (ev σ) = cs) : Det c σ H K ⟨d, .makeFunc (.func f) first caps, t, p, af, g⟩ (.func (.func f) vs.toArray cs.toArray) := fun w _ => by
  simp only [execOp, Instr.makeFunc, map_args hv, map_args hc, Sem.run_bind, Sem.run_pure, Result.andThen_ok]
/-- A call of a closure. -/
theorem callCl {ops : Array Oper} {d s : Nat} {f : FuncId} {args : Array Operand} {ats : Array TypeId} {vs cs : List Value} {l : List Oper} {v : Value} (hf : Fn c.P f) (hs : σ s = .func (.func f) #[] cs.toArray) (ha : args.toList.map (ev σ) = vs) (hd : Nat.blt d n = true)
    (spec : ∀ w, M c H K w → Calls c.P f (vs ++ cs).toArray w fun e w' => e = .returned v ∧ Below w.heap.size w w') (h : TL c n ops l Q (upd σ d v) H K) :
    TL c n ops (⟨some d, .call { callee := .value (.tmp s), args := args, argTypes := ats }, t, p, af, none⟩ :: l) Q σ H K := by
  intro w hm a hr
  obtain ⟨fn, code, hf1, hf2, hf3⟩ := hf
  have hn' : ¬ fn.name = "runtime.NumGoroutine" := by simpa using hf3
  have e : (execOp (ev σ) ⟨some d, .call { callee := .value (.tmp s), args := args, argTypes := ats }, t, p, af, none⟩).run c.P w = .ok (.enter f (vs ++ cs).toArray) w := by
    simp only [execOp, resolve, ev, hs, map_args ha, Deferred.ofValue, Sem.run_bind, Sem.run_pure, Result.andThen_ok, invoke, callFunc]
    simp [hf1, hn', hf2]
  refine wpList_run rfl ?_
  rw [hr.eval, e]
  refine (spec w hm).mono ?_
  rintro e w' ⟨rfl, hbel⟩
  exact h w' (hm.pure (grown_below hbel)) _ (hr.put d _ (by simp [Nat.blt] at hd; omega))
/-- A slice's literal of elements of some cells. -/
theorem bsn {P : Program} {tt e : TypeId} {parts : Array (Nat × Operand)} {ps : List (Nat × Value)} {z : Value} {m sz : Nat} {zs cs : List Value} (ht : P.underlying tt = some (.slice e)) (hz : (P.info? e).map (·.zero) = some (some z)) (hs : (P.info? e).map (·.size) = some sz)
    (hp : (parts.toList.map fun (i, x) => (i, ev σ x)) = ps) (hzs : (Array.range (m * sz)).map (z.cells[· % z.cells.size]!) = zs.toArray) (hf : Instr.fill (fun i => some (i * sz, sz)) ([] ++ zs).toArray ps = some cs.toArray) (hm0 : 0 < m * sz) (h24 : m * sz ≤ 16777216) (h25 : m ≤ 16777216) (w : World) : (Instr.buildSlice tt m (parts.map fun (i, x) => (i, ev σ x))).run P w = .ok (.slice (some ⟨w.heap.size, 0, none⟩) m m) (w.alloc (ob cs e)) := by
  rw [map_parts hp]
  rw [List.nil_append] at hf
  simp only [Instr.buildSlice, Sem.run_bind, run_und ht, run_size hs, Result.andThen_ok]
  rw [if_neg (by omega), if_neg (by omega)]
  simp only [Sem.run_bind, Sem.run_pure, run_zero hz, Result.andThen_ok, hzs, hf]
  simp [newRow]
end

def ptr (b : Nat) : Value := .pointer (some ⟨b, 0, none⟩)
def capsOf (bC bS j : Nat) : List Value := match j with | 1 => [ptr bS, ptr bC] | _ => [ptr bS]
def ruleN (j : Nat) : FuncId := match j with | 0 => N_valid_rules_1 | 1 => N_valid_rules_2 | _ => N_valid_rules_3
def ruleE (j : Nat) : Int := match j with | 0 => 8 | 1 => 9 | _ => 10
def rulC (bC bS j : Nat) : List Value := [.func (.func (ruleN j)) #[] (capsOf bC bS j).toArray, .int .i64 (ruleE j)]
def rulL (bC bS : Nat) : List (List Value) := [rulC bC bS 0, rulC bC bS 1, rulC bC bS 2]
theorem rulL_ok (bC bS : Nat) : ∀ l ∈ rulL bC bS, l.length = 2 ∧ one l = true := by
  intro l hl
  simp only [rulL, List.mem_cons, List.not_mem_nil, or_false] at hl
  rcases hl with rfl | rfl | rfl <;> exact ⟨rfl, rfl⟩
theorem rulL_at {bC bS o j : Nat} (ho : o = j) (h : j < 3) : (rulL bC bS)[o]? = some (rulC bC bS j) := by
  subst ho
  match o, h with
  | 0, _ => rfl
  | 1, _ => rfl
  | 2, _ => rfl
theorem ruleN_fn (j : Nat) (h : j < 3) : Fn PP (ruleN j) :=
  match j, h with
  | 0, _ => k_valid_rules_1
  | 1, _ => k_valid_rules_2
  | 2, _ => k_valid_rules_3
/-- The rules, with the blocks that they read. -/
def RulF (x : Cf) (A : Option Addr) (n cap : Nat) (V : Nat × Nat × Nat) : Fact := fun D w => Sl 2 (some ⟨V.1, 0, none⟩) 3 3 (rulL V.2.1 V.2.2) D w ∧ Sl 104 (some ⟨V.2.1, 0, none⟩) 1 1 [x.c] D w ∧ Sl 1 (some ⟨V.2.2, 0, none⟩) 1 1 [[.slice A n cap]] D w
theorem RulF.stable {x : Cf} {A : Option Addr} {n cap : Nat} {V : Nat × Nat × Nat} : Stable (RulF x A n cap V) := fun D D' w w' hD hw h => ⟨Sl.stable D D' w w' hD hw h.1, Sl.stable D D' w w' hD hw h.2.1, Sl.stable D D' w w' hD hw h.2.2⟩
def RRul (w : World) (x : Cf) (A : Option Addr) (n cap : Nat) : Ending → World → Prop := fun e w' => ∃ V, e = .returned (.slice (some ⟨V.1, 0, none⟩) 3 3) ∧ Below w.heap.size w w' ∧ RulF x A n cap V (fun k => w.heap.size ≤ k ∧ k < w'.heap.size) w'

theorem bldRul {c : Cx} {σ : Env} {H : List Res} {K : List Fact} {d : Option Tmp} {t : TypeId} {p : String} {af : Array Edge} {g : Option (Nat × Bool)} {parts : Array (Nat × Operand)} (hP : c.P = PP) (bC bS j : Nat)
    (hps : (parts.toList.map fun (i, x) => (i, ev σ x)) = [(0, .func (.func (ruleN j)) #[] (capsOf bC bS j).toArray), (1, .int .i64 (ruleE j))]) :
    Det c σ H K ⟨d, .build T_valid_rule parts, t, p, af, g⟩ (ag (rulC bC bS j)) := by
  refine bldT (pl := _) (by rw [hP]; exact z_valid_rule) (by rw [hP]; exact u_valid_rule) (fun w => by rw [hP]; exact run_placesS PP w (by kernel_rfl)) hps ?_
  refine fill_cat (o := 0) (s := 1) (vs := [.func (.func (ruleN j)) #[] (capsOf bC bS j).toArray]) (by kernel_rfl) rfl rfl rfl (by simp) ?_
  refine fill_cat (o := 1) (s := 1) (vs := [.int .i64 (ruleE j)]) (by kernel_rfl) rfl rfl rfl (by simp) ?_
  exact fill_end (by simp) rfl

theorem valid_rules_ (x : Cf) (hx : x.ok) (A : Option Addr) (n cap : Nat) (w : World) : Calls PP N_valid_rules #[ag x.c, .slice A n cap] w (RRul w x A n cap) := by
  refine enter (D := fun _ => False) (S := []) f_valid_rules rfl n_valid_rules rfl (M.init PP w _ _ [] trivial (fun _ h => h.elim) trivial) ?_
  refine seq (region (box rfl rfl rfl fun b0 => box rfl rfl rfl fun b1 => det rfl (asg rfl) (nilS ?_)))   -- region 0
  refine seq (region (det rfl (mkC (vs := []) (cs := capsOf b0 b1 0) rfl rfl) (det rfl (bldRul rfl b0 b1 0 rfl) (det rfl (mkC (vs := []) (cs := capsOf b0 b1 1) rfl rfl) (det rfl (bldRul rfl b0 b1 1 rfl) (det rfl (mkC (vs := []) (cs := capsOf b0 b1 2) rfl rfl) (det rfl (bldRul rfl b0 b1 2 rfl) (bsl rfl (bsn (cs := (rulL b0 b1).flatten) (zs := [.nilFunc, .int .i64 0, .nilFunc, .int .i64 0, .nilFunc, .int .i64 0]) (ps := [(0, ag (rulC b0 b1 0)), (1, ag (rulC b0 b1 1)), (2, ag (rulC b0 b1 2))]) u_sl_valid_rule z_valid_rule s_valid_rule rfl (by kernel_rfl) (by
      refine fill_cat (o := 0) (s := 2) (vs := rulC b0 b1 0) rfl rfl rfl rfl (by simp) ?_
      refine fill_cat (o := 2) (s := 2) (vs := rulC b0 b1 1) rfl rfl rfl rfl (by simp) ?_
      refine fill_cat (o := 4) (s := 2) (vs := rulC b0 b1 2) rfl rfl rfl rfl (by simp) ?_
      exact fill_end (by simp) rfl) (by decide) (by decide) (by decide)) fun b2 => det rfl (asg rfl) (nilS ?_)))))))))   -- region 1
  refine ret (retT rfl rfl fun w' hm => ⟨(b2, b0, b1), rfl, hm.below rfl, ?_, ?_, ?_⟩)
  · have hb := hm.mine b2 (by simp [places, Res.at])
    refine Sl.mono (blk_sl (hm.blk 0 rfl) (rulL_ok b0 b1) rfl (by decide)) fun k hk => ?_
    subst hk
    exact ⟨hb.1.elim id (fun h => nomatch h), hb.2⟩
  · have hb := hm.mine b0 (by simp [places, Res.at])
    refine Sl.mono (blk_sl (ls := [x.c]) (by simpa using hm.blk 2 rfl) (fun l hl => by rw [List.mem_singleton.1 hl]; exact ⟨Cf.c_length hx, Cf.c_one x⟩) rfl (by decide)) fun k hk => ?_
    subst hk
    exact ⟨hb.1.elim id (fun h => nomatch h), hb.2⟩
  · have hb := hm.mine b1 (by simp [places, Res.at])
    refine Sl.mono (blk_sl (ls := [[.slice A n cap]]) (hm.blk 1 rfl) (fun l hl => by rw [List.mem_singleton.1 hl]; exact ⟨rfl, rfl⟩) rfl (by decide)) fun k hk => ?_
    subst hk
    exact ⟨hb.1.elim id (fun h => nomatch h), hb.2⟩

/-! ### The closures -/
def ruleF (x : Cf) (X : List SX) (i j : Nat) : Bool := match j with
  | 0 => decide (i = 0) || decide ((X.getD (i - 1) sx0).1.h < (X.getD i sx0).1.h)
  | 1 => okW (idL (X.getD i sx0).1) x.t
  | _ => decide (i = 0) || joinC (X.getD i sx0) (X.getD (i - 1) sx0).1
theorem Opn.ok_of {o : Opn} {D : Nat → Prop} {w : World} (h : OpF o D w) : ∀ y ∈ o.p, y.length = 32 := by
  intro y hy
  have := (h.2.2.2.1 (b8 y) (List.mem_map.2 ⟨y, hy, rfl⟩)).1
  rwa [b8_length] at this
section
variable (x : Cf) (hx : x.ok) (L : List St) (hL : ∀ s ∈ L, s.h.ok) (A : Option Addr) (cap bC bS i : Nat) (hi : i < L.length) (D : Nat → Prop) (w : World) (hD : ∀ k, D k → k < w.heap.size) (hc : Sl 104 (some ⟨bC, 0, none⟩) 1 1 [x.c] D w) (hb : Sl 1 (some ⟨bS, 0, none⟩) 1 1 [[.slice A L.length cap]] D w) (hs : StS A L.length cap L D w)
include hL hi hD hb hs
theorem rule1_ : Calls PP N_valid_rules_1 #[.int .i64 (i : Int), ptr bS] w (PR w (.bool (ruleF x (L.map St.x) i 0))) := by
  have hmx : L.length ≤ maxLen := Nat.le_trans hs.1.2.1 hs.1.2.2.1
  simp only [maxLen] at hmx
  refine enter f_valid_rules_1 rfl n_valid_rules_1 rfl (M.init PP w D [] [Sl 69 A L.length cap (stl L), Sl 1 (some ⟨bS, 0, none⟩) 1 1 [[.slice A L.length cap]]] ⟨Sl.stable, Sl.stable, trivial⟩ hD ⟨hs.1, hb, trivial⟩) ?_
  refine seq (region (det rfl (asg rfl) (nilS ?_)))   -- region 0
  by_cases h0 : i = 0
  · subst h0
    rw [show ruleF x (L.map St.x) 0 0 = true from rfl]
    refine seq (drawI 17 [] mix (by kernel_rfl) (by kernel_rfl) ?_)   -- drawn 1
    refine nI rfl rfl rfl (mv rfl) ?_
    refine nI rfl rfl rfl (Det.to (v' := .bool true) (eql rfl rfl) rfl) ?_
    refine nI rfl rfl rfl (mv rfl) ?_
    iterate 12 refine uI rfl rfl rfl (.inl rfl) rfl ?_
    refine nI rfl rfl rfl (pick rfl rfl) ?_
    refine nI rfl rfl rfl (asg rfl) ?_
    refine endI rfl (nilS ?_)
    exact ret (retT rfl rfl pr)
  · obtain ⟨j, rfl⟩ : ∃ j, i = j + 1 := ⟨i - 1, by omega⟩
    have hj : j < L.length := by omega
    have hs1 : (L[j + 1]).h.ok := hL _ (List.getElem_mem hi)
    have hs0 : (L[j]).h.ok := hL _ (List.getElem_mem hj)
    have e : ruleF x (L.map St.x) (j + 1) 0 = decide ((L[j]).h.h < (L[j + 1]).h.h) := by
      simp only [ruleF]; rw [decide_eq_false h0, Bool.false_or, getSX hi, Nat.add_sub_cancel, getSX hj]; rfl
    rw [e]
    refine seq (drawI 17 [14] mix (by kernel_rfl) (by kernel_rfl) ?_)   -- drawn 1
    refine nI rfl rfl rfl (mv rfl) ?_
    refine nI rfl rfl rfl (Det.to (v' := .bool false) (eql rfl rfl) (vb (decide_eq_false (by omega)))) ?_
    refine nI rfl rfl rfl (mv rfl) ?_
    refine gI rfl rfl rfl rfl rfl (ldSO 1 (i := 0) (v := .slice A L.length cap) rfl rfl o_sl_api_Step rfl) ?_
    refine gI rfl rfl rfl rfl rfl (mv rfl) ?_
    refine gI rfl rfl rfl rfl rfl (ixS 0 rfl rfl u_sl_api_Step s_api_Step rfl (by omega) (by omega)) ?_
    refine gI rfl rfl rfl rfl rfl (fadrS 0 rfl u_api_Step rfl s_api_Header rfl (by omega)) ?_
    refine gI rfl rfl rfl rfl rfl (ldSP 0 (i := j + 1) (o := 0) (r := (L[j + 1]).h.c) rfl rfl g_api_Header (stl_at rfl hi) (St.at_h hs1) (Hd.c_length hs1)) ?_
    refine gI rfl rfl rfl rfl rfl (ldSO 1 (i := 0) (v := .slice A L.length cap) rfl rfl o_sl_api_Step rfl) ?_
    refine gI rfl rfl rfl rfl rfl (mv rfl) ?_
    refine gI rfl rfl rfl rfl rfl (Det.to (v' := .int .i64 (j : Int)) (subI rfl rfl (by omega) (by omega)) (vi (by omega))) ?_
    refine gI rfl rfl rfl rfl rfl (ixS 0 rfl rfl u_sl_api_Step s_api_Step rfl (by omega) (by omega)) ?_
    refine gI rfl rfl rfl rfl rfl (fadrS 0 rfl u_api_Step rfl s_api_Header rfl (by omega)) ?_
    refine gI rfl rfl rfl rfl rfl (ldSP 0 (i := j) (o := 0) (r := (L[j]).h.c) rfl rfl g_api_Header (stl_at rfl hj) (St.at_h hs0) (Hd.c_length hs0)) ?_
    refine pgI (v := .bool (decide ((L[j]).h.h < (L[j + 1]).h.h))) rfl rfl rfl rfl k_rise_Above (show _ = [ag (L[j + 1]).h.c, ag (L[j]).h.c] from rfl) rfl (fun w _ => rise_Above_ _ _ w) ?_
    refine nI rfl rfl rfl (pick rfl rfl) ?_
    refine nI rfl rfl rfl (asg rfl) ?_
    refine endI rfl (nilS ?_)
    exact ret (retT rfl rfl pr)
theorem rule3_ : Calls PP N_valid_rules_3 #[.int .i64 (i : Int), ptr bS] w (PR w (.bool (ruleF x (L.map St.x) i 2))) := by
  have hmx : L.length ≤ maxLen := Nat.le_trans hs.1.2.1 hs.1.2.2.1
  simp only [maxLen] at hmx
  refine enter f_valid_rules_3 rfl n_valid_rules_3 rfl (M.init PP w D [] [Sl 69 A L.length cap (stl L), Sl 1 (some ⟨bS, 0, none⟩) 1 1 [[.slice A L.length cap]], Ops L] ⟨Sl.stable, Sl.stable, Ops.stable, trivial⟩ hD ⟨hs.1, hb, hs.2, trivial⟩) ?_
  refine seq (region (det rfl (asg rfl) (nilS ?_)))   -- region 0
  by_cases h0 : i = 0
  · subst h0
    rw [show ruleF x (L.map St.x) 0 2 = true from rfl]
    refine seq (drawI 16 [] mix (by kernel_rfl) (by kernel_rfl) ?_)   -- drawn 1
    refine nI rfl rfl rfl (mv rfl) ?_
    refine nI rfl rfl rfl (Det.to (v' := .bool true) (eql rfl rfl) rfl) ?_
    refine nI rfl rfl rfl (mv rfl) ?_
    iterate 11 refine uI rfl rfl rfl (.inl rfl) rfl ?_
    refine nI rfl rfl rfl (pick rfl rfl) ?_
    refine nI rfl rfl rfl (asg rfl) ?_
    refine endI rfl (nilS ?_)
    exact ret (retT rfl rfl pr)
  · obtain ⟨j, rfl⟩ : ∃ j, i = j + 1 := ⟨i - 1, by omega⟩
    have hj : j < L.length := by omega
    have hs1 : (L[j + 1]).h.ok := hL _ (List.getElem_mem hi)
    have hs0 : (L[j]).h.ok := hL _ (List.getElem_mem hj)
    have hmem : L[j + 1] ∈ L := List.getElem_mem hi
    have e : ruleF x (L.map St.x) (j + 1) 2 = joinC (L[j + 1]).x (L[j]).h := by
      simp only [ruleF]; rw [decide_eq_false h0, Bool.false_or, getSX hi, Nat.add_sub_cancel, getSX hj]; rfl
    rw [e]
    obtain ⟨z, hz⟩ : ∃ z, joinC (L[j + 1]).x (L[j]).h = z := ⟨_, rfl⟩
    rw [hz]
    refine seq (drawI 16 [13] mix (by kernel_rfl) (by kernel_rfl) ?_)   -- drawn 1
    refine nI rfl rfl rfl (mv rfl) ?_
    refine nI rfl rfl rfl (Det.to (v' := .bool false) (eql rfl rfl) (vb (decide_eq_false (by omega)))) ?_
    refine nI rfl rfl rfl (mv rfl) ?_
    refine gI rfl rfl rfl rfl rfl (ldSO 1 (i := 0) (v := .slice A L.length cap) rfl rfl o_sl_api_Step rfl) ?_
    refine gI rfl rfl rfl rfl rfl (mv rfl) ?_
    refine gI rfl rfl rfl rfl rfl (ixS 0 rfl rfl u_sl_api_Step s_api_Step rfl (by omega) (by omega)) ?_
    refine gI rfl rfl rfl rfl rfl (ldSA 0 (l := (L[j + 1]).c) rfl rfl g_api_Step (stl_at rfl hi)) ?_
    refine gI rfl rfl rfl rfl rfl (ldSO 1 (i := 0) (v := .slice A L.length cap) rfl rfl o_sl_api_Step rfl) ?_
    refine gI rfl rfl rfl rfl rfl (mv rfl) ?_
    refine gI rfl rfl rfl rfl rfl (Det.to (v' := .int .i64 (j : Int)) (subI rfl rfl (by omega) (by omega)) (vi (by omega))) ?_
    refine gI rfl rfl rfl rfl rfl (ixS 0 rfl rfl u_sl_api_Step s_api_Step rfl (by omega) (by omega)) ?_
    refine gI rfl rfl rfl rfl rfl (fadrS 0 rfl u_api_Step rfl s_api_Header rfl (by omega)) ?_
    refine gI rfl rfl rfl rfl rfl (ldSP 0 (i := j) (o := 0) (r := (L[j]).h.c) rfl rfl g_api_Header (stl_at rfl hj) (St.at_h hs0) (Hd.c_length hs0)) ?_
    refine pgI (v := .bool z) rfl rfl rfl rfl k_join_Holds (show _ = [ag (L[j + 1]).c, ag (L[j]).h.c] from rfl) rfl (fun w hm => by
      obtain ⟨D, d1, d2, hD, d4, d5⟩ := hm.data
      have ho := d5.2.2.1 _ hmem
      exact hz ▸ join_Holds_ _ hs1 (Opn.ok_of ho) _ hs0 D w hD ho) ?_
    refine nI rfl rfl rfl (pick rfl rfl) ?_
    refine nI rfl rfl rfl (asg rfl) ?_
    refine endI rfl (nilS ?_)
    exact ret (retT rfl rfl pr)
include hx hc
theorem rule2_ : Calls PP N_valid_rules_2 #[.int .i64 (i : Int), ptr bS, ptr bC] w (PR w (.bool (ruleF x (L.map St.x) i 1))) := by
  have hmx : L.length ≤ maxLen := Nat.le_trans hs.1.2.1 hs.1.2.2.1
  simp only [maxLen] at hmx
  refine enter f_valid_rules_2 rfl n_valid_rules_2 rfl (M.init PP w D [] [Sl 69 A L.length cap (stl L), Sl 1 (some ⟨bS, 0, none⟩) 1 1 [[.slice A L.length cap]], Sl 104 (some ⟨bC, 0, none⟩) 1 1 [x.c]] ⟨Sl.stable, Sl.stable, Sl.stable, trivial⟩ hD ⟨hs.1, hb, hc, trivial⟩) ?_
  have hs1 : (L[i]).h.ok := hL _ (List.getElem_mem hi)
  have e : ruleF x (L.map St.x) i 1 = okW (idL (L[i]).h) x.t := by simp only [ruleF]; rw [getSX hi]; rfl
  rw [e]
  refine seq (region (det rfl (asg rfl) (nilS ?_)))   -- region 0
  refine seq (drawP [(0, false), (1, false), (2, false), (3, false), (4, false), (6, false), (7, false), (5, true), (8, true), (9, false)] mix (by kernel_rfl) (by kernel_rfl) ?_)   -- drawn 1
  refine nP 0 rfl rfl (ldSO 1 (i := 0) (v := .slice A L.length cap) rfl rfl o_sl_api_Step rfl) ?_
  refine nP 1 rfl rfl (mv rfl) ?_
  refine nP 2 rfl rfl (ixS 0 rfl rfl u_sl_api_Step s_api_Step rfl (by omega) (by omega)) ?_
  refine nP 3 rfl rfl (fadrS 0 rfl u_api_Step rfl s_api_Header rfl (by omega)) ?_
  refine nP 4 rfl rfl (ldSP 0 (i := i) (o := 0) (r := (L[i]).h.c) rfl rfl g_api_Header (stl_at rfl hi) (St.at_h hs1) (Hd.c_length hs1)) ?_
  refine nP 6 rfl rfl (fadrS 2 (o := 0) rfl u_api_Config rfl s_api_Hash rfl (by omega)) ?_
  refine nP 7 rfl rfl (ldSP 2 (i := 0) (o := 66) (r := b8 x.t) rfl rfl g_api_Hash rfl (Cf.at_t' hx) (by rw [b8_length]; exact hx.2)) ?_
  refine pP 5 rfl k_ident_Id (show _ = [ag (L[i]).h.c] from rfl) rfl (fun w _ => ident_Id_ _ hs1 w) ?_
  refine pP 8 rfl k_work_Ok (show _ = [ag (b8 (idL (L[i]).h)), ag (b8 x.t)] from rfl) rfl (fun w _ => work_Ok_ _ _ (idL_length _) hx.2 w) ?_
  refine nP 9 rfl rfl (asg rfl) ?_
  refine endP rfl (nilS ?_)
  exact ret (retT rfl rfl pr)
set_option maxRecDepth 8000 in
theorem rule_ (j : Nat) (hj : j < 3) : Calls PP (ruleN j) ([Value.int .i64 (i : Int)] ++ capsOf bC bS j).toArray w (PR w (.bool (ruleF x (L.map St.x) i j))) :=
  match j, hj with
  | 0, _ => rule1_ x L hL A cap bS i hi D w hD hb hs
  | 1, _ => rule2_ x hx L hL A cap bC bS i hi D w hD hc hb hs
  | 2, _ => rule3_ x L hL A cap bS i hi D w hD hb hs
end
end Go.Proofs.YtmcapgjdflohfaaGreat.L

namespace Go.Proofs.YtmcapgjdflohfaaGreat.L
open Go Go.RowKit
set_option linter.unusedVariables false

def rules3 (x : Cf) (X : List SX) (i : Nat) : Int := if ruleF x X i 0 = false then 8 else if ruleF x X i 1 = false then 9 else if ruleF x X i 2 = false then 10 else 0
def valGo (x : Cf) (X : List SX) : Nat → Nat → Int × Int
  | 0, _ => if (tailLen X : Int) < x.k then (11, X.length) else (0, 0)
  | r + 1, i => if rules3 x X i ≠ 0 then (rules3 x X i, i) else valGo x X r (i + 1)
def valR (x : Cf) (X : List SX) : Int × Int := if anchR x.g X ≠ 0 then (anchR x.g X, 0) else valGo x X X.length 0
theorem rules3_of (x : Cf) (X : List SX) (i j : Nat) (hj : j < 3) (h0 : ∀ k < j, ruleF x X i k = true) (h : ruleF x X i j = false) : rules3 x X i = ruleE j := by
  unfold rules3
  match j, hj with
  | 0, _ => rw [if_pos h]; rfl
  | 1, _ => rw [if_neg (by rw [h0 0 (by omega)]; decide), if_pos h]; rfl
  | 2, _ => rw [if_neg (by rw [h0 0 (by omega)]; decide), if_neg (by rw [h0 1 (by omega)]; decide), if_pos h]; rfl
theorem rules3_zero (x : Cf) (X : List SX) (i : Nat) (h0 : ∀ k < 3, ruleF x X i k = true) : rules3 x X i = 0 := by
  unfold rules3
  rw [if_neg (by rw [h0 0 (by omega)]; decide), if_neg (by rw [h0 1 (by omega)]; decide), if_neg (by rw [h0 2 (by omega)]; decide)]
theorem isOne_of {P : Program} {t : TypeId} (h : ((P.underlying t).map fun d => match d with | .struct _ | .array _ _ => false | _ => true) = some true) : isOne P t := by
  obtain ⟨d, h1, h2⟩ := Option.map_eq_some_iff.1 h
  exact ⟨d, h1, h2⟩
theorem ruleE_ne (j : Nat) : ruleE j ≠ 0 := by unfold ruleE; split <;> decide
theorem Cf.at_g' {x : Cf} (h : x.ok) : (x.c.drop (0 + 0)).take 66 = x.g.c := by rw [Cf.c, ← Hd.c_length h.1]; simp

set_option maxHeartbeats 800000 in
theorem valid_Check_ (x : Cf) (hx : x.ok) (L : List St) (hL : ∀ s ∈ L, s.h.ok) (A : Option Addr) (cap : Nat) (D : Nat → Prop) (w : World) (hD : ∀ k, D k → k < w.heap.size) (hs : StS A L.length cap L D w) :
    Calls PP N_valid_Check #[ag x.c, .slice A L.length cap] w (PR w (ag (fltC (valR x (L.map St.x))))) := by
  have hmx : L.length ≤ maxLen := Nat.le_trans hs.1.2.1 hs.1.2.2.1
  simp only [maxLen] at hmx
  obtain ⟨X, hX⟩ : ∃ X, L.map St.x = X := ⟨_, rfl⟩
  have hXl : X.length = L.length := by rw [← hX, List.length_map]
  obtain ⟨an, han⟩ : ∃ an, anchR x.g X = an := ⟨_, rfl⟩
  rw [hX]
  refine enter f_valid_Check rfl n_valid_Check rfl (M.init1 PP w StS.stable hD hs) ?_
  refine seq (region (box rfl rfl rfl fun b0 => alloc z_api_Fault rfl rfl fun b1 => nilS ?_))   -- region 0
  refine seq ?_
  refine seq (region (det rfl (fadr rfl u_api_Config rfl s_api_Header) (det rfl (ldA 1 rfl rfl g_api_Header (Cf.at_g' hx) (Hd.c_length hx.1)) (det rfl (mv rfl) (call (v := .int .i64 an) k_anchor_Check (show _ = [ag x.g.c, Value.slice A L.length cap] from rfl) rfl (fun w hm => by
    obtain ⟨D, d1, d2, hD, d4, d5⟩ := hm.data
    have := anchor_Check_ x.g hx.1 L hL A cap D w hD d5.1
    rw [hX, han] at this; exact this) (det rfl (asg rfl) (nilS ?_)))))))   -- region 1
  refine seq (region (det rfl (mv rfl) (det rfl (neq rfl rfl) (nilS ?_))))   -- region 2
  by_cases ha : an = 0
  · refine condF (by show Value.bool (!decide (an = 0)) = _; rw [decide_eq_true ha]; rfl) ?_
    rw [show valR x X = valGo x X X.length 0 by rw [valR, if_neg (by rw [han]; simpa using ha)]]
    refine skipS ?_
    refine seq (region (det rfl (ldAll 1 rfl rfl g_api_Config (Cf.c_length hx)) (det rfl (mv rfl) (callX (β := Nat × Nat × Nat) (fun V => .slice (some ⟨V.1, 0, none⟩) 3 3) (fun _ => [.blk b1 (ob (fltC (0, 0)) T_api_Fault), .blk b0 (ob x.c T_api_Config)]) (fun V => [RulF x A L.length cap V, StS A L.length cap L]) (vs := [ag x.c, Value.slice A L.length cap]) k_valid_rules rfl rfl (fun w hm => (valid_rules_ x hx A L.length cap w).mono fun e w' ⟨V, he, hb, hr⟩ => ⟨V, he, hm.learn RulF.stable (grown_below hb) fun D _ => RulF.stable _ _ _ _ (fun k hk => .inr hk) (fun _ _ _ => rfl) hr⟩) fun V => det rfl (asg rfl) (nilS ?_)))))   -- region 4
    obtain ⟨bR, bC, bS⟩ := V
    refine seq ?_
    refine seq (region (det rfl (mv rfl) (det rfl (lenS u_sl_api_Step rfl) (det rfl (mv rfl) (nilS ?_)))))   -- region 5
    refine block ?_   -- block 0
    refine loopV (ι := Nat) (fun i => i ≤ L.length ∧ valGo x X X.length 0 = valGo x X (L.length - i) i) (fun i => [(1, .slice A L.length cap), (2, .pointer (some ⟨b0, 0, none⟩)), (4, .pointer (some ⟨b1, 0, none⟩)), (6, .slice (some ⟨bR, 0, none⟩) 3 3), (23, .int .i64 L.length), (24, .int .i64 i)])
      (fun _ => [.blk b1 (ob (fltC (0, 0)) T_api_Fault), .blk b0 (ob x.c T_api_Config)])
      (fun _ => [Sl 2 (some ⟨bR, 0, none⟩) 3 3 (rulL bC bS), Sl 104 (some ⟨bC, 0, none⟩) 1 1 [x.c], Sl 1 (some ⟨bS, 0, none⟩) 1 1 [[.slice A L.length cap]], StS A L.length cap L]) (fun i => L.length - i) 0 ⟨by omega, by rw [hXl]; rfl⟩ ⟨rfl, rfl, rfl, rfl, rfl, rfl, trivial⟩ (fun w hm => M.refact hm ⟨Sl.stable, Sl.stable, Sl.stable, StS.stable, trivial⟩ fun D h => ⟨h.1.1, h.1.2.1, h.1.2.2, h.2.1, trivial⟩) ?_
    rintro i σ ⟨hi, hgo⟩
    refine seq (region (det rfl (lss rfl rfl) (nilS ?_)))   -- region 6
    refine seq ?_
    refine cond rfl (fun h => ?_) (fun h => ?_)   -- on t25
    · have h := of_decide_eq_true h
      have hil : i < L.length := by omega
      rw [show L.length - i = (L.length - (i + 1)) + 1 by omega, valGo] at hgo
      refine skipS ?_
      refine seq ?_
      refine block ?_   -- block 1
      refine seq (region (det rfl (mv rfl) (det rfl (asg rfl) (nilS ?_))))   -- region 7
      refine seq (region (det rfl (mv rfl) (det rfl (lenS u_sl_valid_rule rfl) (det rfl (mv rfl) (nilS ?_)))))   -- region 8
      refine block ?_   -- block 2
      refine loopV (ι := Nat) (fun j => j ≤ 3 ∧ ∀ k < j, ruleF x X i k = true) (fun j => [(1, .slice A L.length cap), (2, .pointer (some ⟨b0, 0, none⟩)), (4, .pointer (some ⟨b1, 0, none⟩)), (6, .slice (some ⟨bR, 0, none⟩) 3 3), (7, .int .i64 i), (23, .int .i64 L.length), (24, .int .i64 i), (27, .slice (some ⟨bR, 0, none⟩) 3 3), (28, .int .i64 3), (29, .int .i64 j)])
        (fun _ => [.blk b1 (ob (fltC (0, 0)) T_api_Fault), .blk b0 (ob x.c T_api_Config)])
        (fun _ => [Sl 2 (some ⟨bR, 0, none⟩) 3 3 (rulL bC bS), Sl 104 (some ⟨bC, 0, none⟩) 1 1 [x.c], Sl 1 (some ⟨bS, 0, none⟩) 1 1 [[.slice A L.length cap]], StS A L.length cap L]) (fun j => 3 - j) 0 ⟨by omega, fun k hk => by omega⟩ ⟨rfl, rfl, rfl, rfl, rfl, rfl, rfl, rfl, rfl, rfl, trivial⟩ (fun w hm => hm) ?_
      rintro j σ ⟨hj, hj0⟩
      refine seq (region (det rfl (lss rfl rfl) (nilS ?_)))   -- region 9
      refine seq ?_
      refine cond rfl (fun h2 => ?_) (fun h2 => ?_)   -- on t30
      · have h2 := of_decide_eq_true h2
        have hj3 : j < 3 := by omega
        obtain ⟨b, hb⟩ : ∃ b, ruleF x X i j = b := ⟨_, rfl⟩
        refine skipS ?_
        refine seq ?_
        refine block ?_   -- block 3
        refine seq (region (det rfl (ixS 0 rfl rfl u_sl_valid_rule s_valid_rule rfl (by omega) (by omega)) (det rfl (ldSA 0 (l := rulC bC bS j) rfl rfl g_valid_rule (rulL_at (by omega) hj3)) (alloc z_valid_rule rfl rfl fun b2 => stoA 0 (rs := rulC bC bS j) rfl rfl rfl s_valid_rule rfl rfl rfl (nilS ?_)))))   -- region 10
        refine seq (region (det rfl (fadr rfl u_valid_rule rfl (m := 0) (by kernel_rfl)) (det rfl (ldB 0 (v := .func (.func (ruleN j)) #[] (capsOf bC bS j).toArray) rfl rfl (isOne_of (by kernel_rfl)) rfl) (det rfl (mv rfl) (callCl (v := .bool b) (ruleN_fn j hj3) rfl (show _ = [Value.int .i64 i] from rfl) rfl (fun w hm => by
          obtain ⟨D, d1, d2, hD, d4, d5⟩ := hm.data
          have := rule_ x hx L hL A cap bC bS i hil D w hD d5.2.1 d5.2.2.1 d5.2.2.2.1 j hj3
          rw [hX, hb] at this; exact this) (det rfl (notB rfl) (nilS ?_)))))))   -- region 11
        cases b
        · refine condT rfl ?_
          have e : valGo x X X.length 0 = (ruleE j, (i : Int)) := by rw [hgo, rules3_of x X i j hj3 hj0 hb, if_pos (ruleE_ne j)]
          rw [e]
          refine seq (region (det rfl (fadr rfl u_valid_rule rfl s_api_Errno) (det rfl (ldB 0 (v := .int .i64 (ruleE j)) rfl rfl o_api_Errno rfl) (det rfl (mv rfl) (det rfl (fltC_fill rfl (ruleE j, (i : Int)) rfl) (stoA 1 rfl rfl rfl s_api_Fault rfl rfl rfl (nilS ?_)))))))   -- region 12
          exact ret (retFlt rfl 1 rfl rfl rfl pr)
        · refine condF rfl ?_
          refine skip ?_
          show Tr _ _ _ _ _ _ _
          refine region (det rfl (addI rfl rfl (by omega) (by omega)) (det rfl (mv rfl) (nil ?_)))   -- region 13
          refine again (j + 1) ⟨by omega, fun k hk => ?_⟩ ⟨rfl, rfl, rfl, rfl, rfl, rfl, rfl, rfl, rfl, rfl, trivial⟩ (fun w hm => drop1 hm) (by (first | omega | (dsimp only; omega)))
          by_cases e : k = j
          · rw [e]; exact hb
          · exact hj0 k (by omega)
      · have h2 := of_decide_eq_false h2
        obtain rfl : j = 3 := by omega
        refine exit ?_   -- 2
        show Tr _ _ _ _ _ _ _
        refine region (det rfl (addI rfl rfl (by omega) (by omega)) (det rfl (mv rfl) (nil ?_)))   -- region 14
        refine again (i + 1) ⟨by omega, by rw [hgo, rules3_zero x X i hj0, if_neg (by simp)]⟩ ⟨rfl, rfl, rfl, rfl, rfl, rfl, trivial⟩ (fun w hm => hm) (by (first | omega | (dsimp only; omega)))
    · have h := of_decide_eq_false h
      obtain rfl : i = L.length := by omega
      rw [Nat.sub_self, valGo, hXl] at hgo
      refine exit ?_   -- 0
      show Tr _ _ _ _ _ _ _
      refine seq ?_
      obtain ⟨e, he⟩ : ∃ e : Int, (if (tailLen X : Int) < x.k then 11 else 0) = e := ⟨_, rfl⟩
      have hgo2 : valGo x X X.length 0 = if e ≠ 0 then (e, (L.length : Int)) else (0, 0) := by
        rw [hXl, hgo, ← he]
        split <;> simp
      rw [hgo2]
      refine seq (region (det rfl (mv rfl) (det rfl (fadr rfl u_api_Config rfl s_int) (det rfl (ldB 1 (v := .int .i64 x.k) rfl rfl o_int (Cf.at_k hx)) (call (v := .int .i64 e) k_tail_Check (show _ = [Value.slice A L.length cap, .int .i64 x.k] from rfl) rfl (fun w hm => by
        obtain ⟨D, d1, d2, hD, d4, d5⟩ := hm.data
        have := tail_Check_ L hL x.k A cap D w hD d5.2.2.2.1
        rw [hX, he] at this; exact this) (det rfl (asg rfl) (nilS ?_)))))))   -- region 15
      refine seq (region (det rfl (mv rfl) (det rfl (neq rfl rfl) (nilS ?_))))   -- region 16
      by_cases h0 : e = 0
      · refine condF (by show Value.bool (!decide (e = 0)) = _; rw [decide_eq_true h0]; rfl) ?_
        rw [if_neg (by simpa using h0)]
        refine skipS ?_
        refine seq (region (det rfl (bldZ z_api_Fault u_api_Fault (fun w => run_placesS PP w (by kernel_rfl))) (stoA 0 rfl rfl rfl s_api_Fault rfl rfl rfl (nilS ?_))))   -- region 18
        exact ret (retFlt (x := (0, 0)) rfl 0 rfl rfl rfl pr)
      · refine condT (by show Value.bool (!decide (e = 0)) = _; rw [decide_eq_false h0]; rfl) ?_
        rw [if_pos h0]
        refine seq (region (det rfl (mv rfl) (det rfl (mv rfl) (det rfl (lenS u_sl_api_Step rfl) (det rfl (fltC_fill rfl (e, (L.length : Int)) rfl) (stoA 0 rfl rfl rfl s_api_Fault rfl rfl rfl (nilS ?_)))))))   -- region 17
        exact ret (retFlt (x := (e, (L.length : Int))) rfl 0 rfl rfl rfl pr)
  · refine condT (by show Value.bool (!decide (an = 0)) = _; rw [decide_eq_false ha]; rfl) ?_
    rw [show valR x X = (an, 0) by rw [valR, han, if_pos ha]]
    refine seq (region (det rfl (mv rfl) (det rfl (fltC_fill1 rfl an rfl) (stoA 0 rfl rfl rfl s_api_Fault rfl rfl rfl (nilS ?_)))))   -- region 3
    exact ret (retFlt rfl 0 rfl rfl rfl pr)
end Go.Proofs.YtmcapgjdflohfaaGreat.L

namespace Mp
theorem all_prev (l : List Int) (h : ChainLevels l) (j : Nat) (hj : j + 1 ≤ l.length) : ∃ r, all l ((j : Int) + 1) = (j : Int) :: r := by
  have e := all_eq l h (j + 1) (by omega) hj
  obtain ⟨m, hm⟩ : ∃ m, height l (j + 1) = m + 1 := ⟨height l (j + 1) - 1, by have := (height_bd l h (j + 1) (by omega) hj).1; omega⟩
  rw [hm, List.range_succ_eq_map, List.map_cons, Int.natCast_succ] at e
  have e2 : near l ((j : Int) + 1) ((0 : Nat) : Int) = j := by
    rw [near_succ l j _ (by omega), if_pos]
    by_cases h0 : j = 0
    · subst h0; have := h.1 (by omega); omega
    · have := h.2 j (by omega) (by omega); omega
  rw [e2] at e
  exact ⟨_, e⟩
theorem index_prev (l : List Int) (h : ChainLevels l) (j : Nat) (hj : j + 1 ≤ l.length) : index l ((j : Int) + 1) j = 0 := by
  obtain ⟨r, hr⟩ := all_prev l h j hj
  rw [index, hr, indexFrom, if_pos rfl]
theorem mono_at {f : Nat → Int} {n : Nat} (h : ∀ i, i + 1 < n → f i < f (i + 1)) (i d : Nat) (hi : i + d < n) : f i + d ≤ f (i + d) := by
  induction d with
  | zero => simp
  | succ d ih =>
    have := ih (by omega)
    have := h (i + d) (by omega)
    rw [show i + (d + 1) = i + d + 1 by omega]
    omega
end Mp
namespace Go.Proofs.YtmcapgjdflohfaaGreat.L
open Go Go.RowKit
set_option linter.unusedVariables false

theorem getD_app (R T : List Int) (i : Nat) : (R ++ T).getD i 0 = if i < R.length then R.getD i 0 else T.getD (i - R.length) 0 := by
  simp only [List.getD]
  split
  · rename_i h; rw [List.getElem?_append_left h]
  · rename_i h; rw [List.getElem?_append_right (by omega)]
theorem tailP_get (c : Cf) (l : List Bl) (k i : Nat) (h : i < k) : (tailP c l k).getD i 0 = max 0 ((l.length : Int) - max c.k 0) + i := by simp [tailP, h]
/-- What the places of a chain's proof are. -/
structure Plc (c : Cf) (l : List Bl) (ps : List Int) (r kn : Nat) : Prop where
  k : c.k = kn
  r1 : 1 ≤ r
  kn1 : 1 ≤ kn
  len : ps.length = r + kn
  le : ps.length ≤ l.length
  zero : ps.getD 0 0 = 0
  bd : ∀ i, i < ps.length → 0 ≤ ps.getD i 0 ∧ ps.getD i 0 < l.length
  step : ∀ i, i + 1 < ps.length → ps.getD i 0 < ps.getD (i + 1) 0 ∧ ps.getD i 0 ∈ Mp.all (levs c.t l) (ps.getD (i + 1) 0)
  tail : ∀ i, r ≤ i + 1 → i < ps.length → ps.getD i 0 = (l.length : Int) - ps.length + i
theorem places_plc {c : Cf} {l : List Bl} (hch : Chn c l) (hP : mayP c.m c.k c.a c.b = true) (hk : c.k < l.length) : ∃ r kn, Plc c l (placesR c l) r kn := by
  have hk1 : 1 ≤ c.k := by
    simp only [mayP, Bool.and_eq_true, decide_eq_true_eq] at hP
    omega
  obtain ⟨kn, hkn⟩ : ∃ n : Nat, c.k = (n : Int) := ⟨c.k.toNat, by omega⟩
  have hn := levs_length c.t l
  obtain ⟨R, hR⟩ : ∃ x, pickR (levs c.t l) c.m c.k c.a c.b = x := ⟨_, rfl⟩
  obtain ⟨j1, j2, j3, j4⟩ := pick_joined (levs c.t l) hch.levels c.m c.k c.a c.b kn hkn hP (by omega) (by have := hch.le; omega) R hR
  rw [hn] at j3
  have e : placesR c l = R ++ tailP c l kn := by
    rw [placesR, hR, if_neg (by intro e; rw [e] at j1; simp at j1), show (min (max c.k 0) (l.length : Int)).toNat = kn by omega]
  have hm := fun i d hi => Mp.mono_at (f := fun i => R.getD i 0) (n := R.length) (fun i hi => (j4 i hi).1) i d hi
  have hlast := hm 0 (R.length - 1) (by omega)
  rw [Nat.zero_add] at hlast
  have hlast : (0 : Int) + (R.length - 1 : Nat) ≤ (l.length : Int) - c.k - 1 := by
    have hh : R.getD 0 0 + ((R.length - 1 : Nat) : Int) ≤ R.getD (R.length - 1) 0 := hlast
    rwa [j2, j3] at hh
  have hm : ∀ i d, i + d < R.length → R.getD i 0 + (d : Int) ≤ R.getD (i + d) 0 := hm
  have hlen : (R ++ tailP c l kn).length = R.length + kn := by rw [List.length_append, tailP_len]
  have hget : ∀ i, (R ++ tailP c l kn).getD i 0 = if i < R.length then R.getD i 0 else (tailP c l kn).getD (i - R.length) 0 := getD_app _ _
  have ht : ∀ i, R.length ≤ i + 1 → i < R.length + kn → (R ++ tailP c l kn).getD i 0 = (l.length : Int) - (R.length + kn : Nat) + i := by
    intro i h1 h2
    rw [hget]
    split
    · rename_i h
      obtain rfl : i = R.length - 1 := by omega
      rw [j3]; omega
    · rw [tailP_get _ _ _ _ (by omega)]; omega
  have hb : ∀ i, i < R.length + kn → 0 ≤ (R ++ tailP c l kn).getD i 0 ∧ (R ++ tailP c l kn).getD i 0 < l.length := by
    intro i hi
    by_cases h : R.length ≤ i + 1
    · rw [ht i h hi]; omega
    · rw [hget, if_pos (by omega)]
      have h1 := hm 0 i (by omega)
      have h2 := hm i (R.length - 1 - i) (by omega)
      rw [Nat.zero_add, j2] at h1
      rw [show i + (R.length - 1 - i) = R.length - 1 by omega, j3] at h2
      omega
  refine ⟨R.length, kn, ⟨hkn, j1, by omega, ?_, ?_, ?_, ?_, ?_, ?_⟩⟩
  · rw [e, hlen]
  · rw [e, hlen]; omega
  · rw [e, hget, if_pos j1, j2]
  · rw [e, hlen]; exact hb
  · rw [e, hlen]
    intro i hi
    by_cases h : R.length ≤ i + 1
    · have h1 := ht i h (by omega)
      have h2 := ht (i + 1) (by omega) hi
      have h3 := hb i (by omega)
      obtain ⟨a, ha⟩ : ∃ a : Nat, (R ++ tailP c l kn).getD i 0 = a := ⟨((R ++ tailP c l kn).getD i 0).toNat, by omega⟩
      have h4 : (R ++ tailP c l kn).getD (i + 1) 0 = (a : Int) + 1 := by omega
      rw [h4, ha]
      obtain ⟨r, hr⟩ := Mp.all_prev (levs c.t l) hch.levels a (by
        have := hb (i + 1) hi
        omega)
      exact ⟨by omega, by rw [hr]; exact List.mem_cons_self⟩
    · rw [hget i, hget (i + 1), if_pos (by omega), if_pos (by omega)]
      exact j4 i (by omega)
  · rw [e, hlen]; exact ht

/-! ### The steps -/
theorem Chn.checkB {c : Cf} {l : List Bl} (h : Chn c l) {k : Nat} (hk : k < l.length) : (l.getD k bl0).h.h = k ∧ (l.getD k bl0).h.l = linkR (vecA c.t l k) := by
  have := (ask3_work (h.ask k hk)).2.1
  simp only [askF] at this
  rw [if_neg (by decide), if_pos trivial, L.checkB] at this
  split at this
  · cases this
  · rename_i h1
    split at this
    · rename_i h2; exact absurd this h2
    · split at this
      · cases this
      · rename_i h3
        exact ⟨Decidable.not_not.1 h1, by rw [← Decidable.not_not.1 h3]; rfl⟩
theorem Chn.anchor {c : Cf} {l : List Bl} (h : Chn c l) : (l.getD 0 bl0).h = c.g := by
  have := (ask3_work (h.ask 0 h.pos)).1
  simp only [askF, anchorF] at this
  rw [if_pos trivial] at this
  by_cases e : (l.getD 0 bl0).h = c.g
  · exact e
  · rw [if_pos ⟨trivial, e⟩] at this; cases this
theorem Chn.vecLen {c : Cf} {l : List Bl} (h : Chn c l) {k : Nat} (hk : k ≤ l.length) : (vecA c.t l k).length ≤ 257 := by
  rw [h.vec hk, List.length_map]; exact Mp.all_len _ _
/-- A step of the proof. -/
theorem step_zero {c : Cf} {l : List Bl} {ps : List Int} {r kn : Nat} (hch : Chn c l) (p : Plc c l ps r kn) : stepAt c.t l ps 0 = (((l.getD 0 bl0).h, ox0), 0) := by
  have := hch.pos
  rw [stepAt, p.zero, if_neg (by omega), if_pos rfl]; rfl
theorem step_more {c : Cf} {l : List Bl} {ps : List Int} {r kn : Nat} (hch : Chn c l) (p : Plc c l ps r kn) {i a b : Nat} (hi : i + 1 < ps.length) (ha : ps.getD (i + 1) 0 = a) (hb : ps.getD i 0 = b) :
    ∃ z : Nat, z < (vecA c.t l a).length ∧ Mp.index (levs c.t l) a b = z ∧ (vecA c.t l a).getD z [] = idL (l.getD b bl0).h ∧
      stepAt c.t l ps (i + 1) = (((l.getD a bl0).h, ((z : Int), (((vecA c.t l a).map (76 :: ·)).length : Int), pathS (((vecA c.t l a).map (76 :: ·)).map leafS) z)), 0) := by
  obtain ⟨s1, s2⟩ := p.step i hi
  have hal := (p.bd (i + 1) hi).2
  have hbl := (p.bd i (by omega)).2
  rw [ha, hb] at s1 s2
  rw [ha] at hal
  rw [hb] at hbl
  obtain ⟨z, hz1, hz2⟩ := Mp.indexFrom_mem (b : Int) (Mp.all (levs c.t l) a) 0 s2
  rw [Int.zero_add] at hz1
  have hzl : z < (Mp.all (levs c.t l) a).length := (List.getElem?_eq_some_iff.1 hz2).1
  have hv := hch.vec (k := a) (by omega)
  have hvl : (vecA c.t l a).length = (Mp.all (levs c.t l) a).length := by rw [hv, List.length_map]
  refine ⟨z, by omega, hz1, ?_, ?_⟩
  · rw [hv]
    simp only [List.getD, List.getElem?_map, hz2, Option.map_some, Option.getD_some, Int.toNat_natCast]
    exact idsA_get (by omega)
  · have hi1 : Mp.index (levs c.t l) a b = z := hz1
    rw [stepAt, ha, if_neg (by omega), if_neg (by omega), Nat.add_sub_cancel, hb, hi1, if_neg (by omega), Int.toNat_natCast, opR, if_neg (by rw [List.length_map]; omega), Int.toNat_natCast]

theorem stepsGo_all {t : List UInt8} {l : List Bl} {ps : List Int} (h : ∀ i, i < ps.length → (stepAt t l ps i).2 = 0) (r k : Nat) (acc : List SX) (hk : k + r = ps.length) :
    stepsGo t l ps r k acc = (acc ++ (List.range' k r).map fun i => (stepAt t l ps i).1, 0) := by
  induction r generalizing k acc with
  | zero => simp [stepsGo]
  | succ r ih =>
    rw [stepsGo, if_neg (by rw [h k (by omega)]; simp), ih (k + 1) _ (by omega), List.range'_succ]
    simp
theorem stepsR_all {t : List UInt8} {l : List Bl} {ps : List Int} (h : ∀ i, i < ps.length → (stepAt t l ps i).2 = 0) : stepsR t l ps = ((List.range ps.length).map fun i => (stepAt t l ps i).1, 0) := by
  rw [stepsR, stepsGo_all h ps.length 0 [] (by omega), List.nil_append, List.range_eq_range']

/-! ### An opening holds -/
theorem hold_path (Y : List (List UInt8)) (i : Nat) (hi : i < Y.length) (hn : Y.length ≤ 1048576) : holdC (rootF Y) (Y.getD i []) ((i : Int), (Y.length : Int), pathS (Y.map leafS) i) = true := by
  have hl : (Y.map leafS).length = Y.length := List.length_map _
  have hp := pathS_len (xs := Y.map leafS) (i := i) (by omega)
  rw [hl] at hp
  have hm : holdMay ((i : Int), (Y.length : Int), pathS (Y.map leafS) i) = 0 := by
    rw [holdMay, if_neg (by dsimp only; omega), if_neg]
    dsimp only
    rw [depthR, if_pos (by omega), Int.toNat_natCast, Int.toNat_natCast, hp]
    simp
  have hf := Mp.fold_path (List.replicate 32 0) nodeS (Y.map leafS) i (by omega)
  rw [hl] at hf
  have hg : (Y.map leafS).getD i (List.replicate 32 0) = leafS (Y.getD i []) := by simp [hi]
  rw [hg] at hf
  have hr : holdR ((i : Int), (Y.length : Int), pathS (Y.map leafS) i) (Y.getD i []) = (rootF Y, 0) := by
    rw [holdR, if_neg (by rw [hm]; simp), zipS]
    dsimp only
    rw [Int.toNat_natCast, Int.toNat_natCast, pathS, hf]
    rfl
  rw [holdC, hr]
  simp

/-! ### Validity -/
theorem tailGo_ge (X : List SX) (k m : Nat) (hk : k ≤ m) (h : ∀ i, m < i + k → i ≤ m → tailOk X i = true) : k ≤ tailGo X m := by
  induction k generalizing m with
  | zero => omega
  | succ k ih =>
    obtain ⟨m', rfl⟩ : ∃ m', m = m' + 1 := ⟨m - 1, by omega⟩
    rw [tailGo, if_pos (h (m' + 1) (by omega) (by omega))]
    have := ih m' (by omega) fun i h1 h2 => h i (by omega) (by omega)
    omega
theorem valGo_zero (x : Cf) (X : List SX) (r i : Nat) (h : ∀ j, i ≤ j → j < i + r → rules3 x X j = 0) (ht : ¬ (tailLen X : Int) < x.k) : valGo x X r i = (0, 0) := by
  induction r generalizing i with
  | zero => rw [valGo, if_neg ht]
  | succ r ih =>
    rw [valGo, if_neg (by rw [h i (by omega) (by omega)]; simp)]
    exact ih (i + 1) fun j h1 h2 => h j (by omega) (by omega)
/-- The proof of a chain that may be. -/
structure Prf (c : Cf) (l : List Bl) (X : List SX) : Prop where
  more : c.k < X.length
  k0 : 1 ≤ c.k
  le : X.length ≤ l.length
  valid : valR c X = (0, 0)
  head : ∀ i, i < X.length → ∃ a : Nat, a < l.length ∧ (X.getD i sx0).1 = (l.getD a bl0).h ∧ (X.getD i sx0).1.h = a ∧ ((X.length : Int) - c.k ≤ i → (a : Int) = l.length - X.length + i)
  rise : ∀ i, i + 1 < X.length → (X.getD i sx0).1.h < (X.getD (i + 1) sx0).1.h
theorem prove_prf {c : Cf} {l : List Bl} (hch : Chn c l) (hc0 : (chkF c l).1 = 0) (hP : mayP c.m c.k c.a c.b = true) (hk : c.k < l.length) : ∃ X, proveR c l = (X, 0) ∧ Prf c l X := by
  obtain ⟨r, kn, p⟩ := places_plc hch hP hk
  obtain ⟨ps, hps⟩ : ∃ ps, placesR c l = ps := ⟨_, rfl⟩
  rw [hps] at p
  have hpl := p.len
  have hr1 := p.r1
  have hkk := p.k
  have hm : mayPr c l = 0 := by rw [mayPr, if_neg (by rw [hc0]; simp), if_neg (by rw [hP]; simp), if_neg (by omega)]
  have hst : ∀ i, i < ps.length → (stepAt c.t l ps i).2 = 0 ∧ (stepAt c.t l ps i).1.1 = (l.getD (ps.getD i 0).toNat bl0).h := by
    intro i hi
    cases i with
    | zero => rw [step_zero hch p, p.zero]; exact ⟨rfl, rfl⟩
    | succ i =>
      have h1 := p.bd (i + 1) hi
      have h2 := p.bd i (by omega)
      obtain ⟨z, _, _, _, e⟩ := step_more hch p hi (show ps.getD (i + 1) 0 = ((ps.getD (i + 1) 0).toNat : Nat) by omega) (show ps.getD i 0 = ((ps.getD i 0).toNat : Nat) by omega)
      rw [e]; exact ⟨rfl, rfl⟩
  refine ⟨(List.range ps.length).map fun i => (stepAt c.t l ps i).1, by rw [proveR, if_neg (by rw [hm]; simp), hps, stepsR_all fun i hi => (hst i hi).1], ?_⟩
  obtain ⟨X, hX⟩ : ∃ X, ((List.range ps.length).map fun i => (stepAt c.t l ps i).1) = X := ⟨_, rfl⟩
  have hXl : X.length = ps.length := by rw [← hX]; simp
  have hXg : ∀ i, i < ps.length → X.getD i sx0 = (stepAt c.t l ps i).1 := fun i hi => by rw [← hX]; simp [hi]
  rw [hX]
  have hle := p.le
  have hhd : ∀ i, i < ps.length → ∃ a : Nat, a < l.length ∧ ps.getD i 0 = a ∧ (X.getD i sx0).1 = (l.getD a bl0).h ∧ (X.getD i sx0).1.h = a := by
    intro i hi
    have h1 := p.bd i hi
    refine ⟨(ps.getD i 0).toNat, by omega, by omega, ?_, ?_⟩
    · rw [hXg i hi, (hst i hi).2]
    · rw [hXg i hi, (hst i hi).2, (hch.checkB (by omega)).1]
  have hrise : ∀ i, i + 1 < ps.length → (X.getD i sx0).1.h < (X.getD (i + 1) sx0).1.h := by
    intro i hi
    obtain ⟨a, _, ha, _, ha2⟩ := hhd i (by omega)
    obtain ⟨b, _, hb, _, hb2⟩ := hhd (i + 1) hi
    have := (p.step i hi).1
    omega
  refine ⟨by omega, by have := p.kn1; omega, by omega, ?_, ?_, by rw [hXl]; exact hrise⟩
  · have h0 : X.getD 0 sx0 = ((l.getD 0 bl0).h, ox0) := by rw [hXg 0 (by omega), step_zero hch p]
    have ha : anchR c.g X = 0 := by
      rw [anchR, if_neg (by omega), h0, if_neg (by dsimp only; rw [hch.anchor]; simp), if_neg (by simp [isOp0, ox0])]
    rw [valR, if_neg (by rw [ha]; simp)]
    refine valGo_zero c X X.length 0 (fun j _ hj => rules3_zero c X j ?_) ?_
    · rw [Nat.zero_add, hXl] at hj
      obtain ⟨a, hal, ha1, ha2, ha3⟩ := hhd j hj
      intro k hk3
      match k, hk3 with
      | 0, _ =>
        cases j with
        | zero => rfl
        | succ i =>
          simp only [ruleF, Nat.add_sub_cancel]
          rw [decide_eq_true (hrise i hj), Bool.or_true]
      | 1, _ => simp only [ruleF]; rw [ha2]; exact hch.work hal
      | 2, _ =>
        cases j with
        | zero => rfl
        | succ i =>
          obtain ⟨b, hbl, hb1, hb2, hb3⟩ := hhd i (by omega)
          obtain ⟨z, z1, z2, z3, e⟩ := step_more hch p hj ha1 hb1
          simp only [ruleF, Nat.add_sub_cancel]
          rw [hb2, hXg (i + 1) hj, e]
          have hvl := hch.vecLen (k := a) (by omega)
          have hroot := (hch.checkB hal).2
          have hh := hold_path ((vecA c.t l a).map (76 :: ·)) z (by rw [List.length_map]; exact z1) (by rw [List.length_map]; omega)
          have hg : ((vecA c.t l a).map (76 :: ·)).getD z [] = 76 :: idL (l.getD b bl0).h := by
            rw [← z3]; simp [z1]
          rw [hg] at hh
          rw [joinC]
          dsimp only
          rw [linkC, hroot, linkR, hh]
          simp; omega
    · have : kn ≤ tailLen X := by
        rw [tailLen, hXl]
        refine tailGo_ge X kn (ps.length - 1) (by omega) fun i h1 h2 => ?_
        obtain ⟨j, rfl⟩ : ∃ j, i = j + 1 := ⟨i - 1, by omega⟩
        have hj : j + 1 < ps.length := by omega
        obtain ⟨a, hal, ha1, ha2, ha3⟩ := hhd (j + 1) hj
        obtain ⟨b, hbl, hb1, hb2, hb3⟩ := hhd j (by omega)
        have ht1 := p.tail (j + 1) (by omega) hj
        have ht2 := p.tail j (by omega) (by omega)
        have hab : (a : Int) = b + 1 := by omega
        obtain ⟨z, z1, z2, z3, e⟩ := step_more hch p hj ha1 hb1
        have hz0 : z = 0 := by
          have := Mp.index_prev (levs c.t l) hch.levels b (by rw [levs_length]; omega)
          rw [← hab, z2] at this
          omega
        subst hz0
        rw [tailOk, Nat.add_sub_cancel, nextH, hb3, ha3, hXg (j + 1) hj, e, hab]
        rw [decide_eq_true (by omega : (b : Int) < b + 1), show (b : Int) + 1 - b = 1 by omega]
        rfl
      omega
  · intro i hi
    rw [hXl] at hi
    obtain ⟨a, hal, ha1, ha2, ha3⟩ := hhd i hi
    refine ⟨a, hal, ha2, ha3, fun h => ?_⟩
    rw [← ha1, hXl]
    exact p.tail i (by omega) hi
end Go.Proofs.YtmcapgjdflohfaaGreat.L

namespace Go.Proofs.YtmcapgjdflohfaaGreat.L
open Go Go.RowKit
set_option linter.unusedVariables false

def bz : Bl := ⟨⟨0, z8, z8, 0⟩, none, 0, []⟩
theorem steps_bz : stepsR z8 [bz] [0] = ([(bz.h, ox0)], 0) := by
  rw [stepsR, List.length_singleton, stepsGo, stepAt]
  simp [stepsGo, bz]
theorem prove_Cf0 : proveR Cf0 [] = ([], 6) := rfl
set_option maxRecDepth 20000 in
theorem awake48_ : Pure PP N_milepostlaw48_awake #[] (.bool true) := by
  refine enter0 f_milepostlaw48_awake rfl n_milepostlaw48_awake rfl fun w => ?_
  refine seq (region (det rfl (asg rfl) (nilS ?_)))   -- region 0
  refine seq (region (det rfl (Det.to (bldZ z_api_Config u_api_Config (fun w => run_placesS PP w (by kernel_rfl))) (v' := ag Cf0.c) (by kernel_rfl)) (callSt (L := []) (er := 6) k_prove_Prove (show _ = [ag Cf0.c, Value.slice none 0 0] from rfl) rfl (fun w hm => by
    have := prove_Prove_ Cf0 Cf0_ok (by simp [Cf.fit, Cf0, I64]) [] (fun b h => nomatch h) (by decide) none 0 (fun _ => False) w (fun _ h => h.elim) Sl.nil (fun b h => nomatch h)
    rw [prove_Cf0] at this; exact this) fun A cap S => det rfl (mv rfl) (det rfl (extr rfl rfl) (det rfl (extr rfl rfl) (det rfl (asg rfl) (det rfl (asg rfl) (nilS ?_))))))))   -- region 1
  refine seq (region (det rfl (bldA (cs := b8 z8) (ps := []) z_api_Hash u_api_Hash s_uint8 (by simp) (by simp [Instr.fill]; rfl)) (mksA (m := 1) u_sl_api_Block i_api_Block rfl (by decide) rfl rfl rfl rfl (by decide) (by decide) rfl fun b0 => bsl rfl (bs1 u_sl_int z_int s_int (cs := [.int .i64 0]) rfl rfl rfl (by decide) (by decide)) fun b1 => callSt (L := [(bz.h, ox0)]) (er := 0) k_prove_Steps (show _ = [ag (b8 z8), Value.slice (some ⟨b0, 0, none⟩) 1 1, .slice (some ⟨b1, 0, none⟩) 1 1] from rfl) rfl (fun w hm => by
    have h0 := hm.blk 1 rfl
    have h1 := hm.blk 0 rfl
    have s0 : Sl 67 (some ⟨b0, 0, none⟩) 1 1 (bl [bz]) (fun k => k = b0) w := blk_sl h0 (fun l hl => by rw [List.mem_singleton.1 hl]; exact ⟨rfl, rfl⟩) rfl (by decide)
    have s1 : Sl 1 (some ⟨b1, 0, none⟩) 1 1 (il [0]) (fun k => k = b1) w := blk_sl h1 (fun l hl => by rw [List.mem_singleton.1 hl]; exact ⟨rfl, rfl⟩) rfl (by decide)
    have := prove_Steps_ z8 rfl [bz] (fun b hb => by rw [List.mem_singleton.1 hb]; exact ⟨rfl, rfl⟩) (by decide) [0] (by decide) (some ⟨b0, 0, none⟩) (some ⟨b1, 0, none⟩) 1 1 (fun k => k = b0 ∨ k = b1) w (fun k hk => by rcases hk with rfl | rfl; exact lt_heap h0; exact lt_heap h1) (s0.mono fun k hk => .inl hk) (s1.mono fun k hk => .inr hk)
    rw [steps_bz] at this; exact this) fun B q T => det rfl (mv rfl) (det rfl (extr rfl rfl) (det rfl (extr rfl rfl) (det rfl (asg rfl) (det rfl (asg rfl) (nilS ?_))))))))   -- region 2
  refine seq (region (det rfl (mv rfl) (det rfl (eql rfl rfl) (det rfl (mv rfl) (guardT rfl rfl (det rfl (mv rfl) (guardT rfl rfl (det rfl (lenS u_sl_api_Step rfl) (guardT rfl rfl (det rfl (eql rfl rfl) (det rfl (pick (b := true) rfl rfl) (det rfl (mv rfl) (guardT rfl rfl (det rfl (mv rfl) (guardT rfl rfl (det rfl (eql rfl rfl) (det rfl (pick (b := true) rfl rfl) (det rfl (asg rfl) (nilS ?_)))))))))))))))))))   -- region 3
  exact ret (retT rfl rfl pr)

theorem eqFlt (x y : Int × Int) (w : World) : (Op.equalIn 10000 T_api_Fault (ag (fltC x)) (ag (fltC y))).run PP w = .ok (decide (x.1 = y.1) && (decide (x.2 = y.2) && true)) w :=
  eqStruct (d := 9999) (xs := (fltC x).toArray) (ys := (fltC y).toArray) u_api_Fault (by kernel_rfl) (eqF (d := 9999) rfl (run_part1 o_api_Errno (v := .int .i64 x.1) rfl w) (run_part1 o_api_Errno (v := .int .i64 y.1) rfl w) (eqInt u_api_Errno)
    (eqF rfl (run_part1 o_int (v := .int .i64 x.2) rfl w) (run_part1 o_int (v := .int .i64 y.2) rfl w) (eqInt u_int) eqF0))

set_option maxRecDepth 20000 in
set_option maxHeartbeats 3200000 in
theorem proveValid_ (c : Cf) (hc : c.ok) (hfit : c.fit) (l : List Bl) (hl1 : ∀ b ∈ l, b.h.ok) (hl2 : ∀ b ∈ l, ∀ x ∈ b.t, x.length ≤ 140737488355328) (A : Option Addr) (cap : Nat) (D : Nat → Prop) (w : World) (hD : ∀ k, D k → k < w.heap.size) (hs : Sl 67 A l.length cap (bl l) D w) (ht : Txs l D w) :
    Calls PP N_milepostlaw48_ProveValid #[ag c.c, .slice A l.length cap] w (PR w (.bool true)) := by
  have hgF : PP.eqGuardType PP.depth T_api_Fault = false := by kernel_rfl
  have hgH : PP.eqGuardType PP.depth T_api_Header = false := by kernel_rfl
  refine enter f_milepostlaw48_ProveValid rfl n_milepostlaw48_ProveValid rfl (M.init PP w D [] [Sl 67 A l.length cap (bl l), Txs l] ⟨Sl.stable, Txs.stable, trivial⟩ hD ⟨hs, ht, trivial⟩) ?_
  obtain ⟨mu, hmu⟩ : ∃ mu, much24 l = mu := ⟨_, rfl⟩
  obtain ⟨P, hP⟩ : ∃ P, mayP c.m c.k c.a c.b = P := ⟨_, rfl⟩
  obtain ⟨E, hE⟩ : ∃ E, chkF c l = E := ⟨_, rfl⟩
  have lb : mu = false → l.length ≤ 24 ∧ ∀ b ∈ l, Bok b := fun h => ⟨(much24_false (hmu.trans h)).1, Bok_of_much (hmu.trans h) hl1⟩
  refine seq (region (box rfl rfl rfl fun b0 => det rfl (asg rfl) (nilS ?_)))   -- region 0
  refine seq ?_
  refine seq (region (det rfl (mv rfl) (call (v := .bool mu) k_milepostlaw24_Much rfl rfl (fun w hm => by
    obtain ⟨D, d1, d2, hD, d4, d5⟩ := hm.data
    exact hmu ▸ much24_ l hl1 hl2 A cap D w hD d5.1 d5.2.1) (det rfl (mv rfl) (guardI rfl rfl rfl (fun hb => mv rfl) (guardI rfl rfl rfl (fun hb => lenS u_sl_api_Block (bift hb rfl)) (guardI rfl rfl rfl (fun hb => fadr rfl u_api_Config rfl s_int) (guardI rfl rfl rfl (fun hb => ldB 0 (v := .int .i64 c.k) (bift hb rfl) rfl o_int (Cf.at_k hc)) (guardI rfl rfl rfl (fun hb => leq (bift hb rfl) (bift hb rfl)) (det rfl (pick rfl (pickO rfl)) (det rfl (mv rfl) (guardI rfl rfl rfl (fun hb => fadr rfl u_api_Config rfl s_int) (guardI rfl rfl rfl (fun hb => ldB 0 (v := .int .i64 c.m) (bift hb rfl) rfl o_int (Cf.at_m hc)) (guardI rfl rfl rfl (fun hb => fadr rfl u_api_Config rfl s_int) (guardI rfl rfl rfl (fun hb => ldB 0 (v := .int .i64 c.k) (bift hb rfl) rfl o_int (Cf.at_k hc)) (guardI rfl rfl rfl (fun hb => fadr rfl u_api_Config rfl s_int) (guardI rfl rfl rfl (fun hb => ldB 0 (v := .int .i64 c.a) (bift hb rfl) rfl o_int (Cf.at_a hc)) (guardI rfl rfl rfl (fun hb => fadr rfl u_api_Config rfl s_int) (guardI rfl rfl rfl (fun hb => ldB 0 (v := .int .i64 c.b) (bift hb rfl) rfl o_int (Cf.at_b hc)) ((guardC (v := .bool P) rfl rfl k_pick_May (fun hb => lc (bift hb rfl) (lc (bift hb rfl) (lc (bift hb rfl) (lc (bift hb rfl) rfl)))) rfl (fun hb w _ => hP ▸ pick_May_ c.m c.k c.a c.b w) (guardI rfl rfl rfl (fun hb => notB (bift hb rfl)) (det rfl (pick rfl (pickO rfl)) (det rfl (mv rfl) (guardI rfl rfl rfl (fun hb => ldAll 0 rfl rfl g_api_Config (Cf.c_length hc)) (guardI rfl rfl rfl (fun hb => mv rfl) ((guardC (v := ag (fltC E)) rfl rfl k_chain_Check (fun hb => lc (bift hb rfl) (lc (bift hb rfl) rfl)) rfl (fun hb w hm => by
    obtain ⟨D, d1, d2, hD, d4, d5⟩ := hm.data
    have hmf : mu = false := by simp only [Bool.or_eq_false_iff] at hb; exact hb.1.1
    have := chain_Check_ c hc l (lb hmf).2 (by have := (lb hmf).1; omega) A cap D w hD d5.1 d5.2.1
    rw [hE] at this; exact this) (guardI rfl rfl rfl (fun hb => fldO (bift hb rfl) u_api_Fault rfl o_api_Errno rfl) (guardI rfl rfl rfl (fun hb => neq (bift hb rfl) rfl) (det rfl (pick rfl (pickO rfl)) (nilS ?_))))))))))))))))))))))))))))))))   -- region 1
  refine cond rfl (fun h => ?_) (fun h => ?_)   -- on t36
  · refine seq (region (call k_milepostlaw48_awake rfl rfl (fun w _ => awake48_ w) (det rfl (asg rfl) (nilS ?_))))   -- region 2
    exact ret (retT rfl rfl pr)
  · obtain ⟨h1, h2, h3, h4⟩ := guard4 h
    obtain ⟨hl24, hlb⟩ := lb h1
    refine forget [(1, .slice A l.length cap), (2, .pointer (some ⟨b0, 0, none⟩))] ⟨rfl, rfl, trivial⟩ fun σ => ?_
    have hch : Chn c l := chk_chn (by rw [hE]; exact h4)
    subst h3
    obtain ⟨X, hpX, hX⟩ := prove_prf hch (by rw [hE]; exact h4) hP h2
    refine skipS ?_
    refine seq (region (det rfl (ldAll 0 rfl rfl g_api_Config (Cf.c_length hc)) (det rfl (mv rfl) (callSt (L := X) (er := 0) k_prove_Prove (show _ = [ag c.c, Value.slice A l.length cap] from rfl) rfl (fun w hm => by
      obtain ⟨D, d1, d2, hD, d4, d5⟩ := hm.data
      have := prove_Prove_ c hc hfit l hlb (by omega) A cap D w hD d5.1 d5.2.1
      rw [hpX] at this; exact this) fun B q Sx => (det rfl (mv rfl) (det rfl (extr rfl rfl) (det rfl (extr rfl rfl) (det rfl (asg rfl) (det rfl (asg rfl) (nilS ?_))))))))))   -- region 3
    obtain ⟨S, hSX⟩ := Sx
    have hSl : X.length = S.length := by rw [← hSX, List.length_map]
    have hXg : ∀ i (h : i < S.length), X.getD i sx0 = (S[i]).x := fun i h => by rw [← hSX]; exact getSX h
    have hSok : ∀ s ∈ S, s.h.ok := by
      intro s hs
      obtain ⟨i, hi, rfl⟩ := List.getElem_of_mem hs
      obtain ⟨a, hal, ha, _⟩ := hX.head i (by omega)
      rw [hXg i hi] at ha
      rw [show (S[i]).h = (S[i]).x.1 from rfl, ha, getB hal]
      exact hl1 _ (List.getElem_mem hal)
    have hk1 := hX.k0
    have hmore := hX.more
    have hle := hX.le
    refine forget [(1, .slice A l.length cap), (2, .pointer (some ⟨b0, 0, none⟩)), (5, .slice B S.length q), (6, .int .i64 0)] ⟨rfl, rfl, congrArg (fun n => Value.slice B n q) hSl, rfl, trivial⟩ fun σ => ?_
    refine refactT (K' := [Sl 69 B S.length q (stl S), Ops S, Sl 67 A l.length cap (bl l)]) ⟨Sl.stable, Ops.stable, Sl.stable, trivial⟩ (fun D w h => ⟨hSl ▸ (StS.mono h.1 fun k hk => hk.1).1, (StS.mono h.1 fun k hk => hk.1).2, h.2.1, trivial⟩) ?_
    refine seq ?_
    refine seq (region (det rfl (mv rfl) (det rfl (Det.to (v' := .bool false) (neq rfl rfl) rfl) (det rfl (mv rfl) (guardT rfl rfl (det rfl (ldAll 0 rfl rfl g_api_Config (Cf.c_length hc)) (guardT rfl rfl (det rfl (mv rfl) (guardT rfl rfl (call (v := ag (fltC (0, 0))) k_valid_Check (show _ = [ag c.c, Value.slice B S.length q] from rfl) rfl (fun w hm => by
      obtain ⟨D, d1, d2, hD, d4, d5⟩ := hm.data
      have := valid_Check_ c hc S hSok B q D w hD ⟨d5.1, d5.2.1⟩
      rw [hSX, hX.valid] at this; exact this) (guardT rfl rfl (det rfl (bldZ z_api_Fault u_api_Fault (fun w => run_placesS PP w (by kernel_rfl))) (guardT rfl rfl (det rfl (Det.to (v' := .bool false) (neqA rfl rfl hgF (eqFlt (0, 0) (0, 0))) rfl) (det rfl (pick (b := false) rfl rfl) (det rfl (mv rfl) (guardT rfl rfl (det rfl (mv rfl) (guardT rfl rfl (det rfl (lenS u_sl_api_Step rfl) (guardT rfl rfl (det rfl (fadr rfl u_api_Config rfl s_int) (guardT rfl rfl (det rfl (ldB 0 (v := .int .i64 c.k) rfl rfl o_int (Cf.at_k hc)) (guardT rfl rfl (det rfl (Det.to (v' := .bool false) (leq rfl rfl) (vb (decide_eq_false (by omega)))) (det rfl (pick (b := false) rfl rfl) (det rfl (mv rfl) (guardT rfl rfl (det rfl (mv rfl) (guardT rfl rfl (det rfl (lenS u_sl_api_Step rfl) (guardT rfl rfl (det rfl (mv rfl) (guardT rfl rfl (det rfl (lenS u_sl_api_Block rfl) (guardT rfl rfl (det rfl (Det.to (v' := .bool false) (gtr rfl rfl) (vb (decide_eq_false (by omega)))) (det rfl (pick (b := false) rfl rfl) (nilS ?_))))))))))))))))))))))))))))))))))))))))   -- region 4
    refine condF rfl ?_
    refine skipS ?_
    refine seq ?_
    refine seq (region (det rfl (asg rfl) (nilS ?_)))   -- region 6
    refine block ?_   -- block 0
    refine loopV (ι := Nat) (fun i => i ≤ S.length) (fun i => [(1, .slice A l.length cap), (2, .pointer (some ⟨b0, 0, none⟩)), (5, .slice B S.length q), (7, .int .i64 i)]) (fun _ => [.blk b0 (ob c.c T_api_Config)]) (fun _ => [Sl 69 B S.length q (stl S), Ops S, Sl 67 A l.length cap (bl l)]) (fun i => S.length - i) 0 (Nat.zero_le _) ⟨rfl, rfl, rfl, rfl, trivial⟩ (fun w hm => hm) ?_
    intro i σ hi0
    refine seq ?_
    refine seq (region (det rfl (mv rfl) (det rfl (mv rfl) (det rfl (lenS u_sl_api_Step rfl) (det rfl (lss rfl rfl) (nilS ?_))))))   -- region 7
    refine cond rfl (fun h => ?_) (fun h => ?_)   -- on t70
    rotate_left
    · have h := of_decide_eq_false h
      refine exit ?_   -- 0
      show Tr _ _ _ _ _ _ _
      refine seq (region (call k_milepostlaw48_awake rfl rfl (fun w _ => awake48_ w) (det rfl (asg rfl) (nilS ?_))))   -- region 12
      exact ret (retT rfl rfl pr)
    have h := of_decide_eq_true h
    have hi : i < S.length := by omega
    obtain ⟨a, hal, ha1, ha2, ha3⟩ := hX.head i (by omega)
    rw [hXg i hi] at ha1 ha2
    have hxl0 : (l[a]).h = (S[i]).h := by rw [← getB hal, ← ha1]; rfl
    obtain ⟨x, hx⟩ : ∃ x, (S[i]).h = x := ⟨_, rfl⟩
    have hxl : (l[a]).h = x := by rw [hxl0, hx]
    have hxok : x.ok := by rw [← hx]; exact hSok _ (List.getElem_mem hi)
    have hxa : x.h = (a : Int) := by rw [← hx]; exact ha2
    have hta : (S.length : Int) - c.k ≤ i → (a : Int) = l.length - S.length + i := by rw [hSl] at ha3; exact ha3
    refine skipS ?_
    refine seq ?_
    refine block ?_   -- block 1
    refine seq (region (det rfl (mv rfl) (det rfl (mv rfl) (det rfl (ixS 0 rfl rfl u_sl_api_Step s_api_Step rfl (by omega) (by omega)) (det rfl (fadrS 0 rfl u_api_Step rfl s_api_Header rfl (by omega)) (det rfl (ldSP 0 (i := i) (o := 0) (r := x.c) rfl rfl g_api_Header (stl_at rfl hi) (by rw [← hx]; exact St.at_h (by rw [hx]; exact hxok)) (Hd.c_length hxok)) (alloc z_api_Header rfl rfl fun b1 => stoA 0 (rs := x.c) rfl rfl rfl s_api_Header (Hd.c_length hxok) (Hd.c_one x) rfl (nilS ?_))))))))   -- region 9
    by_cases hip : 0 < i
    · have hup : decide ((S[i - 1]).h.h < x.h) = true := by
        have := hX.rise (i - 1) (by omega)
        rw [show i - 1 + 1 = i by omega, hXg i hi, hXg (i - 1) (by omega)] at this
        have this : (S[i - 1]).h.h < (S[i]).h.h := this
        rw [hx] at this
        exact decide_eq_true this
      have hpok : (S[i - 1]).h.ok := hSok _ (List.getElem_mem _)
      by_cases htl : (S.length : Int) - c.k ≤ i
      · have htl2 := hta htl
        refine seq (drawI 53 [27] mix (by kernel_rfl) (by kernel_rfl) ?_)   -- drawn 10
        refine nI rfl rfl rfl (fadr rfl u_api_Header rfl s_uint32) ?_
        refine nI rfl rfl rfl (ldB 0 (v := .int .u32 (a : Int)) rfl rfl o_uint32 (by rw [← hxa]; rfl)) ?_
        refine nI rfl rfl rfl (Det.to (v' := .int .i64 (a : Int)) (conv u_uint32 u_int rfl) (vi (i64_in (by omega) (by omega)))) ?_
        refine nI rfl rfl rfl (mv rfl) ?_
        refine nI rfl rfl rfl (lenS u_sl_api_Block rfl) ?_
        refine nI rfl rfl rfl (Det.to (v' := .bool false) (geq rfl rfl) (vb (decide_eq_false (by omega)))) ?_
        refine nI rfl rfl rfl (mv rfl) ?_
        refine gI rfl rfl rfl rfl rfl (mv rfl) ?_
        refine gI rfl rfl rfl rfl rfl (fadr rfl u_api_Header rfl s_uint32) ?_
        refine gI rfl rfl rfl rfl rfl (ldB 0 (v := .int .u32 (a : Int)) rfl rfl o_uint32 (by rw [← hxa]; rfl)) ?_
        refine gI rfl rfl rfl rfl rfl (ixS 2 rfl rfl u_sl_api_Block s_api_Block rfl (by omega) (by omega)) ?_
        refine gI rfl rfl rfl rfl rfl (fadrS 2 rfl u_api_Block rfl s_api_Header rfl (by omega)) ?_
        refine gI rfl rfl rfl rfl rfl (ldSP 2 (i := a) (o := 0) (r := x.c) rfl rfl g_api_Header (bl_at rfl hal) (by rw [← hxl]; exact Bl.at_h (by rw [hxl]; exact hxok)) (Hd.c_length hxok)) ?_
        refine gI rfl rfl rfl rfl rfl (ldAll 0 rfl rfl g_api_Header (Hd.c_length hxok)) ?_
        refine gI rfl rfl rfl rfl rfl (Det.to (v' := .bool false) (neqA rfl rfl hgH (eqHd x x hxok hxok)) (by simp)) ?_
        refine nI rfl rfl rfl (pick (b := false) rfl rfl) ?_
        refine nI rfl rfl rfl (mv rfl) ?_
        refine gI rfl rfl rfl rfl rfl (mv rfl) ?_
        refine gI rfl rfl rfl rfl rfl (Det.to (v' := .bool true) (gtr rfl rfl) (vb (decide_eq_true (by omega)))) ?_
        refine gI rfl rfl rfl rfl rfl (mv rfl) ?_
        refine gI rfl rfl rfl rfl rfl (ldAll 0 rfl rfl g_api_Header (Hd.c_length hxok)) ?_
        refine gI rfl rfl rfl rfl rfl (mv rfl) ?_
        refine gI rfl rfl rfl rfl rfl (mv rfl) ?_
        refine gI rfl rfl rfl rfl rfl (Det.to (v' := .int .i64 ((i - 1 : Nat) : Int)) (subI rfl rfl (by omega) (by omega)) (vi (by omega))) ?_
        refine gI rfl rfl rfl rfl rfl (ixS 0 rfl rfl u_sl_api_Step s_api_Step rfl (by omega) (by omega)) ?_
        refine gI rfl rfl rfl rfl rfl (fadrS 0 rfl u_api_Step rfl s_api_Header rfl (by omega)) ?_
        refine gI rfl rfl rfl rfl rfl (ldSP 0 (i := i - 1) (o := 0) (r := (S[i - 1]).h.c) rfl rfl g_api_Header (stl_at rfl (by omega)) (St.at_h hpok) (Hd.c_length hpok)) ?_
        refine pgI (v := .bool true) rfl rfl rfl rfl k_rise_Above (show _ = [ag x.c, ag (S[i - 1]).h.c] from rfl) rfl (fun w _ => hup ▸ rise_Above_ x (S[i - 1]).h w) ?_
        refine gI rfl rfl rfl rfl rfl (Det.to (v' := .bool false) (notB rfl) rfl) ?_
        refine gI rfl rfl rfl rfl rfl (pick (b := true) rfl rfl) ?_
        refine nI rfl rfl rfl (pick (b := false) rfl rfl) ?_
        refine nI rfl rfl rfl (mv rfl) ?_
        refine gI rfl rfl rfl rfl rfl (mv rfl) ?_
        refine gI rfl rfl rfl rfl rfl (mv rfl) ?_
        refine gI rfl rfl rfl rfl rfl (lenS u_sl_api_Step rfl) ?_
        refine gI rfl rfl rfl rfl rfl (fadr rfl u_api_Config rfl s_int) ?_
        refine gI rfl rfl rfl rfl rfl (ldB 1 (v := .int .i64 c.k) rfl rfl o_int (Cf.at_k hc)) ?_
        refine gI rfl rfl rfl rfl rfl (subI rfl rfl (by omega) (by omega)) ?_
        refine gI rfl rfl rfl rfl rfl (Det.to (v' := .bool true) (geq rfl rfl) (vb (decide_eq_true (by omega)))) ?_
        refine gI rfl rfl rfl rfl rfl (mv rfl) ?_
        refine gI rfl rfl rfl rfl rfl (fadr rfl u_api_Header rfl s_uint32) ?_
        refine gI rfl rfl rfl rfl rfl (ldB 0 (v := .int .u32 (a : Int)) rfl rfl o_uint32 (by rw [← hxa]; rfl)) ?_
        refine gI rfl rfl rfl rfl rfl (Det.to (v' := .int .i64 (a : Int)) (conv u_uint32 u_int rfl) (vi (i64_in (by omega) (by omega)))) ?_
        refine gI rfl rfl rfl rfl rfl (mv rfl) ?_
        refine gI rfl rfl rfl rfl rfl (lenS u_sl_api_Block rfl) ?_
        refine gI rfl rfl rfl rfl rfl (mv rfl) ?_
        refine gI rfl rfl rfl rfl rfl (lenS u_sl_api_Step rfl) ?_
        refine gI rfl rfl rfl rfl rfl (subI rfl rfl (by omega) (by omega)) ?_
        refine gI rfl rfl rfl rfl rfl (mv rfl) ?_
        refine gI rfl rfl rfl rfl rfl (addI rfl rfl (by omega) (by omega)) ?_
        refine gI rfl rfl rfl rfl rfl (Det.to (v' := .bool false) (neq rfl rfl) (by rw [decide_eq_true (by omega)]; rfl)) ?_
        refine gI rfl rfl rfl rfl rfl (pick (b := true) rfl rfl) ?_
        refine nI rfl rfl rfl (pick (b := false) rfl rfl) ?_
        refine endI rfl (nilS ?_)
        refine condF rfl ?_
        refine skip ?_
        show Tr _ _ _ _ _ _ _
        refine region (det rfl (mv rfl) (det rfl (addI rfl rfl (by omega) (by omega)) (det rfl (asg rfl) (nil ?_))))   -- region 8
        exact again (i + 1) (by (first | omega | (dsimp only; omega))) ⟨rfl, rfl, rfl, rfl, trivial⟩ (fun w hm => drop1 hm) (by (first | omega | (dsimp only; omega)))
      · skip
        refine seq (drawI 53 [27] mix (by kernel_rfl) (by kernel_rfl) ?_)   -- drawn 10
        refine nI rfl rfl rfl (fadr rfl u_api_Header rfl s_uint32) ?_
        refine nI rfl rfl rfl (ldB 0 (v := .int .u32 (a : Int)) rfl rfl o_uint32 (by rw [← hxa]; rfl)) ?_
        refine nI rfl rfl rfl (Det.to (v' := .int .i64 (a : Int)) (conv u_uint32 u_int rfl) (vi (i64_in (by omega) (by omega)))) ?_
        refine nI rfl rfl rfl (mv rfl) ?_
        refine nI rfl rfl rfl (lenS u_sl_api_Block rfl) ?_
        refine nI rfl rfl rfl (Det.to (v' := .bool false) (geq rfl rfl) (vb (decide_eq_false (by omega)))) ?_
        refine nI rfl rfl rfl (mv rfl) ?_
        refine gI rfl rfl rfl rfl rfl (mv rfl) ?_
        refine gI rfl rfl rfl rfl rfl (fadr rfl u_api_Header rfl s_uint32) ?_
        refine gI rfl rfl rfl rfl rfl (ldB 0 (v := .int .u32 (a : Int)) rfl rfl o_uint32 (by rw [← hxa]; rfl)) ?_
        refine gI rfl rfl rfl rfl rfl (ixS 2 rfl rfl u_sl_api_Block s_api_Block rfl (by omega) (by omega)) ?_
        refine gI rfl rfl rfl rfl rfl (fadrS 2 rfl u_api_Block rfl s_api_Header rfl (by omega)) ?_
        refine gI rfl rfl rfl rfl rfl (ldSP 2 (i := a) (o := 0) (r := x.c) rfl rfl g_api_Header (bl_at rfl hal) (by rw [← hxl]; exact Bl.at_h (by rw [hxl]; exact hxok)) (Hd.c_length hxok)) ?_
        refine gI rfl rfl rfl rfl rfl (ldAll 0 rfl rfl g_api_Header (Hd.c_length hxok)) ?_
        refine gI rfl rfl rfl rfl rfl (Det.to (v' := .bool false) (neqA rfl rfl hgH (eqHd x x hxok hxok)) (by simp)) ?_
        refine nI rfl rfl rfl (pick (b := false) rfl rfl) ?_
        refine nI rfl rfl rfl (mv rfl) ?_
        refine gI rfl rfl rfl rfl rfl (mv rfl) ?_
        refine gI rfl rfl rfl rfl rfl (Det.to (v' := .bool true) (gtr rfl rfl) (vb (decide_eq_true (by omega)))) ?_
        refine gI rfl rfl rfl rfl rfl (mv rfl) ?_
        refine gI rfl rfl rfl rfl rfl (ldAll 0 rfl rfl g_api_Header (Hd.c_length hxok)) ?_
        refine gI rfl rfl rfl rfl rfl (mv rfl) ?_
        refine gI rfl rfl rfl rfl rfl (mv rfl) ?_
        refine gI rfl rfl rfl rfl rfl (Det.to (v' := .int .i64 ((i - 1 : Nat) : Int)) (subI rfl rfl (by omega) (by omega)) (vi (by omega))) ?_
        refine gI rfl rfl rfl rfl rfl (ixS 0 rfl rfl u_sl_api_Step s_api_Step rfl (by omega) (by omega)) ?_
        refine gI rfl rfl rfl rfl rfl (fadrS 0 rfl u_api_Step rfl s_api_Header rfl (by omega)) ?_
        refine gI rfl rfl rfl rfl rfl (ldSP 0 (i := i - 1) (o := 0) (r := (S[i - 1]).h.c) rfl rfl g_api_Header (stl_at rfl (by omega)) (St.at_h hpok) (Hd.c_length hpok)) ?_
        refine pgI (v := .bool true) rfl rfl rfl rfl k_rise_Above (show _ = [ag x.c, ag (S[i - 1]).h.c] from rfl) rfl (fun w _ => hup ▸ rise_Above_ x (S[i - 1]).h w) ?_
        refine gI rfl rfl rfl rfl rfl (Det.to (v' := .bool false) (notB rfl) rfl) ?_
        refine gI rfl rfl rfl rfl rfl (pick (b := true) rfl rfl) ?_
        refine nI rfl rfl rfl (pick (b := false) rfl rfl) ?_
        refine nI rfl rfl rfl (mv rfl) ?_
        refine gI rfl rfl rfl rfl rfl (mv rfl) ?_
        refine gI rfl rfl rfl rfl rfl (mv rfl) ?_
        refine gI rfl rfl rfl rfl rfl (lenS u_sl_api_Step rfl) ?_
        refine gI rfl rfl rfl rfl rfl (fadr rfl u_api_Config rfl s_int) ?_
        refine gI rfl rfl rfl rfl rfl (ldB 1 (v := .int .i64 c.k) rfl rfl o_int (Cf.at_k hc)) ?_
        refine gI rfl rfl rfl rfl rfl (subI rfl rfl (by omega) (by omega)) ?_
        refine gI rfl rfl rfl rfl rfl (Det.to (v' := .bool false) (geq rfl rfl) (vb (decide_eq_false (by omega)))) ?_
        refine gI rfl rfl rfl rfl rfl (mv rfl) ?_
        refine uI rfl rfl rfl (.inl rfl) rfl ?_
        refine uI rfl rfl rfl (.inl rfl) rfl ?_
        refine uI rfl rfl rfl (.inl rfl) rfl ?_
        refine uI rfl rfl rfl (.inl rfl) rfl ?_
        refine uI rfl rfl rfl (.inl rfl) rfl ?_
        refine uI rfl rfl rfl (.inl rfl) rfl ?_
        refine uI rfl rfl rfl (.inl rfl) rfl ?_
        refine uI rfl rfl rfl (.inl rfl) rfl ?_
        refine uI rfl rfl rfl (.inl rfl) rfl ?_
        refine uI rfl rfl rfl (.inl rfl) rfl ?_
        refine uI rfl rfl rfl (.inl rfl) rfl ?_
        refine gI rfl rfl rfl rfl rfl (pick (b := false) rfl rfl) ?_
        refine nI rfl rfl rfl (pick (b := false) rfl rfl) ?_
        refine endI rfl (nilS ?_)
        refine condF rfl ?_
        refine skip ?_
        show Tr _ _ _ _ _ _ _
        refine region (det rfl (mv rfl) (det rfl (addI rfl rfl (by omega) (by omega)) (det rfl (asg rfl) (nil ?_))))   -- region 8
        exact again (i + 1) (by (first | omega | (dsimp only; omega))) ⟨rfl, rfl, rfl, rfl, trivial⟩ (fun w hm => drop1 hm) (by (first | omega | (dsimp only; omega)))
    · by_cases htl : (S.length : Int) - c.k ≤ i
      · have htl2 := hta htl
        refine seq (drawI 53 [] mix (by kernel_rfl) (by kernel_rfl) ?_)   -- drawn 10
        refine nI rfl rfl rfl (fadr rfl u_api_Header rfl s_uint32) ?_
        refine nI rfl rfl rfl (ldB 0 (v := .int .u32 (a : Int)) rfl rfl o_uint32 (by rw [← hxa]; rfl)) ?_
        refine nI rfl rfl rfl (Det.to (v' := .int .i64 (a : Int)) (conv u_uint32 u_int rfl) (vi (i64_in (by omega) (by omega)))) ?_
        refine nI rfl rfl rfl (mv rfl) ?_
        refine nI rfl rfl rfl (lenS u_sl_api_Block rfl) ?_
        refine nI rfl rfl rfl (Det.to (v' := .bool false) (geq rfl rfl) (vb (decide_eq_false (by omega)))) ?_
        refine nI rfl rfl rfl (mv rfl) ?_
        refine gI rfl rfl rfl rfl rfl (mv rfl) ?_
        refine gI rfl rfl rfl rfl rfl (fadr rfl u_api_Header rfl s_uint32) ?_
        refine gI rfl rfl rfl rfl rfl (ldB 0 (v := .int .u32 (a : Int)) rfl rfl o_uint32 (by rw [← hxa]; rfl)) ?_
        refine gI rfl rfl rfl rfl rfl (ixS 2 rfl rfl u_sl_api_Block s_api_Block rfl (by omega) (by omega)) ?_
        refine gI rfl rfl rfl rfl rfl (fadrS 2 rfl u_api_Block rfl s_api_Header rfl (by omega)) ?_
        refine gI rfl rfl rfl rfl rfl (ldSP 2 (i := a) (o := 0) (r := x.c) rfl rfl g_api_Header (bl_at rfl hal) (by rw [← hxl]; exact Bl.at_h (by rw [hxl]; exact hxok)) (Hd.c_length hxok)) ?_
        refine gI rfl rfl rfl rfl rfl (ldAll 0 rfl rfl g_api_Header (Hd.c_length hxok)) ?_
        refine gI rfl rfl rfl rfl rfl (Det.to (v' := .bool false) (neqA rfl rfl hgH (eqHd x x hxok hxok)) (by simp)) ?_
        refine nI rfl rfl rfl (pick (b := false) rfl rfl) ?_
        refine nI rfl rfl rfl (mv rfl) ?_
        refine gI rfl rfl rfl rfl rfl (mv rfl) ?_
        refine gI rfl rfl rfl rfl rfl (Det.to (v' := .bool false) (gtr rfl rfl) (vb (decide_eq_false (by omega)))) ?_
        refine gI rfl rfl rfl rfl rfl (mv rfl) ?_
        refine uI rfl rfl rfl (.inl rfl) rfl ?_
        refine uI rfl rfl rfl (.inl rfl) rfl ?_
        refine uI rfl rfl rfl (.inl rfl) rfl ?_
        refine uI rfl rfl rfl (.inl rfl) rfl ?_
        refine uI rfl rfl rfl (.inl rfl) rfl ?_
        refine uI rfl rfl rfl (.inl rfl) rfl ?_
        refine uI rfl rfl rfl (.inl rfl) rfl ?_
        refine uI rfl rfl rfl (.inl rfl) rfl ?_
        refine uI rfl rfl rfl (.inl rfl) rfl ?_
        refine gI rfl rfl rfl rfl rfl (pick (b := false) rfl rfl) ?_
        refine nI rfl rfl rfl (pick (b := false) rfl rfl) ?_
        refine nI rfl rfl rfl (mv rfl) ?_
        refine gI rfl rfl rfl rfl rfl (mv rfl) ?_
        refine gI rfl rfl rfl rfl rfl (mv rfl) ?_
        refine gI rfl rfl rfl rfl rfl (lenS u_sl_api_Step rfl) ?_
        refine gI rfl rfl rfl rfl rfl (fadr rfl u_api_Config rfl s_int) ?_
        refine gI rfl rfl rfl rfl rfl (ldB 1 (v := .int .i64 c.k) rfl rfl o_int (Cf.at_k hc)) ?_
        refine gI rfl rfl rfl rfl rfl (subI rfl rfl (by omega) (by omega)) ?_
        refine gI rfl rfl rfl rfl rfl (Det.to (v' := .bool true) (geq rfl rfl) (vb (decide_eq_true (by omega)))) ?_
        refine gI rfl rfl rfl rfl rfl (mv rfl) ?_
        refine gI rfl rfl rfl rfl rfl (fadr rfl u_api_Header rfl s_uint32) ?_
        refine gI rfl rfl rfl rfl rfl (ldB 0 (v := .int .u32 (a : Int)) rfl rfl o_uint32 (by rw [← hxa]; rfl)) ?_
        refine gI rfl rfl rfl rfl rfl (Det.to (v' := .int .i64 (a : Int)) (conv u_uint32 u_int rfl) (vi (i64_in (by omega) (by omega)))) ?_
        refine gI rfl rfl rfl rfl rfl (mv rfl) ?_
        refine gI rfl rfl rfl rfl rfl (lenS u_sl_api_Block rfl) ?_
        refine gI rfl rfl rfl rfl rfl (mv rfl) ?_
        refine gI rfl rfl rfl rfl rfl (lenS u_sl_api_Step rfl) ?_
        refine gI rfl rfl rfl rfl rfl (subI rfl rfl (by omega) (by omega)) ?_
        refine gI rfl rfl rfl rfl rfl (mv rfl) ?_
        refine gI rfl rfl rfl rfl rfl (addI rfl rfl (by omega) (by omega)) ?_
        refine gI rfl rfl rfl rfl rfl (Det.to (v' := .bool false) (neq rfl rfl) (by rw [decide_eq_true (by omega)]; rfl)) ?_
        refine gI rfl rfl rfl rfl rfl (pick (b := true) rfl rfl) ?_
        refine nI rfl rfl rfl (pick (b := false) rfl rfl) ?_
        refine endI rfl (nilS ?_)
        refine condF rfl ?_
        refine skip ?_
        show Tr _ _ _ _ _ _ _
        refine region (det rfl (mv rfl) (det rfl (addI rfl rfl (by omega) (by omega)) (det rfl (asg rfl) (nil ?_))))   -- region 8
        exact again (i + 1) (by (first | omega | (dsimp only; omega))) ⟨rfl, rfl, rfl, rfl, trivial⟩ (fun w hm => drop1 hm) (by (first | omega | (dsimp only; omega)))
      · skip
        refine seq (drawI 53 [] mix (by kernel_rfl) (by kernel_rfl) ?_)   -- drawn 10
        refine nI rfl rfl rfl (fadr rfl u_api_Header rfl s_uint32) ?_
        refine nI rfl rfl rfl (ldB 0 (v := .int .u32 (a : Int)) rfl rfl o_uint32 (by rw [← hxa]; rfl)) ?_
        refine nI rfl rfl rfl (Det.to (v' := .int .i64 (a : Int)) (conv u_uint32 u_int rfl) (vi (i64_in (by omega) (by omega)))) ?_
        refine nI rfl rfl rfl (mv rfl) ?_
        refine nI rfl rfl rfl (lenS u_sl_api_Block rfl) ?_
        refine nI rfl rfl rfl (Det.to (v' := .bool false) (geq rfl rfl) (vb (decide_eq_false (by omega)))) ?_
        refine nI rfl rfl rfl (mv rfl) ?_
        refine gI rfl rfl rfl rfl rfl (mv rfl) ?_
        refine gI rfl rfl rfl rfl rfl (fadr rfl u_api_Header rfl s_uint32) ?_
        refine gI rfl rfl rfl rfl rfl (ldB 0 (v := .int .u32 (a : Int)) rfl rfl o_uint32 (by rw [← hxa]; rfl)) ?_
        refine gI rfl rfl rfl rfl rfl (ixS 2 rfl rfl u_sl_api_Block s_api_Block rfl (by omega) (by omega)) ?_
        refine gI rfl rfl rfl rfl rfl (fadrS 2 rfl u_api_Block rfl s_api_Header rfl (by omega)) ?_
        refine gI rfl rfl rfl rfl rfl (ldSP 2 (i := a) (o := 0) (r := x.c) rfl rfl g_api_Header (bl_at rfl hal) (by rw [← hxl]; exact Bl.at_h (by rw [hxl]; exact hxok)) (Hd.c_length hxok)) ?_
        refine gI rfl rfl rfl rfl rfl (ldAll 0 rfl rfl g_api_Header (Hd.c_length hxok)) ?_
        refine gI rfl rfl rfl rfl rfl (Det.to (v' := .bool false) (neqA rfl rfl hgH (eqHd x x hxok hxok)) (by simp)) ?_
        refine nI rfl rfl rfl (pick (b := false) rfl rfl) ?_
        refine nI rfl rfl rfl (mv rfl) ?_
        refine gI rfl rfl rfl rfl rfl (mv rfl) ?_
        refine gI rfl rfl rfl rfl rfl (Det.to (v' := .bool false) (gtr rfl rfl) (vb (decide_eq_false (by omega)))) ?_
        refine gI rfl rfl rfl rfl rfl (mv rfl) ?_
        refine uI rfl rfl rfl (.inl rfl) rfl ?_
        refine uI rfl rfl rfl (.inl rfl) rfl ?_
        refine uI rfl rfl rfl (.inl rfl) rfl ?_
        refine uI rfl rfl rfl (.inl rfl) rfl ?_
        refine uI rfl rfl rfl (.inl rfl) rfl ?_
        refine uI rfl rfl rfl (.inl rfl) rfl ?_
        refine uI rfl rfl rfl (.inl rfl) rfl ?_
        refine uI rfl rfl rfl (.inl rfl) rfl ?_
        refine uI rfl rfl rfl (.inl rfl) rfl ?_
        refine gI rfl rfl rfl rfl rfl (pick (b := false) rfl rfl) ?_
        refine nI rfl rfl rfl (pick (b := false) rfl rfl) ?_
        refine nI rfl rfl rfl (mv rfl) ?_
        refine gI rfl rfl rfl rfl rfl (mv rfl) ?_
        refine gI rfl rfl rfl rfl rfl (mv rfl) ?_
        refine gI rfl rfl rfl rfl rfl (lenS u_sl_api_Step rfl) ?_
        refine gI rfl rfl rfl rfl rfl (fadr rfl u_api_Config rfl s_int) ?_
        refine gI rfl rfl rfl rfl rfl (ldB 1 (v := .int .i64 c.k) rfl rfl o_int (Cf.at_k hc)) ?_
        refine gI rfl rfl rfl rfl rfl (subI rfl rfl (by omega) (by omega)) ?_
        refine gI rfl rfl rfl rfl rfl (Det.to (v' := .bool false) (geq rfl rfl) (vb (decide_eq_false (by omega)))) ?_
        refine gI rfl rfl rfl rfl rfl (mv rfl) ?_
        refine uI rfl rfl rfl (.inl rfl) rfl ?_
        refine uI rfl rfl rfl (.inl rfl) rfl ?_
        refine uI rfl rfl rfl (.inl rfl) rfl ?_
        refine uI rfl rfl rfl (.inl rfl) rfl ?_
        refine uI rfl rfl rfl (.inl rfl) rfl ?_
        refine uI rfl rfl rfl (.inl rfl) rfl ?_
        refine uI rfl rfl rfl (.inl rfl) rfl ?_
        refine uI rfl rfl rfl (.inl rfl) rfl ?_
        refine uI rfl rfl rfl (.inl rfl) rfl ?_
        refine uI rfl rfl rfl (.inl rfl) rfl ?_
        refine uI rfl rfl rfl (.inl rfl) rfl ?_
        refine gI rfl rfl rfl rfl rfl (pick (b := false) rfl rfl) ?_
        refine nI rfl rfl rfl (pick (b := false) rfl rfl) ?_
        refine endI rfl (nilS ?_)
        refine condF rfl ?_
        refine skip ?_
        show Tr _ _ _ _ _ _ _
        refine region (det rfl (mv rfl) (det rfl (addI rfl rfl (by omega) (by omega)) (det rfl (asg rfl) (nil ?_))))   -- region 8
        exact again (i + 1) (by (first | omega | (dsimp only; omega))) ⟨rfl, rfl, rfl, rfl, trivial⟩ (fun w hm => drop1 hm) (by (first | omega | (dsimp only; omega)))
end Go.Proofs.YtmcapgjdflohfaaGreat.L

namespace Go.Proofs.YtmcapgjdflohfaaGreat.proveValid
open Go.ChangeShapes Go.WideShapes Go.ChangeAt Go.RowKit
open Go.ChangeMaps (open_string shut_string)
open Go.Proofs.YtmcapgjdflohfaaGreat.L
set_option linter.unusedVariables false
theorem own : ownKnob Tryz.prog.godebug = none := by kernel_rfl
theorem laidOut : laidOutB Tryz.prog = true := by kernel_rfl
set_option maxRecDepth 100000 in
theorem lifted (os : Os) (started : os.Started) (H : Type) (enc : TypeId × Value → H) :
    ReturnsInHanded {} Tryz.checked os 8 .any (Rows.proveValidSpec.pre6 enc Tryz.prog Tryz.f8 Rows.proveValidRow.domain false) (Rows.proveValidSpec.post enc Tryz.prog Tryz.f8 false true false false) := by
  refine returnsInHanded_of_change_sized (C := Tryz.checked) own started (by kernel_rfl) Tryz.func8
    (ChangeSpec.witness6 (enc := enc) (C := Tryz.checked) false ⟨#[], #[.agg cf0.toArray, .slice none 0 0], []⟩ 8 (by kernel_rfl) (by kernel_rfl) (by kernel_rfl) (by kernel_rfl)) ?_
  intro W base args ds gs before hval0 hW hcnd hsz0 _
  have hsz : (DataW.weightsEach Tryz.prog (Tryz.f8.params.toList ++ Rows.proveValidSpec.plain.varTypes Tryz.prog) (ds ++ gs)).all (· ≤ reachBytes) = true := hsz0
  have hval : ∀ (j : Nat) t v, Tryz.f8.params[j]? = some t → args[j]? = some v → Value.okWide Tryz.prog W .any base t v := hval0
  have hW' := hW
  obtain ⟨p, q, hA0, hV, rfl, hfz, hnd⟩ := hW
  have hA : DataW.TrodAll enc Tryz.prog W 0 (fun _ => true) true Tryz.f8.params.toList args.toList ds p := hA0
  rw [Tryz.params8] at hA hval hsz
  obtain ⟨v0, vs0, d0, ds0, p0, q0, hargs, rfl, rfl, h0, r0⟩ := trodAll_cons hA
  obtain ⟨v1, vs1, d1, ds1, p1, q1, rfl, rfl, rfl, h1, r1⟩ := trodAll_cons r0
  obtain ⟨rfl, rfl, rfl⟩ := trodAll_nil r1
  obtain rfl : args = #[v0, v1] := by cases args; simp_all
  obtain ⟨rfl, rfl⟩ := trodVars_none hV
  obtain ⟨cs0, rfl⟩ := okAgg u_api_Config (hval 0 _ v0 rfl rfl)
  obtain ⟨a1, len1, cap1, rfl⟩ := okWide_slice u_sl_api_Block (hval 1 _ v1 rfl rfl)
  have k0 := h0
  have k1 := h1
  have lt0 : ∀ x ∈ p0, x.block < W.heap.size := by obtain ⟨m, hm⟩ := k0; exact DataW.trod_lt m _ _ _ hm
  have lt1 : ∀ x ∈ p1, x.block < W.heap.size := by obtain ⟨m, hm⟩ := k1; exact DataW.trod_lt m _ _ _ hm
  obtain ⟨c, hc0, hc, hfit⟩ : ∃ c : Cf, cs0.toList = c.c ∧ c.ok ∧ c.fit := by obtain ⟨m, hm⟩ := h0; exact dec_cfg hm
  obtain ⟨A, cap, l, e1, hb, hs⟩ : ∃ A cap, ∃ l : List Bl, [Value.slice a1 len1 cap1] = [.slice A l.length cap] ∧ (∀ b ∈ l, Bin W b) ∧ Sl 67 A l.length cap (bl l) (fun k => k < W.heap.size) W := by
    obtain ⟨m, hm⟩ := h1
    exact dec_blocks hm (wt_of hsz (j := 1) rfl rfl)
  have e0 : cs0 = c.c.toArray := by rw [← hc0]
  subst e0
  simp only [List.cons.injEq, Value.slice.injEq, and_true] at e1
  obtain ⟨rfl, rfl, rfl⟩ := e1
  clear hA0 hval0 hsz0 hsz
  refine (proveValid_ c hc hfit l (fun b h => (hb b h).1) (fun b h => (hb b h).2.1) a1 cap1 (fun k => k < W.heap.size) W (fun _ h => h) hs (fun b h => (hb b h).2.2)).mono fun e W' ⟨he, bel⟩ => ?_
  subst he
  exact ⟨_, rfl, _, _, _, [], _, [], hW', trodAll_mk1 (shut_bool u_bool _), (trodAll_cons_mk (Below.trod laidOut (by kernel_rfl) (of_decide_eq_true (by kernel_rfl)) k0 bel lt0) (trodAll_cons_mk (Below.trod laidOut (by kernel_rfl) (of_decide_eq_true (by kernel_rfl)) k1 bel lt1) trodAll_mk0)), rfl, bel.frame _, fun h => by cases h⟩
theorem over : Rows.proveValidRow.holds Tryz.pinned (OpenSpec.ofChange Rows.proveValidSpec) :=
  OpenClaim.holds_of_wide 8 Tryz.f8 rfl rfl rfl rfl rfl rfl rfl ⟨rfl, rfl, rfl, rfl, rfl⟩ rfl rfl rfl rfl rfl (by kernel_rfl) Tryz.func8 (by kernel_rfl)
    (of_decide_eq_true (by kernel_rfl)) (by unfold Func.isWrapper; first | (rw [if_pos (by decide +kernel)]; kernel_rfl) | (rw [if_neg (by decide +kernel)]; exact ⟨rfl, rfl⟩))
    (fun os started H enc _ => lifted os started H enc)
theorem proved : Rows.ProveValidSaid := over
#print axioms proved
end Go.Proofs.YtmcapgjdflohfaaGreat.proveValid
namespace Go.Proofs.YtmcapgjdflohfaaGreat
/-- The row, under a short name, for the claim. -/
theorem proveValid_holds : Rows.ProveValidSaid := proveValid.proved
end Go.Proofs.YtmcapgjdflohfaaGreat
