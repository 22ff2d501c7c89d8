/- The statement WithinWaysSaid: of each input the given function returns true, and the arguments read as before. Conditions: none. The walk is in LWW, the arguments are opened in Open; the row's steps are the guide's template for a law. -/
import Derived.Test.YtmcapgjdflohfaaGreatMWd
import Derived.Test.YtmcapgjdflohfaaGreatRows
import Derived.WalkKit
import Derived.ProofKit
import Derived.OpenShut
import Derived.ShutString
import Derived.ChangeOld
import Derived.Below
import Derived.SizedLaws
set_option linter.all false
namespace Go.Proofs.YtmcapgjdflohfaaGreat.L
open Go Go.RowKit
set_option linter.unusedVariables false

section
variable {c : Cx} {n : Nat} {Q : Exit → Env → World → Prop} {σ : Env} {H : List Res} {K : List Fact}
variable {d : Option Tmp} {t : TypeId} {p : String} {af : Array Edge} {g : Option (Nat × Bool)}
/-- A closure. -/
theorem mkC {f : FuncId} {first caps : Array Operand} {vs cs : List Value} (hv : first.toList.map (ev σ) = vs) (hc : caps.toList.map (ev σ) = cs) : Det c σ H K ⟨d, .makeFunc (.func f) first caps, t, p, af, g⟩ (.func (.func f) vs.toArray cs.toArray) := fun w _ => by
  simp only [execOp, Instr.makeFunc, map_args hv, map_args hc, Sem.run_bind, Sem.run_pure, Result.andThen_ok]
/-- A call of a closure. -/
theorem callCl {ops : Array Oper} {d s : Nat} {f : FuncId} {args : Array Operand} {ats : Array TypeId} {vs cs : List Value} {l : List Oper} {v : Value} (hf : Fn c.P f) (hs : σ s = .func (.func f) #[] cs.toArray) (ha : args.toList.map (ev σ) = vs) (hd : Nat.blt d n = true)
    (spec : ∀ w, M c H K w → Calls c.P f (vs ++ cs).toArray w fun e w' => e = .returned v ∧ Below w.heap.size w w') (h : TL c n ops l Q (upd σ d v) H K) :
    TL c n ops (⟨some d, .call { callee := .value (.tmp s), args := args, argTypes := ats }, t, p, af, none⟩ :: l) Q σ H K := by
  intro w hm a hr
  obtain ⟨fn, code, hf1, hf2, hf3⟩ := hf
  have hn' : ¬ fn.name = "runtime.NumGoroutine" := by simpa using hf3
  have e : (execOp (ev σ) ⟨some d, .call { callee := .value (.tmp s), args := args, argTypes := ats }, t, p, af, none⟩).run c.P w = .ok (.enter f (vs ++ cs).toArray) w := by
    simp only [execOp, resolve, ev, hs, map_args ha, Deferred.ofValue, Sem.run_bind, Sem.run_pure, Result.andThen_ok, invoke, callFunc]
    simp [hf1, hn', hf2]
  refine wpList_run rfl ?_
  rw [hr.eval, e]
  refine (spec w hm).mono ?_
  rintro e w' ⟨rfl, hbel⟩
  exact h w' (hm.pure (grown_below hbel)) _ (hr.put d _ (by simp [Nat.blt] at hd; omega))
/-- A slice's literal of elements of some cells. -/
theorem bsn {P : Program} {tt e : TypeId} {parts : Array (Nat × Operand)} {ps : List (Nat × Value)} {z : Value} {m sz : Nat} {zs cs : List Value} (ht : P.underlying tt = some (.slice e)) (hz : (P.info? e).map (·.zero) = some (some z)) (hs : (P.info? e).map (·.size) = some sz)
    (hp : (parts.toList.map fun (i, x) => (i, ev σ x)) = ps) (hzs : (Array.range (m * sz)).map (z.cells[· % z.cells.size]!) = zs.toArray) (hf : Instr.fill (fun i => some (i * sz, sz)) ([] ++ zs).toArray ps = some cs.toArray) (hm0 : 0 < m * sz) (h24 : m * sz ≤ 16777216) (h25 : m ≤ 16777216) (w : World) : (Instr.buildSlice tt m (parts.map fun (i, x) => (i, ev σ x))).run P w = .ok (.slice (some ⟨w.heap.size, 0, none⟩) m m) (w.alloc (ob cs e)) := by
  rw [map_parts hp]
  rw [List.nil_append] at hf
  simp only [Instr.buildSlice, Sem.run_bind, run_und ht, run_size hs, Result.andThen_ok]
  rw [if_neg (by omega), if_neg (by omega)]
  simp only [Sem.run_bind, Sem.run_pure, run_zero hz, Result.andThen_ok, hzs, hf]
  simp [newRow]
end

def ptr (b : Nat) : Value := .pointer (some ⟨b, 0, none⟩)
def capsOf (bC bS j : Nat) : List Value := match j with | 1 => [ptr bS, ptr bC] | _ => [ptr bS]
def ruleN (j : Nat) : FuncId := match j with | 0 => N_valid_rules_1 | 1 => N_valid_rules_2 | _ => N_valid_rules_3
def ruleE (j : Nat) : Int := match j with | 0 => 8 | 1 => 9 | _ => 10
def rulC (bC bS j : Nat) : List Value := [.func (.func (ruleN j)) #[] (capsOf bC bS j).toArray, .int .i64 (ruleE j)]
def rulL (bC bS : Nat) : List (List Value) := [rulC bC bS 0, rulC bC bS 1, rulC bC bS 2]
theorem rulL_ok (bC bS : Nat) : ∀ l ∈ rulL bC bS, l.length = 2 ∧ one l = true := by
  intro l hl
  simp only [rulL, List.mem_cons, List.not_mem_nil, or_false] at hl
  rcases hl with rfl | rfl | rfl <;> exact ⟨rfl, rfl⟩
theorem rulL_at {bC bS o j : Nat} (ho : o = j) (h : j < 3) : (rulL bC bS)[o]? = some (rulC bC bS j) := by
  subst ho
  match o, h with
  | 0, _ => rfl
  | 1, _ => rfl
  | 2, _ => rfl
theorem ruleN_fn (j : Nat) (h : j < 3) : Fn PP (ruleN j) :=
  match j, h with
  | 0, _ => k_valid_rules_1
  | 1, _ => k_valid_rules_2
  | 2, _ => k_valid_rules_3
/-- The rules, with the blocks that they read. -/
def RulF (x : Cf) (A : Option Addr) (n cap : Nat) (V : Nat × Nat × Nat) : Fact := fun D w => Sl 2 (some ⟨V.1, 0, none⟩) 3 3 (rulL V.2.1 V.2.2) D w ∧ Sl 104 (some ⟨V.2.1, 0, none⟩) 1 1 [x.c] D w ∧ Sl 1 (some ⟨V.2.2, 0, none⟩) 1 1 [[.slice A n cap]] D w
theorem RulF.stable {x : Cf} {A : Option Addr} {n cap : Nat} {V : Nat × Nat × Nat} : Stable (RulF x A n cap V) := fun D D' w w' hD hw h => ⟨Sl.stable D D' w w' hD hw h.1, Sl.stable D D' w w' hD hw h.2.1, Sl.stable D D' w w' hD hw h.2.2⟩
def RRul (w : World) (x : Cf) (A : Option Addr) (n cap : Nat) : Ending → World → Prop := fun e w' => ∃ V, e = .returned (.slice (some ⟨V.1, 0, none⟩) 3 3) ∧ Below w.heap.size w w' ∧ RulF x A n cap V (fun k => w.heap.size ≤ k ∧ k < w'.heap.size) w'

theorem bldRul {c : Cx} {σ : Env} {H : List Res} {K : List Fact} {d : Option Tmp} {t : TypeId} {p : String} {af : Array Edge} {g : Option (Nat × Bool)} {parts : Array (Nat × Operand)} (hP : c.P = PP) (bC bS j : Nat)
    (hps : (parts.toList.map fun (i, x) => (i, ev σ x)) = [(0, .func (.func (ruleN j)) #[] (capsOf bC bS j).toArray), (1, .int .i64 (ruleE j))]) :
    Det c σ H K ⟨d, .build T_valid_rule parts, t, p, af, g⟩ (ag (rulC bC bS j)) := by
  refine bldT (pl := _) (by rw [hP]; exact z_valid_rule) (by rw [hP]; exact u_valid_rule) (fun w => by rw [hP]; exact run_placesS PP w (by kernel_rfl)) hps ?_
  refine fill_cat (o := 0) (s := 1) (vs := [.func (.func (ruleN j)) #[] (capsOf bC bS j).toArray]) (by kernel_rfl) rfl rfl rfl (by simp) ?_
  refine fill_cat (o := 1) (s := 1) (vs := [.int .i64 (ruleE j)]) (by kernel_rfl) rfl rfl rfl (by simp) ?_
  exact fill_end (by simp) rfl

theorem valid_rules_ (x : Cf) (hx : x.ok) (A : Option Addr) (n cap : Nat) (w : World) : Calls PP N_valid_rules #[ag x.c, .slice A n cap] w (RRul w x A n cap) := by
  refine enter (D := fun _ => False) (S := []) f_valid_rules rfl n_valid_rules rfl (M.init PP w _ _ [] trivial (fun _ h => h.elim) trivial) ?_
  refine seq (region (box rfl rfl rfl fun b0 => box rfl rfl rfl fun b1 => det rfl (asg rfl) (nilS ?_)))   -- region 0
  refine seq (region (det rfl (mkC (vs := []) (cs := capsOf b0 b1 0) rfl rfl) (det rfl (bldRul rfl b0 b1 0 rfl) (det rfl (mkC (vs := []) (cs := capsOf b0 b1 1) rfl rfl) (det rfl (bldRul rfl b0 b1 1 rfl) (det rfl (mkC (vs := []) (cs := capsOf b0 b1 2) rfl rfl) (det rfl (bldRul rfl b0 b1 2 rfl) (bsl rfl (bsn (cs := (rulL b0 b1).flatten) (zs := [.nilFunc, .int .i64 0, .nilFunc, .int .i64 0, .nilFunc, .int .i64 0]) (ps := [(0, ag (rulC b0 b1 0)), (1, ag (rulC b0 b1 1)), (2, ag (rulC b0 b1 2))]) u_sl_valid_rule z_valid_rule s_valid_rule rfl (by kernel_rfl) (by
      refine fill_cat (o := 0) (s := 2) (vs := rulC b0 b1 0) rfl rfl rfl rfl (by simp) ?_
      refine fill_cat (o := 2) (s := 2) (vs := rulC b0 b1 1) rfl rfl rfl rfl (by simp) ?_
      refine fill_cat (o := 4) (s := 2) (vs := rulC b0 b1 2) rfl rfl rfl rfl (by simp) ?_
      exact fill_end (by simp) rfl) (by decide) (by decide) (by decide)) fun b2 => det rfl (asg rfl) (nilS ?_)))))))))   -- region 1
  refine ret (retT rfl rfl fun w' hm => ⟨(b2, b0, b1), rfl, hm.below rfl, ?_, ?_, ?_⟩)
  · have hb := hm.mine b2 (by simp [places, Res.at])
    refine Sl.mono (blk_sl (hm.blk 0 rfl) (rulL_ok b0 b1) rfl (by decide)) fun k hk => ?_
    subst hk
    exact ⟨hb.1.elim id (fun h => nomatch h), hb.2⟩
  · have hb := hm.mine b0 (by simp [places, Res.at])
    refine Sl.mono (blk_sl (ls := [x.c]) (by simpa using hm.blk 2 rfl) (fun l hl => by rw [List.mem_singleton.1 hl]; exact ⟨Cf.c_length hx, Cf.c_one x⟩) rfl (by decide)) fun k hk => ?_
    subst hk
    exact ⟨hb.1.elim id (fun h => nomatch h), hb.2⟩
  · have hb := hm.mine b1 (by simp [places, Res.at])
    refine Sl.mono (blk_sl (ls := [[.slice A n cap]]) (hm.blk 1 rfl) (fun l hl => by rw [List.mem_singleton.1 hl]; exact ⟨rfl, rfl⟩) rfl (by decide)) fun k hk => ?_
    subst hk
    exact ⟨hb.1.elim id (fun h => nomatch h), hb.2⟩

/-! ### The closures -/
def ruleF (x : Cf) (X : List SX) (i j : Nat) : Bool := match j with
  | 0 => decide (i = 0) || decide ((X.getD (i - 1) sx0).1.h < (X.getD i sx0).1.h)
  | 1 => okW (idL (X.getD i sx0).1) x.t
  | _ => decide (i = 0) || joinC (X.getD i sx0) (X.getD (i - 1) sx0).1
theorem Opn.ok_of {o : Opn} {D : Nat → Prop} {w : World} (h : OpF o D w) : ∀ y ∈ o.p, y.length = 32 := by
  intro y hy
  have := (h.2.2.2.1 (b8 y) (List.mem_map.2 ⟨y, hy, rfl⟩)).1
  rwa [b8_length] at this
section
variable (x : Cf) (hx : x.ok) (L : List St) (hL : ∀ s ∈ L, s.h.ok) (A : Option Addr) (cap bC bS i : Nat) (hi : i < L.length) (D : Nat → Prop) (w : World) (hD : ∀ k, D k → k < w.heap.size) (hc : Sl 104 (some ⟨bC, 0, none⟩) 1 1 [x.c] D w) (hb : Sl 1 (some ⟨bS, 0, none⟩) 1 1 [[.slice A L.length cap]] D w) (hs : StS A L.length cap L D w)
include hL hi hD hb hs
theorem rule1_ : Calls PP N_valid_rules_1 #[.int .i64 (i : Int), ptr bS] w (PR w (.bool (ruleF x (L.map St.x) i 0))) := by
  have hmx : L.length ≤ maxLen := Nat.le_trans hs.1.2.1 hs.1.2.2.1
  simp only [maxLen] at hmx
  refine enter f_valid_rules_1 rfl n_valid_rules_1 rfl (M.init PP w D [] [Sl 69 A L.length cap (stl L), Sl 1 (some ⟨bS, 0, none⟩) 1 1 [[.slice A L.length cap]]] ⟨Sl.stable, Sl.stable, trivial⟩ hD ⟨hs.1, hb, trivial⟩) ?_
  refine seq (region (det rfl (asg rfl) (nilS ?_)))   -- region 0
  by_cases h0 : i = 0
  · subst h0
    rw [show ruleF x (L.map St.x) 0 0 = true from rfl]
    refine seq (drawI 17 [] mix (by kernel_rfl) (by kernel_rfl) ?_)   -- drawn 1
    refine nI rfl rfl rfl (mv rfl) ?_
    refine nI rfl rfl rfl (Det.to (v' := .bool true) (eql rfl rfl) rfl) ?_
    refine nI rfl rfl rfl (mv rfl) ?_
    iterate 12 refine uI rfl rfl rfl (.inl rfl) rfl ?_
    refine nI rfl rfl rfl (pick rfl rfl) ?_
    refine nI rfl rfl rfl (asg rfl) ?_
    refine endI rfl (nilS ?_)
    exact ret (retT rfl rfl pr)
  · obtain ⟨j, rfl⟩ : ∃ j, i = j + 1 := ⟨i - 1, by omega⟩
    have hj : j < L.length := by omega
    have hs1 : (L[j + 1]).h.ok := hL _ (List.getElem_mem hi)
    have hs0 : (L[j]).h.ok := hL _ (List.getElem_mem hj)
    have e : ruleF x (L.map St.x) (j + 1) 0 = decide ((L[j]).h.h < (L[j + 1]).h.h) := by
      simp only [ruleF]; rw [decide_eq_false h0, Bool.false_or, getSX hi, Nat.add_sub_cancel, getSX hj]; rfl
    rw [e]
    refine seq (drawI 17 [14] mix (by kernel_rfl) (by kernel_rfl) ?_)   -- drawn 1
    refine nI rfl rfl rfl (mv rfl) ?_
    refine nI rfl rfl rfl (Det.to (v' := .bool false) (eql rfl rfl) (vb (decide_eq_false (by omega)))) ?_
    refine nI rfl rfl rfl (mv rfl) ?_
    refine gI rfl rfl rfl rfl rfl (ldSO 1 (i := 0) (v := .slice A L.length cap) rfl rfl o_sl_api_Step rfl) ?_
    refine gI rfl rfl rfl rfl rfl (mv rfl) ?_
    refine gI rfl rfl rfl rfl rfl (ixS 0 rfl rfl u_sl_api_Step s_api_Step rfl (by omega) (by omega)) ?_
    refine gI rfl rfl rfl rfl rfl (fadrS 0 rfl u_api_Step rfl s_api_Header rfl (by omega)) ?_
    refine gI rfl rfl rfl rfl rfl (ldSP 0 (i := j + 1) (o := 0) (r := (L[j + 1]).h.c) rfl rfl g_api_Header (stl_at rfl hi) (St.at_h hs1) (Hd.c_length hs1)) ?_
    refine gI rfl rfl rfl rfl rfl (ldSO 1 (i := 0) (v := .slice A L.length cap) rfl rfl o_sl_api_Step rfl) ?_
    refine gI rfl rfl rfl rfl rfl (mv rfl) ?_
    refine gI rfl rfl rfl rfl rfl (Det.to (v' := .int .i64 (j : Int)) (subI rfl rfl (by omega) (by omega)) (vi (by omega))) ?_
    refine gI rfl rfl rfl rfl rfl (ixS 0 rfl rfl u_sl_api_Step s_api_Step rfl (by omega) (by omega)) ?_
    refine gI rfl rfl rfl rfl rfl (fadrS 0 rfl u_api_Step rfl s_api_Header rfl (by omega)) ?_
    refine gI rfl rfl rfl rfl rfl (ldSP 0 (i := j) (o := 0) (r := (L[j]).h.c) rfl rfl g_api_Header (stl_at rfl hj) (St.at_h hs0) (Hd.c_length hs0)) ?_
    refine pgI (v := .bool (decide ((L[j]).h.h < (L[j + 1]).h.h))) rfl rfl rfl rfl k_rise_Above (show _ = [ag (L[j + 1]).h.c, ag (L[j]).h.c] from rfl) rfl (fun w _ => rise_Above_ _ _ w) ?_
    refine nI rfl rfl rfl (pick rfl rfl) ?_
    refine nI rfl rfl rfl (asg rfl) ?_
    refine endI rfl (nilS ?_)
    exact ret (retT rfl rfl pr)
theorem rule3_ : Calls PP N_valid_rules_3 #[.int .i64 (i : Int), ptr bS] w (PR w (.bool (ruleF x (L.map St.x) i 2))) := by
  have hmx : L.length ≤ maxLen := Nat.le_trans hs.1.2.1 hs.1.2.2.1
  simp only [maxLen] at hmx
  refine enter f_valid_rules_3 rfl n_valid_rules_3 rfl (M.init PP w D [] [Sl 69 A L.length cap (stl L), Sl 1 (some ⟨bS, 0, none⟩) 1 1 [[.slice A L.length cap]], Ops L] ⟨Sl.stable, Sl.stable, Ops.stable, trivial⟩ hD ⟨hs.1, hb, hs.2, trivial⟩) ?_
  refine seq (region (det rfl (asg rfl) (nilS ?_)))   -- region 0
  by_cases h0 : i = 0
  · subst h0
    rw [show ruleF x (L.map St.x) 0 2 = true from rfl]
    refine seq (drawI 16 [] mix (by kernel_rfl) (by kernel_rfl) ?_)   -- drawn 1
    refine nI rfl rfl rfl (mv rfl) ?_
    refine nI rfl rfl rfl (Det.to (v' := .bool true) (eql rfl rfl) rfl) ?_
    refine nI rfl rfl rfl (mv rfl) ?_
    iterate 11 refine uI rfl rfl rfl (.inl rfl) rfl ?_
    refine nI rfl rfl rfl (pick rfl rfl) ?_
    refine nI rfl rfl rfl (asg rfl) ?_
    refine endI rfl (nilS ?_)
    exact ret (retT rfl rfl pr)
  · obtain ⟨j, rfl⟩ : ∃ j, i = j + 1 := ⟨i - 1, by omega⟩
    have hj : j < L.length := by omega
    have hs1 : (L[j + 1]).h.ok := hL _ (List.getElem_mem hi)
    have hs0 : (L[j]).h.ok := hL _ (List.getElem_mem hj)
    have hmem : L[j + 1] ∈ L := List.getElem_mem hi
    have e : ruleF x (L.map St.x) (j + 1) 2 = joinC (L[j + 1]).x (L[j]).h := by
      simp only [ruleF]; rw [decide_eq_false h0, Bool.false_or, getSX hi, Nat.add_sub_cancel, getSX hj]; rfl
    rw [e]
    obtain ⟨z, hz⟩ : ∃ z, joinC (L[j + 1]).x (L[j]).h = z := ⟨_, rfl⟩
    rw [hz]
    refine seq (drawI 16 [13] mix (by kernel_rfl) (by kernel_rfl) ?_)   -- drawn 1
    refine nI rfl rfl rfl (mv rfl) ?_
    refine nI rfl rfl rfl (Det.to (v' := .bool false) (eql rfl rfl) (vb (decide_eq_false (by omega)))) ?_
    refine nI rfl rfl rfl (mv rfl) ?_
    refine gI rfl rfl rfl rfl rfl (ldSO 1 (i := 0) (v := .slice A L.length cap) rfl rfl o_sl_api_Step rfl) ?_
    refine gI rfl rfl rfl rfl rfl (mv rfl) ?_
    refine gI rfl rfl rfl rfl rfl (ixS 0 rfl rfl u_sl_api_Step s_api_Step rfl (by omega) (by omega)) ?_
    refine gI rfl rfl rfl rfl rfl (ldSA 0 (l := (L[j + 1]).c) rfl rfl g_api_Step (stl_at rfl hi)) ?_
    refine gI rfl rfl rfl rfl rfl (ldSO 1 (i := 0) (v := .slice A L.length cap) rfl rfl o_sl_api_Step rfl) ?_
    refine gI rfl rfl rfl rfl rfl (mv rfl) ?_
    refine gI rfl rfl rfl rfl rfl (Det.to (v' := .int .i64 (j : Int)) (subI rfl rfl (by omega) (by omega)) (vi (by omega))) ?_
    refine gI rfl rfl rfl rfl rfl (ixS 0 rfl rfl u_sl_api_Step s_api_Step rfl (by omega) (by omega)) ?_
    refine gI rfl rfl rfl rfl rfl (fadrS 0 rfl u_api_Step rfl s_api_Header rfl (by omega)) ?_
    refine gI rfl rfl rfl rfl rfl (ldSP 0 (i := j) (o := 0) (r := (L[j]).h.c) rfl rfl g_api_Header (stl_at rfl hj) (St.at_h hs0) (Hd.c_length hs0)) ?_
    refine pgI (v := .bool z) rfl rfl rfl rfl k_join_Holds (show _ = [ag (L[j + 1]).c, ag (L[j]).h.c] from rfl) rfl (fun w hm => by
      obtain ⟨D, d1, d2, hD, d4, d5⟩ := hm.data
      have ho := d5.2.2.1 _ hmem
      exact hz ▸ join_Holds_ _ hs1 (Opn.ok_of ho) _ hs0 D w hD ho) ?_
    refine nI rfl rfl rfl (pick rfl rfl) ?_
    refine nI rfl rfl rfl (asg rfl) ?_
    refine endI rfl (nilS ?_)
    exact ret (retT rfl rfl pr)
include hx hc
theorem rule2_ : Calls PP N_valid_rules_2 #[.int .i64 (i : Int), ptr bS, ptr bC] w (PR w (.bool (ruleF x (L.map St.x) i 1))) := by
  have hmx : L.length ≤ maxLen := Nat.le_trans hs.1.2.1 hs.1.2.2.1
  simp only [maxLen] at hmx
  refine enter f_valid_rules_2 rfl n_valid_rules_2 rfl (M.init PP w D [] [Sl 69 A L.length cap (stl L), Sl 1 (some ⟨bS, 0, none⟩) 1 1 [[.slice A L.length cap]], Sl 104 (some ⟨bC, 0, none⟩) 1 1 [x.c]] ⟨Sl.stable, Sl.stable, Sl.stable, trivial⟩ hD ⟨hs.1, hb, hc, trivial⟩) ?_
  have hs1 : (L[i]).h.ok := hL _ (List.getElem_mem hi)
  have e : ruleF x (L.map St.x) i 1 = okW (idL (L[i]).h) x.t := by simp only [ruleF]; rw [getSX hi]; rfl
  rw [e]
  refine seq (region (det rfl (asg rfl) (nilS ?_)))   -- region 0
  refine seq (drawP [(0, false), (1, false), (2, false), (3, false), (4, false), (6, false), (7, false), (5, true), (8, true), (9, false)] mix (by kernel_rfl) (by kernel_rfl) ?_)   -- drawn 1
  refine nP 0 rfl rfl (ldSO 1 (i := 0) (v := .slice A L.length cap) rfl rfl o_sl_api_Step rfl) ?_
  refine nP 1 rfl rfl (mv rfl) ?_
  refine nP 2 rfl rfl (ixS 0 rfl rfl u_sl_api_Step s_api_Step rfl (by omega) (by omega)) ?_
  refine nP 3 rfl rfl (fadrS 0 rfl u_api_Step rfl s_api_Header rfl (by omega)) ?_
  refine nP 4 rfl rfl (ldSP 0 (i := i) (o := 0) (r := (L[i]).h.c) rfl rfl g_api_Header (stl_at rfl hi) (St.at_h hs1) (Hd.c_length hs1)) ?_
  refine nP 6 rfl rfl (fadrS 2 (o := 0) rfl u_api_Config rfl s_api_Hash rfl (by omega)) ?_
  refine nP 7 rfl rfl (ldSP 2 (i := 0) (o := 66) (r := b8 x.t) rfl rfl g_api_Hash rfl (Cf.at_t' hx) (by rw [b8_length]; exact hx.2)) ?_
  refine pP 5 rfl k_ident_Id (show _ = [ag (L[i]).h.c] from rfl) rfl (fun w _ => ident_Id_ _ hs1 w) ?_
  refine pP 8 rfl k_work_Ok (show _ = [ag (b8 (idL (L[i]).h)), ag (b8 x.t)] from rfl) rfl (fun w _ => work_Ok_ _ _ (idL_length _) hx.2 w) ?_
  refine nP 9 rfl rfl (asg rfl) ?_
  refine endP rfl (nilS ?_)
  exact ret (retT rfl rfl pr)
set_option maxRecDepth 8000 in
theorem rule_ (j : Nat) (hj : j < 3) : Calls PP (ruleN j) ([Value.int .i64 (i : Int)] ++ capsOf bC bS j).toArray w (PR w (.bool (ruleF x (L.map St.x) i j))) :=
  match j, hj with
  | 0, _ => rule1_ x L hL A cap bS i hi D w hD hb hs
  | 1, _ => rule2_ x hx L hL A cap bC bS i hi D w hD hc hb hs
  | 2, _ => rule3_ x L hL A cap bS i hi D w hD hb hs
end
end Go.Proofs.YtmcapgjdflohfaaGreat.L

namespace Go.Proofs.YtmcapgjdflohfaaGreat.L
open Go Go.RowKit
set_option linter.unusedVariables false

def rules3 (x : Cf) (X : List SX) (i : Nat) : Int := if ruleF x X i 0 = false then 8 else if ruleF x X i 1 = false then 9 else if ruleF x X i 2 = false then 10 else 0
def valGo (x : Cf) (X : List SX) : Nat → Nat → Int × Int
  | 0, _ => if (tailLen X : Int) < x.k then (11, X.length) else (0, 0)
  | r + 1, i => if rules3 x X i ≠ 0 then (rules3 x X i, i) else valGo x X r (i + 1)
def valR (x : Cf) (X : List SX) : Int × Int := if anchR x.g X ≠ 0 then (anchR x.g X, 0) else valGo x X X.length 0
theorem rules3_of (x : Cf) (X : List SX) (i j : Nat) (hj : j < 3) (h0 : ∀ k < j, ruleF x X i k = true) (h : ruleF x X i j = false) : rules3 x X i = ruleE j := by
  unfold rules3
  match j, hj with
  | 0, _ => rw [if_pos h]; rfl
  | 1, _ => rw [if_neg (by rw [h0 0 (by omega)]; decide), if_pos h]; rfl
  | 2, _ => rw [if_neg (by rw [h0 0 (by omega)]; decide), if_neg (by rw [h0 1 (by omega)]; decide), if_pos h]; rfl
theorem rules3_zero (x : Cf) (X : List SX) (i : Nat) (h0 : ∀ k < 3, ruleF x X i k = true) : rules3 x X i = 0 := by
  unfold rules3
  rw [if_neg (by rw [h0 0 (by omega)]; decide), if_neg (by rw [h0 1 (by omega)]; decide), if_neg (by rw [h0 2 (by omega)]; decide)]
theorem isOne_of {P : Program} {t : TypeId} (h : ((P.underlying t).map fun d => match d with | .struct _ | .array _ _ => false | _ => true) = some true) : isOne P t := by
  obtain ⟨d, h1, h2⟩ := Option.map_eq_some_iff.1 h
  exact ⟨d, h1, h2⟩
theorem ruleE_ne (j : Nat) : ruleE j ≠ 0 := by unfold ruleE; split <;> decide
theorem Cf.at_g' {x : Cf} (h : x.ok) : (x.c.drop (0 + 0)).take 66 = x.g.c := by rw [Cf.c, ← Hd.c_length h.1]; simp

set_option maxHeartbeats 800000 in
theorem valid_Check_ (x : Cf) (hx : x.ok) (L : List St) (hL : ∀ s ∈ L, s.h.ok) (A : Option Addr) (cap : Nat) (D : Nat → Prop) (w : World) (hD : ∀ k, D k → k < w.heap.size) (hs : StS A L.length cap L D w) :
    Calls PP N_valid_Check #[ag x.c, .slice A L.length cap] w (PR w (ag (fltC (valR x (L.map St.x))))) := by
  have hmx : L.length ≤ maxLen := Nat.le_trans hs.1.2.1 hs.1.2.2.1
  simp only [maxLen] at hmx
  obtain ⟨X, hX⟩ : ∃ X, L.map St.x = X := ⟨_, rfl⟩
  have hXl : X.length = L.length := by rw [← hX, List.length_map]
  obtain ⟨an, han⟩ : ∃ an, anchR x.g X = an := ⟨_, rfl⟩
  rw [hX]
  refine enter f_valid_Check rfl n_valid_Check rfl (M.init1 PP w StS.stable hD hs) ?_
  refine seq (region (box rfl rfl rfl fun b0 => alloc z_api_Fault rfl rfl fun b1 => nilS ?_))   -- region 0
  refine seq ?_
  refine seq (region (det rfl (fadr rfl u_api_Config rfl s_api_Header) (det rfl (ldA 1 rfl rfl g_api_Header (Cf.at_g' hx) (Hd.c_length hx.1)) (det rfl (mv rfl) (call (v := .int .i64 an) k_anchor_Check (show _ = [ag x.g.c, Value.slice A L.length cap] from rfl) rfl (fun w hm => by
    obtain ⟨D, d1, d2, hD, d4, d5⟩ := hm.data
    have := anchor_Check_ x.g hx.1 L hL A cap D w hD d5.1
    rw [hX, han] at this; exact this) (det rfl (asg rfl) (nilS ?_)))))))   -- region 1
  refine seq (region (det rfl (mv rfl) (det rfl (neq rfl rfl) (nilS ?_))))   -- region 2
  by_cases ha : an = 0
  · refine condF (by show Value.bool (!decide (an = 0)) = _; rw [decide_eq_true ha]; rfl) ?_
    rw [show valR x X = valGo x X X.length 0 by rw [valR, if_neg (by rw [han]; simpa using ha)]]
    refine skipS ?_
    refine seq (region (det rfl (ldAll 1 rfl rfl g_api_Config (Cf.c_length hx)) (det rfl (mv rfl) (callX (β := Nat × Nat × Nat) (fun V => .slice (some ⟨V.1, 0, none⟩) 3 3) (fun _ => [.blk b1 (ob (fltC (0, 0)) T_api_Fault), .blk b0 (ob x.c T_api_Config)]) (fun V => [RulF x A L.length cap V, StS A L.length cap L]) (vs := [ag x.c, Value.slice A L.length cap]) k_valid_rules rfl rfl (fun w hm => (valid_rules_ x hx A L.length cap w).mono fun e w' ⟨V, he, hb, hr⟩ => ⟨V, he, hm.learn RulF.stable (grown_below hb) fun D _ => RulF.stable _ _ _ _ (fun k hk => .inr hk) (fun _ _ _ => rfl) hr⟩) fun V => det rfl (asg rfl) (nilS ?_)))))   -- region 4
    obtain ⟨bR, bC, bS⟩ := V
    refine seq ?_
    refine seq (region (det rfl (mv rfl) (det rfl (lenS u_sl_api_Step rfl) (det rfl (mv rfl) (nilS ?_)))))   -- region 5
    refine block ?_   -- block 0
    refine loopV (ι := Nat) (fun i => i ≤ L.length ∧ valGo x X X.length 0 = valGo x X (L.length - i) i) (fun i => [(1, .slice A L.length cap), (2, .pointer (some ⟨b0, 0, none⟩)), (4, .pointer (some ⟨b1, 0, none⟩)), (6, .slice (some ⟨bR, 0, none⟩) 3 3), (23, .int .i64 L.length), (24, .int .i64 i)])
      (fun _ => [.blk b1 (ob (fltC (0, 0)) T_api_Fault), .blk b0 (ob x.c T_api_Config)])
      (fun _ => [Sl 2 (some ⟨bR, 0, none⟩) 3 3 (rulL bC bS), Sl 104 (some ⟨bC, 0, none⟩) 1 1 [x.c], Sl 1 (some ⟨bS, 0, none⟩) 1 1 [[.slice A L.length cap]], StS A L.length cap L]) (fun i => L.length - i) 0 ⟨by omega, by rw [hXl]; rfl⟩ ⟨rfl, rfl, rfl, rfl, rfl, rfl, trivial⟩ (fun w hm => M.refact hm ⟨Sl.stable, Sl.stable, Sl.stable, StS.stable, trivial⟩ fun D h => ⟨h.1.1, h.1.2.1, h.1.2.2, h.2.1, trivial⟩) ?_
    rintro i σ ⟨hi, hgo⟩
    refine seq (region (det rfl (lss rfl rfl) (nilS ?_)))   -- region 6
    refine seq ?_
    refine cond rfl (fun h => ?_) (fun h => ?_)   -- on t25
    · have h := of_decide_eq_true h
      have hil : i < L.length := by omega
      rw [show L.length - i = (L.length - (i + 1)) + 1 by omega, valGo] at hgo
      refine skipS ?_
      refine seq ?_
      refine block ?_   -- block 1
      refine seq (region (det rfl (mv rfl) (det rfl (asg rfl) (nilS ?_))))   -- region 7
      refine seq (region (det rfl (mv rfl) (det rfl (lenS u_sl_valid_rule rfl) (det rfl (mv rfl) (nilS ?_)))))   -- region 8
      refine block ?_   -- block 2
      refine loopV (ι := Nat) (fun j => j ≤ 3 ∧ ∀ k < j, ruleF x X i k = true) (fun j => [(1, .slice A L.length cap), (2, .pointer (some ⟨b0, 0, none⟩)), (4, .pointer (some ⟨b1, 0, none⟩)), (6, .slice (some ⟨bR, 0, none⟩) 3 3), (7, .int .i64 i), (23, .int .i64 L.length), (24, .int .i64 i), (27, .slice (some ⟨bR, 0, none⟩) 3 3), (28, .int .i64 3), (29, .int .i64 j)])
        (fun _ => [.blk b1 (ob (fltC (0, 0)) T_api_Fault), .blk b0 (ob x.c T_api_Config)])
        (fun _ => [Sl 2 (some ⟨bR, 0, none⟩) 3 3 (rulL bC bS), Sl 104 (some ⟨bC, 0, none⟩) 1 1 [x.c], Sl 1 (some ⟨bS, 0, none⟩) 1 1 [[.slice A L.length cap]], StS A L.length cap L]) (fun j => 3 - j) 0 ⟨by omega, fun k hk => by omega⟩ ⟨rfl, rfl, rfl, rfl, rfl, rfl, rfl, rfl, rfl, rfl, trivial⟩ (fun w hm => hm) ?_
      rintro j σ ⟨hj, hj0⟩
      refine seq (region (det rfl (lss rfl rfl) (nilS ?_)))   -- region 9
      refine seq ?_
      refine cond rfl (fun h2 => ?_) (fun h2 => ?_)   -- on t30
      · have h2 := of_decide_eq_true h2
        have hj3 : j < 3 := by omega
        obtain ⟨b, hb⟩ : ∃ b, ruleF x X i j = b := ⟨_, rfl⟩
        refine skipS ?_
        refine seq ?_
        refine block ?_   -- block 3
        refine seq (region (det rfl (ixS 0 rfl rfl u_sl_valid_rule s_valid_rule rfl (by omega) (by omega)) (det rfl (ldSA 0 (l := rulC bC bS j) rfl rfl g_valid_rule (rulL_at (by omega) hj3)) (alloc z_valid_rule rfl rfl fun b2 => stoA 0 (rs := rulC bC bS j) rfl rfl rfl s_valid_rule rfl rfl rfl (nilS ?_)))))   -- region 10
        refine seq (region (det rfl (fadr rfl u_valid_rule rfl (m := 0) (by kernel_rfl)) (det rfl (ldB 0 (v := .func (.func (ruleN j)) #[] (capsOf bC bS j).toArray) rfl rfl (isOne_of (by kernel_rfl)) rfl) (det rfl (mv rfl) (callCl (v := .bool b) (ruleN_fn j hj3) rfl (show _ = [Value.int .i64 i] from rfl) rfl (fun w hm => by
          obtain ⟨D, d1, d2, hD, d4, d5⟩ := hm.data
          have := rule_ x hx L hL A cap bC bS i hil D w hD d5.2.1 d5.2.2.1 d5.2.2.2.1 j hj3
          rw [hX, hb] at this; exact this) (det rfl (notB rfl) (nilS ?_)))))))   -- region 11
        cases b
        · refine condT rfl ?_
          have e : valGo x X X.length 0 = (ruleE j, (i : Int)) := by rw [hgo, rules3_of x X i j hj3 hj0 hb, if_pos (ruleE_ne j)]
          rw [e]
          refine seq (region (det rfl (fadr rfl u_valid_rule rfl s_api_Errno) (det rfl (ldB 0 (v := .int .i64 (ruleE j)) rfl rfl o_api_Errno rfl) (det rfl (mv rfl) (det rfl (fltC_fill rfl (ruleE j, (i : Int)) rfl) (stoA 1 rfl rfl rfl s_api_Fault rfl rfl rfl (nilS ?_)))))))   -- region 12
          exact ret (retFlt rfl 1 rfl rfl rfl pr)
        · refine condF rfl ?_
          refine skip ?_
          show Tr _ _ _ _ _ _ _
          refine region (det rfl (addI rfl rfl (by omega) (by omega)) (det rfl (mv rfl) (nil ?_)))   -- region 13
          refine again (j + 1) ⟨by omega, fun k hk => ?_⟩ ⟨rfl, rfl, rfl, rfl, rfl, rfl, rfl, rfl, rfl, rfl, trivial⟩ (fun w hm => drop1 hm) (by (first | omega | (dsimp only; omega)))
          by_cases e : k = j
          · rw [e]; exact hb
          · exact hj0 k (by omega)
      · have h2 := of_decide_eq_false h2
        obtain rfl : j = 3 := by omega
        refine exit ?_   -- 2
        show Tr _ _ _ _ _ _ _
        refine region (det rfl (addI rfl rfl (by omega) (by omega)) (det rfl (mv rfl) (nil ?_)))   -- region 14
        refine again (i + 1) ⟨by omega, by rw [hgo, rules3_zero x X i hj0, if_neg (by simp)]⟩ ⟨rfl, rfl, rfl, rfl, rfl, rfl, trivial⟩ (fun w hm => hm) (by (first | omega | (dsimp only; omega)))
    · have h := of_decide_eq_false h
      obtain rfl : i = L.length := by omega
      rw [Nat.sub_self, valGo, hXl] at hgo
      refine exit ?_   -- 0
      show Tr _ _ _ _ _ _ _
      refine seq ?_
      obtain ⟨e, he⟩ : ∃ e : Int, (if (tailLen X : Int) < x.k then 11 else 0) = e := ⟨_, rfl⟩
      have hgo2 : valGo x X X.length 0 = if e ≠ 0 then (e, (L.length : Int)) else (0, 0) := by
        rw [hXl, hgo, ← he]
        split <;> simp
      rw [hgo2]
      refine seq (region (det rfl (mv rfl) (det rfl (fadr rfl u_api_Config rfl s_int) (det rfl (ldB 1 (v := .int .i64 x.k) rfl rfl o_int (Cf.at_k hx)) (call (v := .int .i64 e) k_tail_Check (show _ = [Value.slice A L.length cap, .int .i64 x.k] from rfl) rfl (fun w hm => by
        obtain ⟨D, d1, d2, hD, d4, d5⟩ := hm.data
        have := tail_Check_ L hL x.k A cap D w hD d5.2.2.2.1
        rw [hX, he] at this; exact this) (det rfl (asg rfl) (nilS ?_)))))))   -- region 15
      refine seq (region (det rfl (mv rfl) (det rfl (neq rfl rfl) (nilS ?_))))   -- region 16
      by_cases h0 : e = 0
      · refine condF (by show Value.bool (!decide (e = 0)) = _; rw [decide_eq_true h0]; rfl) ?_
        rw [if_neg (by simpa using h0)]
        refine skipS ?_
        refine seq (region (det rfl (bldZ z_api_Fault u_api_Fault (fun w => run_placesS PP w (by kernel_rfl))) (stoA 0 rfl rfl rfl s_api_Fault rfl rfl rfl (nilS ?_))))   -- region 18
        exact ret (retFlt (x := (0, 0)) rfl 0 rfl rfl rfl pr)
      · refine condT (by show Value.bool (!decide (e = 0)) = _; rw [decide_eq_false h0]; rfl) ?_
        rw [if_pos h0]
        refine seq (region (det rfl (mv rfl) (det rfl (mv rfl) (det rfl (lenS u_sl_api_Step rfl) (det rfl (fltC_fill rfl (e, (L.length : Int)) rfl) (stoA 0 rfl rfl rfl s_api_Fault rfl rfl rfl (nilS ?_)))))))   -- region 17
        exact ret (retFlt (x := (e, (L.length : Int))) rfl 0 rfl rfl rfl pr)
  · refine condT (by show Value.bool (!decide (an = 0)) = _; rw [decide_eq_false ha]; rfl) ?_
    rw [show valR x X = (an, 0) by rw [valR, han, if_pos ha]]
    refine seq (region (det rfl (mv rfl) (det rfl (fltC_fill1 rfl an rfl) (stoA 0 rfl rfl rfl s_api_Fault rfl rfl rfl (nilS ?_)))))   -- region 3
    exact ret (retFlt rfl 0 rfl rfl rfl pr)
end Go.Proofs.YtmcapgjdflohfaaGreat.L

namespace Mp
theorem all_prev (l : List Int) (h : ChainLevels l) (j : Nat) (hj : j + 1 ≤ l.length) : ∃ r, all l ((j : Int) + 1) = (j : Int) :: r := by
  have e := all_eq l h (j + 1) (by omega) hj
  obtain ⟨m, hm⟩ : ∃ m, height l (j + 1) = m + 1 := ⟨height l (j + 1) - 1, by have := (height_bd l h (j + 1) (by omega) hj).1; omega⟩
  rw [hm, List.range_succ_eq_map, List.map_cons, Int.natCast_succ] at e
  have e2 : near l ((j : Int) + 1) ((0 : Nat) : Int) = j := by
    rw [near_succ l j _ (by omega), if_pos]
    by_cases h0 : j = 0
    · subst h0; have := h.1 (by omega); omega
    · have := h.2 j (by omega) (by omega); omega
  rw [e2] at e
  exact ⟨_, e⟩
theorem index_prev (l : List Int) (h : ChainLevels l) (j : Nat) (hj : j + 1 ≤ l.length) : index l ((j : Int) + 1) j = 0 := by
  obtain ⟨r, hr⟩ := all_prev l h j hj
  rw [index, hr, indexFrom, if_pos rfl]
theorem mono_at {f : Nat → Int} {n : Nat} (h : ∀ i, i + 1 < n → f i < f (i + 1)) (i d : Nat) (hi : i + d < n) : f i + d ≤ f (i + d) := by
  induction d with
  | zero => simp
  | succ d ih =>
    have := ih (by omega)
    have := h (i + d) (by omega)
    rw [show i + (d + 1) = i + d + 1 by omega]
    omega
end Mp
namespace Go.Proofs.YtmcapgjdflohfaaGreat.L
open Go Go.RowKit
set_option linter.unusedVariables false

theorem getD_app (R T : List Int) (i : Nat) : (R ++ T).getD i 0 = if i < R.length then R.getD i 0 else T.getD (i - R.length) 0 := by
  simp only [List.getD]
  split
  · rename_i h; rw [List.getElem?_append_left h]
  · rename_i h; rw [List.getElem?_append_right (by omega)]
theorem tailP_get (c : Cf) (l : List Bl) (k i : Nat) (h : i < k) : (tailP c l k).getD i 0 = max 0 ((l.length : Int) - max c.k 0) + i := by simp [tailP, h]
/-- What the places of a chain's proof are. -/
structure Plc (c : Cf) (l : List Bl) (ps : List Int) (r kn : Nat) : Prop where
  k : c.k = kn
  r1 : 1 ≤ r
  kn1 : 1 ≤ kn
  len : ps.length = r + kn
  le : ps.length ≤ l.length
  zero : ps.getD 0 0 = 0
  bd : ∀ i, i < ps.length → 0 ≤ ps.getD i 0 ∧ ps.getD i 0 < l.length
  step : ∀ i, i + 1 < ps.length → ps.getD i 0 < ps.getD (i + 1) 0 ∧ ps.getD i 0 ∈ Mp.all (levs c.t l) (ps.getD (i + 1) 0)
  tail : ∀ i, r ≤ i + 1 → i < ps.length → ps.getD i 0 = (l.length : Int) - ps.length + i
theorem places_plc {c : Cf} {l : List Bl} (hch : Chn c l) (hP : mayP c.m c.k c.a c.b = true) (hk : c.k < l.length) : ∃ r kn, Plc c l (placesR c l) r kn := by
  have hk1 : 1 ≤ c.k := by
    simp only [mayP, Bool.and_eq_true, decide_eq_true_eq] at hP
    omega
  obtain ⟨kn, hkn⟩ : ∃ n : Nat, c.k = (n : Int) := ⟨c.k.toNat, by omega⟩
  have hn := levs_length c.t l
  obtain ⟨R, hR⟩ : ∃ x, pickR (levs c.t l) c.m c.k c.a c.b = x := ⟨_, rfl⟩
  obtain ⟨j1, j2, j3, j4⟩ := pick_joined (levs c.t l) hch.levels c.m c.k c.a c.b kn hkn hP (by omega) (by have := hch.le; omega) R hR
  rw [hn] at j3
  have e : placesR c l = R ++ tailP c l kn := by
    rw [placesR, hR, if_neg (by intro e; rw [e] at j1; simp at j1), show (min (max c.k 0) (l.length : Int)).toNat = kn by omega]
  have hm := fun i d hi => Mp.mono_at (f := fun i => R.getD i 0) (n := R.length) (fun i hi => (j4 i hi).1) i d hi
  have hlast := hm 0 (R.length - 1) (by omega)
  rw [Nat.zero_add] at hlast
  have hlast : (0 : Int) + (R.length - 1 : Nat) ≤ (l.length : Int) - c.k - 1 := by
    have hh : R.getD 0 0 + ((R.length - 1 : Nat) : Int) ≤ R.getD (R.length - 1) 0 := hlast
    rwa [j2, j3] at hh
  have hm : ∀ i d, i + d < R.length → R.getD i 0 + (d : Int) ≤ R.getD (i + d) 0 := hm
  have hlen : (R ++ tailP c l kn).length = R.length + kn := by rw [List.length_append, tailP_len]
  have hget : ∀ i, (R ++ tailP c l kn).getD i 0 = if i < R.length then R.getD i 0 else (tailP c l kn).getD (i - R.length) 0 := getD_app _ _
  have ht : ∀ i, R.length ≤ i + 1 → i < R.length + kn → (R ++ tailP c l kn).getD i 0 = (l.length : Int) - (R.length + kn : Nat) + i := by
    intro i h1 h2
    rw [hget]
    split
    · rename_i h
      obtain rfl : i = R.length - 1 := by omega
      rw [j3]; omega
    · rw [tailP_get _ _ _ _ (by omega)]; omega
  have hb : ∀ i, i < R.length + kn → 0 ≤ (R ++ tailP c l kn).getD i 0 ∧ (R ++ tailP c l kn).getD i 0 < l.length := by
    intro i hi
    by_cases h : R.length ≤ i + 1
    · rw [ht i h hi]; omega
    · rw [hget, if_pos (by omega)]
      have h1 := hm 0 i (by omega)
      have h2 := hm i (R.length - 1 - i) (by omega)
      rw [Nat.zero_add, j2] at h1
      rw [show i + (R.length - 1 - i) = R.length - 1 by omega, j3] at h2
      omega
  refine ⟨R.length, kn, ⟨hkn, j1, by omega, ?_, ?_, ?_, ?_, ?_, ?_⟩⟩
  · rw [e, hlen]
  · rw [e, hlen]; omega
  · rw [e, hget, if_pos j1, j2]
  · rw [e, hlen]; exact hb
  · rw [e, hlen]
    intro i hi
    by_cases h : R.length ≤ i + 1
    · have h1 := ht i h (by omega)
      have h2 := ht (i + 1) (by omega) hi
      have h3 := hb i (by omega)
      obtain ⟨a, ha⟩ : ∃ a : Nat, (R ++ tailP c l kn).getD i 0 = a := ⟨((R ++ tailP c l kn).getD i 0).toNat, by omega⟩
      have h4 : (R ++ tailP c l kn).getD (i + 1) 0 = (a : Int) + 1 := by omega
      rw [h4, ha]
      obtain ⟨r, hr⟩ := Mp.all_prev (levs c.t l) hch.levels a (by
        have := hb (i + 1) hi
        omega)
      exact ⟨by omega, by rw [hr]; exact List.mem_cons_self⟩
    · rw [hget i, hget (i + 1), if_pos (by omega), if_pos (by omega)]
      exact j4 i (by omega)
  · rw [e, hlen]; exact ht

/-! ### The steps -/
theorem Chn.checkB {c : Cf} {l : List Bl} (h : Chn c l) {k : Nat} (hk : k < l.length) : (l.getD k bl0).h.h = k ∧ (l.getD k bl0).h.l = linkR (vecA c.t l k) := by
  have := (ask3_work (h.ask k hk)).2.1
  simp only [askF] at this
  rw [if_neg (by decide), if_pos trivial, L.checkB] at this
  split at this
  · cases this
  · rename_i h1
    split at this
    · rename_i h2; exact absurd this h2
    · split at this
      · cases this
      · rename_i h3
        exact ⟨Decidable.not_not.1 h1, by rw [← Decidable.not_not.1 h3]; rfl⟩
theorem Chn.anchor {c : Cf} {l : List Bl} (h : Chn c l) : (l.getD 0 bl0).h = c.g := by
  have := (ask3_work (h.ask 0 h.pos)).1
  simp only [askF, anchorF] at this
  rw [if_pos trivial] at this
  by_cases e : (l.getD 0 bl0).h = c.g
  · exact e
  · rw [if_pos ⟨trivial, e⟩] at this; cases this
theorem Chn.vecLen {c : Cf} {l : List Bl} (h : Chn c l) {k : Nat} (hk : k ≤ l.length) : (vecA c.t l k).length ≤ 257 := by
  rw [h.vec hk, List.length_map]; exact Mp.all_len _ _
/-- A step of the proof. -/
theorem step_zero {c : Cf} {l : List Bl} {ps : List Int} {r kn : Nat} (hch : Chn c l) (p : Plc c l ps r kn) : stepAt c.t l ps 0 = (((l.getD 0 bl0).h, ox0), 0) := by
  have := hch.pos
  rw [stepAt, p.zero, if_neg (by omega), if_pos rfl]; rfl
theorem step_more {c : Cf} {l : List Bl} {ps : List Int} {r kn : Nat} (hch : Chn c l) (p : Plc c l ps r kn) {i a b : Nat} (hi : i + 1 < ps.length) (ha : ps.getD (i + 1) 0 = a) (hb : ps.getD i 0 = b) :
    ∃ z : Nat, z < (vecA c.t l a).length ∧ Mp.index (levs c.t l) a b = z ∧ (vecA c.t l a).getD z [] = idL (l.getD b bl0).h ∧
      stepAt c.t l ps (i + 1) = (((l.getD a bl0).h, ((z : Int), (((vecA c.t l a).map (76 :: ·)).length : Int), pathS (((vecA c.t l a).map (76 :: ·)).map leafS) z)), 0) := by
  obtain ⟨s1, s2⟩ := p.step i hi
  have hal := (p.bd (i + 1) hi).2
  have hbl := (p.bd i (by omega)).2
  rw [ha, hb] at s1 s2
  rw [ha] at hal
  rw [hb] at hbl
  obtain ⟨z, hz1, hz2⟩ := Mp.indexFrom_mem (b : Int) (Mp.all (levs c.t l) a) 0 s2
  rw [Int.zero_add] at hz1
  have hzl : z < (Mp.all (levs c.t l) a).length := (List.getElem?_eq_some_iff.1 hz2).1
  have hv := hch.vec (k := a) (by omega)
  have hvl : (vecA c.t l a).length = (Mp.all (levs c.t l) a).length := by rw [hv, List.length_map]
  refine ⟨z, by omega, hz1, ?_, ?_⟩
  · rw [hv]
    simp only [List.getD, List.getElem?_map, hz2, Option.map_some, Option.getD_some, Int.toNat_natCast]
    exact idsA_get (by omega)
  · have hi1 : Mp.index (levs c.t l) a b = z := hz1
    rw [stepAt, ha, if_neg (by omega), if_neg (by omega), Nat.add_sub_cancel, hb, hi1, if_neg (by omega), Int.toNat_natCast, opR, if_neg (by rw [List.length_map]; omega), Int.toNat_natCast]

theorem stepsGo_all {t : List UInt8} {l : List Bl} {ps : List Int} (h : ∀ i, i < ps.length → (stepAt t l ps i).2 = 0) (r k : Nat) (acc : List SX) (hk : k + r = ps.length) :
    stepsGo t l ps r k acc = (acc ++ (List.range' k r).map fun i => (stepAt t l ps i).1, 0) := by
  induction r generalizing k acc with
  | zero => simp [stepsGo]
  | succ r ih =>
    rw [stepsGo, if_neg (by rw [h k (by omega)]; simp), ih (k + 1) _ (by omega), List.range'_succ]
    simp
theorem stepsR_all {t : List UInt8} {l : List Bl} {ps : List Int} (h : ∀ i, i < ps.length → (stepAt t l ps i).2 = 0) : stepsR t l ps = ((List.range ps.length).map fun i => (stepAt t l ps i).1, 0) := by
  rw [stepsR, stepsGo_all h ps.length 0 [] (by omega), List.nil_append, List.range_eq_range']

/-! ### An opening holds -/
theorem hold_path (Y : List (List UInt8)) (i : Nat) (hi : i < Y.length) (hn : Y.length ≤ 1048576) : holdC (rootF Y) (Y.getD i []) ((i : Int), (Y.length : Int), pathS (Y.map leafS) i) = true := by
  have hl : (Y.map leafS).length = Y.length := List.length_map _
  have hp := pathS_len (xs := Y.map leafS) (i := i) (by omega)
  rw [hl] at hp
  have hm : holdMay ((i : Int), (Y.length : Int), pathS (Y.map leafS) i) = 0 := by
    rw [holdMay, if_neg (by dsimp only; omega), if_neg]
    dsimp only
    rw [depthR, if_pos (by omega), Int.toNat_natCast, Int.toNat_natCast, hp]
    simp
  have hf := Mp.fold_path (List.replicate 32 0) nodeS (Y.map leafS) i (by omega)
  rw [hl] at hf
  have hg : (Y.map leafS).getD i (List.replicate 32 0) = leafS (Y.getD i []) := by simp [hi]
  rw [hg] at hf
  have hr : holdR ((i : Int), (Y.length : Int), pathS (Y.map leafS) i) (Y.getD i []) = (rootF Y, 0) := by
    rw [holdR, if_neg (by rw [hm]; simp), zipS]
    dsimp only
    rw [Int.toNat_natCast, Int.toNat_natCast, pathS, hf]
    rfl
  rw [holdC, hr]
  simp

/-! ### Validity -/
theorem tailGo_ge (X : List SX) (k m : Nat) (hk : k ≤ m) (h : ∀ i, m < i + k → i ≤ m → tailOk X i = true) : k ≤ tailGo X m := by
  induction k generalizing m with
  | zero => omega
  | succ k ih =>
    obtain ⟨m', rfl⟩ : ∃ m', m = m' + 1 := ⟨m - 1, by omega⟩
    rw [tailGo, if_pos (h (m' + 1) (by omega) (by omega))]
    have := ih m' (by omega) fun i h1 h2 => h i (by omega) (by omega)
    omega
theorem valGo_zero (x : Cf) (X : List SX) (r i : Nat) (h : ∀ j, i ≤ j → j < i + r → rules3 x X j = 0) (ht : ¬ (tailLen X : Int) < x.k) : valGo x X r i = (0, 0) := by
  induction r generalizing i with
  | zero => rw [valGo, if_neg ht]
  | succ r ih =>
    rw [valGo, if_neg (by rw [h i (by omega) (by omega)]; simp)]
    exact ih (i + 1) fun j h1 h2 => h j (by omega) (by omega)
/-- The proof of a chain that may be. -/
structure Prf (c : Cf) (l : List Bl) (X : List SX) : Prop where
  more : c.k < X.length
  k0 : 1 ≤ c.k
  le : X.length ≤ l.length
  valid : valR c X = (0, 0)
  head : ∀ i, i < X.length → ∃ a : Nat, a < l.length ∧ (X.getD i sx0).1 = (l.getD a bl0).h ∧ (X.getD i sx0).1.h = a ∧ ((X.length : Int) - c.k ≤ i → (a : Int) = l.length - X.length + i)
  rise : ∀ i, i + 1 < X.length → (X.getD i sx0).1.h < (X.getD (i + 1) sx0).1.h
theorem prove_prf {c : Cf} {l : List Bl} (hch : Chn c l) (hc0 : (chkF c l).1 = 0) (hP : mayP c.m c.k c.a c.b = true) (hk : c.k < l.length) : ∃ X, proveR c l = (X, 0) ∧ Prf c l X := by
  obtain ⟨r, kn, p⟩ := places_plc hch hP hk
  obtain ⟨ps, hps⟩ : ∃ ps, placesR c l = ps := ⟨_, rfl⟩
  rw [hps] at p
  have hpl := p.len
  have hr1 := p.r1
  have hkk := p.k
  have hm : mayPr c l = 0 := by rw [mayPr, if_neg (by rw [hc0]; simp), if_neg (by rw [hP]; simp), if_neg (by omega)]
  have hst : ∀ i, i < ps.length → (stepAt c.t l ps i).2 = 0 ∧ (stepAt c.t l ps i).1.1 = (l.getD (ps.getD i 0).toNat bl0).h := by
    intro i hi
    cases i with
    | zero => rw [step_zero hch p, p.zero]; exact ⟨rfl, rfl⟩
    | succ i =>
      have h1 := p.bd (i + 1) hi
      have h2 := p.bd i (by omega)
      obtain ⟨z, _, _, _, e⟩ := step_more hch p hi (show ps.getD (i + 1) 0 = ((ps.getD (i + 1) 0).toNat : Nat) by omega) (show ps.getD i 0 = ((ps.getD i 0).toNat : Nat) by omega)
      rw [e]; exact ⟨rfl, rfl⟩
  refine ⟨(List.range ps.length).map fun i => (stepAt c.t l ps i).1, by rw [proveR, if_neg (by rw [hm]; simp), hps, stepsR_all fun i hi => (hst i hi).1], ?_⟩
  obtain ⟨X, hX⟩ : ∃ X, ((List.range ps.length).map fun i => (stepAt c.t l ps i).1) = X := ⟨_, rfl⟩
  have hXl : X.length = ps.length := by rw [← hX]; simp
  have hXg : ∀ i, i < ps.length → X.getD i sx0 = (stepAt c.t l ps i).1 := fun i hi => by rw [← hX]; simp [hi]
  rw [hX]
  have hle := p.le
  have hhd : ∀ i, i < ps.length → ∃ a : Nat, a < l.length ∧ ps.getD i 0 = a ∧ (X.getD i sx0).1 = (l.getD a bl0).h ∧ (X.getD i sx0).1.h = a := by
    intro i hi
    have h1 := p.bd i hi
    refine ⟨(ps.getD i 0).toNat, by omega, by omega, ?_, ?_⟩
    · rw [hXg i hi, (hst i hi).2]
    · rw [hXg i hi, (hst i hi).2, (hch.checkB (by omega)).1]
  have hrise : ∀ i, i + 1 < ps.length → (X.getD i sx0).1.h < (X.getD (i + 1) sx0).1.h := by
    intro i hi
    obtain ⟨a, _, ha, _, ha2⟩ := hhd i (by omega)
    obtain ⟨b, _, hb, _, hb2⟩ := hhd (i + 1) hi
    have := (p.step i hi).1
    omega
  refine ⟨by omega, by have := p.kn1; omega, by omega, ?_, ?_, by rw [hXl]; exact hrise⟩
  · have h0 : X.getD 0 sx0 = ((l.getD 0 bl0).h, ox0) := by rw [hXg 0 (by omega), step_zero hch p]
    have ha : anchR c.g X = 0 := by
      rw [anchR, if_neg (by omega), h0, if_neg (by dsimp only; rw [hch.anchor]; simp), if_neg (by simp [isOp0, ox0])]
    rw [valR, if_neg (by rw [ha]; simp)]
    refine valGo_zero c X X.length 0 (fun j _ hj => rules3_zero c X j ?_) ?_
    · rw [Nat.zero_add, hXl] at hj
      obtain ⟨a, hal, ha1, ha2, ha3⟩ := hhd j hj
      intro k hk3
      match k, hk3 with
      | 0, _ =>
        cases j with
        | zero => rfl
        | succ i =>
          simp only [ruleF, Nat.add_sub_cancel]
          rw [decide_eq_true (hrise i hj), Bool.or_true]
      | 1, _ => simp only [ruleF]; rw [ha2]; exact hch.work hal
      | 2, _ =>
        cases j with
        | zero => rfl
        | succ i =>
          obtain ⟨b, hbl, hb1, hb2, hb3⟩ := hhd i (by omega)
          obtain ⟨z, z1, z2, z3, e⟩ := step_more hch p hj ha1 hb1
          simp only [ruleF, Nat.add_sub_cancel]
          rw [hb2, hXg (i + 1) hj, e]
          have hvl := hch.vecLen (k := a) (by omega)
          have hroot := (hch.checkB hal).2
          have hh := hold_path ((vecA c.t l a).map (76 :: ·)) z (by rw [List.length_map]; exact z1) (by rw [List.length_map]; omega)
          have hg : ((vecA c.t l a).map (76 :: ·)).getD z [] = 76 :: idL (l.getD b bl0).h := by
            rw [← z3]; simp [z1]
          rw [hg] at hh
          rw [joinC]
          dsimp only
          rw [linkC, hroot, linkR, hh]
          simp; omega
    · have : kn ≤ tailLen X := by
        rw [tailLen, hXl]
        refine tailGo_ge X kn (ps.length - 1) (by omega) fun i h1 h2 => ?_
        obtain ⟨j, rfl⟩ : ∃ j, i = j + 1 := ⟨i - 1, by omega⟩
        have hj : j + 1 < ps.length := by omega
        obtain ⟨a, hal, ha1, ha2, ha3⟩ := hhd (j + 1) hj
        obtain ⟨b, hbl, hb1, hb2, hb3⟩ := hhd j (by omega)
        have ht1 := p.tail (j + 1) (by omega) hj
        have ht2 := p.tail j (by omega) (by omega)
        have hab : (a : Int) = b + 1 := by omega
        obtain ⟨z, z1, z2, z3, e⟩ := step_more hch p hj ha1 hb1
        have hz0 : z = 0 := by
          have := Mp.index_prev (levs c.t l) hch.levels b (by rw [levs_length]; omega)
          rw [← hab, z2] at this
          omega
        subst hz0
        rw [tailOk, Nat.add_sub_cancel, nextH, hb3, ha3, hXg (j + 1) hj, e, hab]
        rw [decide_eq_true (by omega : (b : Int) < b + 1), show (b : Int) + 1 - b = 1 by omega]
        rfl
      omega
  · intro i hi
    rw [hXl] at hi
    obtain ⟨a, hal, ha1, ha2, ha3⟩ := hhd i hi
    refine ⟨a, hal, ha2, ha3, fun h => ?_⟩
    rw [← ha1, hXl]
    exact p.tail i (by omega) hi
end Go.Proofs.YtmcapgjdflohfaaGreat.L

namespace Go.Proofs.YtmcapgjdflohfaaGreat.L
open Go Go.RowKit
set_option linter.unusedVariables false
section
variable {c : Cx} {n : Nat} {Q : Exit → Env → World → Prop} {σ : Env} {H Hs : List Res} {K : List Fact}
variable {ops : Array Oper} {m f : Nat} {listed : Array Bool}

/-- The only one: a call that changes nothing old. -/
theorem callWP (i : Nat) {d : Nat} {fid : FuncId} {args : Array Operand} {ats : Array TypeId} {vs : List Value} {t : TypeId} {p : String} {af : Array Edge} {v : Value}
    (hi : ops[i]? = some ⟨some d, .call { callee := .value (.func fid), args := args, argTypes := ats }, t, p, af, none⟩)
    (hr1 : Region.ready .any ops listed = [i]) (him : Nat.blt i m = true) (hs : Hs.Sublist H) (hf : Fn c.P fid) (ha : args.toList.map (ev σ) = vs) (hd : Nat.blt d n = true)
    (spec : ∀ w, M c H K w → Calls c.P fid vs.toArray w fun e w' => e = .returned v ∧ Below w.heap.size w w')
    (h : HDi Hs c n ops Q m f (listed.setIfInBounds i true) (upd σ d v) H K) : HDi Hs c n ops Q m (f + 1) listed σ H K := by
  intro hok inv w hM a hr
  have him' : i < m := by simp [Nat.blt] at him; omega
  refine ⟨by rw [hr1]; simp, fun j hj => ?_⟩
  have hjr := hj
  rw [hr1] at hj
  have hji : j = i := by simpa using hj
  subst hji
  refine ⟨him', ?_⟩
  unfold wpOp
  simp only [hi, Region.wanted, if_true]
  refine .inl ?_
  unfold Oper.wp
  rw [hr.eval, hf.run, map_args ha]
  refine (spec w hM).mono ?_
  rintro e w' ⟨rfl, hb⟩
  have hM' := hM.pure (grown_below hb)
  exact ⟨hM'.sub hs, h hok (inv.set hjr him') w' hM' _ (hr.put d _ (by simp [Nat.blt] at hd; omega))⟩

/-- The only one: a store into a block that is not among those that are only read. -/
theorem stoWF (i k : Nat) {tx e : TypeId} {x y : Operand} {t : TypeId} {p : String} {af : Array Edge} {b off : Nat} {ls vs rs : List Value} {v : Value} (hi : ops[i]? = some ⟨none, .store tx x y, t, p, af, none⟩)
    (hr1 : Region.ready .any ops listed = [i]) (him : Nat.blt i m = true)
    (hx : ev σ x = .pointer (some ⟨b, off, none⟩)) (hy : ev σ y = v) (hv : v.cells = vs.toArray) (hk : H[k]? = some (.blk b (ob ls e))) (hsz : (c.P.info? tx).map (·.size) = some vs.length) (h1 : one vs = true) (hlen : off + vs.length ≤ ls.length)
    (hrs : ls.take off ++ vs ++ ls.drop (off + vs.length) = rs)
    (hs : Hs.Sublist (H.set k (.blk b (ob rs e)))) (h : HDi Hs c n ops Q m f (listed.setIfInBounds i true) σ (H.set k (.blk b (ob rs e))) K) : HDi Hs c n ops Q m (f + 1) listed σ H K := by
  intro hok inv w hM a hr
  have him' : i < m := by simp [Nat.blt] at him; omega
  refine ⟨by rw [hr1]; simp, fun j hj => ?_⟩
  have hjr := hj
  rw [hr1] at hj
  have hji : j = i := by simpa using hj
  subst hji
  refine ⟨him', ?_⟩
  unfold wpOp
  simp only [hi, Region.wanted, if_true]
  refine .inl ?_
  unfold Oper.wp
  have hb := hM.blk k hk
  have hst := run_storeCells_at (P := c.P) b off e vs 0 ls.toArray w hb (by simp; omega) (fun u hu => List.all_eq_true.1 h1 u hu)
  have hrun : (execOp a.eval ⟨none, .store tx x y, t, p, af, none⟩).run c.P w = .ok .skip (w.setRow b rs.toArray) := by
    simp only [execOp, hr.eval, hx, hy, Instr.storeAt, Instr.sureAddr, Sem.run_bind, Sem.run_pure, Result.andThen_ok, storeVar, run_size hsz, hv]
    simp only [List.size_toArray, ne_eq, not_true_eq_false, if_false]
    rw [hst, Nat.add_zero]
    simp [hrs]
  rw [hrun]
  have hM' : M c (H.set k (.blk b (ob rs e))) K (w.setRow b rs.toArray) := hM.change k hk (grownBy_setRow w b _) (setRow_heap w b _ _ e _ hb) (.inl rfl)
  exact ⟨hM'.sub hs, h hok (inv.set hjr him') _ hM' _ hr⟩

/-- One of those that may come up. -/
def CanW (Hs : List Res) (c : Cx) (n : Nat) (ops : Array Oper) (Q : Exit → Env → World → Prop) (m f : Nat) (listed : Array Bool) (σ : Env) (H : List Res) (K : List Fact) (i : Nat) : Prop :=
  okDraw ops m = true → HeadInv .any ops m listed → i ∈ Region.ready .any ops listed → ∀ w, M c H K w → ∀ a, Rep n a σ → i < m ∧ wpOp c.P ops (lift n Q) i (fun a' w' => M c Hs K w' ∧ wpHd c.P .any ops (lift n Q) (M c Hs K) m (LT c n ops Q m) f (listed.setIfInBounds i true) a' w') a w
theorem fork2W (i j : Nat) (hr : Region.ready .any ops listed = [i, j]) (hi : CanW Hs c n ops Q m f listed σ H K i) (hj : CanW Hs c n ops Q m f listed σ H K j) : HDi Hs c n ops Q m (f + 1) listed σ H K := by
  intro hok inv w hM a hrep
  refine ⟨by rw [hr]; simp, fun k hk => ?_⟩
  have hk' := hk
  rw [hr] at hk'
  simp only [List.mem_cons, List.not_mem_nil, or_false] at hk'
  rcases hk' with rfl | rfl
  · exact hi hok inv hk w hM a hrep
  · exact hj hok inv hk w hM a hrep
theorem only1W (i : Nat) (hr : Region.ready .any ops listed = [i]) (hi : CanW Hs c n ops Q m f listed σ H K i) : HDi Hs c n ops Q m (f + 1) listed σ H K := by
  intro hok inv w hM a hrep
  refine ⟨by rw [hr]; simp, fun k hk => ?_⟩
  have hk' := hk
  rw [hr] at hk'
  simp only [List.mem_cons, List.not_mem_nil, or_false] at hk'
  subst hk'
  exact hi hok inv hk w hM a hrep
theorem canAW (i : Nat) {d : Nat} {e : TypeId} {z : Value} {t : TypeId} {p : String} {af : Array Edge} {cs : List Value} (hi : ops[i]? = some ⟨some d, .alloc e, t, p, af, none⟩)
    (him : Nat.blt i m = true) (hz : (c.P.info? e).map (·.zero) = some (some z)) (hc : z.cells = cs.toArray) (hd : Nat.blt d n = true) (hs : ∀ b, Hs.Sublist (.blk b (ob cs e) :: H))
    (h : ∀ b, HDi Hs c n ops Q m f (listed.setIfInBounds i true) (upd σ d (.pointer (some ⟨b, 0, none⟩))) (.blk b (ob cs e) :: H) K) : CanW Hs c n ops Q m f listed σ H K i := by
  intro hok inv hri w hM a hr
  have him' : i < m := by simp [Nat.blt] at him; omega
  refine ⟨him', ?_⟩
  unfold wpOp
  simp only [hi, Region.wanted, if_true]
  refine .inl ?_
  unfold Oper.wp
  obtain ⟨b, w', hrun, hM'⟩ := run_alloc (σ := σ) (d := some d) (t := t) (p := p) (af := af) (g := none) (e := e) hz hc w hM
  rw [hr.eval, hrun]
  exact ⟨hM'.sub (hs b), h b hok (inv.set hri him') w' hM' _ (hr.put d _ (by simp [Nat.blt] at hd; omega))⟩
end
end Go.Proofs.YtmcapgjdflohfaaGreat.L

namespace Go.Proofs.YtmcapgjdflohfaaGreat.L
open Go Go.RowKit
set_option linter.unusedVariables false

section
variable {c : Cx} {n : Nat} {Q : Exit → Env → World → Prop} {σ : Env} {H : List Res} {K : List Fact}
variable {d : Option Tmp} {t : TypeId} {p : String} {af : Array Edge} {g : Option (Nat × Bool)}
/-- 'xs[l:h]'. -/
theorem slMid {x y z : Operand} {tx e : TypeId} {A : Option Addr} {m cap : Nat} {k k' : IntKind} {l h q : Nat} (hu : c.P.underlying tx = some (.slice e)) (hz : (c.P.info? e).map (·.size) = some q) (hx : ev σ x = .slice A m cap) (hl : ev σ y = .int k l) (hh : ev σ z = .int k' h) (h1 : l ≤ h) (h2 : h ≤ cap) :
    Det c σ H K ⟨d, .slice tx x (some y) (some z) none, t, p, af, g⟩ (.slice (if cap = l then A else A.map fun a => a.add (l * q)) (h - l) (cap - l)) := fun w _ => by
  have e1 : (l : Int) ≤ (h : Int) := by omega
  have e2 : (h : Int) ≤ (cap : Int) := by omega
  simp [execOp, hx, hl, hh, Instr.sliceAt, Instr.slice, run_und hu, Instr.sliceBounds, Instr.sliceBound, asIntOf, e1, e2, run_size hz]
  rw [if_pos h2, if_pos h1]
/-- A row of one's own becomes known. -/
theorem M.rowSl {w : World} {A : Option Addr} {m cap sz : Nat} {e : TypeId} {ls : List (List Value)} (hm : M c (.row (.slice A m cap) e sz m ls.flatten :: H) K w) (hl : ∀ l ∈ ls, l.length = sz ∧ one l = true) (hn : ls.length = m) (hS : c.S = []) :
    M c H (Fr c.w0.heap.size (Sl sz A m cap ls) :: K) w := by
  obtain ⟨A', cap', hA, hs⟩ := row_sl (hm.get (i := 0) rfl) hl hn
  obtain ⟨rfl, rfl⟩ : A = A' ∧ cap = cap' := by simpa using hA
  have hsub := hm.sub (List.sublist_cons_self _ _)
  obtain ⟨D, d1, d2, d3, d4, d5⟩ := hm.data
  have hown : ∀ b, (Value.slice A m cap).ownBlock = some b → c.w0.heap.size ≤ b ∧ b < w.heap.size ∧ b ∉ places H := by
    intro b hb
    have h1 := hm.mine b (mem_places.2 ⟨_, List.mem_cons_self, hb⟩)
    rw [hS] at h1
    refine ⟨by simpa using h1.1, h1.2, fun h => ?_⟩
    have hnd := hm.nodup
    simp only [places, Res.at, hb, Option.toList_some, List.singleton_append, List.nodup_cons] at hnd
    exact hnd.1 h
  refine ⟨hsub.os, hsub.tape, hsub.output, hsub.size, hsub.frame, hsub.holds, hsub.mine, hsub.nodup, ⟨Fr.stable Sl.stable, hsub.stable⟩, fun k => D k ∨ (Value.slice A m cap).ownBlock = some k, ?_, ?_, ?_, ?_, ?_, ?_⟩
  · rintro k (hk | hk)
    · exact d1 k hk
    · exact .inr (hown k hk).1
  · exact fun k hk => .inl (d2 k hk)
  · rintro k (hk | hk)
    · exact d3 k hk
    · exact (hown k hk).2.1
  · rintro b hb (hk | hk)
    · exact d4 b (List.mem_append_right _ hb) hk
    · exact (hown b hk).2.2 hb
  · exact hs _ fun b hb => ⟨.inr hb, (hown b hb).1⟩
  · exact d5.step hm.stable (fun k hk => .inl hk) fun _ _ _ => rfl
theorem TL.pre {ops : Array Oper} {l : List Oper} {H' : List Res} {K' : List Fact} (h : ∀ w, M c H K w → M c H' K' w) (k : TL c n ops l Q σ H' K') : TL c n ops l Q σ H K := fun w hm => k w (h w hm)
theorem Tr.pre {x : Code} {H' : List Res} {K' : List Fact} (h : ∀ w, M c H K w → M c H' K' w) (k : Tr c n x Q σ H' K') : Tr c n x Q σ H K := fun w hm => k w (h w hm)
end

/-! ### around -/
def aroundR : List Int → Int → Nat
  | [], _ => 0
  | x :: r, a => if a ≤ x then 0 else aroundR r a + 1
theorem aroundR_le (l : List Int) (a : Int) : aroundR l a ≤ l.length := by
  induction l with
  | nil => simp [aroundR]
  | cons x r ih => simp only [aroundR]; split <;> simp; omega
theorem way_around_ (y : List Int) (a : Int) (A : Option Addr) (cap : Nat) (D : Nat → Prop) (w : World) (hD : ∀ k, D k → k < w.heap.size) (hs : Sl 1 A y.length cap (il y) D w) :
    Calls PP N_way_around #[.slice A y.length cap, .int .i64 a] w (PR w (.int .i64 (aroundR y a))) := by
  have hmx : y.length ≤ maxLen := Nat.le_trans hs.2.1 hs.2.2.1
  simp only [maxLen] at hmx
  obtain ⟨R, hR⟩ : ∃ R, aroundR y a = R := ⟨_, rfl⟩
  rw [hR]
  refine enter f_way_around rfl n_way_around rfl (M.init1 PP w Sl.stable hD hs) ?_
  refine seq (region (det rfl (asg rfl) (nilS ?_)))   -- region 0
  refine seq ?_
  refine seq (region (det rfl (mv rfl) (det rfl (lenS u_sl_int rfl) (det rfl (mv rfl) (nilS ?_)))))   -- region 1
  refine block ?_   -- block 0
  refine loopV (ι := Nat) (fun k => k ≤ y.length ∧ k + aroundR (y.drop k) a = R) (fun k => [(0, .slice A y.length cap), (1, .int .i64 a), (7, .slice A y.length cap), (8, .int .i64 y.length), (9, .int .i64 k)]) (fun _ => []) (fun _ => [Sl 1 A y.length cap (il y)]) (fun k => y.length - k) 0 ⟨by omega, by rw [List.drop_zero, hR]; omega⟩ ⟨rfl, rfl, rfl, rfl, rfl, trivial⟩ (fun w hm => hm) ?_
  rintro k σ ⟨hk, hc⟩
  refine seq (region (det rfl (lss rfl rfl) (nilS ?_)))   -- region 2
  refine seq ?_
  refine cond rfl (fun h => ?_) (fun h => ?_)   -- on t10
  · have h := of_decide_eq_true h
    have hkl : k < y.length := by omega
    obtain ⟨x, hx⟩ : ∃ x, y.getD k 0 = x := ⟨_, rfl⟩
    have hx2 : y[k] = x := by rw [← hx]; simp [hkl]
    rw [List.drop_eq_getElem_cons hkl, aroundR, hx2] at hc
    refine skipS ?_
    refine seq ?_
    refine block ?_   -- block 1
    refine seq (region (det rfl (mv rfl) (det rfl (ixS 0 rfl rfl u_sl_int s_int rfl (by omega) (by omega)) (det rfl (ldSO 0 (v := .int .i64 x) rfl rfl o_int (by rw [← hx]; exact il_at (by omega) hkl)) (det rfl (asg rfl) (det rfl (asg rfl) (nilS ?_)))))))   -- region 3
    refine seq (region (det rfl (mv rfl) (det rfl (mv rfl) (det rfl (geq rfl rfl) (nilS ?_)))))   -- region 4
    refine cond rfl (fun h2 => ?_) (fun h2 => ?_)   -- on t16
    · have h2 := of_decide_eq_true h2
      rw [if_pos h2] at hc
      refine seq (region (det rfl (mv rfl) (det rfl (asg rfl) (nilS ?_))))   -- region 5
      exact ret (retT rfl rfl (pr' (vi (by omega))))
    · have h2 := of_decide_eq_false h2
      rw [if_neg h2] at hc
      refine skip ?_
      show Tr _ _ _ _ _ _ _
      refine region (det rfl (addI rfl rfl (by omega) (by omega)) (det rfl (mv rfl) (nil ?_)))   -- region 6
      exact again (k + 1) ⟨by omega, by omega⟩ ⟨rfl, rfl, rfl, rfl, rfl, trivial⟩ (fun w hm => hm) (by (first | omega | (dsimp only; omega)))
  · have h := of_decide_eq_false h
    obtain rfl : k = y.length := by omega
    rw [List.drop_length, aroundR] at hc
    refine exit ?_   -- 0
    show Tr _ _ _ _ _ _ _
    refine seq (region (det rfl (mv rfl) (det rfl (lenS u_sl_int rfl) (det rfl (asg rfl) (nilS ?_)))))   -- region 7
    exact ret (retT rfl rfl (pr' (vi (by omega))))

/-! ### An infix proof -/
structure Inf where
  at_ : Int
  A : Option Addr
  cap : Nat
  S : List St
  back : Opn
  which : Int
  tx : List UInt8
  op : Opn
def Inf.c (x : Inf) : List Value := [.int .i64 x.at_, .slice x.A x.S.length x.cap, .int .i64 x.back.i, .int .i64 x.back.n, .slice x.back.A x.back.p.length x.back.cap, .int .i64 x.which, .string (bs x.tx), .int .i64 x.op.i, .int .i64 x.op.n, .slice x.op.A x.op.p.length x.op.cap]
def InfF (x : Inf) : Fact := fun D w => StS x.A x.S.length x.cap x.S D w ∧ OpF x.back D w ∧ OpF x.op D w
theorem InfF.stable {x : Inf} : Stable (InfF x) := fun D D' w w' hD hw h => ⟨StS.stable D D' w w' hD hw h.1, OpF.stable D D' w w' hD hw h.2.1, OpF.stable D D' w w' hD hw h.2.2⟩
/-- What 'inner' hands back: the same infix proof with steps, of new blocks. -/
def RInn (w : World) (x : Inf) (X : List SX) (b : OpX) (i : Int) : Ending → World → Prop := fun e w' =>
  ∃ A cap S B bc, S.map St.x = X ∧ e = .returned (.tuple #[ag (Inf.mk x.at_ A cap S (mkO b B bc) i x.tx x.op).c, .int .i64 0]) ∧ Below w.heap.size w w' ∧ StS A S.length cap S (fun k => w.heap.size ≤ k ∧ k < w'.heap.size) w' ∧ OpF (mkO b B bc) (fun k => w.heap.size ≤ k ∧ k < w'.heap.size) w'

set_option maxRecDepth 8000 in
set_option maxHeartbeats 1600000 in
theorem way_inner_ (t : List UInt8) (ht : t.length = 32) (l : List Bl) (hlb : ∀ b ∈ l, b.h.ok) (hn : l.length ≤ 10000) (ps : List Int) (hpn : ps.length ≤ 100000) (a : Int) (x : Inf) (k : Nat) (hxk : x.at_ = k) (hk1 : 1 ≤ k) (hk : k < ps.length) (lo hi : Int) (hlo : ps.getD (k - 1) 0 = lo) (hhi : ps.getD k 0 = hi) (W : List Int) (hW : Mp.btw (levs t l) hi a lo = W) (hWl : W.length ≤ 90000)
    (X : List SX) (hX : stepsR t l (lo :: W ++ [hi]) = (X, 0)) (hXl : X.length = W.length + 2) (hXok : ∀ s ∈ X, s.1.ok)
    (A P : Option Addr) (cap pc : Nat) (D : Nat → Prop) (w : World) (hD : ∀ k, D k → k < w.heap.size) (hs : Sl 67 A l.length cap (bl l) D w) (hs2 : Sl 1 P ps.length pc (il ps) D w) :
    Calls PP N_way_inner #[ag (b8 t), .slice A l.length cap, .slice P ps.length pc, .int .i64 a, ag x.c] w (RInn w x ((X.drop 1).dropLast) (X.getD (X.length - 1) sx0).2 (aroundR W a)) := by
  refine enter f_way_inner rfl n_way_inner rfl (M.init PP w D [] [Sl 67 A l.length cap (bl l), Sl 1 P ps.length pc (il ps)] ⟨Sl.stable, Sl.stable, trivial⟩ hD ⟨hs, hs2, trivial⟩) ?_
  obtain ⟨Lv, hLv⟩ : ∃ x, levs t l = x := ⟨_, rfl⟩
  have hLl : Lv.length = l.length := by rw [← hLv, levs_length]
  rw [hLv] at hW
  obtain ⟨xa, xA, xc, xS, xb, xw, xt, xo⟩ := x
  dsimp only at hxk
  subst hxk
  refine seq (region (box rfl rfl rfl fun b0 => box rfl rfl rfl fun b1 => alloc z_api_Infix rfl rfl fun b2 => det rfl (asg rfl) (nilS ?_)))   -- region 0
  refine seq (drawI 13 [] mix (by kernel_rfl) (by kernel_rfl) ?_)   -- drawn 1
  refine nI rfl rfl rfl (mv rfl) ?_
  refine nI rfl rfl rfl (fadr rfl u_api_Infix rfl s_int) ?_
  refine nI rfl rfl rfl (ldB 1 (v := .int .i64 (k : Int)) rfl rfl o_int rfl) ?_
  refine nI rfl rfl rfl (Det.to (v' := .int .i64 ((k - 1 : Nat) : Int)) (subI rfl rfl (by omega) (by omega)) (vi (by omega))) ?_
  refine nI rfl rfl rfl (ixS 1 rfl rfl u_sl_int s_int rfl (by omega) (by omega)) ?_
  refine nI rfl rfl rfl (ldSO 1 (v := .int .i64 lo) rfl rfl o_int (by rw [← hlo]; exact il_at rfl (by omega))) ?_
  refine nI rfl rfl rfl (mv rfl) ?_
  refine nI rfl rfl rfl (fadr rfl u_api_Infix rfl s_int) ?_
  refine nI rfl rfl rfl (ldB 1 (v := .int .i64 (k : Int)) rfl rfl o_int rfl) ?_
  refine nI rfl rfl rfl (ixS 1 rfl rfl u_sl_int s_int rfl (by omega) (by omega)) ?_
  refine nI rfl rfl rfl (ldSO 1 (v := .int .i64 hi) rfl rfl o_int (by rw [← hhi]; exact il_at rfl hk)) ?_
  refine nI rfl rfl rfl (asg rfl) ?_
  refine nI rfl rfl rfl (asg rfl) ?_
  refine endI rfl (nilS ?_)
  refine seq (region (det rfl (ldAll 2 rfl rfl g_api_Hash (by rw [b8_length, ht])) (det rfl (mv rfl) (callS' (m := l.length) (sz := 1) (ls := il Lv) (by rw [il_length, hLl]) k_chain_Levels (show _ = [ag (b8 t), Value.slice A l.length cap] from rfl) rfl (fun w hm => by
    obtain ⟨D, d1, d2, hD, d4, d5⟩ := hm.data
    have := chain_Levels_ t ht l (by omega) hlb A cap D w hD d5.1
    rw [hLv] at this; exact this) fun B q => det rfl (mv rfl) (det rfl (mv rfl) (det rfl (mv rfl) (callS' (m := W.length) (sz := 1) (ls := il W) (il_length W) k_way_Between (show _ = [Value.slice B l.length q, .int .i64 hi, .int .i64 a, .int .i64 lo] from rfl) rfl (fun w hm => by
    obtain ⟨D, hD, hs⟩ := hm.sl (k := 0) rfl
    have := way_Between_ Lv (by omega) hi a lo B q D w hD (by rw [hLl]; exact hs)
    rw [hLl, hW] at this; exact this) fun C r => det rfl (asg rfl) (nilS ?_))))))))   -- region 2
  refine seq (region (det rfl (mv rfl) (bsl rfl (bs1 u_sl_int z_int s_int (cs := [.int .i64 lo]) rfl rfl rfl (by decide) (by decide)) fun b3 => TL.pre (fun w hm => hm.asRow 0 (m := 1) (sz := 1) rfl rfl rfl (by simp [maxLen])) (det rfl (mv rfl) (appS 0 0 u_sl_int i_int rfl (by decide) rfl rfl rfl rfl (by simp only [maxLen]; omega) (by omega) rfl fun E r2 => det rfl (mv rfl) (bsl rfl (bs1 u_sl_int z_int s_int (cs := [.int .i64 hi]) rfl rfl rfl (by decide) (by decide)) fun b4 => appB 1 0 u_sl_int i_int rfl (by decide) rfl rfl rfl rfl rfl rfl (by simp only [maxLen]; omega) (by omega) rfl fun F fc => det rfl (asg rfl) (nilS ?_)))))))   -- region 3
  have hal : (lo :: W ++ [hi]).length = 1 + W.length + 1 := by simp; omega
  refine Tr.pre (H' := [.blk b2 (ob _ T_api_Infix), .blk b1 (ob _ T_api_Infix), .blk b0 (ob (b8 t) T_api_Hash)]) (K' := [Fr w.heap.size (Sl 1 F (1 + W.length + 1) fc (il (lo :: W ++ [hi]))), Sl 1 C W.length r (il W), Sl 1 B l.length q (il Lv), Sl 67 A l.length cap (bl l), Sl 1 P ps.length pc (il ps)]) (fun w hm => by
    have h1 := drop1 hm
    exact M.rowSl (ls := il (lo :: W ++ [hi])) (by
      have e : (il (lo :: W ++ [hi])).flatten = [Value.int .i64 lo] ++ (il W).flatten ++ [.int .i64 hi] := by rw [iv_flat, iv_flat]; simp [iv]
      rw [e]; exact h1) (il_ok _) (by rw [il_length, hal]) rfl) ?_
  refine seq (region (det rfl (ldAll 2 rfl rfl g_api_Hash (by rw [b8_length, ht])) (det rfl (mv rfl) (det rfl (mv rfl) (callSt (L := X) (er := 0) k_prove_Steps (show _ = [ag (b8 t), Value.slice A l.length cap, .slice F (1 + W.length + 1) fc] from rfl) rfl (fun w hm => by
    obtain ⟨D, d1, d2, hD, d4, d5⟩ := hm.data
    have := prove_Steps_ t ht l hlb hn (lo :: W ++ [hi]) (by rw [hal]; omega) A F cap fc D w hD d5.2.2.2.1 (by rw [hal]; exact Sl.mono d5.1 fun k hk => hk.1)
    rw [hal, hX] at this; exact this) fun G gc Sx => det rfl (mv rfl) (det rfl (extr rfl rfl) (det rfl (extr rfl rfl) (det rfl (asg rfl) (det rfl (asg rfl) (nilS ?_))))))))))   -- region 4
  obtain ⟨S, hSX⟩ := Sx
  have hSl : S.length = W.length + 2 := by rw [← hXl, ← hSX, List.length_map]
  have hSlX : X.length = S.length := by rw [hXl, hSl]
  have hSok : ∀ s ∈ S, s.h.ok := fun s hs => hXok s.x (by rw [← hSX]; exact List.mem_map.2 ⟨s, hs, rfl⟩)
  have hlast : S.length - 1 < S.length := by omega
  have hXg : X.getD (X.length - 1) sx0 = (S[S.length - 1]).x := by rw [hSlX, ← hSX]; exact getSX hlast
  rw [hXg]
  refine forget [(3, .int .i64 a), (9, .pointer (some ⟨b1, 0, none⟩)), (10, .pointer (some ⟨b2, 0, none⟩)), (14, .slice C W.length r), (16, .slice G S.length gc), (17, .int .i64 0)] ⟨rfl, rfl, rfl, rfl, congrArg (fun n => Value.slice G n gc) hSlX, rfl, trivial⟩ fun σ => ?_
  refine refactT (K' := [Sl 69 G S.length gc (stl S), Fr w.heap.size (StS G S.length gc S), Sl 1 C W.length r (il W)]) ⟨Sl.stable, Fr.stable StS.stable, Sl.stable, trivial⟩ (fun D w h => ⟨hSlX ▸ (StS.mono h.1 fun k hk => hk.1).1, hSlX ▸ h.1, h.2.2.1, trivial⟩) ?_
  refine slCapT 0 rfl fun hcap => ?_
  refine seq ?_
  refine seq (region (det rfl (mv rfl) (det rfl (Det.to (v' := .bool false) (neq rfl rfl) rfl) (nilS ?_))))   -- region 5
  refine condF rfl ?_
  refine skipS ?_
  refine seq (region (det rfl (mv rfl) (det rfl (lenS u_sl_api_Step rfl) (det rfl (Det.to (v' := .int .i64 ((S.length - 1 : Nat) : Int)) (subI rfl rfl (by omega) (by omega)) (vi (by omega))) (det rfl (asg rfl) (nilS ?_))))))   -- region 7
  obtain ⟨z, hz⟩ : ∃ z, S[S.length - 1] = z := ⟨_, rfl⟩
  have hzok : z.h.ok := by rw [← hz]; exact hSok _ (List.getElem_mem hlast)
  obtain ⟨R, hR⟩ : ∃ R, aroundR W a = R := ⟨_, rfl⟩
  rw [hR, hz]
  have hlm : S.length - 1 - 1 = ((S.take (S.length - 1)).drop 1).length := by simp
  refine seq (drawW (m := 17) [] mix (by kernel_rfl) ?_)   -- drawn 8
  refine takeW 0 rfl (by kernel_rfl) rfl (by simp) (mv rfl) ?_
  refine takeW 1 rfl (by kernel_rfl) rfl (by simp) (mv rfl) ?_
  refine takeW 2 rfl (by kernel_rfl) rfl (by simp) (slMid (l := 1) (h := S.length - 1) u_sl_api_Step s_api_Step rfl rfl rfl (by omega) (by omega)) ?_
  refine takeW 3 rfl (by kernel_rfl) rfl (by simp) (mv rfl) ?_
  refine takeW 4 rfl (by kernel_rfl) rfl (by simp) (mv rfl) ?_
  refine takeW 5 rfl (by kernel_rfl) rfl (by simp) (ixS 0 rfl rfl u_sl_api_Step s_api_Step rfl (by omega) (by omega)) ?_
  refine takeW 6 rfl (by kernel_rfl) rfl (by simp) (fadrS 0 rfl u_api_Step rfl s_api_Opening rfl (by omega)) ?_
  refine takeW 7 rfl (by kernel_rfl) rfl (by simp) (ldSP 0 (i := S.length - 1) (o := 66) (r := z.o.c) rfl rfl g_api_Opening (stl_at rfl hlast) (by rw [hz]; exact St.at_o hzok) rfl) ?_
  refine takeW 8 rfl (by kernel_rfl) rfl (by simp) (mv rfl) ?_
  refine takeW 9 rfl (by kernel_rfl) rfl (by simp) (mv rfl) ?_
  refine takeW 11 rfl (by kernel_rfl) rfl (by simp) (fadr rfl u_api_Infix rfl s_sl_api_Step) ?_
  refine callWP 10 (v := .int .i64 R) rfl (by kernel_rfl) rfl (by simp) k_way_around (show _ = [Value.slice C W.length r, .int .i64 a] from rfl) rfl (fun w hm => by
    obtain ⟨D, d1, d2, hD, d4, d5⟩ := hm.data
    exact hR ▸ way_around_ W a C r D w hD d5.2.2.1) ?_
  refine stoWF 12 1 (vs := [_]) rfl (by kernel_rfl) rfl rfl rfl rfl rfl s_sl_api_Step rfl (show 1 + 1 ≤ 10 by decide) rfl (by simp) ?_
  refine takeW 13 rfl (by kernel_rfl) rfl (by simp) (fadr rfl u_api_Infix rfl s_api_Opening) ?_
  refine stoWF 14 1 (vs := z.o.c) rfl (by kernel_rfl) rfl rfl rfl rfl rfl s_api_Opening rfl (show 2 + 3 ≤ 10 by decide) rfl (by simp) ?_
  refine takeW 15 rfl (by kernel_rfl) rfl (by simp) (fadr rfl u_api_Infix rfl s_int) ?_
  refine stoWF 16 1 (vs := [_]) rfl (by kernel_rfl) rfl rfl rfl rfl rfl s_int rfl (show 5 + 1 ≤ 10 by decide) rfl (by simp) ?_
  refine doneW (by kernel_rfl) rfl (nilS ?_)
  refine seq (region (det rfl (ldAll 1 rfl rfl g_api_Infix rfl) (stoA 0 rfl rfl rfl s_api_Infix rfl rfl rfl (det rfl (asg rfl) (nilS ?_)))))   -- region 9
  refine ret (retCT 0 (v := .int .i64 0) rfl rfl rfl g_api_Infix rfl fun w' hm => ?_)
  obtain ⟨D, d1, d2, d3, d4, d5⟩ := hm.data
  have hst : StS G S.length gc S (fun k => D k ∧ w.heap.size ≤ k) w' := d5.2.1
  have hst := hst.mono (D' := fun k => w.heap.size ≤ k ∧ k < w'.heap.size) fun k hk => ⟨hk.2, d3 k hk.1⟩
  have hcut := Sl.cut (m := 1) (cap' := gc - 1) (hst.1.take (m := S.length - 1) (by omega)) (by omega) (by omega) (by omega)
  have hstl : ((stl S).take (S.length - 1)).drop 1 = stl ((S.take (S.length - 1)).drop 1) := by simp only [stl, List.map_drop, List.map_take]
  rw [hstl, hlm] at hcut
  refine ⟨_, gc - 1, (S.take (S.length - 1)).drop 1, z.o.A, z.o.cap, ?_, ?_, hm.below rfl, ⟨hcut, fun s hs => hst.2 s (List.mem_of_mem_take (List.mem_of_mem_drop hs))⟩, ?_⟩
  · rw [← hSX, List.dropLast_eq_take, List.length_drop, List.length_map, List.map_drop, List.map_take, List.drop_take]
  · exact congrArg (fun m => Ending.returned (Value.tuple #[ag [.int .i64 (k : Int), .slice (if gc = 1 then G else G.map fun a => a.add (1 * 69)) m (gc - 1), .int .i64 z.o.i, .int .i64 z.o.n, .slice z.o.A z.o.p.length z.o.cap, .int .i64 R, .string (bs xt), .int .i64 xo.i, .int .i64 xo.n, .slice xo.A xo.p.length xo.cap], .int .i64 0])) hlm
  · exact hst.2 z (by rw [← hz]; exact List.getElem_mem hlast)
end Go.Proofs.YtmcapgjdflohfaaGreat.L

namespace Go.Proofs.YtmcapgjdflohfaaGreat.L
open Go Go.RowKit
set_option linter.unusedVariables false

abbrev InfX := Int × List SX × OpX × Int × List UInt8 × OpX
def Inf.x (y : Inf) : InfX := (y.at_, y.S.map St.x, y.back.x, y.which, y.tx, y.op.x)
def RInf (w : World) (z : InfX) : Ending → World → Prop := fun e w' => ∃ y : Inf, y.x = z ∧ e = .returned (.tuple #[ag y.c, .int .i64 0]) ∧ Below w.heap.size w w' ∧ InfF y (fun k => w.heap.size ≤ k ∧ k < w'.heap.size) w'

theorem bldInf {c : Cx} {σ : Env} {H : List Res} {K : List Fact} {d : Option Tmp} {t : TypeId} {p : String} {af : Array Edge} {g : Option (Nat × Bool)} {parts : Array (Nat × Operand)} (hP : c.P = PP) (k : Int) (tx : List UInt8) (o : Opn)
    (hps : (parts.toList.map fun (i, x) => (i, ev σ x)) = [(0, .int .i64 k), (4, .string (bs tx)), (5, ag o.c)]) :
    Det c σ H K ⟨d, .build T_api_Infix parts, t, p, af, g⟩ (ag (Inf.mk k none 0 [] op0 0 tx o).c) := by
  refine bldT (pl := _) (by rw [hP]; exact z_api_Infix) (by rw [hP]; exact u_api_Infix) (fun w => by rw [hP]; exact run_placesS PP w (by kernel_rfl)) hps ?_
  refine fill_step (off := 0) (size := 1) (vs := [.int .i64 k]) (by kernel_rfl) rfl rfl (by simp) rfl ?_
  refine fill_step (off := 6) (size := 1) (vs := [.string (bs tx)]) (by kernel_rfl) rfl rfl (by simp) rfl ?_
  exact fill_step (off := 7) (size := 3) (vs := o.c) (by kernel_rfl) rfl rfl (by simp) rfl fill_nil

/-- What the infix proof of a transaction is. -/
def infR (c : Cf) (l : List Bl) (p j : Nat) : InfX :=
  let ps := placesR c l
  let k := aroundR ps p
  let o := (opTx (l.getD p bl0).t j).1
  let tx := (l.getD p bl0).t.getD j []
  if ps.getD k 0 = p then (k, [], ox0, 0, tx, o) else
  let W := Mp.btw (levs c.t l) (ps.getD k 0) p (ps.getD (k - 1) 0)
  let X := (stepsR c.t l (ps.getD (k - 1) 0 :: W ++ [ps.getD k 0])).1
  (k, (X.drop 1).dropLast, (X.getD (X.length - 1) sx0).2, aroundR W p, tx, o)

set_option maxRecDepth 8000 in
set_option maxHeartbeats 1600000 in
theorem way_Infix_ (c : Cf) (hc : c.ok) (hfit : c.fit) (l : List Bl) (hlb : ∀ b ∈ l, Bok b) (hn : l.length ≤ 10000) (hmay : mayPr c l = 0) (p j : Nat) (hp : (p : Int) < (l.length : Int) - c.k) (hk0 : 0 ≤ c.k) (hj : j < (l.getD p bl0).t.length) (hop : (opTx (l.getD p bl0).t j).2 = 0)
    (hk : aroundR (placesR c l) p < (placesR c l).length)
    (hin : (placesR c l).getD (aroundR (placesR c l) p) 0 ≠ p → 1 ≤ aroundR (placesR c l) p ∧ ∀ W, Mp.btw (levs c.t l) ((placesR c l).getD (aroundR (placesR c l) p) 0) p ((placesR c l).getD (aroundR (placesR c l) p - 1) 0) = W →
      W.length ≤ 90000 ∧ ∃ X, stepsR c.t l ((placesR c l).getD (aroundR (placesR c l) p - 1) 0 :: W ++ [(placesR c l).getD (aroundR (placesR c l) p) 0]) = (X, 0) ∧ X.length = W.length + 2 ∧ ∀ s ∈ X, s.1.ok)
    (A : Option Addr) (cap : Nat) (D : Nat → Prop) (w : World) (hD : ∀ k, D k → k < w.heap.size) (hs : Sl 67 A l.length cap (bl l) D w) (ht : Txs l D w) :
    Calls PP N_way_Infix #[ag c.c, .slice A l.length cap, .int .i64 (p : Int), .int .i64 (j : Int)] w (RInf w (infR c l p j)) := by
  refine enter f_way_Infix rfl n_way_Infix rfl (M.init PP w D [] [Sl 67 A l.length cap (bl l), Txs l] ⟨Sl.stable, Txs.stable, trivial⟩ hD ⟨hs, ht, trivial⟩) ?_
  have hpl : p < l.length := by omega
  rw [infR]
  obtain ⟨b, hb⟩ : ∃ b, l.getD p bl0 = b := ⟨_, rfl⟩
  have hbl : l[p] = b := by rw [← hb, getB hpl]
  have hbm : b ∈ l := by rw [← hbl]; exact List.getElem_mem hpl
  have hbk : b.h.ok := (hlb b hbm).1
  rw [hb] at hj hop ⊢
  obtain ⟨⟨⟨oi, on, op⟩, er⟩, ho⟩ : ∃ o, opTx b.t j = o := ⟨_, rfl⟩
  rw [ho] at hop ⊢
  have hop : er = 0 := hop
  subst hop
  obtain ⟨tx, htx⟩ : ∃ tx, b.t.getD j [] = tx := ⟨_, rfl⟩
  rw [htx]
  obtain ⟨ps, hps⟩ : ∃ ps, placesR c l = ps := ⟨_, rfl⟩
  have hpsl : ps.length ≤ 100000 := by
    have := placesR_len c l
    rw [hps] at this; omega
  rw [hps] at hk hin ⊢
  obtain ⟨k, hkk⟩ : ∃ k, aroundR ps p = k := ⟨_, rfl⟩
  rw [hkk] at hk hin ⊢
  dsimp only
  refine seq (region (box rfl rfl rfl fun b0 => alloc z_api_Infix rfl rfl fun b1 => det rfl (asg rfl) (nilS ?_)))   -- region 0
  refine seq ?_
  refine seq (region (det rfl (ldAll 1 rfl rfl g_api_Config (Cf.c_length hc)) (det rfl (mv rfl) (call (v := .int .i64 0) k_prove_May (show _ = [ag c.c, Value.slice A l.length cap] from rfl) rfl (fun w hm => by
    obtain ⟨D, d1, d2, hD, d4, d5⟩ := hm.data
    exact hmay ▸ prove_May_ c hc l hlb (by omega) A cap D w hD d5.1 d5.2.1) (det rfl (asg rfl) (nilS ?_))))))   -- region 1
  refine seq (region (det rfl (mv rfl) (det rfl (Det.to (v' := .bool false) (neq rfl rfl) rfl) (nilS ?_))))   -- region 2
  refine condF rfl ?_
  refine skipS ?_
  refine seq ?_
  refine seq (region (det rfl (mv rfl) (det rfl (Det.to (v' := .bool false) (lss rfl rfl) (vb (decide_eq_false (by omega)))) (det rfl (mv rfl) (guardT rfl rfl (det rfl (mv rfl) (guardT rfl rfl (det rfl (mv rfl) (guardT rfl rfl (det rfl (lenS u_sl_api_Block rfl) (guardT rfl rfl (det rfl (fadr rfl u_api_Config rfl s_int) (guardT rfl rfl (det rfl (ldB 1 (v := .int .i64 c.k) rfl rfl o_int (Cf.at_k hc)) (guardT rfl rfl (det rfl (subI rfl rfl (by omega) (by omega)) (guardT rfl rfl (det rfl (Det.to (v' := .bool false) (geq rfl rfl) (vb (decide_eq_false (by omega)))) (det rfl (pick (b := false) rfl rfl) (nilS ?_))))))))))))))))))))   -- region 4
  refine condF rfl ?_
  refine skipS ?_
  refine seq (region (det rfl (mv rfl) (det rfl (mv rfl) (det rfl (ixS 0 rfl rfl u_sl_api_Block s_api_Block rfl (by omega) (by omega)) (det rfl (fadrS 0 rfl u_api_Block rfl s_sl_string rfl (by omega)) (det rfl (ldSQ 0 (i := p) (o := 66) (v := .slice b.A b.t.length b.cap) rfl rfl o_sl_string (bl_at rfl hpl) (by rw [hbl]; exact Bl.at_s hbk)) (det rfl (mv rfl) (callOp (x := (oi, on, op)) (er := 0) k_txs_Open (show _ = [Value.slice b.A b.t.length b.cap, .int .i64 (j : Int)] from rfl) rfl (fun w hm => by
    obtain ⟨D, d1, d2, hD, d4, d5⟩ := hm.data
    have := txs_Open_ b.t (hlb b hbm).2.1 (hlb b hbm).2.2 j b.A b.cap D w hD (d5.2.1 b hbm)
    rw [ho] at this; exact this) fun C cr => det rfl (mv rfl) (det rfl (extr rfl rfl) (det rfl (extr rfl rfl) (alloc z_api_Opening rfl rfl fun b2 => stoA 0 (rs := (mkO (oi, on, op) C cr).c) rfl rfl rfl s_api_Opening rfl rfl rfl (det rfl (asg rfl) (nilS ?_)))))))))))))   -- region 6
  refine seq ?_
  refine seq (region (det rfl (mv rfl) (det rfl (Det.to (v' := .bool false) (neq rfl rfl) rfl) (nilS ?_))))   -- region 7
  refine condF rfl ?_
  refine skipS ?_
  refine seq (region (det rfl (ldAll 2 rfl rfl g_api_Config (Cf.c_length hc)) (det rfl (mv rfl) (callS' (m := ps.length) (sz := 1) (ls := il ps) (il_length ps) k_prove_Places (show _ = [ag c.c, Value.slice A l.length cap] from rfl) rfl (fun w hm => by
    obtain ⟨D, d1, d2, hD, d4, d5⟩ := hm.data
    have := prove_Places_ c hc hfit l hlb hn A cap D w hD d5.2.1
    rw [hps] at this; exact this) fun B q => det rfl (asg rfl) (nilS ?_)))))   -- region 9
  refine forget [(1, .slice A l.length cap), (2, .int .i64 (p : Int)), (3, .int .i64 (j : Int)), (4, .pointer (some ⟨b0, 0, none⟩)), (8, .pointer (some ⟨b1, 0, none⟩)), (11, .pointer (some ⟨b2, 0, none⟩)), (13, .slice B ps.length q)] ⟨rfl, rfl, rfl, rfl, rfl, rfl, rfl, trivial⟩ fun σ => ?_
  refine refactT (K' := [Sl 1 B ps.length q (il ps), Fr w.heap.size (OpF (mkO (oi, on, op) C cr)), Sl 67 A l.length cap (bl l), Sl 1 b.A b.t.length b.cap (tl b.t)]) ⟨Sl.stable, Fr.stable OpF.stable, Sl.stable, Sl.stable, trivial⟩ (fun D w h => ⟨h.1, h.2.1, h.2.2.1, h.2.2.2.1 b hbm, trivial⟩) ?_
  refine cutV (ι := Nat) (fun _ => True) (fun b3 => [(1, .slice A l.length cap), (2, .int .i64 (p : Int)), (3, .int .i64 (j : Int)), (4, .pointer (some ⟨b0, 0, none⟩)), (8, .pointer (some ⟨b1, 0, none⟩)), (11, .pointer (some ⟨b2, 0, none⟩)), (13, .slice B ps.length q), (14, .pointer (some ⟨b3, 0, none⟩))]) (fun b3 => [.blk b3 (ob (Inf.mk k none 0 [] op0 0 tx (mkO (oi, on, op) C cr)).c T_api_Infix), .blk b2 (ob (mkO (oi, on, op) C cr).c T_api_Opening), .blk b1 (ob (Inf.mk 0 none 0 [] op0 0 [] op0).c T_api_Infix), .blk b0 (ob c.c T_api_Config)]) (fun _ => [Sl 1 B ps.length q (il ps), Fr w.heap.size (OpF (mkO (oi, on, op) C cr)), Sl 67 A l.length cap (bl l), Sl 1 b.A b.t.length b.cap (tl b.t)]) ?_ ?_
  · refine draw (m := 14) mix (by kernel_rfl) ?_   -- drawn 10
    refine take 0 rfl (by kernel_rfl) rfl (mv rfl) ?_
    refine take 1 rfl (by kernel_rfl) rfl (mv rfl) ?_
    refine take 3 rfl (by kernel_rfl) rfl (mv rfl) ?_
    refine take 4 rfl (by kernel_rfl) rfl (mv rfl) ?_
    refine take 5 rfl (by kernel_rfl) rfl (ixS 2 rfl rfl u_sl_api_Block s_api_Block rfl (by omega) (by omega)) ?_
    refine take 6 rfl (by kernel_rfl) rfl (fadrS 2 rfl u_api_Block rfl s_sl_string rfl (by omega)) ?_
    refine take 7 rfl (by kernel_rfl) rfl (ldSQ 2 (i := p) (o := 66) (v := .slice b.A b.t.length b.cap) rfl rfl o_sl_string (bl_at rfl hpl) (by rw [hbl]; exact Bl.at_s hbk)) ?_
    refine take 8 rfl (by kernel_rfl) rfl (mv rfl) ?_
    refine take 9 rfl (by kernel_rfl) rfl (ixS 3 rfl rfl u_sl_string s_string rfl (by omega) (by omega)) ?_
    refine take 10 rfl (by kernel_rfl) rfl (ldSO 3 (v := .string (bs tx)) rfl rfl o_string (by rw [← htx]; exact tl_at rfl hj)) ?_
    refine take 11 rfl (by kernel_rfl) rfl (ldAll 0 rfl rfl g_api_Opening rfl) ?_
    refine fork2 2 13 (by kernel_rfl) ?_ ?_
    · refine canP 2 (v := .int .i64 (k : Int)) rfl rfl k_way_around (show _ = [Value.slice B ps.length q, .int .i64 (p : Int)] from rfl) rfl (fun w hm => by
      obtain ⟨D, d1, d2, hD, d4, d5⟩ := hm.data
      exact hkk ▸ way_around_ ps p B q D w hD d5.1) ?_
      refine take 12 rfl (by kernel_rfl) rfl (bldInf rfl k tx (mkO (oi, on, op) C cr) rfl) ?_
      refine only1 13 (by kernel_rfl) (canA 13 rfl rfl z_api_Infix rfl rfl fun b3 => ?_)
      refine tail (by kernel_rfl) rfl (stoA 0 (rs := (Inf.mk k none 0 [] op0 0 tx (mkO (oi, on, op) C cr)).c) rfl rfl rfl s_api_Infix rfl rfl rfl (nil ?_))
      exact meets b3 trivial ⟨rfl, rfl, rfl, rfl, rfl, rfl, rfl, rfl, trivial⟩ (fun w hm => hm)
    · refine canA 13 rfl rfl z_api_Infix rfl rfl fun b3 => ?_
      refine only 2 (v := .int .i64 (k : Int)) rfl (by kernel_rfl) rfl k_way_around (show _ = [Value.slice B ps.length q, .int .i64 (p : Int)] from rfl) rfl (fun w hm => by
      obtain ⟨D, d1, d2, hD, d4, d5⟩ := hm.data
      exact hkk ▸ way_around_ ps p B q D w hD d5.1) ?_
      refine take 12 rfl (by kernel_rfl) rfl (bldInf rfl k tx (mkO (oi, on, op) C cr) rfl) ?_
      refine tail (by kernel_rfl) rfl (stoA 0 (rs := (Inf.mk k none 0 [] op0 0 tx (mkO (oi, on, op) C cr)).c) rfl rfl rfl s_api_Infix rfl rfl rfl (nil ?_))
      exact meets b3 trivial ⟨rfl, rfl, rfl, rfl, rfl, rfl, rfl, rfl, trivial⟩ (fun w hm => hm)
  intro b3 σ _
  refine seq ?_
  obtain ⟨hi, hhi⟩ : ∃ hi, ps.getD k 0 = hi := ⟨_, rfl⟩
  rw [hhi] at hin ⊢
  refine seq (region (det rfl (mv rfl) (det rfl (fadr rfl u_api_Infix rfl s_int) (det rfl (ldB 0 (v := .int .i64 (k : Int)) rfl rfl o_int rfl) (det rfl (ixS 0 rfl rfl u_sl_int s_int rfl (by omega) (by omega)) (det rfl (ldSO 0 (v := .int .i64 hi) rfl rfl o_int (by rw [← hhi]; exact il_at rfl hk)) (det rfl (mv rfl) (det rfl (eql rfl rfl) (nilS ?_)))))))))   -- region 11
  by_cases heq : hi = (p : Int)
  · rw [if_pos heq]
    refine condT (by show Value.bool (decide _) = _; rw [decide_eq_true heq]) ?_
    refine seq (region (det rfl (ldAll 0 rfl rfl g_api_Infix rfl) (stoA 2 (rs := (Inf.mk k none 0 [] op0 0 tx (mkO (oi, on, op) C cr)).c) rfl rfl rfl s_api_Infix rfl rfl rfl (det rfl (asg rfl) (nilS ?_)))))   -- region 12
    refine ret (retCT 2 (l := (Inf.mk k none 0 [] op0 0 tx (mkO (oi, on, op) C cr)).c) (v := .int .i64 0) rfl rfl rfl g_api_Infix rfl fun w' hm => ?_)
    obtain ⟨D, d1, d2, d3, d4, d5⟩ := hm.data
    have hst : OpF (mkO (oi, on, op) C cr) (fun k => D k ∧ w.heap.size ≤ k) w' := d5.2.1
    exact ⟨_, rfl, rfl, hm.below rfl, ⟨Sl.nil, fun s h => nomatch h⟩, OpF.zero, Sl.mono hst fun k hk => ⟨hk.2, d3 k hk.1⟩⟩
  · rw [if_neg heq]
    refine condF (by show Value.bool (decide _) = _; rw [decide_eq_false heq]) ?_
    obtain ⟨hk1, hin⟩ := hin heq
    obtain ⟨lo, hlo⟩ : ∃ lo, ps.getD (k - 1) 0 = lo := ⟨_, rfl⟩
    rw [hlo] at hin ⊢
    obtain ⟨W, hW⟩ : ∃ W, Mp.btw (levs c.t l) hi p lo = W := ⟨_, rfl⟩
    obtain ⟨hWl, X, hX, hXl, hXok⟩ := hin W hW
    rw [hW, hX]
    dsimp only
    obtain ⟨Y, hY⟩ : ∃ Y, (X.drop 1).dropLast = Y := ⟨_, rfl⟩
    obtain ⟨⟨bi, bn, bp⟩, hbx⟩ : ∃ y, (X.getD (X.length - 1) sx0).2 = y := ⟨_, rfl⟩
    obtain ⟨R, hR⟩ : ∃ R, aroundR W p = R := ⟨_, rfl⟩
    rw [hY, hbx, hR]
    refine skipS ?_
    refine seq (region (det rfl (fadr rfl u_api_Config rfl s_api_Hash) (det rfl (ldA 3 rfl rfl g_api_Hash (Cf.at_t' hc) (by rw [b8_length]; exact hc.2)) (det rfl (mv rfl) (det rfl (mv rfl) (det rfl (mv rfl) (det rfl (ldAll 0 rfl rfl g_api_Infix rfl) (callX (β := {q : (Option Addr × Nat × List St) × Option Addr × Nat // q.1.2.2.map St.x = Y}) (fun q => .tuple #[ag (Inf.mk k q.1.1.1 q.1.1.2.1 q.1.1.2.2 (mkO (bi, bn, bp) q.1.2.1 q.1.2.2) R tx (mkO (oi, on, op) C cr)).c, .int .i64 0]) (fun _ => _) (fun q => [Fr w.heap.size (StS q.1.1.1 q.1.1.2.2.length q.1.1.2.1 q.1.1.2.2), Fr w.heap.size (OpF (mkO (bi, bn, bp) q.1.2.1 q.1.2.2)), Fr w.heap.size (OpF (mkO (oi, on, op) C cr))]) k_way_inner (show _ = [ag (b8 c.t), Value.slice A l.length cap, .slice B ps.length q, .int .i64 (p : Int), ag (Inf.mk k none 0 [] op0 0 tx (mkO (oi, on, op) C cr)).c] from rfl) rfl (fun w1 hm => by
      obtain ⟨D, d1, d2, hD, d4, d5⟩ := hm.data
      have := way_inner_ c.t hc.2 l (fun b hb => (hlb b hb).1) hn ps hpsl p (Inf.mk k none 0 [] op0 0 tx (mkO (oi, on, op) C cr)) k rfl hk1 hk lo hi hlo hhi W hW hWl X hX hXl hXok A B cap q D w1 hD d5.2.2.1 d5.1
      rw [hY, hbx, hR] at this
      refine this.mono fun e w' ⟨A1, c1, S1, B1, c2, hS, he, hbel, hst, hof⟩ => ⟨⟨((A1, c1, S1), B1, c2), hS⟩, he, ?_⟩
      have h1 := hm.learn (f := fun D w' => Fr w.heap.size (StS A1 S1.length c1 S1) D w' ∧ Fr w.heap.size (OpF (mkO (bi, bn, bp) B1 c2)) D w') (fun D D' w w' a b h => ⟨Fr.stable StS.stable D D' w w' a b h.1, Fr.stable OpF.stable D D' w w' a b h.2⟩) (grown_below hbel) (fun D _ => ⟨StS.mono hst fun k hk => ⟨.inr hk, Nat.le_trans hm.size hk.1⟩, Sl.mono hof fun k hk => ⟨.inr hk, Nat.le_trans hm.size hk.1⟩⟩)
      exact h1.refact ⟨Fr.stable StS.stable, Fr.stable OpF.stable, Fr.stable OpF.stable, trivial⟩ fun D h => ⟨h.1.1, h.1.2, h.2.2.1, trivial⟩) fun q => det rfl (extr rfl rfl) (det rfl (extr rfl rfl) (stoA 2 (rs := (Inf.mk k q.1.1.1 q.1.1.2.1 q.1.1.2.2 (mkO (bi, bn, bp) q.1.2.1 q.1.2.2) R tx (mkO (oi, on, op) C cr)).c) rfl rfl rfl s_api_Infix rfl rfl rfl (det rfl (asg rfl) (nilS ?_))))))))))))   -- region 13
    obtain ⟨⟨⟨A1, c1, S1⟩, B1, c2⟩, hS⟩ := q
    refine ret (retCT 2 (l := (Inf.mk k A1 c1 S1 (mkO (bi, bn, bp) B1 c2) R tx (mkO (oi, on, op) C cr)).c) (v := .int .i64 0) rfl rfl rfl g_api_Infix rfl fun w' hm => ?_)
    obtain ⟨D, d1, d2, d3, d4, d5⟩ := hm.data
    have h1 : StS A1 S1.length c1 S1 (fun k => D k ∧ w.heap.size ≤ k) w' := d5.1
    have h2 : OpF (mkO (bi, bn, bp) B1 c2) (fun k => D k ∧ w.heap.size ≤ k) w' := d5.2.1
    have h3 : OpF (mkO (oi, on, op) C cr) (fun k => D k ∧ w.heap.size ≤ k) w' := d5.2.2.1
    exact ⟨_, by rw [← hS]; rfl, rfl, hm.below rfl, StS.mono h1 fun k hk => ⟨hk.2, d3 k hk.1⟩, Sl.mono h2 fun k hk => ⟨hk.2, d3 k hk.1⟩, Sl.mono h3 fun k hk => ⟨hk.2, d3 k hk.1⟩⟩
end Go.Proofs.YtmcapgjdflohfaaGreat.L

namespace Go.Proofs.YtmcapgjdflohfaaGreat.L
open Go Go.RowKit
set_option linter.unusedVariables false

/-! ### txs.Check -/
def txsC (r s : List UInt8) (x : OpX) : Bool := decide (x.2.1 ≤ 1024) && decide ((s.length : Int) ≤ 4096) && holdC r (84 :: s) x
theorem txs_Check_ (r : List UInt8) (hr : r.length = 32) (s : List UInt8) (hsl : s.length ≤ 100000000) (o : Opn) (ho : ∀ y ∈ o.p, y.length = 32) (D : Nat → Prop) (w : World) (hD : ∀ k, D k → k < w.heap.size) (hs : OpF o D w) :
    Calls PP N_txs_Check #[ag (b8 r), .string (bs s), ag o.c] w (PR w (.bool (txsC r s o.x))) := by
  refine enter f_txs_Check rfl n_txs_Check rfl (M.init1 PP w OpF.stable hD hs) ?_
  obtain ⟨z, hz⟩ : ∃ z, holdC r (84 :: s) o.x = z := ⟨_, rfl⟩
  rw [txsC, hz]
  refine seq (region (box rfl rfl rfl fun b0 => box rfl rfl rfl fun b1 => det rfl (asg rfl) (nilS ?_)))   -- region 0
  by_cases h : o.n ≤ 1024
  · rw [show decide (o.x.2.1 ≤ 1024) = true from decide_eq_true h, Bool.true_and]
    by_cases h2 : (s.length : Int) ≤ 4096
    · rw [decide_eq_true h2, Bool.true_and]
      refine seq (drawP [(0, false), (1, false), (2, false), (3, false), (4, false), (5, false), (6, false), (7, false), (8, false), (9, false), (10, false), (12, false), (11, true), (13, true), (14, false), (15, false)] mix (by kernel_rfl) (by kernel_rfl) ?_)   -- drawn 1
      refine nP 0 rfl rfl (fadr rfl u_api_Opening rfl s_int) ?_
      refine nP 1 rfl rfl (ldB 0 (v := .int .i64 o.n) rfl rfl o_int rfl) ?_
      refine nP 2 rfl rfl (Det.to (v' := .bool true) (leq rfl rfl) (vb (decide_eq_true h))) ?_
      refine nP 3 rfl rfl (mv rfl) ?_
      refine gP 4 rfl rfl rfl rfl (mv rfl) ?_
      refine gP 5 rfl rfl rfl rfl (lenT u_string rfl) ?_
      refine gP 6 rfl rfl rfl rfl (Det.to (v' := .bool true) (leq rfl rfl) (vb (decide_eq_true h2))) ?_
      refine nP 7 rfl rfl (pick (b := true) rfl rfl) ?_
      refine nP 8 rfl rfl (mv rfl) ?_
      refine gP 9 rfl rfl rfl rfl (ldAll 1 rfl rfl g_api_Hash (by rw [b8_length, hr])) ?_
      refine gP 10 rfl rfl rfl rfl (mv rfl) ?_
      refine gP 12 rfl rfl rfl rfl (ldAll 0 rfl rfl g_api_Opening rfl) ?_
      refine pgP 11 rfl rfl rfl k_txs_Text (show _ = [Value.string (bs s)] from rfl) rfl (fun w _ => txs_Text_ s (by omega) w) ?_
      refine pgP 13 (v := .bool z) rfl rfl rfl k_hold_Check (show _ = [ag (b8 r), Value.string (bs (84 :: s)), ag o.c] from rfl) rfl (fun w hm => by
        obtain ⟨D, d1, d2, hD, d4, d5⟩ := hm.data
        exact hz ▸ hold_Check_ r hr (84 :: s) (by simp; omega) o ho D w hD d5.1) ?_
      refine nP 14 rfl rfl (pick (b := true) rfl rfl) ?_
      refine nP 15 rfl rfl (asg rfl) ?_
      refine endP rfl (nilS ?_)
      exact ret (retT rfl rfl pr)
    · rw [decide_eq_false h2, Bool.false_and]
      refine seq (drawP [(0, false), (1, false), (2, false), (3, false), (4, false), (5, false), (6, false), (7, false), (8, false), (9, false), (10, false), (12, false), (11, false), (13, false), (14, false), (15, false)] mix (by kernel_rfl) (by kernel_rfl) ?_)   -- drawn 1
      refine nP 0 rfl rfl (fadr rfl u_api_Opening rfl s_int) ?_
      refine nP 1 rfl rfl (ldB 0 (v := .int .i64 o.n) rfl rfl o_int rfl) ?_
      refine nP 2 rfl rfl (Det.to (v' := .bool true) (leq rfl rfl) (vb (decide_eq_true h))) ?_
      refine nP 3 rfl rfl (mv rfl) ?_
      refine gP 4 rfl rfl rfl rfl (mv rfl) ?_
      refine gP 5 rfl rfl rfl rfl (lenT u_string rfl) ?_
      refine gP 6 rfl rfl rfl rfl (Det.to (v' := .bool false) (leq rfl rfl) (vb (decide_eq_false h2))) ?_
      refine nP 7 rfl rfl (pick (b := true) rfl rfl) ?_
      refine nP 8 rfl rfl (mv rfl) ?_
      refine uP 9 rfl rfl (.inl rfl) rfl ?_
      refine uP 10 rfl rfl (.inl rfl) rfl ?_
      refine uP 12 rfl rfl (.inl rfl) rfl ?_
      refine uP 11 rfl rfl (.inl rfl) rfl ?_
      refine uP 13 rfl rfl (.inl rfl) rfl ?_
      refine nP 14 rfl rfl (pick (b := false) rfl rfl) ?_
      refine nP 15 rfl rfl (asg rfl) ?_
      refine endP rfl (nilS ?_)
      exact ret (retT rfl rfl pr)
  · rw [show decide (o.x.2.1 ≤ 1024) = false from decide_eq_false h, Bool.false_and, Bool.false_and]
    refine seq (drawP [(0, false), (1, false), (2, false), (3, false), (4, false), (5, false), (6, false), (7, false), (8, false), (9, false), (10, false), (12, false), (11, false), (13, false), (14, false), (15, false)] mix (by kernel_rfl) (by kernel_rfl) ?_)   -- drawn 1
    refine nP 0 rfl rfl (fadr rfl u_api_Opening rfl s_int) ?_
    refine nP 1 rfl rfl (ldB 0 (v := .int .i64 o.n) rfl rfl o_int rfl) ?_
    refine nP 2 rfl rfl (Det.to (v' := .bool false) (leq rfl rfl) (vb (decide_eq_false h))) ?_
    refine nP 3 rfl rfl (mv rfl) ?_
    refine uP 4 rfl rfl (.inl rfl) rfl ?_
    refine uP 5 rfl rfl (.inl rfl) rfl ?_
    refine uP 6 rfl rfl (.inl rfl) rfl ?_
    refine nP 7 rfl rfl (pick (b := false) rfl rfl) ?_
    refine nP 8 rfl rfl (mv rfl) ?_
    refine uP 9 rfl rfl (.inl rfl) rfl ?_
    refine uP 10 rfl rfl (.inl rfl) rfl ?_
    refine uP 12 rfl rfl (.inl rfl) rfl ?_
    refine uP 11 rfl rfl (.inl rfl) rfl ?_
    refine uP 13 rfl rfl (.inl rfl) rfl ?_
    refine nP 14 rfl rfl (pick (b := false) rfl rfl) ?_
    refine nP 15 rfl rfl (asg rfl) ?_
    refine endP rfl (nilS ?_)
    exact ret (retT rfl rfl pr)

/-! ### place -/
def placeR (n : Int) (x : InfX) : Int := if x.1 < 0 ∨ n ≤ x.1 ∨ x.2.2.2.1 < 0 ∨ max (x.2.1.length : Int) 1 ≤ x.2.2.2.1 then 15 else if 0 < x.2.1.length ∧ x.1 = 0 then 15 else if 1024 < x.2.1.length then 4 else 0
set_option maxRecDepth 8000 in
theorem within_place_ (n : Int) (y : Inf) : Pure PP N_within_place #[.int .i64 n, ag y.c] (.int .i64 (placeR n y.x)) := by
  refine enter0 f_within_place rfl n_within_place rfl fun w => ?_
  refine seq (region (box rfl rfl rfl fun b0 => det rfl (asg rfl) (nilS ?_)))   -- region 0
  refine seq ?_
  refine block ?_   -- block 0
  refine seq (region (det rfl (fadr rfl u_api_Infix rfl s_int) (det rfl (ldB 0 (v := .int .i64 y.at_) rfl rfl o_int rfl) (det rfl (lss rfl rfl) (det rfl (mv rfl) (guardI rfl rfl rfl (fun hb => fadr rfl u_api_Infix rfl s_int) (guardI rfl rfl rfl (fun hb => ldB 0 (v := .int .i64 y.at_) (bift hb rfl) rfl o_int rfl) (guardI rfl rfl rfl (fun hb => mv rfl) (guardI rfl rfl rfl (fun hb => geq (bift hb rfl) (bift hb rfl)) (det rfl (pick rfl (pickO rfl)) (det rfl (mv rfl) (guardI rfl rfl rfl (fun hb => fadr rfl u_api_Infix rfl s_int) (guardI rfl rfl rfl (fun hb => ldB 0 (v := .int .i64 y.which) (bift hb rfl) rfl o_int rfl) (guardI rfl rfl rfl (fun hb => lss (bift hb rfl) rfl) (det rfl (pick rfl (pickO rfl)) (det rfl (mv rfl) (guardI rfl rfl rfl (fun hb => fadr rfl u_api_Infix rfl s_int) (guardI rfl rfl rfl (fun hb => ldB 0 (v := .int .i64 y.which) (bift hb rfl) rfl o_int rfl) (guardI rfl rfl rfl (fun hb => fadr rfl u_api_Infix rfl s_sl_api_Step) (guardI rfl rfl rfl (fun hb => ldB 0 (v := .slice y.A y.S.length y.cap) (bift hb rfl) rfl o_sl_api_Step rfl) (guardI rfl rfl rfl (fun hb => lenS u_sl_api_Step (bift hb rfl)) (guardI rfl rfl rfl (fun hb => maxI (bift hb rfl) rfl) (guardI rfl rfl rfl (fun hb => geq (bift hb rfl) (bift hb rfl)) (det rfl (pick rfl (pickO rfl)) (det rfl (asg rfl) (nilS ?_))))))))))))))))))))))))))   -- region 1
  refine cond rfl (fun h => ?_) (fun h => ?_)   -- on t5
  · have h : (((decide (y.at_ < 0) || decide (n ≤ y.at_)) || decide (y.which < 0)) || decide (max (y.S.length : Int) 1 ≤ y.which)) = true := h
    simp only [Bool.or_eq_true, decide_eq_true_eq] at h
    refine seq (region (det rfl (asg rfl) (nilS ?_)))   -- region 2
    exact ret (retT rfl rfl (pr' (vi (by rw [placeR, if_pos (by simp only [Inf.x, List.length_map]; omega)]))))
  · have h : (((decide (y.at_ < 0) || decide (n ≤ y.at_)) || decide (y.which < 0)) || decide (max (y.S.length : Int) 1 ≤ y.which)) = false := h
    simp only [Bool.or_eq_false_iff, decide_eq_false_iff_not] at h
    have e : placeR n y.x = if 0 < y.S.length ∧ y.at_ = 0 then 15 else if 1024 < y.S.length then 4 else 0 := by
      rw [placeR, if_neg (by simp only [Inf.x, List.length_map]; omega)]
      simp only [Inf.x, List.length_map]
    rw [e]
    refine forget [(3, .pointer (some ⟨b0, 0, none⟩))] ⟨rfl, trivial⟩ fun σ => ?_
    refine seq (region (det rfl (fadr rfl u_api_Infix rfl s_sl_api_Step) (det rfl (ldB 0 (v := .slice y.A y.S.length y.cap) rfl rfl o_sl_api_Step rfl) (det rfl (lenS u_sl_api_Step rfl) (det rfl (gtr rfl rfl) (det rfl (mv rfl) (guardI rfl rfl rfl (fun hb => fadr rfl u_api_Infix rfl s_int) (guardI rfl rfl rfl (fun hb => ldB 0 (v := .int .i64 y.at_) (bift hb rfl) rfl o_int rfl) (guardI rfl rfl rfl (fun hb => eql (bift hb rfl) rfl) (det rfl (pick rfl (pickA rfl)) (det rfl (asg rfl) (nilS ?_))))))))))))   -- region 3
    refine cond rfl (fun h2 => ?_) (fun h2 => ?_)   -- on t29
    · have h2 : (decide (0 < (y.S.length : Int)) && decide (y.at_ = 0)) = true := h2
      simp only [Bool.and_eq_true, decide_eq_true_eq] at h2
      rw [if_pos (by omega)]
      refine seq (region (det rfl (asg rfl) (nilS ?_)))   -- region 4
      exact ret (retT rfl rfl pr)
    · have h2 : (decide (0 < (y.S.length : Int)) && decide (y.at_ = 0)) = false := h2
      have h2 : ¬ (0 < (y.S.length : Int) ∧ y.at_ = 0) := by
        intro h'
        rw [decide_eq_true h'.1, decide_eq_true h'.2] at h2; cases h2
      rw [if_neg (by omega)]
      refine forget [(3, .pointer (some ⟨b0, 0, none⟩))] ⟨rfl, trivial⟩ fun σ => ?_
      refine seq (region (det rfl (fadr rfl u_api_Infix rfl s_sl_api_Step) (det rfl (ldB 0 (v := .slice y.A y.S.length y.cap) rfl rfl o_sl_api_Step rfl) (det rfl (lenS u_sl_api_Step rfl) (det rfl (gtr rfl rfl) (det rfl (asg rfl) (nilS ?_)))))))   -- region 5
      refine cond rfl (fun h3 => ?_) (fun h3 => ?_)   -- on t39
      · have h3 := of_decide_eq_true h3
        rw [if_pos (by omega)]
        refine seq (region (det rfl (asg rfl) (nilS ?_)))   -- region 6
        exact ret (retT rfl rfl pr)
      · have h3 := of_decide_eq_false h3
        rw [if_neg (by omega)]
        refine skip ?_
        show Tr _ _ _ _ _ _ _
        refine seq (region (det rfl (asg rfl) (nilS ?_)))   -- region 7
        exact ret (retT rfl rfl pr)

/-! ### one -/
def oneR (t : List UInt8) (s : SX) (y : Hd) (b : Int) : Int := if ¬ (y.h < s.1.h) ∨ b ≤ s.1.h then 8 else if okW (idL s.1) t = false then 9 else if joinC s y = false then 10 else 0
set_option maxRecDepth 8000 in
theorem within_one_ (t : List UInt8) (ht : t.length = 32) (s : St) (hsk : s.h.ok) (hp : ∀ y ∈ s.o.p, y.length = 32) (y : Hd) (hy : y.ok) (b : Int) (D : Nat → Prop) (w : World) (hD : ∀ k, D k → k < w.heap.size) (hs : OpF s.o D w) :
    Calls PP N_within_one #[ag (b8 t), ag s.c, ag y.c, .int .u32 b] w (PR w (.int .i64 (oneR t s.x y b))) := by
  refine enter f_within_one rfl n_within_one rfl (M.init1 PP w OpF.stable hD hs) ?_
  refine seq (region (box rfl rfl rfl fun b0 => box rfl rfl rfl fun b1 => box rfl rfl rfl fun b2 => det rfl (asg rfl) (nilS ?_)))   -- region 0
  refine seq ?_
  refine block ?_   -- block 0
  refine seq (region (det rfl (fadr rfl u_api_Step rfl s_api_Header) (det rfl (ldA 1 rfl rfl g_api_Header (St.at_h hsk) (Hd.c_length hsk)) (det rfl (ldAll 0 rfl rfl g_api_Header (Hd.c_length hy)) (call (v := .bool (decide (y.h < s.h.h))) k_rise_Above (show _ = [ag s.h.c, ag y.c] from rfl) rfl (fun w _ => rise_Above_ s.h y w) (det rfl (notB rfl) (det rfl (mv rfl) (guardI rfl rfl rfl (fun hb => fadr rfl u_api_Step rfl s_api_Header) (guardI rfl rfl rfl (fun hb => fadr (bift hb rfl) u_api_Header rfl s_uint32) (guardI rfl rfl rfl (fun hb => ldB 1 (v := .int .u32 s.h.h) (bift hb rfl) rfl o_uint32 rfl) (guardI rfl rfl rfl (fun hb => mv rfl) (guardI rfl rfl rfl (fun hb => geq (bift hb rfl) (bift hb rfl)) (det rfl (pick rfl (pickO rfl)) (det rfl (asg rfl) (nilS ?_)))))))))))))))   -- region 1
  refine cond rfl (fun h => ?_) (fun h => ?_)   -- on t9
  · have h : (!decide (y.h < s.h.h) || decide (b ≤ s.h.h)) = true := h
    have h : ¬ (y.h < s.h.h) ∨ b ≤ s.h.h := by simpa using h
    rw [show oneR t s.x y b = 8 from if_pos h]
    refine seq (region (det rfl (asg rfl) (nilS ?_)))   -- region 2
    exact ret (retT rfl rfl pr)
  · have h : (!decide (y.h < s.h.h) || decide (b ≤ s.h.h)) = false := h
    have h : ¬ (¬ (y.h < s.h.h) ∨ b ≤ s.h.h) := by simpa using h
    rw [show oneR t s.x y b = if okW (idL s.h) t = false then 9 else if joinC s.x y = false then 10 else 0 from if_neg h]
    refine forget [(4, .pointer (some ⟨b0, 0, none⟩)), (5, .pointer (some ⟨b1, 0, none⟩)), (6, .pointer (some ⟨b2, 0, none⟩))] ⟨rfl, rfl, rfl, trivial⟩ fun σ => ?_
    obtain ⟨k, hk⟩ : ∃ k, okW (idL s.h) t = k := ⟨_, rfl⟩
    obtain ⟨z, hz⟩ : ∃ z, joinC s.x y = z := ⟨_, rfl⟩
    rw [hk, hz]
    refine seq (drawP [(0, false), (1, false), (3, false), (2, true), (4, true), (5, false), (6, false)] mix (by kernel_rfl) (by kernel_rfl) ?_)   -- drawn 3
    refine nP 0 rfl rfl (fadr rfl u_api_Step rfl s_api_Header) ?_
    refine nP 1 rfl rfl (ldA 1 rfl rfl g_api_Header (St.at_h hsk) (Hd.c_length hsk)) ?_
    refine nP 3 rfl rfl (ldAll 2 rfl rfl g_api_Hash (by rw [b8_length, ht])) ?_
    refine pP 2 rfl k_ident_Id (show _ = [ag s.h.c] from rfl) rfl (fun w _ => ident_Id_ _ hsk w) ?_
    refine pP 4 (v := .bool k) rfl k_work_Ok (show _ = [ag (b8 (idL s.h)), ag (b8 t)] from rfl) rfl (fun w _ => hk ▸ work_Ok_ _ _ (idL_length _) ht w) ?_
    refine nP 5 rfl rfl (notB rfl) ?_
    refine nP 6 rfl rfl (asg rfl) ?_
    refine endP rfl (nilS ?_)
    cases k
    · refine condT rfl ?_
      refine seq (region (det rfl (asg rfl) (nilS ?_)))   -- region 4
      exact ret (retT rfl rfl pr)
    · refine condF rfl ?_
      refine seq (region (det rfl (ldAll 1 rfl rfl g_api_Step (St.c_length hsk)) (det rfl (ldAll 0 rfl rfl g_api_Header (Hd.c_length hy)) (call (v := .bool z) k_join_Holds (show _ = [ag s.c, ag y.c] from rfl) rfl (fun w hm => by
        obtain ⟨D, d1, d2, hD, d4, d5⟩ := hm.data
        exact hz ▸ join_Holds_ s hsk hp y hy D w hD d5.1) (det rfl (notB rfl) (det rfl (asg rfl) (nilS ?_)))))))   -- region 5
      cases z
      · refine condT rfl ?_
        refine seq (region (det rfl (asg rfl) (nilS ?_)))   -- region 6
        exact ret (retT rfl rfl pr)
      · refine condF rfl ?_
        refine skip ?_
        show Tr _ _ _ _ _ _ _
        refine seq (region (det rfl (asg rfl) (nilS ?_)))   -- region 7
        exact ret (retT rfl rfl pr)
end Go.Proofs.YtmcapgjdflohfaaGreat.L

namespace Go.Proofs.YtmcapgjdflohfaaGreat.L
open Go Go.RowKit
set_option linter.unusedVariables false

def bz : Bl := ⟨⟨0, z8, z8, 0⟩, none, 0, []⟩
theorem steps_bz : stepsR z8 [bz] [0] = ([(bz.h, ox0)], 0) := by
  rw [stepsR, List.length_singleton, stepsGo, stepAt]
  simp [stepsGo, bz]
theorem prove_Cf0 : proveR Cf0 [] = ([], 6) := rfl
set_option maxRecDepth 20000 in
theorem awake48_ : Pure PP N_milepostlaw48_awake #[] (.bool true) := by
  refine enter0 f_milepostlaw48_awake rfl n_milepostlaw48_awake rfl fun w => ?_
  refine seq (region (det rfl (asg rfl) (nilS ?_)))   -- region 0
  refine seq (region (det rfl (Det.to (bldZ z_api_Config u_api_Config (fun w => run_placesS PP w (by kernel_rfl))) (v' := ag Cf0.c) (by kernel_rfl)) (callSt (L := []) (er := 6) k_prove_Prove (show _ = [ag Cf0.c, Value.slice none 0 0] from rfl) rfl (fun w hm => by
    have := prove_Prove_ Cf0 Cf0_ok (by simp [Cf.fit, Cf0, I64]) [] (fun b h => nomatch h) (by decide) none 0 (fun _ => False) w (fun _ h => h.elim) Sl.nil (fun b h => nomatch h)
    rw [prove_Cf0] at this; exact this) fun A cap S => det rfl (mv rfl) (det rfl (extr rfl rfl) (det rfl (extr rfl rfl) (det rfl (asg rfl) (det rfl (asg rfl) (nilS ?_))))))))   -- region 1
  refine seq (region (det rfl (bldA (cs := b8 z8) (ps := []) z_api_Hash u_api_Hash s_uint8 (by simp) (by simp [Instr.fill]; rfl)) (mksA (m := 1) u_sl_api_Block i_api_Block rfl (by decide) rfl rfl rfl rfl (by decide) (by decide) rfl fun b0 => bsl rfl (bs1 u_sl_int z_int s_int (cs := [.int .i64 0]) rfl rfl rfl (by decide) (by decide)) fun b1 => callSt (L := [(bz.h, ox0)]) (er := 0) k_prove_Steps (show _ = [ag (b8 z8), Value.slice (some ⟨b0, 0, none⟩) 1 1, .slice (some ⟨b1, 0, none⟩) 1 1] from rfl) rfl (fun w hm => by
    have h0 := hm.blk 1 rfl
    have h1 := hm.blk 0 rfl
    have s0 : Sl 67 (some ⟨b0, 0, none⟩) 1 1 (bl [bz]) (fun k => k = b0) w := blk_sl h0 (fun l hl => by rw [List.mem_singleton.1 hl]; exact ⟨rfl, rfl⟩) rfl (by decide)
    have s1 : Sl 1 (some ⟨b1, 0, none⟩) 1 1 (il [0]) (fun k => k = b1) w := blk_sl h1 (fun l hl => by rw [List.mem_singleton.1 hl]; exact ⟨rfl, rfl⟩) rfl (by decide)
    have := prove_Steps_ z8 rfl [bz] (fun b hb => by rw [List.mem_singleton.1 hb]; exact ⟨rfl, rfl⟩) (by decide) [0] (by decide) (some ⟨b0, 0, none⟩) (some ⟨b1, 0, none⟩) 1 1 (fun k => k = b0 ∨ k = b1) w (fun k hk => by rcases hk with rfl | rfl; exact lt_heap h0; exact lt_heap h1) (s0.mono fun k hk => .inl hk) (s1.mono fun k hk => .inr hk)
    rw [steps_bz] at this; exact this) fun B q T => det rfl (mv rfl) (det rfl (extr rfl rfl) (det rfl (extr rfl rfl) (det rfl (asg rfl) (det rfl (asg rfl) (nilS ?_))))))))   -- region 2
  refine seq (region (det rfl (mv rfl) (det rfl (eql rfl rfl) (det rfl (mv rfl) (guardT rfl rfl (det rfl (mv rfl) (guardT rfl rfl (det rfl (lenS u_sl_api_Step rfl) (guardT rfl rfl (det rfl (eql rfl rfl) (det rfl (pick (b := true) rfl rfl) (det rfl (mv rfl) (guardT rfl rfl (det rfl (mv rfl) (guardT rfl rfl (det rfl (eql rfl rfl) (det rfl (pick (b := true) rfl rfl) (det rfl (asg rfl) (nilS ?_)))))))))))))))))))   -- region 3
  exact ret (retT rfl rfl pr)

theorem eqFlt (x y : Int × Int) (w : World) : (Op.equalIn 10000 T_api_Fault (ag (fltC x)) (ag (fltC y))).run PP w = .ok (decide (x.1 = y.1) && (decide (x.2 = y.2) && true)) w :=
  eqStruct (d := 9999) (xs := (fltC x).toArray) (ys := (fltC y).toArray) u_api_Fault (by kernel_rfl) (eqF (d := 9999) rfl (run_part1 o_api_Errno (v := .int .i64 x.1) rfl w) (run_part1 o_api_Errno (v := .int .i64 y.1) rfl w) (eqInt u_api_Errno)
    (eqF rfl (run_part1 o_int (v := .int .i64 x.2) rfl w) (run_part1 o_int (v := .int .i64 y.2) rfl w) (eqInt u_int) eqF0))

set_option maxRecDepth 20000 in
set_option maxHeartbeats 3200000 in
theorem proveValid_ (c : Cf) (hc : c.ok) (hfit : c.fit) (l : List Bl) (hl1 : ∀ b ∈ l, b.h.ok) (hl2 : ∀ b ∈ l, ∀ x ∈ b.t, x.length ≤ 140737488355328) (A : Option Addr) (cap : Nat) (D : Nat → Prop) (w : World) (hD : ∀ k, D k → k < w.heap.size) (hs : Sl 67 A l.length cap (bl l) D w) (ht : Txs l D w) :
    Calls PP N_milepostlaw48_ProveValid #[ag c.c, .slice A l.length cap] w (PR w (.bool true)) := by
  have hgF : PP.eqGuardType PP.depth T_api_Fault = false := by kernel_rfl
  have hgH : PP.eqGuardType PP.depth T_api_Header = false := by kernel_rfl
  refine enter f_milepostlaw48_ProveValid rfl n_milepostlaw48_ProveValid rfl (M.init PP w D [] [Sl 67 A l.length cap (bl l), Txs l] ⟨Sl.stable, Txs.stable, trivial⟩ hD ⟨hs, ht, trivial⟩) ?_
  obtain ⟨mu, hmu⟩ : ∃ mu, much24 l = mu := ⟨_, rfl⟩
  obtain ⟨P, hP⟩ : ∃ P, mayP c.m c.k c.a c.b = P := ⟨_, rfl⟩
  obtain ⟨E, hE⟩ : ∃ E, chkF c l = E := ⟨_, rfl⟩
  have lb : mu = false → l.length ≤ 24 ∧ ∀ b ∈ l, Bok b := fun h => ⟨(much24_false (hmu.trans h)).1, Bok_of_much (hmu.trans h) hl1⟩
  refine seq (region (box rfl rfl rfl fun b0 => det rfl (asg rfl) (nilS ?_)))   -- region 0
  refine seq ?_
  refine seq (region (det rfl (mv rfl) (call (v := .bool mu) k_milepostlaw24_Much rfl rfl (fun w hm => by
    obtain ⟨D, d1, d2, hD, d4, d5⟩ := hm.data
    exact hmu ▸ much24_ l hl1 hl2 A cap D w hD d5.1 d5.2.1) (det rfl (mv rfl) (guardI rfl rfl rfl (fun hb => mv rfl) (guardI rfl rfl rfl (fun hb => lenS u_sl_api_Block (bift hb rfl)) (guardI rfl rfl rfl (fun hb => fadr rfl u_api_Config rfl s_int) (guardI rfl rfl rfl (fun hb => ldB 0 (v := .int .i64 c.k) (bift hb rfl) rfl o_int (Cf.at_k hc)) (guardI rfl rfl rfl (fun hb => leq (bift hb rfl) (bift hb rfl)) (det rfl (pick rfl (pickO rfl)) (det rfl (mv rfl) (guardI rfl rfl rfl (fun hb => fadr rfl u_api_Config rfl s_int) (guardI rfl rfl rfl (fun hb => ldB 0 (v := .int .i64 c.m) (bift hb rfl) rfl o_int (Cf.at_m hc)) (guardI rfl rfl rfl (fun hb => fadr rfl u_api_Config rfl s_int) (guardI rfl rfl rfl (fun hb => ldB 0 (v := .int .i64 c.k) (bift hb rfl) rfl o_int (Cf.at_k hc)) (guardI rfl rfl rfl (fun hb => fadr rfl u_api_Config rfl s_int) (guardI rfl rfl rfl (fun hb => ldB 0 (v := .int .i64 c.a) (bift hb rfl) rfl o_int (Cf.at_a hc)) (guardI rfl rfl rfl (fun hb => fadr rfl u_api_Config rfl s_int) (guardI rfl rfl rfl (fun hb => ldB 0 (v := .int .i64 c.b) (bift hb rfl) rfl o_int (Cf.at_b hc)) ((guardC (v := .bool P) rfl rfl k_pick_May (fun hb => lc (bift hb rfl) (lc (bift hb rfl) (lc (bift hb rfl) (lc (bift hb rfl) rfl)))) rfl (fun hb w _ => hP ▸ pick_May_ c.m c.k c.a c.b w) (guardI rfl rfl rfl (fun hb => notB (bift hb rfl)) (det rfl (pick rfl (pickO rfl)) (det rfl (mv rfl) (guardI rfl rfl rfl (fun hb => ldAll 0 rfl rfl g_api_Config (Cf.c_length hc)) (guardI rfl rfl rfl (fun hb => mv rfl) ((guardC (v := ag (fltC E)) rfl rfl k_chain_Check (fun hb => lc (bift hb rfl) (lc (bift hb rfl) rfl)) rfl (fun hb w hm => by
    obtain ⟨D, d1, d2, hD, d4, d5⟩ := hm.data
    have hmf : mu = false := by simp only [Bool.or_eq_false_iff] at hb; exact hb.1.1
    have := chain_Check_ c hc l (lb hmf).2 (by have := (lb hmf).1; omega) A cap D w hD d5.1 d5.2.1
    rw [hE] at this; exact this) (guardI rfl rfl rfl (fun hb => fldO (bift hb rfl) u_api_Fault rfl o_api_Errno rfl) (guardI rfl rfl rfl (fun hb => neq (bift hb rfl) rfl) (det rfl (pick rfl (pickO rfl)) (nilS ?_))))))))))))))))))))))))))))))))   -- region 1
  refine cond rfl (fun h => ?_) (fun h => ?_)   -- on t36
  · refine seq (region (call k_milepostlaw48_awake rfl rfl (fun w _ => awake48_ w) (det rfl (asg rfl) (nilS ?_))))   -- region 2
    exact ret (retT rfl rfl pr)
  · obtain ⟨h1, h2, h3, h4⟩ := guard4 h
    obtain ⟨hl24, hlb⟩ := lb h1
    refine forget [(1, .slice A l.length cap), (2, .pointer (some ⟨b0, 0, none⟩))] ⟨rfl, rfl, trivial⟩ fun σ => ?_
    have hch : Chn c l := chk_chn (by rw [hE]; exact h4)
    subst h3
    obtain ⟨X, hpX, hX⟩ := prove_prf hch (by rw [hE]; exact h4) hP h2
    refine skipS ?_
    refine seq (region (det rfl (ldAll 0 rfl rfl g_api_Config (Cf.c_length hc)) (det rfl (mv rfl) (callSt (L := X) (er := 0) k_prove_Prove (show _ = [ag c.c, Value.slice A l.length cap] from rfl) rfl (fun w hm => by
      obtain ⟨D, d1, d2, hD, d4, d5⟩ := hm.data
      have := prove_Prove_ c hc hfit l hlb (by omega) A cap D w hD d5.1 d5.2.1
      rw [hpX] at this; exact this) fun B q Sx => (det rfl (mv rfl) (det rfl (extr rfl rfl) (det rfl (extr rfl rfl) (det rfl (asg rfl) (det rfl (asg rfl) (nilS ?_))))))))))   -- region 3
    obtain ⟨S, hSX⟩ := Sx
    have hSl : X.length = S.length := by rw [← hSX, List.length_map]
    have hXg : ∀ i (h : i < S.length), X.getD i sx0 = (S[i]).x := fun i h => by rw [← hSX]; exact getSX h
    have hSok : ∀ s ∈ S, s.h.ok := by
      intro s hs
      obtain ⟨i, hi, rfl⟩ := List.getElem_of_mem hs
      obtain ⟨a, hal, ha, _⟩ := hX.head i (by omega)
      rw [hXg i hi] at ha
      rw [show (S[i]).h = (S[i]).x.1 from rfl, ha, getB hal]
      exact hl1 _ (List.getElem_mem hal)
    have hk1 := hX.k0
    have hmore := hX.more
    have hle := hX.le
    refine forget [(1, .slice A l.length cap), (2, .pointer (some ⟨b0, 0, none⟩)), (5, .slice B S.length q), (6, .int .i64 0)] ⟨rfl, rfl, congrArg (fun n => Value.slice B n q) hSl, rfl, trivial⟩ fun σ => ?_
    refine refactT (K' := [Sl 69 B S.length q (stl S), Ops S, Sl 67 A l.length cap (bl l)]) ⟨Sl.stable, Ops.stable, Sl.stable, trivial⟩ (fun D w h => ⟨hSl ▸ (StS.mono h.1 fun k hk => hk.1).1, (StS.mono h.1 fun k hk => hk.1).2, h.2.1, trivial⟩) ?_
    refine seq ?_
    refine seq (region (det rfl (mv rfl) (det rfl (Det.to (v' := .bool false) (neq rfl rfl) rfl) (det rfl (mv rfl) (guardT rfl rfl (det rfl (ldAll 0 rfl rfl g_api_Config (Cf.c_length hc)) (guardT rfl rfl (det rfl (mv rfl) (guardT rfl rfl (call (v := ag (fltC (0, 0))) k_valid_Check (show _ = [ag c.c, Value.slice B S.length q] from rfl) rfl (fun w hm => by
      obtain ⟨D, d1, d2, hD, d4, d5⟩ := hm.data
      have := valid_Check_ c hc S hSok B q D w hD ⟨d5.1, d5.2.1⟩
      rw [hSX, hX.valid] at this; exact this) (guardT rfl rfl (det rfl (bldZ z_api_Fault u_api_Fault (fun w => run_placesS PP w (by kernel_rfl))) (guardT rfl rfl (det rfl (Det.to (v' := .bool false) (neqA rfl rfl hgF (eqFlt (0, 0) (0, 0))) rfl) (det rfl (pick (b := false) rfl rfl) (det rfl (mv rfl) (guardT rfl rfl (det rfl (mv rfl) (guardT rfl rfl (det rfl (lenS u_sl_api_Step rfl) (guardT rfl rfl (det rfl (fadr rfl u_api_Config rfl s_int) (guardT rfl rfl (det rfl (ldB 0 (v := .int .i64 c.k) rfl rfl o_int (Cf.at_k hc)) (guardT rfl rfl (det rfl (Det.to (v' := .bool false) (leq rfl rfl) (vb (decide_eq_false (by omega)))) (det rfl (pick (b := false) rfl rfl) (det rfl (mv rfl) (guardT rfl rfl (det rfl (mv rfl) (guardT rfl rfl (det rfl (lenS u_sl_api_Step rfl) (guardT rfl rfl (det rfl (mv rfl) (guardT rfl rfl (det rfl (lenS u_sl_api_Block rfl) (guardT rfl rfl (det rfl (Det.to (v' := .bool false) (gtr rfl rfl) (vb (decide_eq_false (by omega)))) (det rfl (pick (b := false) rfl rfl) (nilS ?_))))))))))))))))))))))))))))))))))))))))   -- region 4
    refine condF rfl ?_
    refine skipS ?_
    refine seq ?_
    refine seq (region (det rfl (asg rfl) (nilS ?_)))   -- region 6
    refine block ?_   -- block 0
    refine loopV (ι := Nat) (fun i => i ≤ S.length) (fun i => [(1, .slice A l.length cap), (2, .pointer (some ⟨b0, 0, none⟩)), (5, .slice B S.length q), (7, .int .i64 i)]) (fun _ => [.blk b0 (ob c.c T_api_Config)]) (fun _ => [Sl 69 B S.length q (stl S), Ops S, Sl 67 A l.length cap (bl l)]) (fun i => S.length - i) 0 (Nat.zero_le _) ⟨rfl, rfl, rfl, rfl, trivial⟩ (fun w hm => hm) ?_
    intro i σ hi0
    refine seq ?_
    refine seq (region (det rfl (mv rfl) (det rfl (mv rfl) (det rfl (lenS u_sl_api_Step rfl) (det rfl (lss rfl rfl) (nilS ?_))))))   -- region 7
    refine cond rfl (fun h => ?_) (fun h => ?_)   -- on t70
    rotate_left
    · have h := of_decide_eq_false h
      refine exit ?_   -- 0
      show Tr _ _ _ _ _ _ _
      refine seq (region (call k_milepostlaw48_awake rfl rfl (fun w _ => awake48_ w) (det rfl (asg rfl) (nilS ?_))))   -- region 12
      exact ret (retT rfl rfl pr)
    have h := of_decide_eq_true h
    have hi : i < S.length := by omega
    obtain ⟨a, hal, ha1, ha2, ha3⟩ := hX.head i (by omega)
    rw [hXg i hi] at ha1 ha2
    have hxl0 : (l[a]).h = (S[i]).h := by rw [← getB hal, ← ha1]; rfl
    obtain ⟨x, hx⟩ : ∃ x, (S[i]).h = x := ⟨_, rfl⟩
    have hxl : (l[a]).h = x := by rw [hxl0, hx]
    have hxok : x.ok := by rw [← hx]; exact hSok _ (List.getElem_mem hi)
    have hxa : x.h = (a : Int) := by rw [← hx]; exact ha2
    have hta : (S.length : Int) - c.k ≤ i → (a : Int) = l.length - S.length + i := by rw [hSl] at ha3; exact ha3
    refine skipS ?_
    refine seq ?_
    refine block ?_   -- block 1
    refine seq (region (det rfl (mv rfl) (det rfl (mv rfl) (det rfl (ixS 0 rfl rfl u_sl_api_Step s_api_Step rfl (by omega) (by omega)) (det rfl (fadrS 0 rfl u_api_Step rfl s_api_Header rfl (by omega)) (det rfl (ldSP 0 (i := i) (o := 0) (r := x.c) rfl rfl g_api_Header (stl_at rfl hi) (by rw [← hx]; exact St.at_h (by rw [hx]; exact hxok)) (Hd.c_length hxok)) (alloc z_api_Header rfl rfl fun b1 => stoA 0 (rs := x.c) rfl rfl rfl s_api_Header (Hd.c_length hxok) (Hd.c_one x) rfl (nilS ?_))))))))   -- region 9
    by_cases hip : 0 < i
    · have hup : decide ((S[i - 1]).h.h < x.h) = true := by
        have := hX.rise (i - 1) (by omega)
        rw [show i - 1 + 1 = i by omega, hXg i hi, hXg (i - 1) (by omega)] at this
        have this : (S[i - 1]).h.h < (S[i]).h.h := this
        rw [hx] at this
        exact decide_eq_true this
      have hpok : (S[i - 1]).h.ok := hSok _ (List.getElem_mem _)
      by_cases htl : (S.length : Int) - c.k ≤ i
      · have htl2 := hta htl
        refine seq (drawI 53 [27] mix (by kernel_rfl) (by kernel_rfl) ?_)   -- drawn 10
        refine nI rfl rfl rfl (fadr rfl u_api_Header rfl s_uint32) ?_
        refine nI rfl rfl rfl (ldB 0 (v := .int .u32 (a : Int)) rfl rfl o_uint32 (by rw [← hxa]; rfl)) ?_
        refine nI rfl rfl rfl (Det.to (v' := .int .i64 (a : Int)) (conv u_uint32 u_int rfl) (vi (i64_in (by omega) (by omega)))) ?_
        refine nI rfl rfl rfl (mv rfl) ?_
        refine nI rfl rfl rfl (lenS u_sl_api_Block rfl) ?_
        refine nI rfl rfl rfl (Det.to (v' := .bool false) (geq rfl rfl) (vb (decide_eq_false (by omega)))) ?_
        refine nI rfl rfl rfl (mv rfl) ?_
        refine gI rfl rfl rfl rfl rfl (mv rfl) ?_
        refine gI rfl rfl rfl rfl rfl (fadr rfl u_api_Header rfl s_uint32) ?_
        refine gI rfl rfl rfl rfl rfl (ldB 0 (v := .int .u32 (a : Int)) rfl rfl o_uint32 (by rw [← hxa]; rfl)) ?_
        refine gI rfl rfl rfl rfl rfl (ixS 2 rfl rfl u_sl_api_Block s_api_Block rfl (by omega) (by omega)) ?_
        refine gI rfl rfl rfl rfl rfl (fadrS 2 rfl u_api_Block rfl s_api_Header rfl (by omega)) ?_
        refine gI rfl rfl rfl rfl rfl (ldSP 2 (i := a) (o := 0) (r := x.c) rfl rfl g_api_Header (bl_at rfl hal) (by rw [← hxl]; exact Bl.at_h (by rw [hxl]; exact hxok)) (Hd.c_length hxok)) ?_
        refine gI rfl rfl rfl rfl rfl (ldAll 0 rfl rfl g_api_Header (Hd.c_length hxok)) ?_
        refine gI rfl rfl rfl rfl rfl (Det.to (v' := .bool false) (neqA rfl rfl hgH (eqHd x x hxok hxok)) (by simp)) ?_
        refine nI rfl rfl rfl (pick (b := false) rfl rfl) ?_
        refine nI rfl rfl rfl (mv rfl) ?_
        refine gI rfl rfl rfl rfl rfl (mv rfl) ?_
        refine gI rfl rfl rfl rfl rfl (Det.to (v' := .bool true) (gtr rfl rfl) (vb (decide_eq_true (by omega)))) ?_
        refine gI rfl rfl rfl rfl rfl (mv rfl) ?_
        refine gI rfl rfl rfl rfl rfl (ldAll 0 rfl rfl g_api_Header (Hd.c_length hxok)) ?_
        refine gI rfl rfl rfl rfl rfl (mv rfl) ?_
        refine gI rfl rfl rfl rfl rfl (mv rfl) ?_
        refine gI rfl rfl rfl rfl rfl (Det.to (v' := .int .i64 ((i - 1 : Nat) : Int)) (subI rfl rfl (by omega) (by omega)) (vi (by omega))) ?_
        refine gI rfl rfl rfl rfl rfl (ixS 0 rfl rfl u_sl_api_Step s_api_Step rfl (by omega) (by omega)) ?_
        refine gI rfl rfl rfl rfl rfl (fadrS 0 rfl u_api_Step rfl s_api_Header rfl (by omega)) ?_
        refine gI rfl rfl rfl rfl rfl (ldSP 0 (i := i - 1) (o := 0) (r := (S[i - 1]).h.c) rfl rfl g_api_Header (stl_at rfl (by omega)) (St.at_h hpok) (Hd.c_length hpok)) ?_
        refine pgI (v := .bool true) rfl rfl rfl rfl k_rise_Above (show _ = [ag x.c, ag (S[i - 1]).h.c] from rfl) rfl (fun w _ => hup ▸ rise_Above_ x (S[i - 1]).h w) ?_
        refine gI rfl rfl rfl rfl rfl (Det.to (v' := .bool false) (notB rfl) rfl) ?_
        refine gI rfl rfl rfl rfl rfl (pick (b := true) rfl rfl) ?_
        refine nI rfl rfl rfl (pick (b := false) rfl rfl) ?_
        refine nI rfl rfl rfl (mv rfl) ?_
        refine gI rfl rfl rfl rfl rfl (mv rfl) ?_
        refine gI rfl rfl rfl rfl rfl (mv rfl) ?_
        refine gI rfl rfl rfl rfl rfl (lenS u_sl_api_Step rfl) ?_
        refine gI rfl rfl rfl rfl rfl (fadr rfl u_api_Config rfl s_int) ?_
        refine gI rfl rfl rfl rfl rfl (ldB 1 (v := .int .i64 c.k) rfl rfl o_int (Cf.at_k hc)) ?_
        refine gI rfl rfl rfl rfl rfl (subI rfl rfl (by omega) (by omega)) ?_
        refine gI rfl rfl rfl rfl rfl (Det.to (v' := .bool true) (geq rfl rfl) (vb (decide_eq_true (by omega)))) ?_
        refine gI rfl rfl rfl rfl rfl (mv rfl) ?_
        refine gI rfl rfl rfl rfl rfl (fadr rfl u_api_Header rfl s_uint32) ?_
        refine gI rfl rfl rfl rfl rfl (ldB 0 (v := .int .u32 (a : Int)) rfl rfl o_uint32 (by rw [← hxa]; rfl)) ?_
        refine gI rfl rfl rfl rfl rfl (Det.to (v' := .int .i64 (a : Int)) (conv u_uint32 u_int rfl) (vi (i64_in (by omega) (by omega)))) ?_
        refine gI rfl rfl rfl rfl rfl (mv rfl) ?_
        refine gI rfl rfl rfl rfl rfl (lenS u_sl_api_Block rfl) ?_
        refine gI rfl rfl rfl rfl rfl (mv rfl) ?_
        refine gI rfl rfl rfl rfl rfl (lenS u_sl_api_Step rfl) ?_
        refine gI rfl rfl rfl rfl rfl (subI rfl rfl (by omega) (by omega)) ?_
        refine gI rfl rfl rfl rfl rfl (mv rfl) ?_
        refine gI rfl rfl rfl rfl rfl (addI rfl rfl (by omega) (by omega)) ?_
        refine gI rfl rfl rfl rfl rfl (Det.to (v' := .bool false) (neq rfl rfl) (by rw [decide_eq_true (by omega)]; rfl)) ?_
        refine gI rfl rfl rfl rfl rfl (pick (b := true) rfl rfl) ?_
        refine nI rfl rfl rfl (pick (b := false) rfl rfl) ?_
        refine endI rfl (nilS ?_)
        refine condF rfl ?_
        refine skip ?_
        show Tr _ _ _ _ _ _ _
        refine region (det rfl (mv rfl) (det rfl (addI rfl rfl (by omega) (by omega)) (det rfl (asg rfl) (nil ?_))))   -- region 8
        exact again (i + 1) (by (first | omega | (dsimp only; omega))) ⟨rfl, rfl, rfl, rfl, trivial⟩ (fun w hm => drop1 hm) (by (first | omega | (dsimp only; omega)))
      · skip
        refine seq (drawI 53 [27] mix (by kernel_rfl) (by kernel_rfl) ?_)   -- drawn 10
        refine nI rfl rfl rfl (fadr rfl u_api_Header rfl s_uint32) ?_
        refine nI rfl rfl rfl (ldB 0 (v := .int .u32 (a : Int)) rfl rfl o_uint32 (by rw [← hxa]; rfl)) ?_
        refine nI rfl rfl rfl (Det.to (v' := .int .i64 (a : Int)) (conv u_uint32 u_int rfl) (vi (i64_in (by omega) (by omega)))) ?_
        refine nI rfl rfl rfl (mv rfl) ?_
        refine nI rfl rfl rfl (lenS u_sl_api_Block rfl) ?_
        refine nI rfl rfl rfl (Det.to (v' := .bool false) (geq rfl rfl) (vb (decide_eq_false (by omega)))) ?_
        refine nI rfl rfl rfl (mv rfl) ?_
        refine gI rfl rfl rfl rfl rfl (mv rfl) ?_
        refine gI rfl rfl rfl rfl rfl (fadr rfl u_api_Header rfl s_uint32) ?_
        refine gI rfl rfl rfl rfl rfl (ldB 0 (v := .int .u32 (a : Int)) rfl rfl o_uint32 (by rw [← hxa]; rfl)) ?_
        refine gI rfl rfl rfl rfl rfl (ixS 2 rfl rfl u_sl_api_Block s_api_Block rfl (by omega) (by omega)) ?_
        refine gI rfl rfl rfl rfl rfl (fadrS 2 rfl u_api_Block rfl s_api_Header rfl (by omega)) ?_
        refine gI rfl rfl rfl rfl rfl (ldSP 2 (i := a) (o := 0) (r := x.c) rfl rfl g_api_Header (bl_at rfl hal) (by rw [← hxl]; exact Bl.at_h (by rw [hxl]; exact hxok)) (Hd.c_length hxok)) ?_
        refine gI rfl rfl rfl rfl rfl (ldAll 0 rfl rfl g_api_Header (Hd.c_length hxok)) ?_
        refine gI rfl rfl rfl rfl rfl (Det.to (v' := .bool false) (neqA rfl rfl hgH (eqHd x x hxok hxok)) (by simp)) ?_
        refine nI rfl rfl rfl (pick (b := false) rfl rfl) ?_
        refine nI rfl rfl rfl (mv rfl) ?_
        refine gI rfl rfl rfl rfl rfl (mv rfl) ?_
        refine gI rfl rfl rfl rfl rfl (Det.to (v' := .bool true) (gtr rfl rfl) (vb (decide_eq_true (by omega)))) ?_
        refine gI rfl rfl rfl rfl rfl (mv rfl) ?_
        refine gI rfl rfl rfl rfl rfl (ldAll 0 rfl rfl g_api_Header (Hd.c_length hxok)) ?_
        refine gI rfl rfl rfl rfl rfl (mv rfl) ?_
        refine gI rfl rfl rfl rfl rfl (mv rfl) ?_
        refine gI rfl rfl rfl rfl rfl (Det.to (v' := .int .i64 ((i - 1 : Nat) : Int)) (subI rfl rfl (by omega) (by omega)) (vi (by omega))) ?_
        refine gI rfl rfl rfl rfl rfl (ixS 0 rfl rfl u_sl_api_Step s_api_Step rfl (by omega) (by omega)) ?_
        refine gI rfl rfl rfl rfl rfl (fadrS 0 rfl u_api_Step rfl s_api_Header rfl (by omega)) ?_
        refine gI rfl rfl rfl rfl rfl (ldSP 0 (i := i - 1) (o := 0) (r := (S[i - 1]).h.c) rfl rfl g_api_Header (stl_at rfl (by omega)) (St.at_h hpok) (Hd.c_length hpok)) ?_
        refine pgI (v := .bool true) rfl rfl rfl rfl k_rise_Above (show _ = [ag x.c, ag (S[i - 1]).h.c] from rfl) rfl (fun w _ => hup ▸ rise_Above_ x (S[i - 1]).h w) ?_
        refine gI rfl rfl rfl rfl rfl (Det.to (v' := .bool false) (notB rfl) rfl) ?_
        refine gI rfl rfl rfl rfl rfl (pick (b := true) rfl rfl) ?_
        refine nI rfl rfl rfl (pick (b := false) rfl rfl) ?_
        refine nI rfl rfl rfl (mv rfl) ?_
        refine gI rfl rfl rfl rfl rfl (mv rfl) ?_
        refine gI rfl rfl rfl rfl rfl (mv rfl) ?_
        refine gI rfl rfl rfl rfl rfl (lenS u_sl_api_Step rfl) ?_
        refine gI rfl rfl rfl rfl rfl (fadr rfl u_api_Config rfl s_int) ?_
        refine gI rfl rfl rfl rfl rfl (ldB 1 (v := .int .i64 c.k) rfl rfl o_int (Cf.at_k hc)) ?_
        refine gI rfl rfl rfl rfl rfl (subI rfl rfl (by omega) (by omega)) ?_
        refine gI rfl rfl rfl rfl rfl (Det.to (v' := .bool false) (geq rfl rfl) (vb (decide_eq_false (by omega)))) ?_
        refine gI rfl rfl rfl rfl rfl (mv rfl) ?_
        refine uI rfl rfl rfl (.inl rfl) rfl ?_
        refine uI rfl rfl rfl (.inl rfl) rfl ?_
        refine uI rfl rfl rfl (.inl rfl) rfl ?_
        refine uI rfl rfl rfl (.inl rfl) rfl ?_
        refine uI rfl rfl rfl (.inl rfl) rfl ?_
        refine uI rfl rfl rfl (.inl rfl) rfl ?_
        refine uI rfl rfl rfl (.inl rfl) rfl ?_
        refine uI rfl rfl rfl (.inl rfl) rfl ?_
        refine uI rfl rfl rfl (.inl rfl) rfl ?_
        refine uI rfl rfl rfl (.inl rfl) rfl ?_
        refine uI rfl rfl rfl (.inl rfl) rfl ?_
        refine gI rfl rfl rfl rfl rfl (pick (b := false) rfl rfl) ?_
        refine nI rfl rfl rfl (pick (b := false) rfl rfl) ?_
        refine endI rfl (nilS ?_)
        refine condF rfl ?_
        refine skip ?_
        show Tr _ _ _ _ _ _ _
        refine region (det rfl (mv rfl) (det rfl (addI rfl rfl (by omega) (by omega)) (det rfl (asg rfl) (nil ?_))))   -- region 8
        exact again (i + 1) (by (first | omega | (dsimp only; omega))) ⟨rfl, rfl, rfl, rfl, trivial⟩ (fun w hm => drop1 hm) (by (first | omega | (dsimp only; omega)))
    · by_cases htl : (S.length : Int) - c.k ≤ i
      · have htl2 := hta htl
        refine seq (drawI 53 [] mix (by kernel_rfl) (by kernel_rfl) ?_)   -- drawn 10
        refine nI rfl rfl rfl (fadr rfl u_api_Header rfl s_uint32) ?_
        refine nI rfl rfl rfl (ldB 0 (v := .int .u32 (a : Int)) rfl rfl o_uint32 (by rw [← hxa]; rfl)) ?_
        refine nI rfl rfl rfl (Det.to (v' := .int .i64 (a : Int)) (conv u_uint32 u_int rfl) (vi (i64_in (by omega) (by omega)))) ?_
        refine nI rfl rfl rfl (mv rfl) ?_
        refine nI rfl rfl rfl (lenS u_sl_api_Block rfl) ?_
        refine nI rfl rfl rfl (Det.to (v' := .bool false) (geq rfl rfl) (vb (decide_eq_false (by omega)))) ?_
        refine nI rfl rfl rfl (mv rfl) ?_
        refine gI rfl rfl rfl rfl rfl (mv rfl) ?_
        refine gI rfl rfl rfl rfl rfl (fadr rfl u_api_Header rfl s_uint32) ?_
        refine gI rfl rfl rfl rfl rfl (ldB 0 (v := .int .u32 (a : Int)) rfl rfl o_uint32 (by rw [← hxa]; rfl)) ?_
        refine gI rfl rfl rfl rfl rfl (ixS 2 rfl rfl u_sl_api_Block s_api_Block rfl (by omega) (by omega)) ?_
        refine gI rfl rfl rfl rfl rfl (fadrS 2 rfl u_api_Block rfl s_api_Header rfl (by omega)) ?_
        refine gI rfl rfl rfl rfl rfl (ldSP 2 (i := a) (o := 0) (r := x.c) rfl rfl g_api_Header (bl_at rfl hal) (by rw [← hxl]; exact Bl.at_h (by rw [hxl]; exact hxok)) (Hd.c_length hxok)) ?_
        refine gI rfl rfl rfl rfl rfl (ldAll 0 rfl rfl g_api_Header (Hd.c_length hxok)) ?_
        refine gI rfl rfl rfl rfl rfl (Det.to (v' := .bool false) (neqA rfl rfl hgH (eqHd x x hxok hxok)) (by simp)) ?_
        refine nI rfl rfl rfl (pick (b := false) rfl rfl) ?_
        refine nI rfl rfl rfl (mv rfl) ?_
        refine gI rfl rfl rfl rfl rfl (mv rfl) ?_
        refine gI rfl rfl rfl rfl rfl (Det.to (v' := .bool false) (gtr rfl rfl) (vb (decide_eq_false (by omega)))) ?_
        refine gI rfl rfl rfl rfl rfl (mv rfl) ?_
        refine uI rfl rfl rfl (.inl rfl) rfl ?_
        refine uI rfl rfl rfl (.inl rfl) rfl ?_
        refine uI rfl rfl rfl (.inl rfl) rfl ?_
        refine uI rfl rfl rfl (.inl rfl) rfl ?_
        refine uI rfl rfl rfl (.inl rfl) rfl ?_
        refine uI rfl rfl rfl (.inl rfl) rfl ?_
        refine uI rfl rfl rfl (.inl rfl) rfl ?_
        refine uI rfl rfl rfl (.inl rfl) rfl ?_
        refine uI rfl rfl rfl (.inl rfl) rfl ?_
        refine gI rfl rfl rfl rfl rfl (pick (b := false) rfl rfl) ?_
        refine nI rfl rfl rfl (pick (b := false) rfl rfl) ?_
        refine nI rfl rfl rfl (mv rfl) ?_
        refine gI rfl rfl rfl rfl rfl (mv rfl) ?_
        refine gI rfl rfl rfl rfl rfl (mv rfl) ?_
        refine gI rfl rfl rfl rfl rfl (lenS u_sl_api_Step rfl) ?_
        refine gI rfl rfl rfl rfl rfl (fadr rfl u_api_Config rfl s_int) ?_
        refine gI rfl rfl rfl rfl rfl (ldB 1 (v := .int .i64 c.k) rfl rfl o_int (Cf.at_k hc)) ?_
        refine gI rfl rfl rfl rfl rfl (subI rfl rfl (by omega) (by omega)) ?_
        refine gI rfl rfl rfl rfl rfl (Det.to (v' := .bool true) (geq rfl rfl) (vb (decide_eq_true (by omega)))) ?_
        refine gI rfl rfl rfl rfl rfl (mv rfl) ?_
        refine gI rfl rfl rfl rfl rfl (fadr rfl u_api_Header rfl s_uint32) ?_
        refine gI rfl rfl rfl rfl rfl (ldB 0 (v := .int .u32 (a : Int)) rfl rfl o_uint32 (by rw [← hxa]; rfl)) ?_
        refine gI rfl rfl rfl rfl rfl (Det.to (v' := .int .i64 (a : Int)) (conv u_uint32 u_int rfl) (vi (i64_in (by omega) (by omega)))) ?_
        refine gI rfl rfl rfl rfl rfl (mv rfl) ?_
        refine gI rfl rfl rfl rfl rfl (lenS u_sl_api_Block rfl) ?_
        refine gI rfl rfl rfl rfl rfl (mv rfl) ?_
        refine gI rfl rfl rfl rfl rfl (lenS u_sl_api_Step rfl) ?_
        refine gI rfl rfl rfl rfl rfl (subI rfl rfl (by omega) (by omega)) ?_
        refine gI rfl rfl rfl rfl rfl (mv rfl) ?_
        refine gI rfl rfl rfl rfl rfl (addI rfl rfl (by omega) (by omega)) ?_
        refine gI rfl rfl rfl rfl rfl (Det.to (v' := .bool false) (neq rfl rfl) (by rw [decide_eq_true (by omega)]; rfl)) ?_
        refine gI rfl rfl rfl rfl rfl (pick (b := true) rfl rfl) ?_
        refine nI rfl rfl rfl (pick (b := false) rfl rfl) ?_
        refine endI rfl (nilS ?_)
        refine condF rfl ?_
        refine skip ?_
        show Tr _ _ _ _ _ _ _
        refine region (det rfl (mv rfl) (det rfl (addI rfl rfl (by omega) (by omega)) (det rfl (asg rfl) (nil ?_))))   -- region 8
        exact again (i + 1) (by (first | omega | (dsimp only; omega))) ⟨rfl, rfl, rfl, rfl, trivial⟩ (fun w hm => drop1 hm) (by (first | omega | (dsimp only; omega)))
      · skip
        refine seq (drawI 53 [] mix (by kernel_rfl) (by kernel_rfl) ?_)   -- drawn 10
        refine nI rfl rfl rfl (fadr rfl u_api_Header rfl s_uint32) ?_
        refine nI rfl rfl rfl (ldB 0 (v := .int .u32 (a : Int)) rfl rfl o_uint32 (by rw [← hxa]; rfl)) ?_
        refine nI rfl rfl rfl (Det.to (v' := .int .i64 (a : Int)) (conv u_uint32 u_int rfl) (vi (i64_in (by omega) (by omega)))) ?_
        refine nI rfl rfl rfl (mv rfl) ?_
        refine nI rfl rfl rfl (lenS u_sl_api_Block rfl) ?_
        refine nI rfl rfl rfl (Det.to (v' := .bool false) (geq rfl rfl) (vb (decide_eq_false (by omega)))) ?_
        refine nI rfl rfl rfl (mv rfl) ?_
        refine gI rfl rfl rfl rfl rfl (mv rfl) ?_
        refine gI rfl rfl rfl rfl rfl (fadr rfl u_api_Header rfl s_uint32) ?_
        refine gI rfl rfl rfl rfl rfl (ldB 0 (v := .int .u32 (a : Int)) rfl rfl o_uint32 (by rw [← hxa]; rfl)) ?_
        refine gI rfl rfl rfl rfl rfl (ixS 2 rfl rfl u_sl_api_Block s_api_Block rfl (by omega) (by omega)) ?_
        refine gI rfl rfl rfl rfl rfl (fadrS 2 rfl u_api_Block rfl s_api_Header rfl (by omega)) ?_
        refine gI rfl rfl rfl rfl rfl (ldSP 2 (i := a) (o := 0) (r := x.c) rfl rfl g_api_Header (bl_at rfl hal) (by rw [← hxl]; exact Bl.at_h (by rw [hxl]; exact hxok)) (Hd.c_length hxok)) ?_
        refine gI rfl rfl rfl rfl rfl (ldAll 0 rfl rfl g_api_Header (Hd.c_length hxok)) ?_
        refine gI rfl rfl rfl rfl rfl (Det.to (v' := .bool false) (neqA rfl rfl hgH (eqHd x x hxok hxok)) (by simp)) ?_
        refine nI rfl rfl rfl (pick (b := false) rfl rfl) ?_
        refine nI rfl rfl rfl (mv rfl) ?_
        refine gI rfl rfl rfl rfl rfl (mv rfl) ?_
        refine gI rfl rfl rfl rfl rfl (Det.to (v' := .bool false) (gtr rfl rfl) (vb (decide_eq_false (by omega)))) ?_
        refine gI rfl rfl rfl rfl rfl (mv rfl) ?_
        refine uI rfl rfl rfl (.inl rfl) rfl ?_
        refine uI rfl rfl rfl (.inl rfl) rfl ?_
        refine uI rfl rfl rfl (.inl rfl) rfl ?_
        refine uI rfl rfl rfl (.inl rfl) rfl ?_
        refine uI rfl rfl rfl (.inl rfl) rfl ?_
        refine uI rfl rfl rfl (.inl rfl) rfl ?_
        refine uI rfl rfl rfl (.inl rfl) rfl ?_
        refine uI rfl rfl rfl (.inl rfl) rfl ?_
        refine uI rfl rfl rfl (.inl rfl) rfl ?_
        refine gI rfl rfl rfl rfl rfl (pick (b := false) rfl rfl) ?_
        refine nI rfl rfl rfl (pick (b := false) rfl rfl) ?_
        refine nI rfl rfl rfl (mv rfl) ?_
        refine gI rfl rfl rfl rfl rfl (mv rfl) ?_
        refine gI rfl rfl rfl rfl rfl (mv rfl) ?_
        refine gI rfl rfl rfl rfl rfl (lenS u_sl_api_Step rfl) ?_
        refine gI rfl rfl rfl rfl rfl (fadr rfl u_api_Config rfl s_int) ?_
        refine gI rfl rfl rfl rfl rfl (ldB 1 (v := .int .i64 c.k) rfl rfl o_int (Cf.at_k hc)) ?_
        refine gI rfl rfl rfl rfl rfl (subI rfl rfl (by omega) (by omega)) ?_
        refine gI rfl rfl rfl rfl rfl (Det.to (v' := .bool false) (geq rfl rfl) (vb (decide_eq_false (by omega)))) ?_
        refine gI rfl rfl rfl rfl rfl (mv rfl) ?_
        refine uI rfl rfl rfl (.inl rfl) rfl ?_
        refine uI rfl rfl rfl (.inl rfl) rfl ?_
        refine uI rfl rfl rfl (.inl rfl) rfl ?_
        refine uI rfl rfl rfl (.inl rfl) rfl ?_
        refine uI rfl rfl rfl (.inl rfl) rfl ?_
        refine uI rfl rfl rfl (.inl rfl) rfl ?_
        refine uI rfl rfl rfl (.inl rfl) rfl ?_
        refine uI rfl rfl rfl (.inl rfl) rfl ?_
        refine uI rfl rfl rfl (.inl rfl) rfl ?_
        refine uI rfl rfl rfl (.inl rfl) rfl ?_
        refine uI rfl rfl rfl (.inl rfl) rfl ?_
        refine gI rfl rfl rfl rfl rfl (pick (b := false) rfl rfl) ?_
        refine nI rfl rfl rfl (pick (b := false) rfl rfl) ?_
        refine endI rfl (nilS ?_)
        refine condF rfl ?_
        refine skip ?_
        show Tr _ _ _ _ _ _ _
        refine region (det rfl (mv rfl) (det rfl (addI rfl rfl (by omega) (by omega)) (det rfl (asg rfl) (nil ?_))))   -- region 8
        exact again (i + 1) (by (first | omega | (dsimp only; omega))) ⟨rfl, rfl, rfl, rfl, trivial⟩ (fun w hm => drop1 hm) (by (first | omega | (dsimp only; omega)))
end Go.Proofs.YtmcapgjdflohfaaGreat.L

namespace Go.Proofs.YtmcapgjdflohfaaGreat.L
open Go Go.RowKit
set_option linter.unusedVariables false

def innerGo (t : List UInt8) (top : Hd) (b : OpX) : List SX → Hd → Int
  | [], y => if joinC (top, b) y = false then 10 else 0
  | s :: r, y => if oneR t s y top.h ≠ 0 then oneR t s y top.h else innerGo t top b r s.1
def innerR (t : List UInt8) (X : List SX) (x : InfX) : Int := if x.2.1.length = 0 then (if isOp0 x.2.2.1 = false then 2 else 0) else innerGo t (X.getD x.1.toNat sx0).1 x.2.2.1 x.2.1 (X.getD (x.1.toNat - 1) sx0).1

theorem bldSt2 {c : Cx} {σ : Env} {H : List Res} {K : List Fact} {d : Option Tmp} {t : TypeId} {p : String} {af : Array Edge} {g : Option (Nat × Bool)} {parts : Array (Nat × Operand)} (hP : c.P = PP) (h : Hd) (hh : h.ok) (o : Opn)
    (hps : (parts.toList.map fun (i, x) => (i, ev σ x)) = [(0, ag h.c), (1, ag o.c)]) :
    Det c σ H K ⟨d, .build T_api_Step parts, t, p, af, g⟩ (ag (St.mk h o).c) := by
  refine bldT (pl := _) (by rw [hP]; exact z_api_Step) (by rw [hP]; exact u_api_Step) (fun w => by rw [hP]; exact run_placesS PP w (by kernel_rfl)) hps ?_
  refine fill_cat (o := 0) (s := 66) (vs := h.c) (by kernel_rfl) rfl rfl (Hd.c_length hh) (by simp) ?_
  refine fill_cat (o := 66) (s := 3) (vs := o.c) (by kernel_rfl) (by simp [Hd.c_length hh]) rfl rfl (by simp) ?_
  exact fill_end (by simp) rfl

set_option maxRecDepth 8000 in
set_option maxHeartbeats 800000 in
theorem within_inner_ (t : List UInt8) (ht : t.length = 32) (L : List St) (hL : ∀ s ∈ L, s.h.ok) (y : Inf) (hy : ∀ s ∈ y.S, s.h.ok) (hpl : placeR L.length y.x = 0) (A : Option Addr) (cap : Nat) (D : Nat → Prop) (w : World) (hD : ∀ k, D k → k < w.heap.size) (hs : StS A L.length cap L D w) (hs2 : InfF y D w) :
    Calls PP N_within_inner #[ag (b8 t), .slice A L.length cap, ag y.c] w (PR w (.int .i64 (innerR t (L.map St.x) y.x))) := by
  refine enter f_within_inner rfl n_within_inner rfl (M.init PP w D [] [Sl 69 A L.length cap (stl L), Sl 69 y.A y.S.length y.cap (stl y.S), Ops y.S, OpF y.back] ⟨Sl.stable, Sl.stable, Ops.stable, OpF.stable, trivial⟩ hD ⟨hs.1, hs2.1.1, hs2.1.2, hs2.2.1, trivial⟩) ?_
  have hmx : L.length ≤ maxLen := Nat.le_trans hs.1.2.1 hs.1.2.2.1
  simp only [maxLen] at hmx
  have hyl : y.x.2.1.length = y.S.length := by simp [Inf.x]
  have hat : 0 ≤ y.at_ ∧ y.at_ < L.length ∧ (0 < y.S.length → y.at_ ≠ 0) ∧ y.S.length ≤ 1024 := by
    unfold placeR at hpl
    split at hpl
    · cases hpl
    · rename_i h1
      split at hpl
      · cases hpl
      · rename_i h2
        split at hpl
        · cases hpl
        · rename_i h3
          rw [hyl] at h2 h3
          simp only [Inf.x, List.length_map] at h1 h2 h3
          omega
  obtain ⟨ya, yA, yc, S, yb, yw, yt, yo⟩ := y
  obtain ⟨k0, hk0⟩ : ∃ k : Nat, ya = (k : Int) := ⟨ya.toNat, by have := hat.1; dsimp only at this; omega⟩
  subst hk0
  dsimp only at hat hy hyl
  refine seq (region (box rfl rfl rfl fun b0 => box rfl rfl rfl fun b1 => det rfl (asg rfl) (nilS ?_)))   -- region 0
  refine seq ?_
  refine seq (region (det rfl (fadr rfl u_api_Infix rfl s_sl_api_Step) (det rfl (ldB 0 (v := .slice yA S.length yc) rfl rfl o_sl_api_Step rfl) (det rfl (lenS u_sl_api_Step rfl) (det rfl (eql rfl rfl) (nilS ?_))))))   -- region 1
  by_cases h0 : S.length = 0
  · refine condT (by show Value.bool (decide _) = _; rw [decide_eq_true (by omega)]) ?_
    obtain ⟨z, hz⟩ : ∃ z, isOp0 yb.x = z := ⟨_, rfl⟩
    rw [innerR, if_pos (by rw [hyl]; exact h0), show (Inf.x ⟨(k0 : Int), yA, yc, S, yb, yw, yt, yo⟩).2.2.1 = yb.x from rfl, hz]
    refine seq ?_
    refine seq (region (det rfl (fadr rfl u_api_Infix rfl s_api_Opening) (det rfl (ldA 0 (r := yb.c) rfl rfl g_api_Opening rfl rfl) (call (v := .bool z) k_open_None (show _ = [ag yb.c] from rfl) rfl (fun w _ => hz ▸ open_None_ yb w) (det rfl (notB rfl) (nilS ?_))))))   -- region 2
    cases z
    · refine condT rfl ?_
      refine seq (region (det rfl (asg rfl) (nilS ?_)))   -- region 3
      exact ret (retT rfl rfl pr)
    · refine condF rfl ?_
      refine skipS ?_
      refine seq (region (det rfl (asg rfl) (nilS ?_)))   -- region 4
      exact ret (retT rfl rfl pr)
  · refine condF (by show Value.bool (decide _) = _; rw [decide_eq_false (by omega)]) ?_
    have hk1 : 1 ≤ k0 := by have := hat.2.2.1 (by omega); omega
    have hkl : k0 < L.length := by omega
    obtain ⟨top, htop⟩ : ∃ h, (L[k0]).h = h := ⟨_, rfl⟩
    obtain ⟨ah, hah⟩ : ∃ h, (L[k0 - 1]'(by omega)).h = h := ⟨_, rfl⟩
    have htk : top.ok := by rw [← htop]; exact hL _ (List.getElem_mem _)
    have hak : ah.ok := by rw [← hah]; exact hL _ (List.getElem_mem _)
    obtain ⟨G, hG⟩ : ∃ G, innerGo t top yb.x (S.map St.x) ah = G := ⟨_, rfl⟩
    have e : innerR t (L.map St.x) (Inf.x ⟨(k0 : Int), yA, yc, S, yb, yw, yt, yo⟩) = G := by
      rw [innerR, if_neg (by rw [hyl]; exact h0)]
      simp only [Inf.x, Int.toNat_natCast]
      rw [getSX hkl, getSX (by omega), show (L[k0]).x.1 = top from htop, show (L[k0 - 1]'(by omega)).x.1 = ah from hah, hG]
    rw [e]
    refine skipS ?_
    refine cutV (ι := Nat × Nat) (fun _ => True) (fun (p, q) => [(3, .pointer (some ⟨b0, 0, none⟩)), (5, .pointer (some ⟨b1, 0, none⟩)), (7, .pointer (some ⟨p, 0, none⟩)), (8, .pointer (some ⟨q, 0, none⟩))]) (fun (p, q) => [.blk q (ob top.c T_api_Header), .blk p (ob ah.c T_api_Header), .blk b1 (ob (Inf.mk k0 yA yc S yb yw yt yo).c T_api_Infix), .blk b0 (ob (b8 t) T_api_Hash)]) (fun _ => [Sl 69 yA S.length yc (stl S), Ops S, OpF yb]) ?_ ?_
    · refine drawW (m := 17) [.blk b1 (ob (Inf.mk k0 yA yc S yb yw yt yo).c T_api_Infix), .blk b0 (ob (b8 t) T_api_Hash)] mix (by kernel_rfl) ?_   -- drawn 5
      refine takeW 0 rfl (by kernel_rfl) rfl (by simp) (mv rfl) ?_
      refine takeW 1 rfl (by kernel_rfl) rfl (by simp) (fadr rfl u_api_Infix rfl s_int) ?_
      refine takeW 2 rfl (by kernel_rfl) rfl (by simp) (ldB 0 (v := .int .i64 (k0 : Int)) rfl rfl o_int rfl) ?_
      refine takeW 3 rfl (by kernel_rfl) rfl (by simp) (Det.to (v' := .int .i64 ((k0 - 1 : Nat) : Int)) (subI rfl rfl (by omega) (by omega)) (vi (by omega))) ?_
      refine takeW 4 rfl (by kernel_rfl) rfl (by simp) (ixS 0 rfl rfl u_sl_api_Step s_api_Step rfl (by omega) (by omega)) ?_
      refine takeW 5 rfl (by kernel_rfl) rfl (by simp) (fadrS 0 rfl u_api_Step rfl s_api_Header rfl (by omega)) ?_
      refine takeW 6 rfl (by kernel_rfl) rfl (by simp) (ldSP 0 (i := k0 - 1) (o := 0) (r := ah.c) rfl rfl g_api_Header (stl_at rfl (by omega)) (by rw [← hah]; exact St.at_h (hL _ (List.getElem_mem _))) (Hd.c_length hak)) ?_
      refine takeW 7 rfl (by kernel_rfl) rfl (by simp) (mv rfl) ?_
      refine takeW 8 rfl (by kernel_rfl) rfl (by simp) (fadr rfl u_api_Infix rfl s_int) ?_
      refine takeW 9 rfl (by kernel_rfl) rfl (by simp) (ldB 0 (v := .int .i64 (k0 : Int)) rfl rfl o_int rfl) ?_
      refine takeW 10 rfl (by kernel_rfl) rfl (by simp) (ixS 0 rfl rfl u_sl_api_Step s_api_Step rfl (by omega) (by omega)) ?_
      refine takeW 11 rfl (by kernel_rfl) rfl (by simp) (fadrS 0 rfl u_api_Step rfl s_api_Header rfl (by omega)) ?_
      refine takeW 12 rfl (by kernel_rfl) rfl (by simp) (ldSP 0 (i := k0) (o := 0) (r := top.c) rfl rfl g_api_Header (stl_at rfl hkl) (by rw [← htop]; exact St.at_h (hL _ (List.getElem_mem _))) (Hd.c_length htk)) ?_
      refine fork2W 13 14 (by kernel_rfl) ?_ ?_
      · refine canAW 13 rfl rfl z_api_Header rfl rfl (fun p => by simp) fun p => ?_
        refine only1W 14 (by kernel_rfl) (canAW 14 rfl rfl z_api_Header rfl rfl (fun q => .cons _ (by simp)) fun q => ?_)
        refine stoW 15 1 (rs := ah.c) rfl (by kernel_rfl) rfl rfl rfl rfl s_api_Header (Hd.c_length hak) (Hd.c_one _) rfl (.cons _ (.cons _ (by simp))) ?_
        refine stoW 16 0 (rs := top.c) rfl (by kernel_rfl) rfl rfl rfl rfl s_api_Header (Hd.c_length htk) (Hd.c_one _) rfl (.cons _ (.cons _ (by simp))) ?_
        refine doneW (by kernel_rfl) rfl (nil ?_)
        exact meets (p, q) trivial ⟨rfl, rfl, rfl, rfl, trivial⟩ (fun w hm => M.refact hm ⟨Sl.stable, Ops.stable, OpF.stable, trivial⟩ fun D h => h.2)
      · refine canAW 14 rfl rfl z_api_Header rfl rfl (fun q => by simp) fun q => ?_
        refine only1W 13 (by kernel_rfl) (canAW 13 rfl rfl z_api_Header rfl rfl (fun p => .cons _ (by simp)) fun p => ?_)
        refine stoW 15 0 (rs := ah.c) rfl (by kernel_rfl) rfl rfl rfl rfl s_api_Header (Hd.c_length hak) (Hd.c_one _) rfl (.cons _ (.cons _ (by simp))) ?_
        refine stoW 16 1 (rs := top.c) rfl (by kernel_rfl) rfl rfl rfl rfl s_api_Header (Hd.c_length htk) (Hd.c_one _) rfl (.cons _ (.cons _ (by simp))) ?_
        refine doneW (by kernel_rfl) rfl (nil ?_)
        exact meets (p, q) trivial ⟨rfl, rfl, rfl, rfl, trivial⟩ (fun w hm => M.refact hm.swap ⟨Sl.stable, Ops.stable, OpF.stable, trivial⟩ fun D h => h.2)
    rintro ⟨p, q⟩ σ _
    dsimp only
    refine seq ?_
    refine seq (region (det rfl (fadr rfl u_api_Infix rfl s_sl_api_Step) (det rfl (ldB 2 (v := .slice yA S.length yc) rfl rfl o_sl_api_Step rfl) (det rfl (lenS u_sl_api_Step rfl) (det rfl (mv rfl) (nilS ?_))))))   -- region 6
    refine block ?_   -- block 0
    refine loopV (ι := Nat × Hd) (fun (k, a) => k ≤ S.length ∧ a.ok ∧ innerGo t top yb.x ((S.map St.x).drop k) a = G) (fun (k, a) => [(3, .pointer (some ⟨b0, 0, none⟩)), (5, .pointer (some ⟨b1, 0, none⟩)), (7, .pointer (some ⟨p, 0, none⟩)), (8, .pointer (some ⟨q, 0, none⟩)), (34, .slice yA S.length yc), (35, .int .i64 S.length), (36, .int .i64 k)])
      (fun (k, a) => [.blk q (ob top.c T_api_Header), .blk p (ob a.c T_api_Header), .blk b1 (ob (Inf.mk k0 yA yc S yb yw yt yo).c T_api_Infix), .blk b0 (ob (b8 t) T_api_Hash)]) (fun _ => [Sl 69 yA S.length yc (stl S), Ops S, OpF yb]) (fun (k, a) => S.length - k) (0, ah) ⟨by omega, hak, hG⟩ ⟨rfl, rfl, rfl, rfl, rfl, rfl, rfl, trivial⟩ (fun w hm => hm) ?_
    rintro ⟨k, a⟩ σ ⟨hk, hok, hc⟩
    dsimp only at hk hok hc ⊢
    refine seq (region (det rfl (lss rfl rfl) (nilS ?_)))   -- region 7
    refine seq ?_
    refine cond rfl (fun h => ?_) (fun h => ?_)   -- on t37
    · have h := of_decide_eq_true h
      have hks : k < S.length := by omega
      obtain ⟨s, hsx⟩ : ∃ s, S[k] = s := ⟨_, rfl⟩
      have hsm : s ∈ S := by rw [← hsx]; exact List.getElem_mem _
      have hsk : s.h.ok := hy s hsm
      rw [List.drop_eq_getElem_cons (by rw [List.length_map]; exact hks), List.getElem_map, hsx, innerGo] at hc
      obtain ⟨v, hv⟩ : ∃ v, oneR t s.x a top.h = v := ⟨_, rfl⟩
      rw [hv] at hc
      refine skipS ?_
      refine seq ?_
      refine block ?_   -- block 1
      refine seq (region (det rfl (ixS 0 rfl rfl u_sl_api_Step s_api_Step rfl (by omega) (by omega)) (det rfl (ldSA 0 (l := s.c) rfl rfl g_api_Step (by rw [← hsx]; exact stl_at (by omega) hks)) (alloc z_api_Step rfl rfl fun b4 => stoA 0 (rs := s.c) rfl rfl rfl s_api_Step (St.c_length hsk) (St.c_one _) rfl (nilS ?_)))))   -- region 8
      refine seq ?_
      refine seq (region (det rfl (ldAll 4 rfl rfl g_api_Hash (by rw [b8_length, ht])) (det rfl (ldAll 0 rfl rfl g_api_Step (St.c_length hsk)) (det rfl (ldAll 2 rfl rfl g_api_Header (Hd.c_length hok)) (det rfl (fadr rfl u_api_Header rfl s_uint32) (det rfl (ldB 1 (v := .int .u32 top.h) rfl rfl o_uint32 rfl) (call (v := .int .i64 v) k_within_one (show _ = [ag (b8 t), ag s.c, ag a.c, .int .u32 top.h] from rfl) rfl (fun w hm => by
        obtain ⟨D, d1, d2, hD, d4, d5⟩ := hm.data
        have ho := d5.2.1 s hsm
        exact hv ▸ within_one_ t ht s hsk (Opn.ok_of ho) a hok top.h D w hD ho) (det rfl (asg rfl) (nilS ?_)))))))))   -- region 9
      refine seq (region (det rfl (mv rfl) (det rfl (neq rfl rfl) (nilS ?_))))   -- region 10
      by_cases hv0 : v = 0
      · refine condF (by show Value.bool (!decide (v = 0)) = _; rw [decide_eq_true hv0]; rfl) ?_
        rw [if_neg (by simpa using hv0)] at hc
        refine skipS ?_
        refine region (det rfl (fadr rfl u_api_Step rfl s_api_Header) (det rfl (ldA 0 (r := s.h.c) rfl rfl g_api_Header (St.at_h hsk) (Hd.c_length hsk)) (stoA 2 (rs := s.h.c) rfl rfl rfl s_api_Header (Hd.c_length hsk) (Hd.c_one _) (Hd.c_length hok) (nil ?_))))   -- region 12
        show Tr _ _ _ _ _ _ _
        refine region (det rfl (addI rfl rfl (by omega) (by omega)) (det rfl (mv rfl) (nil ?_)))   -- region 13
        exact again (k + 1, s.h) ⟨by (first | omega | (dsimp only; omega)), hsk, hc⟩ ⟨rfl, rfl, rfl, rfl, rfl, rfl, rfl, trivial⟩ (fun w hm => drop1 hm) (by (first | omega | (dsimp only; omega)))
      · refine condT (by show Value.bool (!decide (v = 0)) = _; rw [decide_eq_false hv0]; rfl) ?_
        rw [if_pos hv0] at hc
        refine seq (region (det rfl (mv rfl) (det rfl (asg rfl) (nilS ?_))))   -- region 11
        exact ret (retT rfl rfl (pr' (vi hc)))
    · have h := of_decide_eq_false h
      obtain rfl : k = S.length := by omega
      rw [List.drop_of_length_le (by rw [List.length_map]; exact Nat.le_refl _), innerGo] at hc
      obtain ⟨z, hz⟩ : ∃ z, joinC (top, yb.x) a = z := ⟨_, rfl⟩
      rw [hz] at hc
      refine exit ?_   -- 0
      show Tr _ _ _ _ _ _ _
      refine seq ?_
      refine seq (region (det rfl (ldAll 0 rfl rfl g_api_Header (Hd.c_length htk)) (det rfl (fadr rfl u_api_Infix rfl s_api_Opening) (det rfl (ldA 2 (r := yb.c) rfl rfl g_api_Opening rfl rfl) (det rfl (bldSt2 rfl top htk yb rfl) (det rfl (ldAll 1 rfl rfl g_api_Header (Hd.c_length hok)) (call (v := .bool z) k_join_Holds (show _ = [ag (St.mk top yb).c, ag a.c] from rfl) rfl (fun w hm => by
        obtain ⟨D, d1, d2, hD, d4, d5⟩ := hm.data
        have ho := d5.2.2.1
        exact hz ▸ join_Holds_ (St.mk top yb) htk (Opn.ok_of ho) a hok D w hD ho) (det rfl (notB rfl) (nilS ?_)))))))))   -- region 14
      cases z
      · refine condT rfl ?_
        refine seq (region (det rfl (asg rfl) (nilS ?_)))   -- region 15
        exact ret (retT rfl rfl (pr' (vi (by rw [← hc]; rfl))))
      · refine condF rfl ?_
        refine skipS ?_
        refine seq (region (det rfl (asg rfl) (nilS ?_)))   -- region 16
        exact ret (retT rfl rfl (pr' (vi (by rw [← hc]; rfl))))

/-! ### Block -/
def blockR (X : List SX) (x : InfX) : Hd × Bool := if placeR X.length x ≠ 0 then (bz.h, false) else if 0 < x.2.1.length then ((x.2.1.getD x.2.2.2.1.toNat sx0).1, true) else ((X.getD x.1.toNat sx0).1, true)
def blkV (x : Hd × Bool) : Value := .tuple #[ag x.1.c, .bool x.2]
theorem bz_ok : bz.h.ok := ⟨rfl, rfl⟩
theorem within_Block_ (L : List St) (hL : ∀ s ∈ L, s.h.ok) (y : Inf) (hy : ∀ s ∈ y.S, s.h.ok) (A : Option Addr) (cap : Nat) (D : Nat → Prop) (w : World) (hD : ∀ k, D k → k < w.heap.size) (hs : StS A L.length cap L D w) (hs2 : InfF y D w) :
    Calls PP N_within_Block #[.slice A L.length cap, ag y.c] w (PR w (blkV (blockR (L.map St.x) y.x))) := by
  refine enter f_within_Block rfl n_within_Block rfl (M.init PP w D [] [Sl 69 A L.length cap (stl L), Sl 69 y.A y.S.length y.cap (stl y.S)] ⟨Sl.stable, Sl.stable, trivial⟩ hD ⟨hs.1, hs2.1.1, trivial⟩) ?_
  obtain ⟨v, hv⟩ : ∃ v, placeR L.length y.x = v := ⟨_, rfl⟩
  have hll : (L.map St.x).length = L.length := List.length_map _
  have hyl : y.x.2.1.length = y.S.length := by simp [Inf.x]
  rw [blockR, hll, hv, hyl]
  refine seq (region (box rfl rfl rfl fun b0 => alloc z_api_Header rfl rfl fun b1 => det rfl (asg rfl) (nilS ?_)))   -- region 0
  refine seq ?_
  refine block ?_   -- block 0
  refine seq (region (det rfl (mv rfl) (det rfl (lenS u_sl_api_Step rfl) (det rfl (ldAll 1 rfl rfl g_api_Infix rfl) (call (v := .int .i64 v) k_within_place (show _ = [Value.int .i64 L.length, ag y.c] from rfl) rfl (fun w _ => hv ▸ within_place_ L.length y w) (det rfl (neq rfl rfl) (det rfl (asg rfl) (nilS ?_))))))))   -- region 1
  by_cases hv0 : v = 0
  · refine condF (by show Value.bool (!decide (v = 0)) = _; rw [decide_eq_true hv0]; rfl) ?_
    rw [if_neg (by simpa using hv0)]
    have hat : 0 ≤ y.at_ ∧ y.at_ < L.length ∧ 0 ≤ y.which ∧ y.which < max (y.S.length : Int) 1 := by
      rw [hv0] at hv
      unfold placeR at hv
      split at hv
      · cases hv
      · rename_i h1
        simp only [Inf.x, List.length_map] at h1
        omega
    refine seq (region (det rfl (fadr rfl u_api_Infix rfl s_sl_api_Step) (det rfl (ldB 1 (v := .slice y.A y.S.length y.cap) rfl rfl o_sl_api_Step rfl) (det rfl (lenS u_sl_api_Step rfl) (det rfl (gtr rfl rfl) (det rfl (asg rfl) (nilS ?_)))))))   -- region 3
    by_cases h0 : 0 < y.S.length
    · refine condT (by show Value.bool (decide _) = _; rw [decide_eq_true (by omega)]) ?_
      rw [if_pos h0]
      obtain ⟨k, hk⟩ : ∃ k : Nat, y.which = (k : Int) := ⟨y.which.toNat, by omega⟩
      have hkl : k < y.S.length := by omega
      have hsk := hy _ (List.getElem_mem hkl)
      rw [show (y.x.2.1.getD y.x.2.2.2.1.toNat sx0).1 = (y.S[k]).h by
        show ((y.S.map St.x).getD y.which.toNat sx0).1 = _
        rw [hk, Int.toNat_natCast, getSX hkl]; rfl]
      refine seq (region (det rfl (fadr rfl u_api_Infix rfl s_sl_api_Step) (det rfl (ldB 1 (v := .slice y.A y.S.length y.cap) rfl rfl o_sl_api_Step rfl) (det rfl (fadr rfl u_api_Infix rfl s_int) (det rfl (ldB 1 (v := .int .i64 (k : Int)) rfl rfl o_int (by rw [← hk]; rfl)) (det rfl (ixS 1 rfl rfl u_sl_api_Step s_api_Step rfl (by omega) (by omega)) (det rfl (fadrS 1 rfl u_api_Step rfl s_api_Header rfl (by omega)) (det rfl (ldSP 1 (i := k) (o := 0) (r := (y.S[k]).h.c) rfl rfl g_api_Header (stl_at rfl hkl) (St.at_h hsk) (Hd.c_length hsk)) (stoA 0 (rs := (y.S[k]).h.c) rfl rfl rfl s_api_Header (Hd.c_length hsk) (Hd.c_one _) rfl (det rfl (asg rfl) (nilS ?_)))))))))))   -- region 4
      exact ret (retCT 0 (l := (y.S[k]).h.c) (v := .bool true) rfl rfl rfl (by rw [Hd.c_length hsk]; exact g_api_Header) rfl pr)
    · refine condF (by show Value.bool (decide _) = _; rw [decide_eq_false (by omega)]) ?_
      rw [if_neg h0]
      obtain ⟨k, hk⟩ : ∃ k : Nat, y.at_ = (k : Int) := ⟨y.at_.toNat, by omega⟩
      have hkl : k < L.length := by omega
      have hsk := hL _ (List.getElem_mem hkl)
      rw [show ((L.map St.x).getD y.x.1.toNat sx0).1 = (L[k]).h by
        show ((L.map St.x).getD y.at_.toNat sx0).1 = _
        rw [hk, Int.toNat_natCast, getSX hkl]; rfl]
      refine skip ?_
      show Tr _ _ _ _ _ _ _
      refine seq (region (det rfl (mv rfl) (det rfl (fadr rfl u_api_Infix rfl s_int) (det rfl (ldB 1 (v := .int .i64 (k : Int)) rfl rfl o_int (by rw [← hk]; rfl)) (det rfl (ixS 0 rfl rfl u_sl_api_Step s_api_Step rfl (by omega) (by omega)) (det rfl (fadrS 0 rfl u_api_Step rfl s_api_Header rfl (by omega)) (det rfl (ldSP 0 (i := k) (o := 0) (r := (L[k]).h.c) rfl rfl g_api_Header (stl_at rfl hkl) (St.at_h hsk) (Hd.c_length hsk)) (stoA 0 (rs := (L[k]).h.c) rfl rfl rfl s_api_Header (Hd.c_length hsk) (Hd.c_one _) rfl (det rfl (asg rfl) (nilS ?_))))))))))   -- region 5
      exact ret (retCT 0 (l := (L[k]).h.c) (v := .bool true) rfl rfl rfl (by rw [Hd.c_length hsk]; exact g_api_Header) rfl pr)
  · refine condT (by show Value.bool (!decide (v = 0)) = _; rw [decide_eq_false hv0]; rfl) ?_
    rw [if_pos hv0]
    refine seq (region (det rfl (Det.to (v' := ag bz.h.c) (bldZ z_api_Header u_api_Header (fun w => run_placesS PP w (by kernel_rfl))) (by kernel_rfl)) (stoA 0 (rs := bz.h.c) rfl rfl rfl s_api_Header rfl rfl rfl (det rfl (asg rfl) (nilS ?_)))))   -- region 2
    exact ret (retCT 0 (l := bz.h.c) (v := .bool false) rfl rfl rfl g_api_Header rfl pr)

/-! ### Check -/
def withR (t : List UInt8) (X : List SX) (x : InfX) : Int := if placeR X.length x ≠ 0 then placeR X.length x else if innerR t X x ≠ 0 then innerR t X x else if txsC (blockR X x).1.t x.2.2.2.2.1 x.2.2.2.2.2 = false then 14 else 0
set_option maxRecDepth 8000 in
theorem within_Check_ (t : List UInt8) (ht : t.length = 32) (L : List St) (hL : ∀ s ∈ L, s.h.ok) (y : Inf) (hy : ∀ s ∈ y.S, s.h.ok) (htx : y.tx.length ≤ 100000000) (A : Option Addr) (cap : Nat) (D : Nat → Prop) (w : World) (hD : ∀ k, D k → k < w.heap.size) (hs : StS A L.length cap L D w) (hs2 : InfF y D w) :
    Calls PP N_within_Check #[ag (b8 t), .slice A L.length cap, ag y.c] w (PR w (.int .i64 (withR t (L.map St.x) y.x))) := by
  refine enter f_within_Check rfl n_within_Check rfl (M.init PP w D [] [StS A L.length cap L, InfF y] ⟨StS.stable, InfF.stable, trivial⟩ hD ⟨hs, hs2, trivial⟩) ?_
  have hll : (L.map St.x).length = L.length := List.length_map _
  obtain ⟨v, hv⟩ : ∃ v, placeR L.length y.x = v := ⟨_, rfl⟩
  obtain ⟨u, hu⟩ : ∃ u, innerR t (L.map St.x) y.x = u := ⟨_, rfl⟩
  obtain ⟨⟨h, is⟩, hB⟩ : ∃ B, blockR (L.map St.x) y.x = B := ⟨_, rfl⟩
  rw [withR, hll, hv, hu, hB]
  dsimp only
  refine seq (region (box rfl rfl rfl fun b0 => box rfl rfl rfl fun b1 => det rfl (asg rfl) (nilS ?_)))   -- region 0
  refine seq ?_
  refine seq (region (det rfl (mv rfl) (det rfl (lenS u_sl_api_Step rfl) (det rfl (ldAll 0 rfl rfl g_api_Infix rfl) (call (v := .int .i64 v) k_within_place (show _ = [Value.int .i64 L.length, ag y.c] from rfl) rfl (fun w _ => hv ▸ within_place_ L.length y w) (det rfl (asg rfl) (nilS ?_)))))))   -- region 1
  refine seq (region (det rfl (mv rfl) (det rfl (neq rfl rfl) (nilS ?_))))   -- region 2
  by_cases hv0 : v = 0
  · refine condF (by show Value.bool (!decide (v = 0)) = _; rw [decide_eq_true hv0]; rfl) ?_
    rw [if_neg (by simpa using hv0)]
    refine skipS ?_
    refine seq ?_
    refine seq (region (det rfl (ldAll 1 rfl rfl g_api_Hash (by rw [b8_length, ht])) (det rfl (mv rfl) (det rfl (ldAll 0 rfl rfl g_api_Infix rfl) (call (v := .int .i64 u) k_within_inner (show _ = [ag (b8 t), Value.slice A L.length cap, ag y.c] from rfl) rfl (fun w hm => by
      obtain ⟨D, d1, d2, hD, d4, d5⟩ := hm.data
      exact hu ▸ within_inner_ t ht L hL y hy (by rw [hv, hv0]) A cap D w hD d5.1 d5.2.1) (det rfl (asg rfl) (nilS ?_)))))))   -- region 4
    refine seq (region (det rfl (mv rfl) (det rfl (neq rfl rfl) (nilS ?_))))   -- region 5
    by_cases hu0 : u = 0
    · refine condF (by show Value.bool (!decide (u = 0)) = _; rw [decide_eq_true hu0]; rfl) ?_
      rw [if_neg (by simpa using hu0)]
      have hhk : h.ok := by
        have e : h = (blockR (L.map St.x) y.x).1 := by rw [hB]
        rw [e, blockR, hll, hv, if_neg (by simpa using hv0)]
        have hp : placeR L.length y.x = 0 := by rw [hv, hv0]
        unfold placeR at hp
        split at hp
        · cases hp
        · rename_i h1
          simp only [Inf.x, List.length_map] at h1
          split
          · rename_i h2
            simp only [Inf.x, List.length_map] at h2 ⊢
            rw [getSX (by omega)]
            exact hy _ (List.getElem_mem _)
          · rename_i h2
            simp only [Inf.x] at h2 ⊢
            rw [getSX (by omega)]
            exact hL _ (List.getElem_mem _)
      obtain ⟨z, hz⟩ : ∃ z, txsC h.t y.tx y.op.x = z := ⟨_, rfl⟩
      rw [show txsC h.t y.x.2.2.2.2.1 y.x.2.2.2.2.2 = z from hz]
      refine skipS ?_
      refine seq (region (det rfl (mv rfl) (det rfl (ldAll 0 rfl rfl g_api_Infix rfl) (call (v := blkV (h, is)) k_within_Block (show _ = [Value.slice A L.length cap, ag y.c] from rfl) rfl (fun w hm => by
        obtain ⟨D, d1, d2, hD, d4, d5⟩ := hm.data
        exact hB ▸ within_Block_ L hL y hy A cap D w hD d5.1 d5.2.1) (det rfl (Det.to (v' := blkV (h, is)) (mv rfl) rfl) (det rfl (extr (v := ag h.c) rfl rfl) (det rfl (extr (v := .bool is) rfl rfl) (alloc z_api_Header rfl rfl fun b2 => stoA 0 (rs := h.c) rfl rfl rfl s_api_Header (Hd.c_length hhk) (Hd.c_one _) rfl (det rfl (asg rfl) (nilS ?_))))))))))   -- region 7
      refine seq ?_
      refine seq (region (det rfl (fadr rfl u_api_Header rfl s_api_Hash) (det rfl (ldA 0 (r := b8 h.t) rfl rfl g_api_Hash (Hd.at_t hhk) (by rw [b8_length]; exact hhk.2)) (det rfl (fadr rfl u_api_Infix rfl s_string) (det rfl (ldB 1 (v := .string (bs y.tx)) rfl rfl o_string rfl) (det rfl (fadr rfl u_api_Infix rfl s_api_Opening) (det rfl (ldA 1 (r := y.op.c) rfl rfl g_api_Opening rfl rfl) (call (v := .bool z) k_txs_Check (show _ = [ag (b8 h.t), Value.string (bs y.tx), ag y.op.c] from rfl) rfl (fun w hm => by
        obtain ⟨D, d1, d2, hD, d4, d5⟩ := hm.data
        have ho := d5.2.1.2.2
        exact hz ▸ txs_Check_ h.t hhk.2 y.tx htx y.op (Opn.ok_of ho) D w hD ho) (det rfl (notB rfl) (nilS ?_))))))))))   -- region 8
      cases z
      · refine condT rfl ?_
        refine seq (region (det rfl (asg rfl) (nilS ?_)))   -- region 9
        exact ret (retT rfl rfl pr)
      · refine condF rfl ?_
        refine skipS ?_
        refine seq (region (det rfl (asg rfl) (nilS ?_)))   -- region 10
        exact ret (retT rfl rfl pr)
    · refine condT (by show Value.bool (!decide (u = 0)) = _; rw [decide_eq_false hu0]; rfl) ?_
      rw [if_pos hu0]
      refine seq (region (det rfl (mv rfl) (det rfl (asg rfl) (nilS ?_))))   -- region 6
      exact ret (retT rfl rfl pr)
  · refine condT (by show Value.bool (!decide (v = 0)) = _; rw [decide_eq_false hv0]; rfl) ?_
    rw [if_pos hv0]
    refine seq (region (det rfl (mv rfl) (det rfl (asg rfl) (nilS ?_))))   -- region 3
    exact ret (retT rfl rfl pr)
end Go.Proofs.YtmcapgjdflohfaaGreat.L

namespace Mp
theorem goes_trans {l : List Int} {p a : Int} {v : List Int} (h : Goes l p a v) {lo : Int} {u : List Int} (h2 : Goes l lo p u) : Goes l lo a (v ++ u.drop 1) := by
  induction h with
  | here =>
    cases h2 with
    | here => exact .here
    | step h1 h3 h4 => exact .step h1 h3 h4
  | step h1 h3 h4 ih =>
    have := (goes_at h2).2.2.2.1
    exact .step h1 (by omega) ih
theorem around_at : ∀ (W : List Int) (p : Int), W.Pairwise (· < ·) → p ∈ W → ∃ k : Nat, Go.Proofs.YtmcapgjdflohfaaGreat.L.aroundR W p = k ∧ k < W.length ∧ W.getD k 0 = p := by
  intro W
  induction W with
  | nil => intro p _ h; cases h
  | cons x r ih =>
    intro p hs hp
    rw [List.pairwise_cons] at hs
    simp only [Go.Proofs.YtmcapgjdflohfaaGreat.L.aroundR]
    by_cases e : p ≤ x
    · rw [if_pos e]
      refine ⟨0, rfl, by simp, ?_⟩
      rcases List.mem_cons.1 hp with rfl | h
      · rfl
      · have := hs.1 p h; omega
    · rw [if_neg e]
      rcases List.mem_cons.1 hp with rfl | h
      · omega
      · obtain ⟨k, h1, h2, h3⟩ := ih p hs.2 h
        exact ⟨k + 1, by rw [h1], by simp; omega, by simpa using h3⟩
end Mp
namespace Go.Proofs.YtmcapgjdflohfaaGreat.L
open Go Go.RowKit
set_option linter.unusedVariables false

/-! ### Steps along linked places -/
structure Lnk (c : Cf) (l : List Bl) (ps : List Int) : Prop where
  bd : ∀ i, i < ps.length → 0 ≤ ps.getD i 0 ∧ ps.getD i 0 < l.length
  step : ∀ i, i + 1 < ps.length → ps.getD i 0 < ps.getD (i + 1) 0 ∧ ps.getD i 0 ∈ Mp.all (levs c.t l) (ps.getD (i + 1) 0)
theorem lnk_more {c : Cf} {l : List Bl} {ps : List Int} (hch : Chn c l) (p : Lnk c l ps) {i a b : Nat} (hi : i + 1 < ps.length) (ha : ps.getD (i + 1) 0 = a) (hb : ps.getD i 0 = b) :
    ∃ z : Nat, z < (vecA c.t l a).length ∧ (vecA c.t l a).getD z [] = idL (l.getD b bl0).h ∧
      stepAt c.t l ps (i + 1) = (((l.getD a bl0).h, ((z : Int), (((vecA c.t l a).map (76 :: ·)).length : Int), pathS (((vecA c.t l a).map (76 :: ·)).map leafS) z)), 0) := by
  obtain ⟨s1, s2⟩ := p.step i hi
  have hal := (p.bd (i + 1) hi).2
  have hbl := (p.bd i (by omega)).2
  rw [ha, hb] at s1 s2
  rw [ha] at hal
  rw [hb] at hbl
  obtain ⟨z, hz1, hz2⟩ := Mp.indexFrom_mem (b : Int) (Mp.all (levs c.t l) a) 0 s2
  rw [Int.zero_add] at hz1
  have hzl : z < (Mp.all (levs c.t l) a).length := (List.getElem?_eq_some_iff.1 hz2).1
  have hv := hch.vec (k := a) (by omega)
  have hvl : (vecA c.t l a).length = (Mp.all (levs c.t l) a).length := by rw [hv, List.length_map]
  refine ⟨z, by omega, ?_, ?_⟩
  · rw [hv]
    simp only [List.getD, List.getElem?_map, hz2, Option.map_some, Option.getD_some, Int.toNat_natCast]
    exact idsA_get (by omega)
  · have hi1 : Mp.index (levs c.t l) a b = z := hz1
    rw [stepAt, ha, if_neg (by omega), if_neg (by omega), Nat.add_sub_cancel, hb, hi1, if_neg (by omega), Int.toNat_natCast, opR, if_neg (by rw [List.length_map]; omega), Int.toNat_natCast]
/-- The steps along them: their headers, and that each one's opening holds. -/
theorem lnk_steps {c : Cf} {l : List Bl} {ps : List Int} (hch : Chn c l) (p : Lnk c l ps) : ∃ X, stepsR c.t l ps = (X, 0) ∧ X.length = ps.length ∧ (∀ i, i < ps.length → (X.getD i sx0).1 = (l.getD (ps.getD i 0).toNat bl0).h) ∧ ∀ i, i + 1 < ps.length → joinC (X.getD (i + 1) sx0) (X.getD i sx0).1 = true := by
  have hst : ∀ i, i < ps.length → (stepAt c.t l ps i).2 = 0 ∧ (stepAt c.t l ps i).1.1 = (l.getD (ps.getD i 0).toNat bl0).h := by
    intro i hi
    cases i with
    | zero =>
      have := p.bd 0 hi
      rw [stepAt, if_neg (by omega), if_pos rfl]; exact ⟨rfl, rfl⟩
    | succ i =>
      have h1 := p.bd (i + 1) hi
      have h2 := p.bd i (by omega)
      obtain ⟨z, _, _, e⟩ := lnk_more hch p hi (show ps.getD (i + 1) 0 = ((ps.getD (i + 1) 0).toNat : Nat) by omega) (show ps.getD i 0 = ((ps.getD i 0).toNat : Nat) by omega)
      rw [e]; exact ⟨rfl, rfl⟩
  have hXg : ∀ i, i < ps.length → ((List.range ps.length).map fun i => (stepAt c.t l ps i).1).getD i sx0 = (stepAt c.t l ps i).1 := fun i hi => by simp [hi]
  refine ⟨_, stepsR_all fun i hi => (hst i hi).1, by simp, fun i hi => by rw [hXg i hi, (hst i hi).2], fun i hi => ?_⟩
  have h1 := p.bd (i + 1) hi
  have h2 := p.bd i (by omega)
  obtain ⟨a, ha⟩ : ∃ a : Nat, ps.getD (i + 1) 0 = a := ⟨(ps.getD (i + 1) 0).toNat, by omega⟩
  obtain ⟨b, hb⟩ : ∃ b : Nat, ps.getD i 0 = b := ⟨(ps.getD i 0).toNat, by omega⟩
  rw [hXg _ hi, hXg i (by omega), (hst i (by omega)).2, hb, Int.toNat_natCast]
  obtain ⟨z, z1, z3, e⟩ := lnk_more hch p hi ha hb
  rw [e]
  rw [ha] at h1
  have hal : a < l.length := by omega
  have hvl := hch.vecLen (k := a) (by omega)
  have hroot := (hch.checkB hal).2
  have hh := hold_path ((vecA c.t l a).map (76 :: ·)) z (by rw [List.length_map]; exact z1) (by rw [List.length_map]; omega)
  have hg : ((vecA c.t l a).map (76 :: ·)).getD z [] = 76 :: idL (l.getD b bl0).h := by
    rw [← z3]; simp [z1]
  rw [hg] at hh
  rw [joinC]
  dsimp only
  rw [linkC, hroot, linkR, hh]
  simp; omega
end Go.Proofs.YtmcapgjdflohfaaGreat.L

namespace Go.Proofs.YtmcapgjdflohfaaGreat.L
open Go Go.RowKit
set_option linter.unusedVariables false

theorem around_spec (l : List Int) (a : Int) : (aroundR l a < l.length → a ≤ l.getD (aroundR l a) 0) ∧ ∀ i, i < aroundR l a → l.getD i 0 < a := by
  induction l with
  | nil => exact ⟨fun h => by simp at h, fun i h => by simp [aroundR] at h⟩
  | cons x r ih =>
    simp only [aroundR]
    by_cases e : a ≤ x
    · rw [if_pos e]; exact ⟨fun _ => e, fun i h => by omega⟩
    · rw [if_neg e]
      refine ⟨fun h => by simp at h; simpa using ih.1 (by omega), fun i h => ?_⟩
      cases i with
      | zero => simp; omega
      | succ i => simpa using ih.2 i (by omega)

theorem Chn.txs {c : Cf} {l : List Bl} (h : Chn c l) {k : Nat} (hk : k < l.length) : mayF (l.getD k bl0).t = 0 ∧ (l.getD k bl0).h.t = txsR (l.getD k bl0).t := by
  have := (ask3_work (h.ask k hk)).2.1
  simp only [askF] at this
  rw [if_neg (by decide), if_pos trivial, L.checkB] at this
  split at this
  · cases this
  · split at this
    · rename_i h2; exact absurd this h2
    · rename_i h2
      split at this
      · cases this
      · rename_i h3
        exact ⟨Decidable.not_not.1 h2, by rw [← Decidable.not_not.1 h3]; rfl⟩
theorem tx_open {c : Cf} {l : List Bl} (h : Chn c l) {p j : Nat} (hp : p < l.length) (hj : j < (l.getD p bl0).t.length) :
    ∃ o : OpX, opTx (l.getD p bl0).t j = (o, 0) ∧ o.1 = (j : Int) ∧ txsC (l.getD p bl0).h.t ((l.getD p bl0).t.getD j []) o = true := by
  obtain ⟨h1, h2⟩ := h.txs hp
  obtain ⟨T, hT⟩ : ∃ T, (l.getD p bl0).t = T := ⟨_, rfl⟩
  rw [hT] at h1 h2 hj ⊢
  have hl : T.length ≤ 1024 ∧ ∀ x ∈ T, x.length ≤ 4096 := by
    have := h1
    unfold mayF at this
    split at this
    · cases this
    · rename_i h3
      split at this
      · rename_i h4
        exact ⟨by omega, fun x hx => by simpa using List.all_eq_true.1 h4 x hx⟩
      · cases this
  refine ⟨((j : Int), ((T.map (84 :: ·)).length : Int), pathS ((T.map (84 :: ·)).map leafS) j), ?_, rfl, ?_⟩
  · rw [opTx, if_neg (by rw [h1]; simp), opR, if_neg (by rw [List.length_map]; omega), Int.toNat_natCast]
  · have hh := hold_path (T.map (84 :: ·)) j (by rw [List.length_map]; exact hj) (by rw [List.length_map]; omega)
    have hg : (T.map (84 :: ·)).getD j [] = 84 :: T.getD j [] := by simp [hj]
    have hx : (T.getD j []).length ≤ 4096 := by
      refine hl.2 _ ?_
      simp only [List.getD, List.getElem?_eq_getElem hj, Option.getD_some]
      exact List.getElem_mem hj
    rw [hg] at hh
    rw [txsC, h2, txsR, hh, decide_eq_true (by dsimp only; rw [List.length_map]; omega), decide_eq_true (by omega)]
    rfl

theorem inner_ok {t : List UInt8} {top : Hd} {b : OpX} {Y : List SX} (hj : ∀ i, i + 1 < Y.length → joinC (Y.getD (i + 1) sx0) (Y.getD i sx0).1 = true) (hu : ∀ i, i + 1 < Y.length → (Y.getD i sx0).1.h < (Y.getD (i + 1) sx0).1.h) (hw : ∀ i, i < Y.length → okW (idL (Y.getD i sx0).1) t = true)
    (ht : Y.getD (Y.length - 1) sx0 = (top, b)) (r i : Nat) (hi : i + r + 2 = Y.length) : innerGo t top b ((Y.drop (i + 1)).take r) (Y.getD i sx0).1 = 0 := by
  induction r generalizing i with
  | zero =>
    have := hj i (by omega)
    rw [show i + 1 = Y.length - 1 by omega, ht] at this
    rw [List.take_zero, innerGo, this]; rfl
  | succ r ih =>
    have hl : i + 1 < Y.length := by omega
    have e : Y[i + 1] = Y.getD (i + 1) sx0 := by simp [hl]
    have hup : (Y.getD (i + 1) sx0).1.h < top.h := by
      have hm := Mp.mono_at (f := fun i => (Y.getD i sx0).1.h) (n := Y.length) hu (i + 1) (Y.length - 1 - (i + 1)) (by omega)
      rw [show i + 1 + (Y.length - 1 - (i + 1)) = Y.length - 1 by omega, ht] at hm
      dsimp only at hm
      omega
    have ho : oneR t (Y.getD (i + 1) sx0) (Y.getD i sx0).1 top.h = 0 := by
      have h1 := hu i hl
      rw [oneR, if_neg (by omega), if_neg (by rw [hw (i + 1) hl]; simp), if_neg (by rw [hj i hl]; simp)]
    rw [List.drop_eq_getElem_cons hl, List.take_succ_cons, e, innerGo, if_neg (by rw [ho]; simp)]
    exact ih (i + 1) (by omega)

/-- What holds of the infix proof. -/
structure Wth (c : Cf) (l : List Bl) (p j : Nat) (X : List SX) : Prop where
  op : (opTx (l.getD p bl0).t j).2 = 0
  at_ : aroundR (placesR c l) p < (placesR c l).length
  go : (placesR c l).getD (aroundR (placesR c l) p) 0 ≠ p → 1 ≤ aroundR (placesR c l) p ∧ ∀ W, Mp.btw (levs c.t l) ((placesR c l).getD (aroundR (placesR c l) p) 0) p ((placesR c l).getD (aroundR (placesR c l) p - 1) 0) = W →
      W.length ≤ 90000 ∧ ∃ X, stepsR c.t l ((placesR c l).getD (aroundR (placesR c l) p - 1) 0 :: W ++ [(placesR c l).getD (aroundR (placesR c l) p) 0]) = (X, 0) ∧ X.length = W.length + 2 ∧ ∀ s ∈ X, s.1.ok
  holds : withR c.t X (infR c l p j) = 0
  block : blockR X (infR c l p j) = ((l.getD p bl0).h, true)
  tx : (infR c l p j).2.2.2.2.1 = (l.getD p bl0).t.getD j []
  idx : (infR c l p j).2.2.2.2.2.1 = j
  ok : ∀ s ∈ (infR c l p j).2.1, s.1.ok

theorem within_plain {c : Cf} {l : List Bl} (hl : ∀ b ∈ l, b.h.ok) (hch : Chn c l) (hc0 : (chkF c l).1 = 0) (hP : mayP c.m c.k c.a c.b = true) (hk : c.k < l.length) {p j : Nat} (hp : (p : Int) < (l.length : Int) - c.k) (hj : j < (l.getD p bl0).t.length)
    {X : List SX} (hX : proveR c l = (X, 0)) : Wth c l p j X := by
  obtain ⟨r, kn, q⟩ := places_plc hch hP hk
  obtain ⟨ps, hps⟩ : ∃ ps, placesR c l = ps := ⟨_, rfl⟩
  rw [hps] at q
  have hpl := q.len
  have hr1 := q.r1
  have hkk := q.k
  have hn := hch.le
  have hqle := q.le
  have hp0 : p < l.length := by omega
  have hm : mayPr c l = 0 := by rw [mayPr, if_neg (by rw [hc0]; simp), if_neg (by rw [hP]; simp), if_neg (by omega)]
  obtain ⟨X', hX', hXl, hXh, _⟩ := lnk_steps hch (⟨q.bd, q.step⟩ : Lnk c l ps)
  obtain rfl : X' = X := by
    rw [proveR, if_neg (by rw [hm]; simp), hps, hX'] at hX
    exact (Prod.mk.inj hX).1
  obtain ⟨o, ho, ho1, ho2⟩ := tx_open hch hp0 hj
  obtain ⟨k, hkd⟩ : ∃ k, aroundR ps p = k := ⟨_, rfl⟩
  obtain ⟨a1, a2⟩ := around_spec ps p
  rw [hkd] at a1 a2
  have hkr : k ≤ r - 1 := by
    have ht := q.tail (r - 1) (by omega) (by omega)
    apply Classical.byContradiction
    intro hc
    have := a2 (r - 1) (by omega)
    omega
  have hkl : k < ps.length := by omega
  have a1 := a1 hkl
  have hok : ∀ a, a < l.length → (l.getD a bl0).h.ok := fun a h => by rw [getB h]; exact hl _ (List.getElem_mem h)
  obtain ⟨hi, hhi⟩ : ∃ hi, ps.getD k 0 = hi := ⟨_, rfl⟩
  have hhb := q.bd k hkl
  rw [hhi] at hhb a1
  have hXk : (X'.getD k sx0).1 = (l.getD hi.toNat bl0).h := by rw [hXh k hkl, hhi]
  by_cases heq : hi = (p : Int)
  · have e : infR c l p j = ((k : Int), [], ox0, 0, (l.getD p bl0).t.getD j [], o) := by
      rw [infR, hps, hkd, ho]
      dsimp only
      rw [hhi, if_pos heq]
    have hXp : (X'.getD k sx0).1 = (l.getD p bl0).h := by rw [hXk, heq, Int.toNat_natCast]
    have hpl0 : placeR X'.length ((k : Int), [], ox0, 0, (l.getD p bl0).t.getD j [], o) = 0 := by
      rw [placeR, if_neg (by simp only [List.length_nil]; omega), if_neg (by simp), if_neg (by simp)]
    have hb : blockR X' ((k : Int), [], ox0, 0, (l.getD p bl0).t.getD j [], o) = ((l.getD p bl0).h, true) := by
      rw [blockR, hpl0, if_neg (by simp), if_neg (by simp)]
      dsimp only
      rw [Int.toNat_natCast, hXp]
    refine ⟨by rw [ho], by rw [hps, hkd]; exact hkl, fun hne => ?_, ?_, by rw [e]; exact hb, by rw [e], by rw [e]; exact ho1, by rw [e]; intro s hs; cases hs⟩
    · rw [hps, hkd, hhi] at hne; exact absurd heq hne
    · have h0 : isOp0 ox0 = true := by decide
      have hin : innerR c.t X' ((k : Int), [], ox0, 0, (l.getD p bl0).t.getD j [], o) = 0 := by simp [innerR, h0]
      rw [e, withR, hpl0, if_neg (by simp), hin, if_neg (by simp), hb]
      dsimp only
      rw [ho2]
      simp
  · have hk1 : 1 ≤ k := by
      apply Classical.byContradiction
      intro hc
      obtain rfl : k = 0 := by omega
      have := q.zero
      omega
    obtain ⟨lo, hlo⟩ : ∃ lo, ps.getD (k - 1) 0 = lo := ⟨_, rfl⟩
    have hlb := q.bd (k - 1) (by omega)
    have hlp := a2 (k - 1) (by omega)
    rw [hlo] at hlb hlp
    have hXk1 : (X'.getD (k - 1) sx0).1 = (l.getD lo.toNat bl0).h := by rw [hXh (k - 1) (by omega), hlo]
    obtain ⟨Lv, hLv⟩ : ∃ x, levs c.t l = x := ⟨_, rfl⟩
    have hLl : Lv.length = l.length := by rw [← hLv, levs_length]
    have hcl := hch.levels
    rw [hLv] at hcl
    have G1 := Mp.walk_goes Lv hcl hi p (by omega) (by omega) (by omega)
    have G2 := Mp.walk_goes Lv hcl p lo (by omega) (by omega) (by omega)
    obtain ⟨A, hA⟩ : ∃ A, Mp.walk Lv hi p = A := ⟨_, rfl⟩
    obtain ⟨B, hB⟩ : ∃ B, Mp.walk Lv p lo = B := ⟨_, rfl⟩
    have hbw : Mp.btw Lv hi p lo = ((A.drop 1 ++ B.drop 1).dropLast).reverse := by
      have g1 := (Mp.goes_at G1).1
      have g2 := (Mp.goes_at G2).1
      rw [hA] at g1
      rw [hB] at g2
      rw [Mp.btw, hA, hB, if_neg]
      rintro (h | h | h | h)
      · omega
      · omega
      · rw [h] at g1; simp at g1
      · rw [h] at g2; simp at g2
    rw [hA] at G1
    rw [hB] at G2
    have G := Mp.goes_trans G1 G2
    obtain ⟨g1, g2, g3, g4, g5, g6, g7⟩ := Mp.goes_at G
    obtain ⟨b1, b2, b3, _⟩ := Mp.goes_at G2
    obtain ⟨c1, c2, c3, _⟩ := Mp.goes_at G1
    obtain ⟨A', hA'⟩ : ∃ A', A = hi :: A' := by
      cases A with
      | nil => simp at c1
      | cons x r => simp at c2; exact ⟨r, by rw [c2]⟩
    obtain ⟨U, hU⟩ : ∃ U, A' ++ B.drop 1 = U := ⟨_, rfl⟩
    have hV : A ++ B.drop 1 = hi :: U := by rw [hA', List.cons_append, hU]
    rw [hV] at g1 g2 g3 g5 g6 g7
    have hUl : U ≠ [] := by
      intro h
      rw [h] at g3
      simp at g3
      omega
    have hUd : U = U.dropLast ++ [lo] := by
      have h1 := List.dropLast_concat_getLast hUl
      have h2 : U.getLast hUl = lo := by
        rw [List.getLast_eq_getElem]
        have : (hi :: U).length - 1 = U.length - 1 + 1 := by have := List.length_pos_iff.2 hUl; simp; omega
        rw [this, List.getD_cons_succ] at g3
        rw [← g3]
        have := List.length_pos_iff.2 hUl
        simp [List.getD, List.getElem?_eq_getElem (show U.length - 1 < U.length by omega)]
      rw [h2] at h1; exact h1.symm
    obtain ⟨W, hW⟩ : ∃ W, U.dropLast.reverse = W := ⟨_, rfl⟩
    have hbW : Mp.btw Lv hi p lo = W := by rw [hbw, hA', List.drop_succ_cons, List.drop_zero, hU, hW]
    obtain ⟨Z, hZ⟩ : ∃ Z, lo :: W ++ [hi] = Z := ⟨_, rfl⟩
    have hZr : Z = (hi :: U).reverse := by rw [← hZ, ← hW]; conv => rhs; rw [hUd]
                                           simp
    have hZl : Z.length = W.length + 2 := by rw [← hZ]; simp
    have hZV : (hi :: U).length = Z.length := by rw [hZr, List.length_reverse]
    have hZg : ∀ i, i < Z.length → Z.getD i 0 = (hi :: U).getD (Z.length - 1 - i) 0 := by
      intro i hi'
      have h2 : i < (hi :: U).reverse.length := by rw [← hZr]; exact hi'
      rw [hZr]
      simp only [List.getD]
      rw [List.getElem?_reverse (by rw [hZV]; exact hi'), ← hZr, hZV]
    have hZlk : Lnk c l Z := by
      refine ⟨fun i hi' => ?_, fun i hi' => ?_⟩
      · have := g6 (Z.length - 1 - i) (by omega)
        rw [hZg i hi']; omega
      · have h7 := g7 (Z.length - 1 - (i + 1)) (by omega)
        rw [show Z.length - 1 - (i + 1) + 1 = Z.length - 1 - i by omega] at h7
        rw [hZg i (by omega), hZg (i + 1) hi', hLv]
        exact ⟨(Mp.all_lt _ _ _ h7).2, h7⟩
    obtain ⟨Y, hY, hYl, hYh, hYj⟩ := lnk_steps hch hZlk
    have hZ0 : ∀ i, i < Z.length → ∃ a : Nat, a < l.length ∧ Z.getD i 0 = a ∧ (Y.getD i sx0).1 = (l.getD a bl0).h ∧ (Y.getD i sx0).1.h = a := by
      intro i hi'
      have := hZlk.bd i hi'
      refine ⟨(Z.getD i 0).toNat, by omega, by omega, hYh i hi', ?_⟩
      rw [hYh i hi', (hch.checkB (by omega)).1]
    have hYok : ∀ s ∈ Y, s.1.ok := by
      intro s hs
      obtain ⟨i, hi', rfl⟩ := List.getElem_of_mem hs
      obtain ⟨a, ha, _, e, _⟩ := hZ0 i (by omega)
      rw [show Y[i] = Y.getD i sx0 by simp [hi'], e]; exact hok a ha
    have hYu : ∀ i, i + 1 < Y.length → (Y.getD i sx0).1.h < (Y.getD (i + 1) sx0).1.h := by
      intro i hi'
      obtain ⟨a, _, ha, _, e⟩ := hZ0 i (by omega)
      obtain ⟨b, _, hb, _, e2⟩ := hZ0 (i + 1) (by omega)
      have := (hZlk.step i (by omega)).1
      omega
    have hYw : ∀ i, i < Y.length → okW (idL (Y.getD i sx0).1) c.t = true := by
      intro i hi'
      obtain ⟨a, ha, _, e, _⟩ := hZ0 i (by omega)
      rw [e]; exact hch.work ha
    have hZlo : Z.getD 0 0 = lo := by rw [← hZ]; rfl
    have hZhi : Z.getD (Z.length - 1) 0 = hi := by
      rw [hZg _ (by omega), show Z.length - 1 - (Z.length - 1) = 0 by omega]; rfl
    have hYlast : Y.getD (Y.length - 1) sx0 = ((l.getD hi.toNat bl0).h, (Y.getD (Y.length - 1) sx0).2) := by
      refine Prod.ext ?_ rfl
      show (Y.getD (Y.length - 1) sx0).1 = _
      rw [hYl, hYh _ (by omega), hZhi]
    have hZp : Z.Pairwise (· < ·) := by
      rw [List.pairwise_iff_getElem]
      intro i i' h1 h2 h3
      have hm := Mp.mono_at (f := fun i => Z.getD i 0) (n := Z.length) (fun i h => (hZlk.step i h).1) i (i' - i) (by omega)
      rw [show i + (i' - i) = i' by omega] at hm
      have e1 : Z.getD i 0 = Z[i] := by simp [h1]
      have e2 : Z.getD i' 0 = Z[i'] := by simp [h2]
      rw [e1, e2] at hm
      omega
    have hWp : W.Pairwise (· < ·) := by
      rw [← hZ] at hZp
      exact hZp.sublist ((List.sublist_append_left W [hi]).trans (List.sublist_cons_self _ _))
    have hpW : (p : Int) ∈ W := by
      rw [← hW, List.mem_reverse]
      have h1 : (p : Int) ∈ A := by
        have : A.length - 1 < A.length := by omega
        rw [← c3]
        simp only [List.getD, List.getElem?_eq_getElem this, Option.getD_some]
        exact List.getElem_mem this
      rw [hA'] at h1
      rcases List.mem_cons.1 h1 with h1 | h1
      · exact absurd h1.symm heq
      · have h2 : (p : Int) ∈ U := by rw [← hU]; exact List.mem_append_left _ h1
        rw [hUd] at h2
        rcases List.mem_append.1 h2 with h2 | h2
        · exact h2
        · have := List.mem_singleton.1 h2; omega
    obtain ⟨x, x1, x2, x3⟩ := Mp.around_at W p hWp hpW
    have hWl : W.length ≤ 1024 := by
      have : (Z.length : Int) ≤ hi - lo + 1 := by rw [← hZV]; exact g5
      omega
    obtain ⟨S, hS⟩ : ∃ S, (Y.drop 1).dropLast = S := ⟨_, rfl⟩
    have hSl : S.length = W.length := by rw [← hS, List.length_dropLast, List.length_drop]; omega
    have hSt : S = (Y.drop (0 + 1)).take W.length := by
      rw [← hS, List.dropLast_eq_take, List.length_drop, hYl, hZl]
      congr 1
    have hSg : ∀ i, i < W.length → S.getD i sx0 = Y.getD (i + 1) sx0 := by
      intro i hi'
      rw [hSt]
      simp only [List.getD, List.getElem?_take, List.getElem?_drop]
      rw [if_pos hi', show 0 + 1 + i = i + 1 by omega]
    have e : infR c l p j = ((k : Int), S, (Y.getD (Y.length - 1) sx0).2, (x : Int), (l.getD p bl0).t.getD j [], o) := by
      rw [infR, hps, hkd, ho]
      dsimp only
      rw [hhi, hlo, if_neg heq, hLv, hbW, hZ, hY]
      dsimp only
      rw [hS, x1]
    have hpl0 : placeR X'.length ((k : Int), S, (Y.getD (Y.length - 1) sx0).2, (x : Int), (l.getD p bl0).t.getD j [], o) = 0 := by
      rw [placeR, if_neg (by dsimp only; rw [hSl]; omega), if_neg (by dsimp only; omega), if_neg (by dsimp only; omega)]
    have hb : blockR X' ((k : Int), S, (Y.getD (Y.length - 1) sx0).2, (x : Int), (l.getD p bl0).t.getD j [], o) = ((l.getD p bl0).h, true) := by
      rw [blockR, hpl0, if_neg (by simp), if_pos (by dsimp only; omega)]
      dsimp only
      rw [Int.toNat_natCast, hSg x x2, hYh (x + 1) (by omega)]
      have : Z.getD (x + 1) 0 = p := by
        rw [← hZ, List.cons_append, List.getD_cons_succ, getD_app, if_pos x2, x3]
      rw [this, Int.toNat_natCast]
    refine ⟨by rw [ho], by rw [hps, hkd]; exact hkl, fun _ => ?_, ?_, by rw [e]; exact hb, by rw [e], by rw [e]; exact ho1, ?_⟩
    · rw [hps, hkd, hhi, hlo, hLv]
      refine ⟨hk1, fun W' hW' => ?_⟩
      obtain rfl : W = W' := by rw [← hbW, hW']
      exact ⟨by omega, Y, by rw [hZ]; exact hY, by omega, hYok⟩
    · have hin : innerR c.t X' ((k : Int), S, (Y.getD (Y.length - 1) sx0).2, (x : Int), (l.getD p bl0).t.getD j [], o) = 0 := by
        rw [innerR, if_neg (by dsimp only; omega)]
        dsimp only
        rw [Int.toNat_natCast, hXk, hXk1, hSt]
        have := inner_ok (fun i h => hYj i (by omega)) hYu hYw hYlast W.length 0 (by omega)
        have e0 : (Y.getD 0 sx0).1 = (l.getD lo.toNat bl0).h := by rw [hYh 0 (by omega), hZlo]
        rw [e0] at this
        exact this
      rw [e, withR, hpl0, if_neg (by simp), hin, if_neg (by simp), hb]
      dsimp only
      rw [ho2]
      simp
    · rw [e]
      intro s hs
      exact hYok s (List.mem_of_mem_drop (List.mem_of_mem_take (by rw [hSt] at hs; exact hs)))
end Go.Proofs.YtmcapgjdflohfaaGreat.L

namespace Go.Proofs.YtmcapgjdflohfaaGreat.L
open Go Go.RowKit
set_option linter.unusedVariables false

def hd7 : Hd := ⟨0, z8, z8, 7⟩
def inf00 : Inf := ⟨0, none, 0, [], op0, 0, [], op0⟩
theorem InfF.zero {D : Nat → Prop} {w : World} : InfF inf00 D w := ⟨⟨Sl.nil, fun s h => nomatch h⟩, OpF.zero, OpF.zero⟩
theorem blk7 : blockR [(hd7, ox0)] inf00.x = (hd7, true) := by decide
theorem with7 : withR z8 [] inf00.x = 15 := by decide
theorem bldHd7 {c : Cx} {σ : Env} {H : List Res} {K : List Fact} {d : Option Tmp} {t : TypeId} {p : String} {af : Array Edge} {g : Option (Nat × Bool)} {parts : Array (Nat × Operand)} (hP : c.P = PP)
    (hps : (parts.toList.map fun (i, x) => (i, ev σ x)) = [(3, .int .u64 7)]) : Det c σ H K ⟨d, .build T_api_Header parts, t, p, af, g⟩ (ag hd7.c) := by
  refine bldT (pl := _) (by rw [hP]; exact z_api_Header) (by rw [hP]; exact u_api_Header) (fun w => by rw [hP]; exact run_placesS PP w (by kernel_rfl)) hps ?_
  exact fill_step (off := 65) (size := 1) (vs := [.int .u64 7]) (by kernel_rfl) rfl rfl (by decide) rfl fill_nil
set_option maxRecDepth 20000 in
theorem awake50_ : Pure PP N_milepostlaw50_awake #[] (.bool true) := by
  refine enter0 f_milepostlaw50_awake rfl n_milepostlaw50_awake rfl fun w => ?_
  refine seq (region (det rfl (asg rfl) (nilS ?_)))   -- region 0
  refine seq (region (det rfl (bldHd7 rfl rfl) (det rfl (bldSt rfl hd7 ⟨rfl, rfl⟩ rfl) (bsl rfl (bs1 u_sl_api_Step z_api_Step s_api_Step (cs := (St.mk hd7 op0).c) rfl rfl rfl (by decide) (by decide)) fun b0 => det rfl (Det.to (v' := ag inf00.c) (bldZ z_api_Infix u_api_Infix (fun w => run_placesS PP w (by kernel_rfl))) rfl) (call (v := blkV (hd7, true)) k_within_Block (show _ = [Value.slice (some ⟨b0, 0, none⟩) 1 1, ag inf00.c] from rfl) rfl (fun w hm => by
    have h0 := hm.blk 0 rfl
    have s0 : Sl 69 (some ⟨b0, 0, none⟩) 1 1 (stl [St.mk hd7 op0]) (fun k => k = b0) w := blk_sl (by simpa [stl] using h0) (fun l hl => by rw [List.mem_singleton.1 hl]; exact ⟨rfl, rfl⟩) rfl (by decide)
    have := within_Block_ [St.mk hd7 op0] (fun s hs => by rw [List.mem_singleton.1 hs]; exact ⟨rfl, rfl⟩) inf00 (fun s hs => nomatch hs) (some ⟨b0, 0, none⟩) 1 (fun k => k = b0) w (fun k hk => by rw [hk]; exact lt_heap h0) ⟨s0, fun s hs => by rw [List.mem_singleton.1 hs]; exact OpF.zero⟩ InfF.zero
    rw [show [St.mk hd7 op0].map St.x = [(hd7, ox0)] from rfl, blk7] at this
    exact this) (det rfl (Det.to (v' := blkV (hd7, true)) (mv rfl) rfl) (det rfl (extr (v := ag hd7.c) rfl rfl) (det rfl (extr (v := .bool true) rfl rfl) (alloc z_api_Header rfl rfl fun b1 => stoA 0 (rs := hd7.c) rfl rfl rfl s_api_Header rfl rfl rfl (det rfl (asg rfl) (nilS ?_)))))))))))   -- region 1
  refine seq (region (det rfl (bldA (cs := b8 z8) (ps := []) z_api_Hash u_api_Hash s_uint8 (by simp) (by simp [Instr.fill]; rfl)) (det rfl (Det.to (v' := ag inf00.c) (bldZ z_api_Infix u_api_Infix (fun w => run_placesS PP w (by kernel_rfl))) rfl) (call (v := .int .i64 15) k_within_Check (show _ = [ag (b8 z8), Value.slice none 0 0, ag inf00.c] from rfl) rfl (fun w hm => by
    have := within_Check_ z8 rfl [] (fun s hs => nomatch hs) inf00 (fun s hs => nomatch hs) (by decide) none 0 (fun _ => False) w (fun _ h => h.elim) ⟨Sl.nil, fun s h => nomatch h⟩ InfF.zero
    rw [show ([] : List St).map St.x = [] from rfl, with7] at this
    exact this) (det rfl (eql rfl rfl) (det rfl (mv rfl) (guardT rfl rfl (det rfl (mv rfl) (det rfl (pick (b := true) rfl rfl) (det rfl (mv rfl) (guardT rfl rfl (det rfl (fadr rfl u_api_Header rfl s_uint64) (guardT rfl rfl (det rfl (ldB 0 (v := .int .u64 7) rfl rfl o_uint64 rfl) (guardT rfl rfl (det rfl (eql rfl rfl) (det rfl (pick (b := true) rfl rfl) (det rfl (asg rfl) (nilS ?_)))))))))))))))))))   -- region 2
  exact ret (retT rfl rfl pr)

set_option maxRecDepth 20000 in
set_option maxHeartbeats 3200000 in
theorem withinWays_ (c : Cf) (hc : c.ok) (hfit : c.fit) (l : List Bl) (hl1 : ∀ b ∈ l, b.h.ok) (hl2 : ∀ b ∈ l, ∀ x ∈ b.t, x.length ≤ 140737488355328) (A : Option Addr) (cap : Nat) (D : Nat → Prop) (w : World) (hD : ∀ k, D k → k < w.heap.size) (hs : Sl 67 A l.length cap (bl l) D w) (ht : Txs l D w) :
    Calls PP N_milepostlaw50_WithinWays #[ag c.c, .slice A l.length cap] w (PR w (.bool true)) := by
  have hgH : PP.eqGuardType PP.depth T_api_Header = false := by kernel_rfl
  refine enter f_milepostlaw50_WithinWays rfl n_milepostlaw50_WithinWays rfl (M.init PP w D [] [Sl 67 A l.length cap (bl l), Txs l] ⟨Sl.stable, Txs.stable, trivial⟩ hD ⟨hs, ht, trivial⟩) ?_
  obtain ⟨mu, hmu⟩ : ∃ mu, much24 l = mu := ⟨_, rfl⟩
  obtain ⟨P, hP⟩ : ∃ P, mayP c.m c.k c.a c.b = P := ⟨_, rfl⟩
  obtain ⟨E, hE⟩ : ∃ E, chkF c l = E := ⟨_, rfl⟩
  have lb : mu = false → l.length ≤ 24 ∧ ∀ b ∈ l, Bok b := fun h => ⟨(much24_false (hmu.trans h)).1, Bok_of_much (hmu.trans h) hl1⟩
  refine seq (region (box rfl rfl rfl fun b0 => det rfl (asg rfl) (nilS ?_)))   -- region 0
  refine seq ?_
  refine seq (region (det rfl (mv rfl) (call (v := .bool mu) k_milepostlaw24_Much rfl rfl (fun w hm => by
    obtain ⟨D, d1, d2, hD, d4, d5⟩ := hm.data
    exact hmu ▸ much24_ l hl1 hl2 A cap D w hD d5.1 d5.2.1) (det rfl (mv rfl) (guardI rfl rfl rfl (fun hb => mv rfl) (guardI rfl rfl rfl (fun hb => lenS u_sl_api_Block (bift hb rfl)) (guardI rfl rfl rfl (fun hb => fadr rfl u_api_Config rfl s_int) (guardI rfl rfl rfl (fun hb => ldB 0 (v := .int .i64 c.k) (bift hb rfl) rfl o_int (Cf.at_k hc)) (guardI rfl rfl rfl (fun hb => leq (bift hb rfl) (bift hb rfl)) (det rfl (pick rfl (pickO rfl)) (det rfl (mv rfl) (guardI rfl rfl rfl (fun hb => fadr rfl u_api_Config rfl s_int) (guardI rfl rfl rfl (fun hb => ldB 0 (v := .int .i64 c.m) (bift hb rfl) rfl o_int (Cf.at_m hc)) (guardI rfl rfl rfl (fun hb => fadr rfl u_api_Config rfl s_int) (guardI rfl rfl rfl (fun hb => ldB 0 (v := .int .i64 c.k) (bift hb rfl) rfl o_int (Cf.at_k hc)) (guardI rfl rfl rfl (fun hb => fadr rfl u_api_Config rfl s_int) (guardI rfl rfl rfl (fun hb => ldB 0 (v := .int .i64 c.a) (bift hb rfl) rfl o_int (Cf.at_a hc)) (guardI rfl rfl rfl (fun hb => fadr rfl u_api_Config rfl s_int) (guardI rfl rfl rfl (fun hb => ldB 0 (v := .int .i64 c.b) (bift hb rfl) rfl o_int (Cf.at_b hc)) ((guardC (v := .bool P) rfl rfl k_pick_May (fun hb => lc (bift hb rfl) (lc (bift hb rfl) (lc (bift hb rfl) (lc (bift hb rfl) rfl)))) rfl (fun hb w _ => hP ▸ pick_May_ c.m c.k c.a c.b w) (guardI rfl rfl rfl (fun hb => notB (bift hb rfl)) (det rfl (pick rfl (pickO rfl)) (det rfl (mv rfl) (guardI rfl rfl rfl (fun hb => ldAll 0 rfl rfl g_api_Config (Cf.c_length hc)) (guardI rfl rfl rfl (fun hb => mv rfl) ((guardC (v := ag (fltC E)) rfl rfl k_chain_Check (fun hb => lc (bift hb rfl) (lc (bift hb rfl) rfl)) rfl (fun hb w hm => by
    obtain ⟨D, d1, d2, hD, d4, d5⟩ := hm.data
    have hmf : mu = false := by simp only [Bool.or_eq_false_iff] at hb; exact hb.1.1
    have := chain_Check_ c hc l (lb hmf).2 (by have := (lb hmf).1; omega) A cap D w hD d5.1 d5.2.1
    rw [hE] at this; exact this) (guardI rfl rfl rfl (fun hb => fldO (bift hb rfl) u_api_Fault rfl o_api_Errno rfl) (guardI rfl rfl rfl (fun hb => neq (bift hb rfl) rfl) (det rfl (pick rfl (pickO rfl)) (nilS ?_))))))))))))))))))))))))))))))))   -- region 1
  refine cond rfl (fun h => ?_) (fun h => ?_)   -- on t40
  · refine seq (region (call k_milepostlaw50_awake rfl rfl (fun w _ => awake50_ w) (det rfl (asg rfl) (nilS ?_))))   -- region 2
    exact ret (retT rfl rfl pr)
  · obtain ⟨h1, h2, h3, h4⟩ := guard4 h
    obtain ⟨hl24, hlb⟩ := lb h1
    refine forget [(1, .slice A l.length cap), (2, .pointer (some ⟨b0, 0, none⟩))] ⟨rfl, rfl, trivial⟩ fun σ => ?_
    have hc0 : (chkF c l).1 = 0 := by rw [hE]; exact h4
    have hch : Chn c l := chk_chn hc0
    subst h3
    obtain ⟨X, hpX, hX⟩ := prove_prf hch hc0 hP h2
    have hmay : mayPr c l = 0 := by rw [mayPr, if_neg (by rw [hc0]; simp), if_neg (by rw [hP]; simp), if_neg (by omega)]
    refine skipS ?_
    refine seq (region (det rfl (ldAll 0 rfl rfl g_api_Config (Cf.c_length hc)) (det rfl (mv rfl) (callSt (L := X) (er := 0) k_prove_Prove (show _ = [ag c.c, Value.slice A l.length cap] from rfl) rfl (fun w hm => by
      obtain ⟨D, d1, d2, hD, d4, d5⟩ := hm.data
      have := prove_Prove_ c hc hfit l hlb (by omega) A cap D w hD d5.1 d5.2.1
      rw [hpX] at this; exact this) fun B q Sx => (det rfl (mv rfl) (det rfl (extr rfl rfl) (det rfl (extr rfl rfl) (det rfl (asg rfl) (det rfl (asg rfl) (nilS ?_))))))))))   -- region 3
    obtain ⟨S, hSX⟩ := Sx
    have hSl : X.length = S.length := by rw [← hSX, List.length_map]
    have hXg : ∀ i (h : i < S.length), X.getD i sx0 = (S[i]).x := fun i h => by rw [← hSX]; exact getSX h
    have hSok : ∀ s ∈ S, s.h.ok := by
      intro s hs
      obtain ⟨i, hi, rfl⟩ := List.getElem_of_mem hs
      obtain ⟨a, hal, ha, _⟩ := hX.head i (by omega)
      rw [hXg i hi] at ha
      rw [show (S[i]).h = (S[i]).x.1 from rfl, ha, getB hal]
      exact hl1 _ (List.getElem_mem hal)
    have hk1 := hX.k0
    refine forget [(1, .slice A l.length cap), (2, .pointer (some ⟨b0, 0, none⟩)), (5, .slice B S.length q), (6, .int .i64 0)] ⟨rfl, rfl, congrArg (fun n => Value.slice B n q) hSl, rfl, trivial⟩ fun σ => ?_
    refine refactT (K' := [StS B S.length q S, Sl 67 A l.length cap (bl l), Txs l]) ⟨StS.stable, Sl.stable, Txs.stable, trivial⟩ (fun D w h => ⟨hSl ▸ (StS.mono h.1 fun k hk => hk.1), h.2.1, h.2.2.1, trivial⟩) ?_
    refine seq ?_
    refine seq (region (det rfl (mv rfl) (det rfl (Det.to (v' := .bool false) (neq rfl rfl) rfl) (nilS ?_))))   -- region 4
    refine condF rfl ?_
    refine skipS ?_
    refine seq ?_
    refine seq (region (det rfl (asg rfl) (nilS ?_)))   -- region 6
    refine block ?_   -- block 0
    refine loopV (ι := Nat) (fun p => (p : Int) ≤ (l.length : Int) - c.k) (fun p => [(1, .slice A l.length cap), (2, .pointer (some ⟨b0, 0, none⟩)), (5, .slice B S.length q), (7, .int .i64 p)]) (fun _ => [.blk b0 (ob c.c T_api_Config)]) (fun _ => [StS B S.length q S, Sl 67 A l.length cap (bl l), Txs l]) (fun p => l.length - p) 0 (by omega) ⟨rfl, rfl, rfl, rfl, trivial⟩ (fun w hm => hm) ?_
    intro p σ hp
    refine seq ?_
    refine seq (region (det rfl (mv rfl) (det rfl (mv rfl) (det rfl (lenS u_sl_api_Block rfl) (det rfl (fadr rfl u_api_Config rfl s_int) (det rfl (ldB 0 (v := .int .i64 c.k) rfl rfl o_int (Cf.at_k hc)) (det rfl (subI rfl rfl (by omega) (by omega)) (det rfl (lss rfl rfl) (nilS ?_)))))))))   -- region 7
    refine cond rfl (fun h => ?_) (fun h => ?_)   -- on t56
    rotate_left
    · have h := of_decide_eq_false h
      refine exit ?_   -- 0
      show Tr _ _ _ _ _ _ _
      refine seq (region (call k_milepostlaw50_awake rfl rfl (fun w _ => awake50_ w) (det rfl (asg rfl) (nilS ?_))))   -- region 16
      exact ret (retT rfl rfl pr)
    have h := of_decide_eq_true h
    have hpl : p < l.length := by omega
    obtain ⟨b, hb⟩ : ∃ b, l.getD p bl0 = b := ⟨_, rfl⟩
    have hbl : l[p] = b := by rw [← hb, getB hpl]
    have hbm : b ∈ l := by rw [← hbl]; exact List.getElem_mem hpl
    have hbk : b.h.ok := hl1 b hbm
    have hbt := (hlb b hbm).2.1
    refine skipS ?_
    refine seq ?_
    refine block ?_   -- block 1
    refine seq (region (det rfl (asg rfl) (nilS ?_)))   -- region 9
    refine block ?_   -- block 2
    refine loopV (ι := Nat) (fun j => j ≤ b.t.length) (fun j => [(1, .slice A l.length cap), (2, .pointer (some ⟨b0, 0, none⟩)), (5, .slice B S.length q), (7, .int .i64 p), (8, .int .i64 j)]) (fun _ => [.blk b0 (ob c.c T_api_Config)]) (fun _ => [StS B S.length q S, Sl 67 A l.length cap (bl l), Txs l]) (fun j => b.t.length - j) 0 (Nat.zero_le _) ⟨rfl, rfl, rfl, rfl, rfl, trivial⟩ (fun w hm => hm) ?_
    intro j σ hj0
    refine seq ?_
    refine seq (region (det rfl (mv rfl) (det rfl (mv rfl) (det rfl (mv rfl) (det rfl (ixS 1 rfl rfl u_sl_api_Block s_api_Block rfl (by omega) (by omega)) (det rfl (fadrS 1 rfl u_api_Block rfl s_sl_string rfl (by omega)) (det rfl (ldSQ 1 (i := p) (o := 66) (v := .slice b.A b.t.length b.cap) rfl rfl o_sl_string (bl_at rfl hpl) (by rw [hbl]; exact Bl.at_s hbk)) (det rfl (lenS u_sl_string rfl) (det rfl (lss rfl rfl) (nilS ?_))))))))))   -- region 10
    refine cond rfl (fun h' => ?_) (fun h' => ?_)   -- on t66
    rotate_left
    · have h' := of_decide_eq_false h'
      refine exit ?_   -- 2
      show Tr _ _ _ _ _ _ _
      refine region (det rfl (mv rfl) (det rfl (addI rfl rfl (by omega) (by omega)) (det rfl (asg rfl) (nil ?_))))   -- region 8
      exact again (p + 1) (by (first | omega | (dsimp only; omega))) ⟨rfl, rfl, rfl, rfl, trivial⟩ (fun w hm => hm) (by (first | omega | (dsimp only; omega)))
    have h' := of_decide_eq_true h'
    have hj : j < b.t.length := by omega
    have hW := within_plain hl1 hch hc0 hP h2 (p := p) (j := j) h (by rw [hb]; exact hj) hpX
    obtain ⟨z, hz⟩ : ∃ z, infR c l p j = z := ⟨_, rfl⟩
    have hWh := hW.holds
    have hWb := hW.block
    have hWt := hW.tx
    have hWi := hW.idx
    have hWo := hW.ok
    rw [hz] at hWh hWb hWt hWi hWo
    rw [hb] at hWb hWt
    refine skipS ?_
    refine seq ?_
    refine block ?_   -- block 3
    refine seq (region (det rfl (ldAll 0 rfl rfl g_api_Config (Cf.c_length hc)) (det rfl (mv rfl) (det rfl (mv rfl) (det rfl (mv rfl) (callX (β := {y : Inf // y.x = z}) (fun y => .tuple #[ag y.1.c, .int .i64 0]) (fun _ => _) (fun y => Fr w.heap.size (InfF y.1) :: _) (vs := [ag c.c, Value.slice A l.length cap, .int .i64 (p : Int), .int .i64 (j : Int)]) k_way_Infix rfl rfl (fun w1 hm => by
      obtain ⟨D, d1, d2, hD, d4, d5⟩ := hm.data
      refine (way_Infix_ c hc hfit l hlb (by omega) hmay p j h (by omega) (by rw [hb]; exact hj) hW.op hW.at_ hW.go A cap D w1 hD d5.2.1 d5.2.2.1).mono fun e w' ⟨y, hy, he, hbel, hf⟩ => ?_
      rw [hz] at hy
      exact ⟨⟨y, hy⟩, he, hm.learn (f := Fr w.heap.size (InfF y)) (Fr.stable InfF.stable) (grown_below hbel) (fun D _ => InfF.stable _ _ _ _ (fun k hk => ⟨.inr hk, Nat.le_trans hm.size hk.1⟩) (fun _ _ _ => rfl) hf)⟩) fun y => det rfl (mv rfl) (det rfl (extr rfl rfl) (det rfl (extr rfl rfl) (alloc z_api_Infix rfl rfl fun b1 => stoA 0 (rs := y.1.c) rfl rfl rfl s_api_Infix rfl rfl rfl (det rfl (asg rfl) (nilS ?_)))))))))))   -- region 12
    obtain ⟨y, hy⟩ := y
    have hyok : ∀ s ∈ y.S, s.h.ok := fun s hs => hWo s.x (by rw [← hy]; exact List.mem_map.2 ⟨s, hs, rfl⟩)
    have hyt : y.tx = b.t.getD j [] := by rw [← hWt, ← hy]; rfl
    have hyi : y.op.i = (j : Int) := by rw [← hWi, ← hy]; rfl
    have hytl : y.tx.length ≤ 100000000 := by
      rw [hyt]
      refine (hlb b hbm).2.2 _ ?_
      simp only [List.getD, List.getElem?_eq_getElem hj, Option.getD_some]
      exact List.getElem_mem hj
    refine refactT (K' := [StS B S.length q S, InfF y, Sl 67 A l.length cap (bl l), Sl 1 b.A b.t.length b.cap (tl b.t), Txs l]) ⟨StS.stable, InfF.stable, Sl.stable, Sl.stable, Txs.stable, trivial⟩ (fun D w h => ⟨h.2.1, InfF.stable _ _ _ _ (fun k hk => hk.1) (fun _ _ _ => rfl) h.1, h.2.2.1, h.2.2.2.1 b hbm, h.2.2.2.1, trivial⟩) ?_
    refine seq (region (det rfl (mv rfl) (det rfl (ldAll 0 rfl rfl g_api_Infix rfl) (call (v := blkV (b.h, true)) k_within_Block (show _ = [Value.slice B S.length q, ag y.c] from rfl) rfl (fun w hm => by
      obtain ⟨D, d1, d2, hD, d4, d5⟩ := hm.data
      have := within_Block_ S hSok y hyok B q D w hD d5.1 d5.2.1
      rw [hSX, hy, hWb] at this; exact this) (det rfl (Det.to (v' := blkV (b.h, true)) (mv rfl) rfl) (det rfl (extr (v := ag b.h.c) rfl rfl) (det rfl (extr (v := .bool true) rfl rfl) (alloc z_api_Header rfl rfl fun b2 => stoA 0 (rs := b.h.c) rfl rfl rfl s_api_Header (Hd.c_length hbk) (Hd.c_one _) rfl (det rfl (asg rfl) (nilS ?_))))))))))   -- region 13
    refine forget [(1, .slice A l.length cap), (2, .pointer (some ⟨b0, 0, none⟩)), (5, .slice B S.length q), (7, .int .i64 p), (8, .int .i64 j), (9, .pointer (some ⟨b1, 0, none⟩)), (10, .int .i64 0), (11, .pointer (some ⟨b2, 0, none⟩)), (12, .bool true)] ⟨rfl, rfl, rfl, rfl, rfl, rfl, rfl, rfl, rfl, trivial⟩ fun σ => ?_
    refine seq (drawI 43 [7] mix (by kernel_rfl) (by kernel_rfl) ?_)   -- drawn 14
    refine nI rfl rfl rfl (mv rfl) ?_
    refine nI rfl rfl rfl (Det.to (v' := .bool false) (neq rfl rfl) rfl) ?_
    refine nI rfl rfl rfl (mv rfl) ?_
    refine gI rfl rfl rfl rfl rfl (fadr rfl u_api_Config rfl s_api_Hash) ?_
    refine gI rfl rfl rfl rfl rfl (ldA 2 rfl rfl g_api_Hash (Cf.at_t' hc) (by rw [b8_length]; exact hc.2)) ?_
    refine gI rfl rfl rfl rfl rfl (mv rfl) ?_
    refine gI rfl rfl rfl rfl rfl (ldAll 1 rfl rfl g_api_Infix rfl) ?_
    refine pgI (v := .int .i64 0) rfl rfl rfl rfl k_within_Check (show _ = [ag (b8 c.t), Value.slice B S.length q, ag y.c] from rfl) rfl (fun w hm => by
      obtain ⟨D, d1, d2, hD, d4, d5⟩ := hm.data
      have := within_Check_ c.t hc.2 S hSok y hyok hytl B q D w hD d5.1 d5.2.1
      rw [hSX, hy, hWh] at this; exact this) ?_
    refine gI rfl rfl rfl rfl rfl (Det.to (v' := .bool false) (neq rfl rfl) rfl) ?_
    refine nI rfl rfl rfl (pick (b := false) rfl rfl) ?_
    refine nI rfl rfl rfl (mv rfl) ?_
    refine gI rfl rfl rfl rfl rfl (mv rfl) ?_
    refine gI rfl rfl rfl rfl rfl (Det.to (v' := .bool false) (notB rfl) rfl) ?_
    refine nI rfl rfl rfl (pick (b := false) rfl rfl) ?_
    refine nI rfl rfl rfl (mv rfl) ?_
    refine gI rfl rfl rfl rfl rfl (ldAll 0 rfl rfl g_api_Header (Hd.c_length hbk)) ?_
    refine gI rfl rfl rfl rfl rfl (mv rfl) ?_
    refine gI rfl rfl rfl rfl rfl (mv rfl) ?_
    refine gI rfl rfl rfl rfl rfl (ixS 2 rfl rfl u_sl_api_Block s_api_Block rfl (by omega) (by omega)) ?_
    refine gI rfl rfl rfl rfl rfl (fadrS 2 rfl u_api_Block rfl s_api_Header rfl (by omega)) ?_
    refine gI rfl rfl rfl rfl rfl (ldSP 2 (i := p) (o := 0) (r := b.h.c) rfl rfl g_api_Header (bl_at rfl hpl) (by rw [hbl]; exact Bl.at_h hbk) (Hd.c_length hbk)) ?_
    refine gI rfl rfl rfl rfl rfl (Det.to (v' := .bool false) (neqA rfl rfl hgH (eqHd b.h b.h hbk hbk)) (by simp)) ?_
    refine nI rfl rfl rfl (pick (b := false) rfl rfl) ?_
    refine nI rfl rfl rfl (mv rfl) ?_
    refine gI rfl rfl rfl rfl rfl (fadr rfl u_api_Infix rfl s_string) ?_
    refine gI rfl rfl rfl rfl rfl (ldB 1 (v := .string (bs (b.t.getD j []))) rfl rfl o_string (by rw [← hyt]; rfl)) ?_
    refine gI rfl rfl rfl rfl rfl (mv rfl) ?_
    refine gI rfl rfl rfl rfl rfl (mv rfl) ?_
    refine gI rfl rfl rfl rfl rfl (ixS 2 rfl rfl u_sl_api_Block s_api_Block rfl (by omega) (by omega)) ?_
    refine gI rfl rfl rfl rfl rfl (fadrS 2 rfl u_api_Block rfl s_sl_string rfl (by omega)) ?_
    refine gI rfl rfl rfl rfl rfl (ldSQ 2 (i := p) (o := 66) (v := .slice b.A b.t.length b.cap) rfl rfl o_sl_string (bl_at rfl hpl) (by rw [hbl]; exact Bl.at_s hbk)) ?_
    refine gI rfl rfl rfl rfl rfl (mv rfl) ?_
    refine gI rfl rfl rfl rfl rfl (ixS 3 rfl rfl u_sl_string s_string rfl (by omega) (by omega)) ?_
    refine gI rfl rfl rfl rfl rfl (ldSO 3 (v := .string (bs (b.t.getD j []))) rfl rfl o_string (tl_at rfl hj)) ?_
    refine gI rfl rfl rfl rfl rfl (Det.to (v' := .bool false) (tneq rfl rfl) (by simp)) ?_
    refine nI rfl rfl rfl (pick (b := false) rfl rfl) ?_
    refine nI rfl rfl rfl (mv rfl) ?_
    refine gI rfl rfl rfl rfl rfl (fadr rfl u_api_Infix rfl s_api_Opening) ?_
    refine gI rfl rfl rfl rfl rfl (fadr rfl u_api_Opening rfl s_int) ?_
    refine gI rfl rfl rfl rfl rfl (ldB 1 (v := .int .i64 (j : Int)) rfl rfl o_int (by rw [← hyi]; rfl)) ?_
    refine gI rfl rfl rfl rfl rfl (mv rfl) ?_
    refine gI rfl rfl rfl rfl rfl (Det.to (v' := .bool false) (neq rfl rfl) (by simp)) ?_
    refine nI rfl rfl rfl (pick (b := false) rfl rfl) ?_
    refine endI rfl (nilS ?_)
    refine condF rfl ?_
    refine skip ?_
    show Tr _ _ _ _ _ _ _
    refine region (det rfl (mv rfl) (det rfl (addI rfl rfl (by omega) (by omega)) (det rfl (asg rfl) (nil ?_))))   -- region 11
    exact again (j + 1) (by (first | omega | (dsimp only; omega))) ⟨rfl, rfl, rfl, rfl, rfl, trivial⟩ (fun w hm => (drop1 (drop1 hm)).refact ⟨StS.stable, Sl.stable, Txs.stable, trivial⟩ fun D h => ⟨h.1, h.2.2.1, h.2.2.2.2.1, trivial⟩) (by (first | omega | (dsimp only; omega)))
end Go.Proofs.YtmcapgjdflohfaaGreat.L

namespace Go.Proofs.YtmcapgjdflohfaaGreat.withinWays
open Go.ChangeShapes Go.WideShapes Go.ChangeAt Go.RowKit
open Go.ChangeMaps (open_string shut_string)
open Go.Proofs.YtmcapgjdflohfaaGreat.L
set_option linter.unusedVariables false
theorem own : ownKnob Tryz.prog.godebug = none := by kernel_rfl
theorem laidOut : laidOutB Tryz.prog = true := by kernel_rfl
set_option maxRecDepth 100000 in
theorem lifted (os : Os) (started : os.Started) (H : Type) (enc : TypeId × Value → H) :
    ReturnsInHanded {} Tryz.checked os 9 .any (Rows.withinWaysSpec.pre6 enc Tryz.prog Tryz.f9 Rows.withinWaysRow.domain false) (Rows.withinWaysSpec.post enc Tryz.prog Tryz.f9 false true false false) := by
  refine returnsInHanded_of_change_sized (C := Tryz.checked) own started (by kernel_rfl) Tryz.func9
    (ChangeSpec.witness6 (enc := enc) (C := Tryz.checked) false ⟨#[], #[.agg cf0.toArray, .slice none 0 0], []⟩ 8 (by kernel_rfl) (by kernel_rfl) (by kernel_rfl) (by kernel_rfl)) ?_
  intro W base args ds gs before hval0 hW hcnd hsz0 _
  have hsz : (DataW.weightsEach Tryz.prog (Tryz.f9.params.toList ++ Rows.withinWaysSpec.plain.varTypes Tryz.prog) (ds ++ gs)).all (· ≤ reachBytes) = true := hsz0
  have hval : ∀ (j : Nat) t v, Tryz.f9.params[j]? = some t → args[j]? = some v → Value.okWide Tryz.prog W .any base t v := hval0
  have hW' := hW
  obtain ⟨p, q, hA0, hV, rfl, hfz, hnd⟩ := hW
  have hA : DataW.TrodAll enc Tryz.prog W 0 (fun _ => true) true Tryz.f9.params.toList args.toList ds p := hA0
  rw [Tryz.params9] at hA hval hsz
  obtain ⟨v0, vs0, d0, ds0, p0, q0, hargs, rfl, rfl, h0, r0⟩ := trodAll_cons hA
  obtain ⟨v1, vs1, d1, ds1, p1, q1, rfl, rfl, rfl, h1, r1⟩ := trodAll_cons r0
  obtain ⟨rfl, rfl, rfl⟩ := trodAll_nil r1
  obtain rfl : args = #[v0, v1] := by cases args; simp_all
  obtain ⟨rfl, rfl⟩ := trodVars_none hV
  obtain ⟨cs0, rfl⟩ := okAgg u_api_Config (hval 0 _ v0 rfl rfl)
  obtain ⟨a1, len1, cap1, rfl⟩ := okWide_slice u_sl_api_Block (hval 1 _ v1 rfl rfl)
  have k0 := h0
  have k1 := h1
  have lt0 : ∀ x ∈ p0, x.block < W.heap.size := by obtain ⟨m, hm⟩ := k0; exact DataW.trod_lt m _ _ _ hm
  have lt1 : ∀ x ∈ p1, x.block < W.heap.size := by obtain ⟨m, hm⟩ := k1; exact DataW.trod_lt m _ _ _ hm
  obtain ⟨c, hc0, hc, hfit⟩ : ∃ c : Cf, cs0.toList = c.c ∧ c.ok ∧ c.fit := by obtain ⟨m, hm⟩ := h0; exact dec_cfg hm
  obtain ⟨A, cap, l, e1, hb, hs⟩ : ∃ A cap, ∃ l : List Bl, [Value.slice a1 len1 cap1] = [.slice A l.length cap] ∧ (∀ b ∈ l, Bin W b) ∧ Sl 67 A l.length cap (bl l) (fun k => k < W.heap.size) W := by
    obtain ⟨m, hm⟩ := h1
    exact dec_blocks hm (wt_of hsz (j := 1) rfl rfl)
  have e0 : cs0 = c.c.toArray := by rw [← hc0]
  subst e0
  simp only [List.cons.injEq, Value.slice.injEq, and_true] at e1
  obtain ⟨rfl, rfl, rfl⟩ := e1
  clear hA0 hval0 hsz0 hsz
  refine (withinWays_ c hc hfit l (fun b h => (hb b h).1) (fun b h => (hb b h).2.1) a1 cap1 (fun k => k < W.heap.size) W (fun _ h => h) hs (fun b h => (hb b h).2.2)).mono fun e W' ⟨he, bel⟩ => ?_
  subst he
  exact ⟨_, rfl, _, _, _, [], _, [], hW', trodAll_mk1 (shut_bool u_bool _), (trodAll_cons_mk (Below.trod laidOut (by kernel_rfl) (of_decide_eq_true (by kernel_rfl)) k0 bel lt0) (trodAll_cons_mk (Below.trod laidOut (by kernel_rfl) (of_decide_eq_true (by kernel_rfl)) k1 bel lt1) trodAll_mk0)), rfl, bel.frame _, fun h => by cases h⟩
theorem over : Rows.withinWaysRow.holds Tryz.pinned (OpenSpec.ofChange Rows.withinWaysSpec) :=
  OpenClaim.holds_of_wide 9 Tryz.f9 rfl rfl rfl rfl rfl rfl rfl ⟨rfl, rfl, rfl, rfl, rfl⟩ rfl rfl rfl rfl rfl (by kernel_rfl) Tryz.func9 (by kernel_rfl)
    (of_decide_eq_true (by kernel_rfl)) (by unfold Func.isWrapper; first | (rw [if_pos (by decide +kernel)]; kernel_rfl) | (rw [if_neg (by decide +kernel)]; exact ⟨rfl, rfl⟩))
    (fun os started H enc _ => lifted os started H enc)
theorem proved : Rows.WithinWaysSaid := over
#print axioms proved
end Go.Proofs.YtmcapgjdflohfaaGreat.withinWays
namespace Go.Proofs.YtmcapgjdflohfaaGreat
/-- The row, under a short name, for the claim. -/
theorem withinWays_holds : Rows.WithinWaysSaid := withinWays.proved
end Go.Proofs.YtmcapgjdflohfaaGreat
