/- Package chain: look. -/
import Derived.Test.YtmcapgjdflohfaaGreatBlock
set_option linter.all false
namespace Go.Proofs.YtmcapgjdflohfaaGreat.L
open Go Go.RowKit
set_option linter.unusedVariables false

/-- A configuration. -/
structure Cf where
  g : Hd
  t : List UInt8
  m : Int
  k : Int
  a : Int
  b : Int
  mb : Int
  mp : Int
def Cf.ok (c : Cf) : Prop := c.g.ok ∧ c.t.length = 32
def Cf.tail (c : Cf) : List Value := [.int .i64 c.m, .int .i64 c.k, .int .i64 c.a, .int .i64 c.b, .int .i64 c.mb, .int .i64 c.mp]
def Cf.c (c : Cf) : List Value := c.g.c ++ (b8 c.t ++ c.tail)
theorem Cf.c_length {c : Cf} (h : c.ok) : c.c.length = 104 := by rw [Cf.c, List.length_append, Hd.c_length h.1, List.length_append, b8_length, h.2]; rfl
theorem Cf.c_one (c : Cf) : one c.c = true := by rw [Cf.c, one_append, one_append, Hd.c_one, b8_one]; rfl
/-- A part at a place. -/
theorem part_at {pre vs post : List Value} {o m : Nat} (ho : pre.length = o) (hm : vs.length = m) : ((pre ++ (vs ++ post)).drop o).take m = vs := by
  rw [← ho, List.drop_left, List.take_append_of_le_length (by omega), List.take_of_length_le (by omega)]
theorem cell_at {pre post : List Value} {v : Value} {o : Nat} (ho : pre.length = o) : (pre ++ (v :: post))[o]? = some v := by
  rw [← ho, List.getElem?_append_right (by omega), Nat.sub_self]; rfl
theorem Cf.at_g {c : Cf} (h : c.ok) (r : List Value) : ((c.c ++ r).drop 0).take 66 = c.g.c := by
  have := part_at (pre := []) (vs := c.g.c) (post := (b8 c.t ++ c.tail) ++ r) rfl (Hd.c_length h.1)
  rw [Cf.c, List.append_assoc]; exact this
theorem Cf.at_t {c : Cf} (h : c.ok) (r : List Value) : ((c.c ++ r).drop 66).take 32 = b8 c.t := by
  have := part_at (pre := c.g.c) (vs := b8 c.t) (post := c.tail ++ r) (m := 32) (Hd.c_length h.1) (by rw [b8_length]; exact h.2)
  rw [Cf.c, List.append_assoc, List.append_assoc]; exact this

/-- What a look holds. -/
def lkC (c : Cf) (i : Nat) (b : Bl) (v : Value) : List Value := c.c ++ (.int .i64 i :: (b.c ++ [v]))
section
variable {c : Cf} {i : Nat} {b : Bl} {v : Value}
theorem lkC_length (h : c.ok) (hb : b.h.ok) : (lkC c i b v).length = 173 := by simp [lkC, Cf.c_length h, Bl.c_length hb]
theorem lkC_one : one (lkC c i b v) = (one [v]) := by
  rw [lkC, one_append, Cf.c_one, show ∀ (v : Value) l, one (v :: l) = (v.oneCell' && one l) from fun _ _ => rfl, one_append, Bl.c_one]; rfl
theorem lkC_i (h : c.ok) : (lkC c i b v)[104]? = some (.int .i64 i) := cell_at (Cf.c_length h)
theorem lkC_g (h : c.ok) : ((lkC c i b v).drop 0).take 66 = c.g.c := Cf.at_g h _
theorem lkC_t (h : c.ok) : ((lkC c i b v).drop 66).take 32 = b8 c.t := Cf.at_t h _
theorem lkC_b (h : c.ok) (hb : b.h.ok) : ((lkC c i b v).drop 105).take 67 = b.c := by
  have := part_at (pre := c.c ++ [.int .i64 i]) (vs := b.c) (post := [v]) (o := 105) (by simp [Cf.c_length h]) (Bl.c_length hb)
  rw [lkC]; simpa using this
theorem lkC_h (h : c.ok) (hb : b.h.ok) : ((lkC c i b v).drop 105).take 66 = b.h.c := by
  have := part_at (pre := c.c ++ [.int .i64 i]) (vs := b.h.c) (post := [b.s] ++ [v]) (o := 105) (by simp [Cf.c_length h]) (Hd.c_length hb)
  rw [lkC, Bl.c]; simpa using this
theorem lkC_v (h : c.ok) (hb : b.h.ok) : (lkC c i b v)[172]? = some v := by
  have := cell_at (pre := c.c ++ ([.int .i64 i] ++ b.c)) (v := v) (post := []) (o := 172) (by simp [Cf.c_length h, Bl.c_length hb])
  rw [lkC]; simpa using this
end

def anchorF (c : Cf) (i : Nat) (b : Bl) : Int := if i = 0 ∧ b.h ≠ c.g then 7 else 0
def workF (c : Cf) (b : Bl) : Int := if okW (idL b.h) c.t = true then 0 else 9

theorem look_anchor_ (c : Cf) (hc : c.ok) (i : Nat) (b : Bl) (hb : b.h.ok) (v : Value) : Pure PP N_chain_look_anchor #[ag (lkC c i b v)] (.int .i64 (anchorF c i b)) := by
  have hg : PP.eqGuardType PP.depth T_api_Header = false := by kernel_rfl
  refine enter0 f_chain_look_anchor rfl n_chain_look_anchor rfl fun w => ?_
  refine seq (region (box rfl rfl rfl fun b0 => det rfl (asg rfl) (nilS ?_)))   -- region 0
  refine seq ?_
  refine seq (region ?_)
  refine det rfl (fadr rfl u_chain_look rfl s_int) ?_
  refine det rfl (ldB 0 rfl rfl o_int (lkC_i hc)) ?_
  refine det rfl (eql rfl rfl) ?_
  refine det rfl (mv rfl) ?_
  by_cases h0 : i = 0
  · refine guardT rfl (vb (decide_eq_true (by omega))) (det rfl (fadr rfl u_chain_look rfl s_api_Block) ?_)
    refine guardT rfl (vb (decide_eq_true (by omega))) (det rfl (fadr rfl u_api_Block rfl s_api_Header) ?_)
    refine guardT rfl (vb (decide_eq_true (by omega))) (det rfl (ldA 0 rfl rfl g_api_Header (lkC_h hc hb) (Hd.c_length hb)) ?_)
    refine guardT rfl (vb (decide_eq_true (by omega))) (det rfl (fadr rfl u_chain_look rfl s_api_Config) ?_)
    refine guardT rfl (vb (decide_eq_true (by omega))) (det rfl (fadr rfl u_api_Config rfl s_api_Header) ?_)
    refine guardT rfl (vb (decide_eq_true (by omega))) (det rfl (ldA 0 rfl rfl g_api_Header (lkC_g hc) (Hd.c_length hc.1)) ?_)
    refine guardT rfl (vb (decide_eq_true (by omega))) (det rfl (neqA rfl rfl hg (eqHd _ _ hb hc.1)) ?_)
    refine det rfl (pick (v := .bool (!decide (b.h = c.g))) (vb (decide_eq_true (by omega))) rfl) ?_
    refine nilS ?_
    refine cond rfl (fun h => ?_) (fun h => ?_)   -- on t14
    · have h : b.h ≠ c.g := by simpa using h
      refine seq (region (det rfl (asg rfl) (nilS ?_)))   -- region 2
      exact ret (retT rfl rfl (pr' (vi (by rw [anchorF, if_pos ⟨h0, h⟩]))))
    · have h : b.h = c.g := by simpa using h
      refine skipS ?_
      refine seq (region (det rfl (asg rfl) (nilS ?_)))   -- region 3
      exact ret (retT rfl rfl (pr' (vi (by rw [anchorF, if_neg (fun x => x.2 h)]))))
  · repeat (first | refine guardF rfl (vb (decide_eq_false (by omega))) rfl ?_ | refine guardU rfl rfl rfl ?_)
    refine det rfl (pick (v := .bool false) (vb (decide_eq_false (by omega))) rfl) ?_
    refine nilS ?_
    refine condF rfl ?_
    refine skipS ?_
    refine seq (region (det rfl (asg rfl) (nilS ?_)))   -- region 3
    exact ret (retT rfl rfl (pr' (vi (by rw [anchorF, if_neg (fun x => h0 x.1)]))))

theorem look_form_ (c : Cf) (hc : c.ok) (i : Nat) (hi : i ≤ 1000000) (b : Bl) (hb : b.h.ok) (v : List (List UInt8)) (hn : v.length ≤ 100000) (hv : ∀ y ∈ v, y.length = 32) (htn : b.t.length ≤ 100000) (htx : ∀ x ∈ b.t, x.length ≤ 100000000) (A : Option Addr) (cap : Nat) (D : Nat → Prop) (w : World) (hD : ∀ k, D k → k < w.heap.size) (hs : Sl 32 A v.length cap (hl v) D w) (hs2 : Sl 1 b.A b.t.length b.cap (tl b.t) D w) :
    Calls PP N_chain_look_form #[ag (lkC c i b (.slice A v.length cap))] w (PR w (.int .i64 (checkB b i v))) := by
  refine enter f_chain_look_form rfl n_chain_look_form rfl (M.init PP w D [] [Sl 32 A v.length cap (hl v), Sl 1 b.A b.t.length b.cap (tl b.t)] ⟨Sl.stable, Sl.stable, trivial⟩ hD ⟨hs, hs2, trivial⟩) ?_
  refine seq (region (box rfl rfl rfl fun b0 => det rfl (asg rfl) (nilS ?_)))   -- region 0
  refine seq (region (det rfl (fadr rfl u_chain_look rfl s_api_Block) (det rfl (ldA 0 rfl rfl g_api_Block (lkC_b hc hb) (Bl.c_length hb)) (det rfl (fadr rfl u_chain_look rfl s_int) (det rfl (ldB 0 rfl rfl o_int (lkC_i hc)) (det rfl (Det.to (conv u_int u_uint32 rfl) (vi (show _ = (i : Int) by rw [IntKind.wrap]; simp [IntKind.bits, IntKind.signed]; omega))) (det rfl (fadr rfl u_chain_look rfl s_sl_api_Hash) (det rfl (ldB 0 rfl rfl o_sl_api_Hash (lkC_v hc hb)) (call k_block_Check rfl rfl (fun w hm => by
    obtain ⟨D, d1, d2, hD, d4, d5⟩ := hm.data
    exact block_Check_ b hb i v hn hv htn htx A cap D w hD d5.1 d5.2.1) (det rfl (asg rfl) (nilS ?_)))))))))))   -- region 1
  exact ret (retT rfl rfl pr)
theorem look_work_ (c : Cf) (hc : c.ok) (i : Nat) (b : Bl) (hb : b.h.ok) (v : Value) : Pure PP N_chain_look_work #[ag (lkC c i b v)] (.int .i64 (workF c b)) := by
  refine enter0 f_chain_look_work rfl n_chain_look_work rfl fun w => ?_
  refine seq (region (box rfl rfl rfl fun b0 => det rfl (asg rfl) (nilS ?_)))   -- region 0
  refine seq ?_
  refine seq (draw (m := 8) mix (by kernel_rfl) (take 0 rfl (by kernel_rfl) rfl (fadr rfl u_chain_look rfl s_api_Block) (take 1 rfl (by kernel_rfl) rfl (ldA 0 rfl rfl g_api_Block (lkC_b hc hb) (Bl.c_length hb)) (take 3 rfl (by kernel_rfl) rfl (fadr rfl u_chain_look rfl s_api_Config) (take 4 rfl (by kernel_rfl) rfl (fadr rfl u_api_Config rfl s_api_Hash) (take 5 rfl (by kernel_rfl) rfl (ldA 0 rfl rfl g_api_Hash (lkC_t hc) (by rw [b8_length]; exact hc.2)) (only 2 rfl (by kernel_rfl) rfl k_chain_id rfl rfl (fun w _ => chain_id_ b hb w) (only 6 rfl (by kernel_rfl) rfl k_work_Ok rfl rfl (fun w _ => work_Ok_ _ _ (idL_length _) hc.2 w) (take 7 rfl (by kernel_rfl) rfl (notB rfl) ((tail (by kernel_rfl) rfl (nilS ?_))))))))))))   -- region 1
  refine cond rfl (fun h => ?_) (fun h => ?_)   -- on t10
  · have h : okW (idL b.h) c.t = false := by simpa using h
    refine seq (region (det rfl (asg rfl) (nilS ?_)))   -- region 2
    exact ret (retT rfl rfl (pr' (vi (by rw [workF, h]; rfl))))
  · have h : okW (idL b.h) c.t = true := by simpa using h
    refine skipS ?_
    refine seq (region (det rfl (asg rfl) (nilS ?_)))   -- region 3
    exact ret (retT rfl rfl (pr' (vi (by rw [workF, if_pos h]))))

/-! ### The asks -/
def asks : List FuncId := [N_chain_look_anchor, N_chain_look_form, N_chain_look_work]
def askF (c : Cf) (i : Nat) (b : Bl) (v : List (List UInt8)) (j : Nat) : Int := if j = 0 then anchorF c i b else if j = 1 then checkB b i v else workF c b
theorem ask_fn (j : Nat) (hj : j < 3) : Fn PP (asks.getD j 0) := by
  match j, hj with
  | 0, _ => exact k_chain_look_anchor
  | 1, _ => exact k_chain_look_form
  | 2, _ => exact k_chain_look_work
theorem ask_ (j : Nat) (hj : j < 3) (c : Cf) (hc : c.ok) (i : Nat) (hi : i ≤ 1000000) (b : Bl) (hb : b.h.ok) (v : List (List UInt8)) (hn : v.length ≤ 100000) (hv : ∀ y ∈ v, y.length = 32) (htn : b.t.length ≤ 100000) (htx : ∀ x ∈ b.t, x.length ≤ 100000000) (A : Option Addr) (cap : Nat) (D : Nat → Prop) (w : World) (hD : ∀ k, D k → k < w.heap.size) (hs : Sl 32 A v.length cap (hl v) D w) (hs2 : Sl 1 b.A b.t.length b.cap (tl b.t) D w) :
    Calls PP (asks.getD j 0) #[ag (lkC c i b (.slice A v.length cap))] w (PR w (.int .i64 (askF c i b v j))) := by
  match j, hj with
  | 0, _ => exact look_anchor_ c hc i b hb _ w
  | 1, _ => exact look_form_ c hc i hi b hb v hn hv htn htx A cap D w hD hs hs2
  | 2, _ => exact look_work_ c hc i b hb _ w

section
variable {c : Cx} {n : Nat} {Q : Exit → Env → World → Prop} {σ : Env} {H : List Res} {K : List Fact}
variable {d : Option Tmp} {t : TypeId} {p : String} {af : Array Edge} {g : Option (Nat × Bool)}
/-- A method's value. -/
theorem mkF {f : FuncId} {first caps : Array Operand} {vs : List Value} (hv : first.toList.map (ev σ) = vs) (hc : caps.toList.map (ev σ) = []) : Det c σ H K ⟨d, .makeFunc (.func f) first caps, t, p, af, g⟩ (.func (.func f) vs.toArray #[]) := fun w _ => by
  simp only [execOp, Instr.makeFunc, map_args hv, map_args hc, Sem.run_bind, Sem.run_pure, Result.andThen_ok]
/-- A call of a method's value. -/
theorem callM {ops : Array Oper} {d s : Nat} {f : FuncId} {args : Array Operand} {ats : Array TypeId} {fs vs : List Value} {l : List Oper} {v : Value} (hf : Fn c.P f) (hs : σ s = .func (.func f) fs.toArray #[]) (ha : args.toList.map (ev σ) = vs) (hd : Nat.blt d n = true)
    (spec : ∀ w, M c H K w → Calls c.P f (fs ++ vs).toArray w fun e w' => e = .returned v ∧ Below w.heap.size w w') (h : TL c n ops l Q (upd σ d v) H K) :
    TL c n ops (⟨some d, .call { callee := .value (.tmp s), args := args, argTypes := ats }, t, p, af, none⟩ :: l) Q σ H K := by
  intro w hm a hr
  obtain ⟨fn, code, hf1, hf2, hf3⟩ := hf
  have hn' : ¬ fn.name = "runtime.NumGoroutine" := by simpa using hf3
  have e : (execOp (ev σ) ⟨some d, .call { callee := .value (.tmp s), args := args, argTypes := ats }, t, p, af, none⟩).run c.P w = .ok (.enter f (fs ++ vs).toArray) w := by
    simp only [execOp, resolve, ev, hs, map_args ha, Deferred.ofValue, Sem.run_bind, Sem.run_pure, Result.andThen_ok, invoke, callFunc]
    simp [hf1, hn', hf2]
  refine wpList_run rfl ?_
  rw [hr.eval, e]
  refine (spec w hm).mono ?_
  rintro e w' ⟨rfl, hbel⟩
  exact h w' (hm.pure (grown_below hbel)) _ (hr.put d _ (by simp [Nat.blt] at hd; omega))
end
end Go.Proofs.YtmcapgjdflohfaaGreat.L
