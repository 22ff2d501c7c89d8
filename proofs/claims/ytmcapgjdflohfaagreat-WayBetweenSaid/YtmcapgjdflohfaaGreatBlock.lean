/- Package block: equality of headers, Make, Check. -/
import Derived.Test.YtmcapgjdflohfaaGreatBehind
import Derived.Test.YtmcapgjdflohfaaGreatEq
set_option linter.all false
namespace Go.Proofs.YtmcapgjdflohfaaGreat.L
open Go Go.RowKit
set_option linter.unusedVariables false

section
variable {c : Cx} {n : Nat} {Q : Exit → Env → World → Prop} {σ : Env} {H : List Res} {K : List Fact}
variable {d : Option Tmp} {t : TypeId} {p : String} {af : Array Edge} {g : Option (Nat × Bool)}
theorem run_append_nothing {P : Program} {w : World} {base size : Nat} {t ty e : TypeId} {i : TypeInfo} (ht : P.underlying t = some (.slice e)) (hi : P.info? e = some i) {v : Value} {n cp : Nat} {xs : List Value} (hown : w.ownsRow base e size v n xs) :
    (Builtin.append_ #[t, t] ty #[v, .slice none 0 cp]).run P w = .ok v w := by
  rcases hown.2 with ⟨rfl, rfl⟩ | ⟨g, cap, cur, rfl, _, _, hnc, _⟩
  · simp [Builtin.append_, run_underlying ht, sizeOf, typeInfo, hi, Builtin.lenOf, Builtin.firstCells]
  · simp [Builtin.append_, run_underlying ht, sizeOf, typeInfo, hi, Builtin.lenOf, Builtin.firstCells, hnc, storeCells]
/-- append of a slice that is known onto a row of the call's own. -/
theorem appS {ops : Array Oper} {d : Nat} {s x : Operand} {tt e : TypeId} {l : List Oper} {z v : Value} {sz bytes n' m cp : Nat} {A : Option Addr} {xs : List Value} {ls : List (List Value)} (i k : Nat)
    (ht : c.P.underlying tt = some (.slice e)) (hinfo : (c.P.info? e).map (fun i => (i.zero, i.size, i.bytes)) = some (some z, sz, bytes)) (hz : z.cells.size = sz) (hsz : 0 < sz)
    (hs : ev σ s = v) (hx : ev σ x = .slice A m cp) (hi : H[i]? = some (.row v e sz n' xs)) (hk : K[k]? = some (Sl sz A m cp ls))
    (hlen : n' + m ≤ maxLen) (hby : (n' + m) * bytes ≤ 140737488355328) (hd : Nat.blt d n = true)
    (h : ∀ A' cap, TL c n ops l Q (upd σ d (.slice A' (n' + m) cap)) (H.set i (.row (.slice A' (n' + m) cap) e sz (n' + m) (xs ++ ls.flatten))) K) :
    TL c n ops (⟨some d, .call { callee := .builtin .append, args := #[s, x], argTypes := #[tt, tt] }, t, p, af, none⟩ :: l) Q σ H K := by
  intro w hM a hr
  obtain ⟨i0, hi0, hzz⟩ := Option.map_eq_some_iff.1 hinfo
  simp only [Prod.mk.injEq] at hzz
  obtain ⟨hz0, hz1, hz2⟩ := hzz
  have hown : w.ownsRow c.w0.heap.size e sz v n' xs := hM.get hi
  obtain ⟨D, _, hsl⟩ := hM.sl hk
  have hls : ∀ l ∈ ls, l.length = sz := fun l hl => (hsl.2.2.2.1 l hl).1
  have h1 : one ls.flatten = true := flat_one fun l hl => (hsl.2.2.2.1 l hl).2
  have hm : ls.flatten.length = m * sz := by rw [flat_length hls, hsl.1]
  have key : ∃ v' w', (Builtin.append_ #[tt, tt] t #[v, .slice A m cp]).run c.P w = .ok v' w' ∧ w'.ownsRow c.w0.heap.size e sz v' (n' + m) (xs ++ ls.flatten) ∧ w.grownBy w' v.ownBlock ∧ (v'.ownBlock = v.ownBlock ∨ v'.ownBlock = some w.heap.size) := by
    cases A with
    | none =>
      have h0 : m = 0 := by
        rcases Nat.eq_zero_or_pos m with h0 | h0
        · exact h0
        · obtain ⟨b, off, hA, _⟩ := hsl.flatCells hsz h0
          cases hA
      subst h0
      have : ls.flatten = [] := List.length_eq_zero_iff.1 (by rw [hm, Nat.zero_mul])
      refine ⟨v, w, run_append_nothing ht hi0 hown, ?_, ⟨rfl, rfl, rfl, Nat.le_refl _, fun _ _ _ => rfl⟩, .inl rfl⟩
      rw [this, List.append_nil]; exact hown
    | some A0 =>
      have hcell : ∀ j u, ls.flatten[j]? = some u → w.cell? (A0.add j) = some u := by
        intro j u hj
        rcases Nat.eq_zero_or_pos m with h0 | h0
        · have := (List.getElem?_eq_some_iff.1 hj).1
          rw [hm, h0, Nat.zero_mul] at this; omega
        · obtain ⟨b, off, hA, hc⟩ := hsl.flatCells hsz h0
          obtain rfl := Option.some.inj hA
          rw [add0]; exact hc j u hj
      obtain ⟨v', w', hrun, hown', hg, _, hat⟩ := run_append_own_at (P := c.P) w c.w0.heap.size tt t e i0 z sz bytes ht hi0 hz0 hz1 hz2 hz hsz v n' xs hown A0 m cp ls.flatten hm hcell (fun u hu => List.all_eq_true.1 h1 u hu) hlen hby hM.size
      exact ⟨v', w', hrun, hown', hg, hat⟩
  obtain ⟨v', w', hrun, hown', hg, hat⟩ := key
  refine wpList_run rfl ?_
  rw [hr.eval]
  simp only [execOp, resolve, invoke, builtin, Sem.run_bind, Sem.run_pure, Result.andThen_ok, List.map_toArray, List.map_cons, List.map_nil, hs, hx, hrun]
  obtain ⟨A', cap, rfl⟩ : ∃ A cap, v' = .slice A (n' + m) cap := by
    rcases hown'.2 with ⟨rfl, h0⟩ | ⟨gg, cap, cur, rfl, _⟩
    · exact ⟨none, 0, by rw [h0]⟩
    · exact ⟨_, cap, rfl⟩
  exact h A' cap w' (hM.change i hi hg hown' (by rcases hat with hat | hat; exact .inl hat; exact .inr (.inr ⟨_, hat, Nat.le_refl _⟩))) _ (hr.put d _ (by simp [Nat.blt] at hd; omega))
/-- append of a slice that is known onto nothing: what it makes. -/
theorem run_appNil {s x : Operand} {tt e : TypeId} {z : Value} {sz bytes m cp : Nat} {A : Option Addr} {ls : List (List Value)} (k : Nat)
    (ht : c.P.underlying tt = some (.slice e)) (hinfo : (c.P.info? e).map (fun i => (i.zero, i.size, i.bytes)) = some (some z, sz, bytes)) (hz : z.cells.size = sz) (hsz : 0 < sz)
    (hs : ev σ s = .slice none 0 0) (hx : ev σ x = .slice A m cp) (hk : K[k]? = some (Sl sz A m cp ls))
    (hlen : m ≤ maxLen) (hby : m * bytes ≤ 140737488355328) :
    ∀ w, M c H K w → ∃ (b : Option Addr × Nat) (w' : World), (execOp (ev σ) ⟨d, .call { callee := .builtin .append, args := #[s, x], argTypes := #[tt, tt] }, t, p, af, g⟩).run c.P w = .ok (.value (.slice b.1 m b.2)) w' ∧ M c (.row (.slice b.1 m b.2) e sz m ls.flatten :: H) K w' := by
  intro w hM
  have hM1 := hM.nilRow e sz
  obtain ⟨D, _, hsl⟩ := hM.sl hk
  have hls : ∀ l ∈ ls, l.length = sz := fun l hl => (hsl.2.2.2.1 l hl).1
  have h1 : one ls.flatten = true := flat_one fun l hl => (hsl.2.2.2.1 l hl).2
  have hm : ls.flatten.length = m * sz := by rw [flat_length hls, hsl.1]
  obtain ⟨i0, hi0, hzz⟩ := Option.map_eq_some_iff.1 hinfo
  simp only [Prod.mk.injEq] at hzz
  obtain ⟨hz0, hz1, hz2⟩ := hzz
  have hown : w.ownsRow c.w0.heap.size e sz (.slice none 0 0) 0 [] := hM1.get (i := 0) rfl
  have hexec : ∀ v' w', (Builtin.append_ #[tt, tt] t #[.slice none 0 0, .slice A m cp]).run c.P w = .ok v' w' → (execOp (ev σ) ⟨d, .call { callee := .builtin .append, args := #[s, x], argTypes := #[tt, tt] }, t, p, af, g⟩).run c.P w = .ok (.value v') w' := by
    intro v' w' hrun
    simp only [execOp, resolve, invoke, builtin, Sem.run_bind, Sem.run_pure, Result.andThen_ok, List.map_toArray, List.map_cons, List.map_nil, hs, hx, hrun]
  cases A with
  | none =>
    have h0 : m = 0 := by
      rcases Nat.eq_zero_or_pos m with h0 | h0
      · exact h0
      · obtain ⟨b, off, hA, _⟩ := hsl.flatCells hsz h0
        cases hA
    subst h0
    have : ls.flatten = [] := List.length_eq_zero_iff.1 (by rw [hm, Nat.zero_mul])
    exact ⟨(none, 0), w, hexec _ _ (run_append_nothing ht hi0 hown), by rw [this]; exact hM1⟩
  | some A0 =>
    have hcell : ∀ j u, ls.flatten[j]? = some u → w.cell? (A0.add j) = some u := by
      intro j u hj
      rcases Nat.eq_zero_or_pos m with h0 | h0
      · have := (List.getElem?_eq_some_iff.1 hj).1
        rw [hm, h0, Nat.zero_mul] at this; omega
      · obtain ⟨b, off, hA, hc⟩ := hsl.flatCells hsz h0
        obtain rfl := Option.some.inj hA
        rw [add0]; exact hc j u hj
    obtain ⟨v', w', hrun, hown', hg, _, hat⟩ := run_append_own_at (P := c.P) w c.w0.heap.size tt t e i0 z sz bytes ht hi0 hz0 hz1 hz2 hz hsz _ 0 [] hown A0 m cp ls.flatten hm hcell (fun u hu => List.all_eq_true.1 h1 u hu) (by omega) (by rw [Nat.zero_add]; exact hby) hM.size
    rw [Nat.zero_add, List.nil_append] at hown'
    obtain ⟨A', cap, rfl⟩ : ∃ A cap, v' = .slice A m cap := by
      rcases hown'.2 with ⟨rfl, h0⟩ | ⟨gg, cap, cur, rfl, _⟩
      · exact ⟨none, 0, by rw [h0]⟩
      · exact ⟨_, cap, rfl⟩
    refine ⟨(A', cap), w', hexec _ _ hrun, ?_⟩
    exact hM1.change 0 rfl hg hown' (by rcases hat with hat | hat; exact .inl hat; exact .inr (.inr ⟨_, hat, Nat.le_refl _⟩))
/-- Facts that follow, in place of those that are known. -/
theorem M.refact {w : World} {K' : List Fact} (hm : M c H K w) (hs : KStable K') (hf : ∀ D : Nat → Prop, KAll K D w → KAll K' D w) : M c H K' w := by
  obtain ⟨D, d1, d2, d3, d4, d5⟩ := hm.data
  exact ⟨hm.os, hm.tape, hm.output, hm.size, hm.frame, hm.holds, hm.mine, hm.nodup, hs, D, d1, d2, d3, d4, hf D d5⟩
end

/-! ### Structs' literals, part behind part -/
theorem fill_cat {place : Nat → Option (Nat × Nat)} {pre z vs : List Value} {i o s : Nat} {v : Value} {rest : List (Nat × Value)} {out : Option (Array Value)} (hp : place i = some (o, s)) (ho : pre.length = o) (hv : v.cells = vs.toArray) (hs : vs.length = s) (hz : s ≤ z.length)
    (h : Instr.fill place ((pre ++ vs) ++ z.drop s).toArray rest = out) : Instr.fill place (pre ++ z).toArray ((i, v) :: rest) = out := by
  subst ho hs
  refine fill_step hp hv rfl (by rw [List.length_append]; omega) ?_ h
  rw [List.take_left, List.drop_append, List.drop_of_length_le (by omega), List.nil_append]
  congr 2; omega
theorem fill_end {place : Nat → Option (Nat × Nat)} {pre z cs : List Value} (hz : z.length = 0) (hc : pre = cs) : Instr.fill place (pre ++ z).toArray [] = some cs.toArray := by
  rw [List.length_eq_zero_iff.1 hz, List.append_nil, hc]; rfl
theorem bldT {c : Cx} {σ : Env} {H : List Res} {K : List Fact} {d : Option Tmp} {t : TypeId} {p : String} {af : Array Edge} {g : Option (Nat × Bool)} {tt : TypeId} {parts : Array (Nat × Operand)} {ps : List (Nat × Value)} {fs : Array Field} {pl : Array (Nat × Nat)} {z cs : List Value} (hz : (c.P.info? tt).map (·.zero) = some (some (ag z))) (ht : c.P.underlying tt = some (.struct fs))
    (hpl : ∀ w, (fs.mapM (fun f => do Pure.pure (f.offset, ← sizeOf f.type) : Field → Sem (Nat × Nat))).run c.P w = .ok pl w) (hps : (parts.toList.map fun (i, x) => (i, ev σ x)) = ps) (hf : Instr.fill (pl[·]?) ([] ++ z).toArray ps = some cs.toArray) :
    Det c σ H K ⟨d, .build tt parts, t, p, af, g⟩ (ag cs) :=
  bldS hz ht hpl (by rw [← hps]; simp) hf

/-! ### Headers -/
set_option maxRecDepth 20000 in
theorem eqHd (x y : Hd) (hx : x.ok) (hy : y.ok) (w : World) : (Op.equalIn 10000 T_api_Header (ag x.c) (ag y.c)).run PP w = .ok (decide (x = y)) w := by
  have ex1 := run_partA g_api_Hash x.c 1 w
  have ey1 := run_partA g_api_Hash y.c 1 w
  have ex2 := run_partA g_api_Hash x.c 33 w
  have ey2 := run_partA g_api_Hash y.c 33 w
  rw [show (x.c.drop 1).take 32 = b8 x.l from Hd.at_l hx] at ex1
  rw [show (y.c.drop 1).take 32 = b8 y.l from Hd.at_l hy] at ey1
  rw [show (x.c.drop 33).take 32 = b8 x.t from Hd.at_t hx] at ex2
  rw [show (y.c.drop 33).take 32 = b8 y.t from Hd.at_t hy] at ey2
  have e := eqStruct (d := 9999) (xs := x.c.toArray) (ys := y.c.toArray) u_api_Header (by kernel_rfl) (eqF (d := 9999) rfl (run_part1 o_uint32 (v := .int .u32 x.h) rfl w) (run_part1 o_uint32 (v := .int .u32 y.h) rfl w) (eqInt u_uint32)
    (eqF rfl ex1 ey1 (eqHash u_api_Hash u_uint8 s_uint8 9997 x.l y.l hx.1 hy.1 w)
    (eqF rfl ex2 ey2 (eqHash u_api_Hash u_uint8 s_uint8 9997 x.t y.t hx.2 hy.2 w)
    (eqF rfl (run_part1 o_uint64 (v := .int .u64 x.n) (show x.c[65]? = _ by have := Hd.at_n hx; simpa using this) w) (run_part1 o_uint64 (v := .int .u64 y.n) (show y.c[65]? = _ by have := Hd.at_n hy; simpa using this) w) (eqInt u_uint64) eqF0))))
  rw [e]
  congr 1
  cases x; cases y
  simp only [Hd.mk.injEq, Bool.and_true, Bool.decide_and]

/-! ### Make, Check -/
theorem bldHd {c : Cx} {σ : Env} {H : List Res} {K : List Fact} {d : Option Tmp} {t : TypeId} {p : String} {af : Array Edge} {g : Option (Nat × Bool)} {parts : Array (Nat × Operand)} (hc : c.P = PP) (x : Hd) (hx : x.ok)
    (hps : (parts.toList.map fun (i, x) => (i, ev σ x)) = [(0, .int .u32 x.h), (1, ag (b8 x.l)), (2, ag (b8 x.t)), (3, .int .u64 x.n)]) :
    Det c σ H K ⟨d, .build T_api_Header parts, t, p, af, g⟩ (ag x.c) := by
  refine bldT (pl := _) (by rw [hc]; exact z_api_Header) (by rw [hc]; exact u_api_Header) (fun w => by rw [hc]; exact run_placesS PP w (by kernel_rfl)) hps ?_
  refine fill_cat (o := 0) (s := 1) (vs := [.int .u32 x.h]) (by kernel_rfl) rfl rfl rfl (by simp) ?_
  refine fill_cat (o := 1) (s := 32) (vs := b8 x.l) (by kernel_rfl) rfl rfl (by rw [b8_length, hx.1]) (by simp) ?_
  refine fill_cat (o := 33) (s := 32) (vs := b8 x.t) (by kernel_rfl) (by simp [b8_length, hx.1]) rfl (by rw [b8_length, hx.2]) (by simp) ?_
  refine fill_cat (o := 65) (s := 1) (vs := [.int .u64 x.n]) (by kernel_rfl) (by simp [b8_length, hx.1, hx.2]) rfl rfl (by simp) ?_
  exact fill_end (by simp) (by simp [Hd.c])

def mkH (h n : Int) (v t : List (List UInt8)) : Hd := ⟨h, linkR v, txsR t, n⟩
theorem mkH_ok (h n : Int) (v t : List (List UInt8)) : (mkH h n v t).ok := ⟨rootF_length _, rootF_length _⟩
theorem block_Make_ (h nn : Int) (v t : List (List UInt8)) (hn : v.length ≤ 100000) (hv : ∀ y ∈ v, y.length = 32) (htn : t.length ≤ 100000) (htx : ∀ x ∈ t, x.length ≤ 100000000) (A B : Option Addr) (cap q : Nat) (D : Nat → Prop) (w : World) (hD : ∀ k, D k → k < w.heap.size) (hs : Sl 32 A v.length cap (hl v) D w) (hs2 : Sl 1 B t.length q (tl t) D w) :
    Calls PP N_block_Make #[.int .u32 h, .slice A v.length cap, .slice B t.length q, .int .u64 nn] w (fun e w' => ∃ s, e = .returned (ag ((mkH h nn v t).c ++ [s])) ∧ Below w.heap.size w w') := by
  have hok := mkH_ok h nn v t
  refine enter f_block_Make rfl n_block_Make rfl (M.init PP w D [] [Sl 32 A v.length cap (hl v), Sl 1 B t.length q (tl t)] ⟨Sl.stable, Sl.stable, trivial⟩ hD ⟨hs, hs2, trivial⟩) ?_
  refine seq (region (alloc z_api_Block rfl rfl fun b0 => nilS ?_))   -- region 0
  refine seq (region (det rfl (mv rfl) (det rfl (mv rfl) (call k_link_Root rfl rfl (fun w hm => by
    obtain ⟨D, hD, hs⟩ := hm.sl (k := 0) rfl
    exact link_Root_ v hn hv A cap D w hD hs) (det rfl (mv rfl) (call k_txs_Root rfl rfl (fun w hm => by
    obtain ⟨D, hD, hs⟩ := hm.sl (k := 1) rfl
    exact txs_Root_ t htn htx B q D w hD hs) (det rfl (mv rfl) (det rfl (bldHd rfl (mkH h nn v t) hok rfl) (alloc z_api_Header rfl rfl fun b1 => stoA 0 rfl rfl rfl s_api_Header (Hd.c_length hok) (Hd.c_one _) rfl (nilS ?_))))))))))   -- region 1
  refine seq (draw (m := 3) mix (by kernel_rfl) (take 0 rfl (by kernel_rfl) rfl (ldAll 0 rfl rfl g_api_Header (Hd.c_length hok)) (take 1 rfl (by kernel_rfl) rfl (mv rfl) (onlyE (β := Option Addr × Nat) (fun b => .slice b.1 t.length b.2) (fun b => .row (.slice b.1 t.length b.2) T_string 1 t.length (tl t).flatten :: _) (fun _ => _) 2 rfl (by kernel_rfl) rfl rfl (run_appNil 1 u_sl_string i_string rfl (by decide) rfl rfl rfl (by simp only [maxLen]; omega) (by omega)) (fun _ _ => drop1) fun b => (tail (by kernel_rfl) rfl (det rfl (bldT z_api_Block u_api_Block (fun w => run_placesS PP w (by kernel_rfl)) rfl (fill_cat (o := 0) (s := 66) (vs := (mkH h nn v t).c) (by kernel_rfl) rfl rfl (Hd.c_length hok) (by simp) (fill_cat (o := 66) (s := 1) (by kernel_rfl) (Hd.c_length hok) rfl rfl (by simp) (fill_end (by simp) rfl)))) (stoA 2 rfl rfl rfl s_api_Block (by rw [List.nil_append, List.length_append, Hd.c_length hok]; rfl) (by rw [List.nil_append, one_append, Hd.c_one]; rfl) rfl (nilS ?_))))))))   -- region 2
  refine ret (retC 2 rfl rfl rfl ?_ fun w hm => ⟨_, rfl, hm.below rfl⟩)
  rw [List.nil_append, List.length_append, Hd.c_length hok]; exact g_api_Block

/-- What is wrong with a block of a height and a vector. -/
def checkB (b : Bl) (h : Int) (v : List (List UInt8)) : Int := if b.h.h ≠ h then 8 else if mayF b.t ≠ 0 then mayF b.t else if mkH h b.h.n v b.t ≠ b.h then 12 else 0
theorem Bl.at_height {b : Bl} : b.c[0 + 0 + 0]? = some (.int .u32 b.h.h) := rfl
theorem Bl.at_nonce {b : Bl} (hb : b.h.ok) : b.c[0 + 0 + 65]? = some (.int .u64 b.h.n) := by
  rw [Bl.c, List.getElem?_append_left (by rw [Hd.c_length hb]; decide)]
  exact Hd.at_n hb
theorem Bl.hd {b : Bl} (hb : b.h.ok) (s : Value) (x : Hd) (hx : x.ok) : ((x.c ++ [s]).drop 0).take 66 = x.c := by
  rw [List.drop_zero, List.take_append_of_le_length (by rw [Hd.c_length hx]; decide), List.take_of_length_le (by rw [Hd.c_length hx]; decide)]
theorem block_Check_ (b : Bl) (hb : b.h.ok) (z : Int) (v : List (List UInt8)) (hn : v.length ≤ 100000) (hv : ∀ y ∈ v, y.length = 32) (htn : b.t.length ≤ 100000) (htx : ∀ x ∈ b.t, x.length ≤ 100000000) (A : Option Addr) (cap : Nat) (D : Nat → Prop) (w : World) (hD : ∀ k, D k → k < w.heap.size) (hs : Sl 32 A v.length cap (hl v) D w) (hs2 : Sl 1 b.A b.t.length b.cap (tl b.t) D w) :
    Calls PP N_block_Check #[ag b.c, .int .u32 z, .slice A v.length cap] w (PR w (.int .i64 (checkB b z v))) := by
  have hok := mkH_ok z b.h.n v b.t
  have hg : PP.eqGuardType PP.depth T_api_Header = false := by kernel_rfl
  refine enter f_block_Check rfl n_block_Check rfl (M.init PP w D [] [Sl 32 A v.length cap (hl v), Sl 1 b.A b.t.length b.cap (tl b.t)] ⟨Sl.stable, Sl.stable, trivial⟩ hD ⟨hs, hs2, trivial⟩) ?_
  refine seq (region (box rfl rfl rfl fun b0 => det rfl (asg rfl) (nilS ?_)))   -- region 0
  refine seq ?_
  refine seq (region (det rfl (fadr rfl u_api_Block rfl s_api_Header) (det rfl (fadr rfl u_api_Header rfl s_uint32) (det rfl (ldB 0 rfl rfl o_uint32 Bl.at_height) (det rfl (mv rfl) (det rfl (neq rfl rfl) (nilS ?_)))))))   -- region 1
  refine cond rfl (fun h => ?_) (fun h => ?_)   -- on t12
  · have h : b.h.h ≠ z := by simpa using h
    refine seq (region (det rfl (asg rfl) (nilS ?_)))   -- region 2
    exact ret (retT rfl rfl (pr' (vi (by rw [checkB, if_pos (by omega)]))))
  · have h1 : b.h.h = z := by simpa using h
    refine skipS ?_
    refine seq ?_
    refine seq (region (det rfl (fadr rfl u_api_Block rfl s_sl_string) (det rfl (Det.to (ldB 0 rfl rfl o_sl_string (Bl.at_s hb)) (v' := .slice b.A b.t.length b.cap) rfl) (call k_txs_May rfl rfl (fun w hm => by
      obtain ⟨D, hD, hs⟩ := hm.sl (k := 1) rfl
      exact txs_May_ b.t htn b.A b.cap D w hD hs) (det rfl (asg rfl) (nilS ?_))))))   -- region 3
    refine seq (region (det rfl (mv rfl) (det rfl (neq rfl rfl) (nilS ?_))))   -- region 4
    refine cond rfl (fun h => ?_) (fun h => ?_)   -- on t17
    · have h : mayF b.t ≠ 0 := by simpa using h
      refine seq (region (det rfl (mv rfl) (det rfl (asg rfl) (nilS ?_))))   -- region 5
      exact ret (retT rfl rfl (pr' (vi (by rw [checkB, if_neg (by omega), if_pos (by omega)]))))
    · have h2 : mayF b.t = 0 := by simpa using h
      refine skipS ?_
      refine seq ?_
      refine seq (draw (m := 12) mix (by kernel_rfl) (take 0 rfl (by kernel_rfl) rfl (mv rfl) (take 1 rfl (by kernel_rfl) rfl (mv rfl) (take 2 rfl (by kernel_rfl) rfl (fadr rfl u_api_Block rfl s_sl_string) (take 3 rfl (by kernel_rfl) rfl (Det.to (ldB 0 rfl rfl o_sl_string (Bl.at_s hb)) (v' := .slice b.A b.t.length b.cap) rfl) (take 4 rfl (by kernel_rfl) rfl (fadr rfl u_api_Block rfl s_api_Header) (take 5 rfl (by kernel_rfl) rfl (fadr rfl u_api_Header rfl s_uint64) (take 6 rfl (by kernel_rfl) rfl (ldB 0 rfl rfl o_uint64 (Bl.at_nonce hb)) (take 9 rfl (by kernel_rfl) rfl (fadr rfl u_api_Block rfl s_api_Header) (take 10 rfl (by kernel_rfl) rfl (ldA 0 rfl rfl g_api_Header (Bl.at_h hb) (Hd.c_length hb)) (onlyC (β := Value) (fun s => ag ((mkH z b.h.n v b.t).c ++ [s])) (fun _ => _) (fun _ => _) 7 rfl (by kernel_rfl) rfl k_block_Make rfl rfl (fun w hm => by
        obtain ⟨D, d1, d2, hD, d4, d5⟩ := hm.data
        exact (block_Make_ z b.h.n v b.t hn hv htn htx A b.A cap b.cap D w hD d5.1 d5.2.1).mono fun e w' ⟨s, he, hb⟩ => ⟨s, he, hm.pure (grown_below hb)⟩) (fun _ _ hm => hm) fun s => (take 8 rfl (by kernel_rfl) rfl (fldA rfl u_api_Block rfl g_api_Header (Bl.hd hb s _ hok)) (take 11 rfl (by kernel_rfl) rfl (neqA rfl rfl hg (eqHd _ _ hok hb)) ((tail (by kernel_rfl) rfl (nilS ?_))))))))))))))))   -- region 6
      refine cond rfl (fun h => ?_) (fun h => ?_)   -- on t30
      · have h : mkH z b.h.n v b.t ≠ b.h := by simpa using h
        refine seq (region (det rfl (asg rfl) (nilS ?_)))   -- region 7
        exact ret (retT rfl rfl (pr' (vi (by rw [checkB, if_neg (by omega), if_neg (by omega), if_pos h]))))
      · have h : mkH z b.h.n v b.t = b.h := by simpa using h
        refine skipS ?_
        refine seq (region (det rfl (asg rfl) (nilS ?_)))   -- region 8
        exact ret (retT rfl rfl (pr' (vi (by rw [checkB, if_neg (by omega), if_neg (by omega), if_neg (fun hc => hc h)]))))
end Go.Proofs.YtmcapgjdflohfaaGreat.L
