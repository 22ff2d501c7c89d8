/- The law NearVectors: the walk. -/
import Derived.Test.YtigcichdigkemaaPChain
set_option linter.all false
namespace Go.Proofs.Ytigcichdigkemaa.L
open Go Go.RowKit
set_option linter.unusedVariables false

section
variable {c : Cx} {n : Nat} {Q : Exit → Env → World → Prop} {σ : Env} {H : List Res} {K : List Fact}
variable {t : TypeId} {p : String} {af : Array Edge}
/-- Facts that follow, in place of those that are known. -/
theorem refactT {x : Code} {K' : List Fact} (hs : KStable K') (hf : ∀ (D : Nat → Prop) w, KAll K D w → KAll K' D w) (h : Tr c n x Q σ H K') : Tr c n x Q σ H K :=
  fun w hm => h w (hm.refact hs fun D hD => hf D w hD)
theorem callS' {ops : Array Oper} {d : Nat} {f : FuncId} {args : Array Operand} {ats : Array TypeId} {vs : List Value} {l : List Oper} {sz m : Nat} {ls : List (List Value)} (hm : ls.length = m) (hf : Fn c.P f) (ha : args.toList.map (ev σ) = vs) (hd : Nat.blt d n = true)
    (spec : ∀ w, M c H K w → Calls c.P f vs.toArray w (RS w sz ls)) (h : ∀ A cap, TL c n ops l Q (upd σ d (.slice A m cap)) H (Sl sz A m cap ls :: K)) :
    TL c n ops (⟨some d, .call { callee := .value (.func f), args := args, argTypes := ats }, t, p, af, none⟩ :: l) Q σ H K := by
  subst hm; exact callS hf ha hd spec h
/-- The only one in a drawn region: a call that hands back a slice; a slice of slices. -/
theorem onlyS [NoP Q] {ops : Array Oper} {m f : Nat} {listed : Array Bool} (i : Nat) {d : Nat} {fid : FuncId} {args : Array Operand} {ats : Array TypeId} {vs : List Value} {t : TypeId} {p : String} {af : Array Edge} {sz k : Nat} {ls : List (List Value)} (hk : ls.length = k)
    (hi : ops[i]? = some ⟨some d, .call { callee := .value (.func fid), args := args, argTypes := ats }, t, p, af, none⟩)
    (hr1 : Region.ready .any ops listed = [i]) (him : Nat.blt i m = true) (hf : Fn c.P fid) (ha : args.toList.map (ev σ) = vs) (hd : Nat.blt d n = true)
    (spec : ∀ w, M c H K w → Calls c.P fid vs.toArray w (RS w sz ls))
    (h : ∀ A cap, HD c n ops Q m f (listed.setIfInBounds i true) (upd σ d (.slice A k cap)) H (Sl sz A k cap ls :: K)) : HD c n ops Q m (f + 1) listed σ H K := by
  subst hk
  exact onlyC (β := Option Addr × Nat) (fun p => .slice p.1 ls.length p.2) (fun _ => H) (fun p => Sl sz p.1 ls.length p.2 ls :: K) i hi hr1 him hf ha hd
    (fun w hm => (spec w hm).mono fun e w' ⟨A, cap, he, hb, hs⟩ => ⟨(A, cap), he, hm.learn Sl.stable (grown_below hb) (fun D _ => hs.mono fun k hk => .inr hk)⟩)
    (fun _ _ hm => hm.more) (fun p => h p.1 p.2)
theorem onlyV [NoP Q] {ops : Array Oper} {m f : Nat} {listed : Array Bool} (i : Nat) {d : Nat} {fid : FuncId} {args : Array Operand} {ats : Array TypeId} {vs : List Value} {t : TypeId} {p : String} {af : Array Edge} {k : Nat} {ls : List (List (List UInt8))} (hk : ls.length = k)
    (hi : ops[i]? = some ⟨some d, .call { callee := .value (.func fid), args := args, argTypes := ats }, t, p, af, none⟩)
    (hr1 : Region.ready .any ops listed = [i]) (him : Nat.blt i m = true) (hf : Fn c.P fid) (ha : args.toList.map (ev σ) = vs) (hd : Nat.blt d n = true)
    (spec : ∀ w, M c H K w → Calls c.P fid vs.toArray w (RV w ls))
    (h : ∀ A cap (L : {L : List Vc // L.map Vc.xs = ls}), HD c n ops Q m f (listed.setIfInBounds i true) (upd σ d (.slice A k cap)) H (VV A k cap L.1 :: K)) : HD c n ops Q m (f + 1) listed σ H K := by
  subst hk
  exact onlyC (β := Option Addr × Nat × {L : List Vc // L.map Vc.xs = ls}) (fun p => .slice p.1 ls.length p.2.1) (fun _ => H) (fun p => VV p.1 ls.length p.2.1 p.2.2.1 :: K) i hi hr1 him hf ha hd
    (fun w hm => (spec w hm).mono fun e w' ⟨A, cap, L, hL, he, hb, hs⟩ => ⟨(A, cap, ⟨L, hL⟩), he, hm.learn VV.stable (grown_below hb) (fun D _ => VV.stable _ _ _ _ (fun k hk => .inr hk) (fun _ _ _ => rfl) hs)⟩)
    (fun _ _ hm => hm.more) (fun p => h p.1 p.2.1 p.2.2)
end

theorem il_flat (xs : List Int) : (il xs).flatten = xs.map fun x => .int .i64 x := by
  induction xs with
  | nil => rfl
  | cons x r ih => simp only [il, List.map_cons, List.flatten_cons] at *; rw [ih]; rfl
theorem lit_sl {w : World} {b : Nat} {e : TypeId} {xs : List Int} {n : Nat} (h : w.heap[b]? = some (ob (xs.map fun x => .int .i64 x) e)) (hn : xs.length = n) (hm : n ≤ maxLen) : Sl 1 (some ⟨b, 0, none⟩) n n (il xs) (fun k => k = b) w :=
  blk_sl (by rw [il_flat]; exact h) (il_ok xs) (by rw [il_length, hn]) hm

theorem awake26_ : Pure PP N_milepostlaw26_awake #[] (.bool true) := by
  refine enter0 f_milepostlaw26_awake rfl n_milepostlaw26_awake rfl fun w => ?_
  refine seq (region (det rfl (asg rfl) (nilS ?_)))   -- region 0
  refine seq (region (bsl rfl (bsm u_sl_int z_int s_int (xs := [256, 0, 2, 0].map fun x => .int .i64 x) rfl rfl rfl (by decide) (by decide)) fun b0 => callS' (m := 4) (sz := 1) (ls := il [3, 2, 2, 0]) rfl k_near_All rfl rfl (fun w hm => by
    have := near_All_ [256, 0, 2, 0] (by decide) 4 (some ⟨b0, 0, none⟩) 4 (fun k => k = b0) w (fun k hk => by rw [hk]; exact lt_heap (hm.blk 0 rfl)) (lit_sl (hm.blk 0 rfl) rfl (by simp [maxLen]))
    rw [show Mp.all [256, 0, 2, 0] 4 = [3, 2, 2, 0] by decide] at this
    exact this) fun B q => (bsl rfl (bsm u_sl_int z_int s_int (xs := [3, 2, 2, 0].map fun x => .int .i64 x) rfl rfl rfl (by decide) (by decide)) fun b1 => call k_milepostref22_Same rfl rfl (fun w hm => by
    obtain ⟨D, hD, hs⟩ := hm.sl (k := 0) rfl
    exact same22_ [3, 2, 2, 0] [3, 2, 2, 0] (by decide) B (some ⟨b1, 0, none⟩) q 4 (fun k => D k ∨ k = b1) w (fun k hk => by rcases hk with hk | hk; exact hD k hk; rw [hk]; exact lt_heap (hm.blk 0 rfl)) (hs.mono fun k hk => .inl hk) ((lit_sl (hm.blk 0 rfl) rfl (by simp [maxLen])).mono fun k hk => .inr hk)) (det rfl (asg rfl) (nilS ?_)))))   -- region 1
  exact ret (retT rfl rfl (pr' (vb (by decide))))

theorem Bok_of_much {l : List Bl} (h : much24 l = false) (hl1 : ∀ b ∈ l, b.h.ok) : ∀ b ∈ l, Bok b := fun b hb => by
  have := much22_false ((much24_false h).2 b hb)
  exact ⟨hl1 b hb, by omega, fun x hx => by have := this.2 x hx; omega⟩
theorem eqH (a b : List UInt8) (ha : a.length = 32) (hb : b.length = 32) (w : World) : (Op.equalIn 10000 T_api_Hash (ag (b8 a)) (ag (b8 b))).run PP w = .ok (decide (a = b)) w :=
  eqHash u_api_Hash u_uint8 s_uint8 9998 a b ha hb w
theorem idsA_ok (l : List Bl) : ∀ y ∈ idsA l, y.length = 32 := fun y hy => by obtain ⟨b, _, rfl⟩ := List.mem_map.1 hy; exact idL_length _

theorem nearVectors_ (c : Cf) (hc : c.ok) (l : List Bl) (hl1 : ∀ b ∈ l, b.h.ok) (hx : ∀ b ∈ l, ∀ x ∈ b.t, x.length ≤ 140737488355328) (A : Option Addr) (cap : Nat) (D : Nat → Prop) (w : World) (hD : ∀ k, D k → k < w.heap.size) (hs : Sl 67 A l.length cap (bl l) D w) (hts : Txs l D w) :
    Calls PP N_milepostlaw26_NearVectors #[ag c.c, .slice A l.length cap] w (PR w (.bool true)) := by
  have hg : PP.eqGuardType PP.depth T_api_Hash = false := by kernel_rfl
  refine enter f_milepostlaw26_NearVectors rfl n_milepostlaw26_NearVectors rfl (M.init PP w D [] [Sl 67 A l.length cap (bl l), Txs l] ⟨Sl.stable, Txs.stable, trivial⟩ hD ⟨hs, hts, trivial⟩) ?_
  refine seq (region (box rfl rfl rfl fun b0 => det rfl (asg rfl) (nilS ?_)))   -- region 0
  refine seq ?_
  have hsp : ∀ w', M ⟨PP, w, D, []⟩ [.blk b0 (ob c.c T_api_Config)] [Sl 67 A l.length cap (bl l), Txs l] w' → Calls PP N_milepostlaw24_Much #[.slice A l.length cap] w' (PR w' (.bool (much24 l))) := fun w hm => by
    obtain ⟨D, d1, d2, hD, d4, d5⟩ := hm.data
    exact much24_ l hl1 hx A cap D w hD d5.1 d5.2.1
  refine seq (region (det rfl (mv rfl) (call k_milepostlaw24_Much rfl rfl hsp (det rfl (mv rfl) ?_))))
  cases hmu : much24 l with
  | true =>
    repeat (first | refine guardF rfl (vb rfl) rfl ?_ | refine guardU rfl rfl rfl ?_)
    refine det rfl (pick rfl rfl) (nilS ?_)
    refine condT rfl ?_
    refine seq (region (call k_milepostlaw26_awake rfl rfl (fun w _ => awake26_ w) (det rfl (asg rfl) (nilS ?_))))   -- region 2
    exact ret (retT rfl rfl pr)
  | false =>
    have hbo := Bok_of_much hmu hl1
    have h24 := (much24_false hmu).1
    refine guardT rfl rfl (det rfl (ldAll 0 rfl rfl g_api_Config (Cf.c_length hc)) (guardT rfl rfl (det rfl (mv rfl) (guardT rfl rfl (call k_chain_Check rfl rfl (fun w hm => by
      obtain ⟨D, d1, d2, hD, d4, d5⟩ := hm.data
      exact chain_Check_ c hc l hbo (by omega) A cap D w hD d5.1 d5.2.1) (guardT rfl rfl (det rfl (fldO (v := .int .i64 (chkF c l).1) rfl u_api_Fault rfl o_api_Errno rfl) (guardT rfl rfl (det rfl (neq rfl rfl) (det rfl (pick rfl rfl) (nilS ?_)))))))))))   -- region 1
    refine cond rfl (fun h => ?_) (fun h => ?_)   -- on t19
    · refine seq (region (call k_milepostlaw26_awake rfl rfl (fun w _ => awake26_ w) (det rfl (asg rfl) (nilS ?_))))   -- region 2
      exact ret (retT rfl rfl pr)
    · have h : (chkF c l).1 = 0 := by simpa using h
      have hch := chk_chn h
      have hids : (hl (idsA l)).length = l.length := by rw [hl_length, idsA_length]
      have hlev : (il (levs c.t l)).length = l.length := by rw [il_length, levs_length]
      refine skipS ?_
      refine seq (draw (m := 13) mix (by kernel_rfl) (take 0 rfl (by kernel_rfl) rfl (mv rfl) (take 2 rfl (by kernel_rfl) rfl (fadr rfl u_api_Config rfl s_api_Hash) (take 3 rfl (by kernel_rfl) rfl (ldA 0 rfl rfl g_api_Hash (Cf.at_t' hc) (by rw [b8_length]; exact hc.2)) (take 4 rfl (by kernel_rfl) rfl (mv rfl) (take 6 rfl (by kernel_rfl) rfl (fadr rfl u_api_Config rfl s_api_Hash) (take 7 rfl (by kernel_rfl) rfl (ldA 0 rfl rfl g_api_Hash (Cf.at_t' hc) (by rw [b8_length]; exact hc.2)) (take 8 rfl (by kernel_rfl) rfl (mv rfl) (onlyS 1 (k := l.length) hids rfl (by kernel_rfl) rfl k_chain_Ids rfl rfl (fun w hm => by
        obtain ⟨D, hD, hs⟩ := hm.sl (k := 0) rfl
        exact chain_Ids_ l (by omega) hl1 A cap D w hD hs) fun Bi qi => (onlyS 5 (k := l.length) hlev rfl (by kernel_rfl) rfl k_chain_Levels rfl rfl (fun w hm => by
        obtain ⟨D, hD, hs⟩ := hm.sl (k := 1) rfl
        exact chain_Levels_ c.t hc.2 l (by omega) hl1 A cap D w hD hs) fun Bv qv => (onlyV 9 (k := l.length + 1) (vecsA_length _ _ _) rfl (by kernel_rfl) rfl k_chain_Vectors rfl rfl (fun w hm => by
        obtain ⟨D, hD, hs⟩ := hm.sl (k := 2) rfl
        exact chain_Vectors_ c.t hc.2 l (by omega) hl1 A cap D w hD hs) fun Bw qw Lx => (take 10 rfl (by kernel_rfl) rfl (asg rfl) (take 11 rfl (by kernel_rfl) rfl (asg rfl) (take 12 rfl (by kernel_rfl) rfl (asg rfl) ((tail (by kernel_rfl) rfl (nilS ?_)))))))))))))))))   -- region 3
      obtain ⟨L, hL⟩ : ∃ L, L = Lx.1 := ⟨_, rfl⟩
      have hLm := Lx.2
      rw [← hL] at hLm ⊢
      have hL := hLm
      have hLl : L.length = l.length + 1 := by rw [← List.length_map (f := Vc.xs), hL, vecsA_length]
      refine refactT (K' := [Sl 32 Bi l.length qi (hl (idsA l)), Sl 1 Bv l.length qv (il (levs c.t l)), Sl 1 Bw (l.length + 1) qw (vl L), Vs L]) ⟨Sl.stable, Sl.stable, Sl.stable, Vs.stable, trivial⟩ (fun D w h => ⟨h.2.2.1, h.2.1, h.1.1, h.1.2, trivial⟩) ?_
      refine seq ?_
      refine seq (region (det rfl (mv rfl) (det rfl (lenS u_sl_api_Hash rfl) (det rfl (mv rfl) (det rfl (lenS u_sl_api_Block rfl) (det rfl (neq rfl rfl) (det rfl (mv rfl) (guardI rfl rfl rfl (fun _ => mv rfl) (guardI rfl rfl rfl (fun hb => lenS u_sl_int (bift hb rfl)) (guardI rfl rfl rfl (fun hb => mv rfl) (guardI rfl rfl rfl (fun hb => lenS u_sl_api_Block (bift hb rfl)) (guardI rfl rfl rfl (fun hb => neq (bift hb rfl) (bift hb rfl)) (det rfl (pick rfl (pickO rfl)) (det rfl (mv rfl) (guardI rfl rfl rfl (fun _ => mv rfl) (guardI rfl rfl rfl (fun hb => lenS u_sl_sl_api_Hash (bift hb rfl)) (guardI rfl rfl rfl (fun _ => mv rfl) (guardI rfl rfl rfl (fun hb => lenS u_sl_api_Block (bift hb rfl)) (guardI rfl rfl rfl (fun hb => addI (bift hb rfl) rfl (by omega) (by omega)) (guardI rfl rfl rfl (fun hb => neq (bift hb rfl) (bift hb rfl)) (det rfl (pick rfl (pickO rfl)) (nilS ?_))))))))))))))))))))))   -- region 4
      refine condF (show _ = Value.bool false from vb (by simp)) ?_
      refine skipS ?_
      refine seq ?_
      refine seq (region (det rfl (asg rfl) (nilS ?_)))   -- region 6
      refine block ?_   -- block 0
      refine loopV (ι := Nat) (fun k => k ≤ l.length + 1) (fun k => [(1, .slice A l.length cap), (5, .slice Bi l.length qi), (6, .slice Bv l.length qv), (7, .slice Bw (l.length + 1) qw), (8, .int .i64 k)]) (fun _ => []) (fun _ => [Sl 32 Bi l.length qi (hl (idsA l)), Sl 1 Bv l.length qv (il (levs c.t l)), Sl 1 Bw (l.length + 1) qw (vl L), Vs L]) (fun k => l.length + 1 - k) 0 (by omega) ⟨rfl, rfl, rfl, rfl, rfl, trivial⟩ (fun w hm => drop1 hm) ?_
      intro k σ hk
      refine seq ?_
      refine seq (region (det rfl (mv rfl) (det rfl (mv rfl) (det rfl (lenS u_sl_api_Block rfl) (det rfl (leq rfl rfl) (nilS ?_))))))   -- region 7
      refine cond rfl (fun h => ?_) (fun h => ?_)   -- on t54
      · have h := of_decide_eq_true h
        have hk2 : k ≤ l.length := by omega
        obtain ⟨v, hv⟩ : ∃ v, L[k]? = some v := ⟨_, List.getElem?_eq_getElem (by omega)⟩
        have hvm : v ∈ L := List.mem_of_getElem? hv
        have hvx : v.xs = vecA c.t l k := by
          have : (L.map Vc.xs)[k]? = (vecsA c.t l l.length)[k]? := by rw [hL]
          rw [List.getElem?_map, hv, vecsA, List.getElem?_map, List.getElem?_range (by omega)] at this
          exact Option.some.inj this
        have hvok := vecA_ok c.t l k
        rw [← hvx] at hvok
        have hall := hch.vec hk2
        rw [← hvx] at hall
        obtain ⟨pl, hpl⟩ : ∃ pl, Mp.all (levs c.t l) k = pl := ⟨_, rfl⟩
        have hlt := Mp.all_lt (levs c.t l) k
        rw [hpl] at hall hlt
        have hlen : v.xs.length = pl.length := by rw [hall, List.length_map]
        have hat : (vl L)[k]? = some [.slice v.A pl.length v.cap] := by
          rw [vl, List.getElem?_map, hv]; simp only [Option.map_some, Vc.s, hlen]
        refine skipS ?_
        refine seq ?_
        refine block ?_   -- block 1
        refine seq (region (det rfl (mv rfl) (det rfl (mv rfl) (callS' (m := pl.length) (il_length _) k_near_All rfl rfl (fun w hm => by
          obtain ⟨D, hD, hs⟩ := hm.sl (k := 1) rfl
          have := near_All_ (levs c.t l) (by rw [levs_length]; omega) k Bv qv D w hD (by rw [levs_length]; exact hs)
          rw [hpl, levs_length] at this
          exact this) fun B9 q9 => (det rfl (asg rfl) (nilS ?_))))))   -- region 9
        refine refactT (K' := [Sl 32 Bi l.length qi (hl (idsA l)), Sl 1 Bv l.length qv (il (levs c.t l)), Sl 1 Bw (l.length + 1) qw (vl L), Vs L, Sl 1 B9 pl.length q9 (il pl), Sl 32 v.A pl.length v.cap (hl v.xs)]) ⟨Sl.stable, Sl.stable, Sl.stable, Vs.stable, Sl.stable, Sl.stable, trivial⟩ (fun D w h => ⟨h.2.1, h.2.2.1, h.2.2.2.1, h.2.2.2.2.1, h.1, by have := h.2.2.2.2.1 v hvm; rw [hlen] at this; exact this, trivial⟩) ?_
        refine seq ?_
        refine seq (region (det rfl (mv rfl) (det rfl (lenS u_sl_int rfl) (det rfl (mv rfl) (det rfl (mv rfl) (det rfl (ixS 2 rfl rfl u_sl_sl_api_Hash s_sl_api_Hash rfl (by omega) (by omega)) (det rfl (ldSO 2 (i := k) rfl rfl o_sl_api_Hash hat) (det rfl (lenS u_sl_api_Hash rfl) (det rfl (neq rfl rfl) (nilS ?_))))))))))   -- region 10
        refine condF (show _ = Value.bool false from vb (by simp)) ?_
        refine skipS ?_
        refine seq (region (det rfl (asg rfl) (nilS ?_)))   -- region 12
        refine block ?_   -- block 2
        refine loopV (ι := Nat) (fun j => j ≤ pl.length) (fun j => [(1, .slice A l.length cap), (5, .slice Bi l.length qi), (6, .slice Bv l.length qv), (7, .slice Bw (l.length + 1) qw), (8, .int .i64 k), (9, .slice B9 pl.length q9), (10, .int .i64 j)]) (fun _ => []) (fun _ => [Sl 32 Bi l.length qi (hl (idsA l)), Sl 1 Bv l.length qv (il (levs c.t l)), Sl 1 Bw (l.length + 1) qw (vl L), Vs L, Sl 1 B9 pl.length q9 (il pl), Sl 32 v.A pl.length v.cap (hl v.xs)]) (fun j => pl.length - j) 0 (by omega) ⟨rfl, rfl, rfl, rfl, rfl, rfl, rfl, trivial⟩ (fun w hm => hm) ?_
        intro j σ hj
        refine seq ?_
        refine seq (region (det rfl (mv rfl) (det rfl (mv rfl) (det rfl (lenS u_sl_int rfl) (det rfl (lss rfl rfl) (nilS ?_))))))   -- region 13
        refine cond rfl (fun h => ?_) (fun h => ?_)   -- on t71
        · have h := of_decide_eq_true h
          have hj2 : j < pl.length := by omega
          obtain ⟨pp, hp⟩ : ∃ pp, pl.getD j 0 = pp := ⟨_, rfl⟩
          have hpm : pp ∈ pl := by rw [← hp]; simp [hj2]
          have hpr := hlt pp hpm
          have hil : (il pl)[j]? = some [.int .i64 pp] := by rw [il_at (j := j) rfl hj2, hp]
          have hva : v.xs.getD j [] = (idsA l).getD pp.toNat [] := by
            rw [hall, List.getD_eq_getElem?_getD, List.getElem?_map]
            rw [List.getD_eq_getElem?_getD] at hp
            have : pl[j]? = some pp := by rw [List.getElem?_eq_getElem hj2] at hp ⊢; exact congrArg some hp
            rw [this]; rfl
          have h32 : (v.xs.getD j []).length = 32 := hvok.2 _ (getD_mem (by omega))
          have h32' : ((idsA l).getD pp.toNat []).length = 32 := by rw [← hva]; exact h32
          refine skipS ?_
          refine seq ?_
          refine block ?_   -- block 3
          refine seq (draw (m := 15) mix (by kernel_rfl) (take 0 rfl (by kernel_rfl) rfl (mv rfl) (take 1 rfl (by kernel_rfl) rfl (mv rfl) (take 2 rfl (by kernel_rfl) rfl (ixS 2 rfl rfl u_sl_sl_api_Hash s_sl_api_Hash rfl (by omega) (by omega)) (take 3 rfl (by kernel_rfl) rfl (ldSO 2 (i := k) rfl rfl o_sl_api_Hash hat) (take 4 rfl (by kernel_rfl) rfl (mv rfl) (take 5 rfl (by kernel_rfl) rfl (ixS 5 rfl rfl u_sl_api_Hash s_api_Hash rfl (by omega) (by omega)) (take 6 rfl (by kernel_rfl) rfl (ldSA 5 (i := j) rfl rfl g_api_Hash (hl_at (j := j) rfl (by omega))) (take 7 rfl (by kernel_rfl) rfl (mv rfl) (take 8 rfl (by kernel_rfl) rfl (mv rfl) (take 9 rfl (by kernel_rfl) rfl (mv rfl) (take 10 rfl (by kernel_rfl) rfl (ixS 4 rfl rfl u_sl_int s_int rfl (by omega) (by omega)) (take 11 rfl (by kernel_rfl) rfl (ldSO 4 (i := j) rfl rfl o_int hil) (take 12 rfl (by kernel_rfl) rfl (ixS 0 rfl rfl u_sl_api_Hash s_api_Hash rfl (by omega) (by omega)) (take 13 rfl (by kernel_rfl) rfl (ldSA 0 (i := pp.toNat) rfl rfl g_api_Hash (hl_at (j := pp.toNat) rfl (by rw [idsA_length]; omega))) (take 14 rfl (by kernel_rfl) rfl (neqA rfl rfl hg (eqH _ _ h32 h32')) ((tail (by kernel_rfl) rfl (nilS ?_)))))))))))))))))))   -- region 15
          refine condF (show _ = Value.bool false from vb (by rw [hva]; simp)) ?_
          refine skip ?_
          show Tr _ _ _ _ _ _ _
          refine region (det rfl (mv rfl) (det rfl (addI rfl rfl (by omega) (by omega)) (det rfl (asg rfl) (nil ?_))))   -- region 14
          refine again (j + 1) (by omega) ⟨rfl, rfl, rfl, rfl, rfl, rfl, rfl, trivial⟩ (fun w hm => hm) (by (first | omega | (dsimp only; omega)))
        · refine exit ?_   -- 2
          show Tr _ _ _ _ _ _ _
          refine region (det rfl (mv rfl) (det rfl (addI rfl rfl (by omega) (by omega)) (det rfl (asg rfl) (nil ?_))))   -- region 8
          refine again (k + 1) (by omega) ⟨rfl, rfl, rfl, rfl, rfl, trivial⟩ (fun w hm => hm.refact ⟨Sl.stable, Sl.stable, Sl.stable, Vs.stable, trivial⟩ fun D h => ⟨h.1, h.2.1, h.2.2.1, h.2.2.2.1, trivial⟩) (by (first | omega | (dsimp only; omega)))
      · refine exit ?_   -- 0
        show Tr _ _ _ _ _ _ _
        refine seq (region (call k_milepostlaw26_awake rfl rfl (fun w _ => awake26_ w) (det rfl (asg rfl) (nilS ?_))))   -- region 17
        exact ret (retT rfl rfl pr)
end Go.Proofs.Ytigcichdigkemaa.L
