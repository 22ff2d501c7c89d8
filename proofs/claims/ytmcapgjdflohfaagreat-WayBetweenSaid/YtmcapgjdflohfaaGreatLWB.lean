/- The law WayBetween: the walk. -/
import Derived.Test.YtmcapgjdflohfaaGreatBtw
set_option linter.all false
namespace Go.Proofs.YtmcapgjdflohfaaGreat.L
open Go Go.RowKit
set_option linter.unusedVariables false

/-- The results are a block and a slot. -/
theorem retCT {c : Cx} {n : Nat} {σ : Env} {H : List Res} {K : List Fact} {fn : Func} {R : Ending → World → Prop} {s ty u b : Nat} {e : TypeId} {l : List Value} {v : Value} (i : Nat) (hr : fn.results = #[.cell s ty, .tmp u]) (hv : σ s = .pointer (some ⟨b, 0, none⟩)) (hi : H[i]? = some (.blk b (ob l e))) (hu : isAg c.P ty l.length) (hv' : σ u = v)
    (h : ∀ w, M c H K w → R (.returned (.tuple #[ag l, v])) w) : ∀ w, M c H K w → post c.P fn n R .ret σ w := fun w hm =>
  ⟨.tuple #[ag l, v], fun a ha => by
    have hb := hm.blk i hi
    have hl := run_loadAg (P := c.P) (w := w) (t := ty) (b := b) (off := 0) (l := l) hu (fun j u hj => by rw [Nat.zero_add, cell_ob hb]; exact hj)
    rw [results_cell_tmp hr, ha.val, ha.val, hv, hv']
    simp only [asAddr, Sem.run_pure, Result.andThen_ok]
    rw [hl]; rfl, h w hm⟩

theorem prove_May_err (c : Cf) (hc : c.ok) (l : List Bl) (hlb : ∀ b ∈ l, Bok b) (hn : l.length ≤ 100000) (he : (chkF c l).1 ≠ 0) (A : Option Addr) (cap : Nat) (D : Nat → Prop) (w : World) (hD : ∀ k, D k → k < w.heap.size) (hs : Sl 67 A l.length cap (bl l) D w) (ht : Txs l D w) :
    Calls PP N_prove_May #[ag c.c, .slice A l.length cap] w (PR w (.int .i64 (chkF c l).1)) := by
  refine enter f_prove_May rfl n_prove_May rfl (M.init PP w D [] [Sl 67 A l.length cap (bl l), Txs l] ⟨Sl.stable, Txs.stable, trivial⟩ hD ⟨hs, ht, trivial⟩) ?_
  refine seq (region (box rfl rfl rfl fun b0 => det rfl (asg rfl) (nilS ?_)))   -- region 0
  refine seq ?_
  refine seq (region (det rfl (ldAll 0 rfl rfl g_api_Config (Cf.c_length hc)) (det rfl (mv rfl) (call k_chain_Check rfl rfl (fun w hm => by
    obtain ⟨D, d1, d2, hD, d4, d5⟩ := hm.data
    exact chain_Check_ c hc l hlb hn A cap D w hD d5.1 d5.2.1) (alloc z_api_Fault rfl rfl fun b1 => stoA 0 rfl rfl rfl s_api_Fault rfl rfl rfl (nilS ?_))))))   -- region 1
  refine seq (region (det rfl (fadr rfl u_api_Fault rfl s_api_Errno) (det rfl (ldB 0 (v := .int .i64 (chkF c l).1) rfl rfl o_api_Errno rfl) (det rfl (Det.to (neq rfl rfl) (v' := .bool true) (vb (by simp [he]))) (nilS ?_)))))   -- region 2
  refine condT rfl ?_
  refine seq (region (det rfl (fadr rfl u_api_Fault rfl s_api_Errno) (det rfl (ldB 0 (v := .int .i64 (chkF c l).1) rfl rfl o_api_Errno rfl) (det rfl (asg rfl) (nilS ?_)))))   -- region 3
  exact ret (retT rfl rfl pr)

/-- The zero value of an Infix. -/
def inf0 : List Value := [.int .i64 0, .slice none 0 0, .int .i64 0, .int .i64 0, .slice none 0 0, .int .i64 0, .string ⟨#[]⟩, .int .i64 0, .int .i64 0, .slice none 0 0]
theorem inf0_ag {T : TypeId} (h : isAg PP T 10) : isAg PP T inf0.length := h
/-- An Infix of some kind and an errno. -/
def InfR (w0 : World) (x : Int) : Ending → World → Prop := fun e w' => (∃ z : List Value, (z.length = 10 ∧ one z = true) ∧ e = .returned (.tuple #[ag z, .int .i64 x])) ∧ Below w0.heap.size w0 w'
theorem way_Infix_err (c : Cf) (hc : c.ok) (l : List Bl) (hlb : ∀ b ∈ l, Bok b) (hn : l.length ≤ 100000) (he : (chkF c l).1 ≠ 0) (a x : Int) (A : Option Addr) (cap : Nat) (D : Nat → Prop) (w : World) (hD : ∀ k, D k → k < w.heap.size) (hs : Sl 67 A l.length cap (bl l) D w) (ht : Txs l D w) :
    Calls PP N_way_Infix #[ag c.c, .slice A l.length cap, .int .i64 a, .int .i64 x] w (InfR w (chkF c l).1) := by
  refine enter f_way_Infix rfl n_way_Infix rfl (M.init PP w D [] [Sl 67 A l.length cap (bl l), Txs l] ⟨Sl.stable, Txs.stable, trivial⟩ hD ⟨hs, ht, trivial⟩) ?_
  refine seq (region (box rfl rfl rfl fun b0 => alloc z_api_Infix rfl rfl fun b1 => det rfl (asg rfl) (nilS ?_)))   -- region 0
  refine seq ?_
  refine seq (region (det rfl (ldAll 1 rfl rfl g_api_Config (Cf.c_length hc)) (det rfl (mv rfl) (call k_prove_May rfl rfl (fun w hm => by
    obtain ⟨D, d1, d2, hD, d4, d5⟩ := hm.data
    exact prove_May_err c hc l hlb hn he A cap D w hD d5.1 d5.2.1) (det rfl (asg rfl) (nilS ?_))))))   -- region 1
  refine seq (region (det rfl (mv rfl) (det rfl (Det.to (neq rfl rfl) (v' := .bool true) (vb (by simp [he]))) (nilS ?_))))   -- region 2
  refine condT rfl ?_
  refine seq (region (det rfl (Det.to (bldZ z_api_Infix u_api_Infix (fun w => run_placesS PP w (by kernel_rfl))) (v' := ag inf0) rfl) (det rfl (mv rfl) (stoA 0 rfl rfl rfl s_api_Infix rfl rfl rfl (det rfl (asg rfl) (nilS ?_))))))   -- region 3
  exact ret (retCT 0 (l := inf0) rfl rfl rfl (inf0_ag g_api_Infix) rfl fun w hm => ⟨⟨inf0, ⟨rfl, rfl⟩, rfl⟩, hm.below rfl⟩)

def z8 : List UInt8 := List.replicate 32 0
def Cf0 : Cf := ⟨⟨0, z8, z8, 0⟩, z8, 0, 0, 0, 0, 0, 0⟩
theorem Cf0_ok : Cf0.ok := ⟨⟨rfl, rfl⟩, rfl⟩

set_option maxRecDepth 20000 in
theorem awake49_ : Pure PP N_milepostlaw49_awake #[] (.bool true) := by
  refine enter0 f_milepostlaw49_awake rfl n_milepostlaw49_awake rfl fun w => ?_
  refine seq (region (det rfl (asg rfl) (nilS ?_)))   -- region 0
  refine seq (region (det rfl (Det.to (bldZ z_api_Config u_api_Config (fun w => run_placesS PP w (by kernel_rfl))) (v' := ag Cf0.c) (by kernel_rfl)) (callX (β := {z : List Value // z.length = 10 ∧ one z = true}) (fun z => .tuple #[ag z.1, .int .i64 6]) (fun _ => _) (fun _ => _) k_way_Infix rfl rfl (fun w hm => by
    refine (way_Infix_err Cf0 Cf0_ok [] (fun b h => nomatch h) (by decide) (by decide) 0 0 none 0 (fun _ => False) w (fun _ h => h.elim) Sl.nil (fun b h => nomatch h)).mono ?_
    rintro e w' ⟨⟨z, hz, he⟩, hb⟩
    exact ⟨⟨z, hz⟩, he, hm.pure (grown_below hb)⟩) fun z => (det rfl (mv rfl) (det rfl (extr rfl rfl) (det rfl (extr rfl rfl) (alloc z_api_Infix rfl rfl fun b0 => stoA 0 rfl rfl rfl s_api_Infix z.2.1 z.2.2 rfl (det rfl (asg rfl) (nilS ?_)))))))))   -- region 1
  refine seq (region (bsl rfl (bsm u_sl_int z_int s_int (xs := [256, 0, 0, 0, 3].map fun x => .int .i64 x) rfl rfl rfl (by decide) (by decide)) fun b1 => callS' (m := 2) (sz := 1) (ls := il [2, 3]) rfl k_way_Between rfl rfl (fun w hm => by
    have := way_Between_ [256, 0, 0, 0, 3] (by decide) 4 2 0 (some ⟨b1, 0, none⟩) 5 (fun k => k = b1) w (fun k hk => by rw [hk]; exact lt_heap (hm.blk 0 rfl)) (lit_sl (hm.blk 0 rfl) rfl (by simp [maxLen]))
    rw [show Mp.btw [256, 0, 0, 0, 3] 4 2 0 = [2, 3] by decide] at this
    exact this) fun B q => (bsl rfl (bsm u_sl_int z_int s_int (xs := [2, 3].map fun x => .int .i64 x) rfl rfl rfl (by decide) (by decide)) fun b2 => call (v := .bool true) k_milepostref22_Same rfl rfl (fun w hm => by
    obtain ⟨D, hD, hs⟩ := hm.sl (k := 0) rfl
    have := same22_ [2, 3] [2, 3] (by decide) B (some ⟨b2, 0, none⟩) q 2 (fun k => D k ∨ k = b2) w (fun k hk => by rcases hk with hk | hk; exact hD k hk; rw [hk]; exact lt_heap (hm.blk 0 rfl)) (hs.mono fun k hk => .inl hk) ((lit_sl (hm.blk 0 rfl) rfl (by simp [maxLen])).mono fun k hk => .inr hk)
    rw [decide_eq_true (show ([2, 3] : List Int) = [2, 3] from rfl)] at this
    exact this) (det rfl (mv rfl) (guardT rfl rfl (det rfl (mv rfl) (guardT rfl rfl (det rfl (eql rfl rfl) (det rfl (pick rfl rfl) (det rfl (asg rfl) (nilS ?_)))))))))))   -- region 2
  exact ret (retT rfl rfl pr)

theorem wayBetween_ (l : List Int) (x y z : Int) (A : Option Addr) (cap : Nat) (D : Nat → Prop) (w : World) (hD : ∀ k, D k → k < w.heap.size) (hs : Sl 1 A l.length cap (il l) D w) :
    Calls PP N_milepostlaw49_WayBetween #[.slice A l.length cap, ag (iv [x, y, z])] w (PR w (.bool true)) := by
  refine enter f_milepostlaw49_WayBetween rfl n_milepostlaw49_WayBetween rfl (M.init1 PP w Sl.stable hD hs) ?_
  refine seq (region (box rfl rfl rfl fun b0 => det rfl (asg rfl) (nilS ?_)))   -- region 0
  refine seq ?_
  refine seq (region (det rfl (mv rfl) (det rfl (lenS u_sl_int rfl) (det rfl (gtr rfl rfl) (nilS ?_)))))   -- region 1
  refine cond rfl (fun h => ?_) (fun h => ?_)   -- on t7
  · refine seq (region (call k_milepostlaw49_awake rfl rfl (fun w _ => awake49_ w) (det rfl (asg rfl) (nilS ?_))))   -- region 2
    exact ret (retT rfl rfl pr)
  · have h : ¬ (60 < (l.length : Int)) := of_decide_eq_false h
    have hn : l.length ≤ 1000000 := by omega
    refine skipS ?_
    obtain ⟨R, hR⟩ : ∃ R, Mp.btw l x y z = R := ⟨_, rfl⟩
    have hRl : R.length ≤ 1000000 := by
      rw [← hR, Mp.btw]
      split
      · simp
      · have := Mp.walk_len l x y
        have := Mp.walk_len l y z
        simp only [List.length_reverse, List.length_dropLast, List.length_append, List.length_drop]
        omega
    refine seq (draw (m := 21) mix (by kernel_rfl) ?_)   -- region 3
    refine take 0 rfl (by kernel_rfl) rfl (mv rfl) ?_
    refine take 1 rfl (by kernel_rfl) rfl (iadr rfl rfl u_a3_int s_int (by omega) (by omega)) ?_
    refine take 2 rfl (by kernel_rfl) rfl (ldB 0 (v := .int .i64 x) rfl rfl o_int rfl) ?_
    refine take 3 rfl (by kernel_rfl) rfl (iadr rfl rfl u_a3_int s_int (by omega) (by omega)) ?_
    refine take 4 rfl (by kernel_rfl) rfl (ldB 0 (v := .int .i64 y) rfl rfl o_int rfl) ?_
    refine take 5 rfl (by kernel_rfl) rfl (iadr rfl rfl u_a3_int s_int (by omega) (by omega)) ?_
    refine take 6 rfl (by kernel_rfl) rfl (ldB 0 (v := .int .i64 z) rfl rfl o_int rfl) ?_
    refine take 8 rfl (by kernel_rfl) rfl (mv rfl) ?_
    refine take 9 rfl (by kernel_rfl) rfl (iadr rfl rfl u_a3_int s_int (by omega) (by omega)) ?_
    refine take 10 rfl (by kernel_rfl) rfl (ldB 0 (v := .int .i64 x) rfl rfl o_int rfl) ?_
    refine take 11 rfl (by kernel_rfl) rfl (iadr rfl rfl u_a3_int s_int (by omega) (by omega)) ?_
    refine take 12 rfl (by kernel_rfl) rfl (ldB 0 (v := .int .i64 y) rfl rfl o_int rfl) ?_
    refine take 13 rfl (by kernel_rfl) rfl (iadr rfl rfl u_a3_int s_int (by omega) (by omega)) ?_
    refine take 14 rfl (by kernel_rfl) rfl (ldB 0 (v := .int .i64 z) rfl rfl o_int rfl) ?_
    refine onlyS 7 (sz := 1) (k := R.length) (ls := il R) (il_length R) rfl (by kernel_rfl) rfl k_way_Between (show _ = [Value.slice A l.length cap, .int .i64 x, .int .i64 y, .int .i64 z] from rfl) rfl (fun w hm => ?_) fun B1 q1 => ?_
    · obtain ⟨D, hD, hs⟩ := hm.sl (k := 0) rfl
      have := way_Between_ l hn x y z A cap D w hD hs
      rw [hR] at this
      exact this
    refine onlyS 15 (sz := 1) (k := R.length) (ls := il R) (il_length R) rfl (by kernel_rfl) rfl k_milepostref47_Between (show _ = [Value.slice A l.length cap, .int .i64 x, .int .i64 y, .int .i64 z] from rfl) rfl (fun w hm => ?_) fun B2 q2 => ?_
    · obtain ⟨D, hD, hs⟩ := hm.sl (k := 1) rfl
      have := ref47_Between_ l hn x y z A cap D w hD hs
      rw [hR] at this
      exact this
    refine only 16 (v := .bool true) rfl (by kernel_rfl) rfl k_milepostref22_Same (show _ = [Value.slice B1 R.length q1, .slice B2 R.length q2] from rfl) rfl (fun w hm => ?_) ?_
    · obtain ⟨D, d1, d2, hD, d4, d5⟩ := hm.data
      have := same22_ R R hRl B1 B2 q1 q2 D w hD d5.2.1 d5.1
      rw [decide_eq_true (show R = R from rfl)] at this
      exact this
    refine take 17 rfl (by kernel_rfl) rfl (mv rfl) ?_
    refine onlyCG (β := Unit) (fun _ => .bool true) (fun _ => _) (fun _ => _) 18 rfl rfl rfl (by kernel_rfl) rfl k_milepostlaw49_awake (show _ = [] from rfl) rfl (fun w hm => (awake49_ w).mono fun e w' ⟨he, hb⟩ => ⟨(), he, hm.pure (grown_below hb)⟩) (fun _ _ hm => hm) fun _ => ?_
    refine take 19 rfl (by kernel_rfl) rfl (pick (b := true) rfl rfl) ?_
    refine take 20 rfl (by kernel_rfl) rfl (asg rfl) ?_
    refine tail (by kernel_rfl) rfl (nilS ?_)
    exact ret (retT rfl rfl pr)
end Go.Proofs.YtmcapgjdflohfaaGreat.L
