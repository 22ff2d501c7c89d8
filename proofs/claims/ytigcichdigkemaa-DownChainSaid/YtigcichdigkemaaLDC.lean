/- The law DownChain: the walk. -/
import Derived.Test.YtigcichdigkemaaLNV
import Derived.Test.YtigcichdigkemaaPGoes
import Derived.Test.YtigcichdigkemaaDown
import Derived.Test.YtigcichdigkemaaSeq
set_option linter.all false
namespace Go.Proofs.Ytigcichdigkemaa.L
open Go Go.RowKit
set_option linter.unusedVariables false

theorem awake27_ : Pure PP N_milepostlaw27_awake #[] (.bool true) := by
  refine enter0 f_milepostlaw27_awake rfl n_milepostlaw27_awake rfl fun w => ?_
  refine seq (region (det rfl (asg rfl) (nilS ?_)))   -- region 0
  refine seq (region (bsl rfl (bsm u_sl_int z_int s_int (xs := [256, 0, 2, 0].map fun x => .int .i64 x) rfl rfl rfl (by decide) (by decide)) fun b0 => callS' (m := 3) (sz := 1) (ls := il [3, 2, 1]) rfl k_down_Walk rfl rfl (fun w hm => by
    have := down_Walk_ [256, 0, 2, 0] (by decide) 3 1 (some ⟨b0, 0, none⟩) 4 (fun k => k = b0) w (fun k hk => by rw [hk]; exact lt_heap (hm.blk 0 rfl)) (lit_sl (hm.blk 0 rfl) rfl (by simp [maxLen])) (fun x => Nat.le_trans (Mp.all_len _ _) (by decide))
    rw [show Mp.walk [256, 0, 2, 0] 3 1 = [3, 2, 1] by decide] at this
    exact this) fun B q => (bsl rfl (bsm u_sl_int z_int s_int (xs := [3, 2, 1].map fun x => .int .i64 x) rfl rfl rfl (by decide) (by decide)) fun b1 => call (v := .bool true) k_milepostref22_Same rfl rfl (fun w hm => by
    obtain ⟨D, hD, hs⟩ := hm.sl (k := 0) rfl
    have := same22_ [3, 2, 1] [3, 2, 1] (by decide) B (some ⟨b1, 0, none⟩) q 3 (fun k => D k ∨ k = b1) w (fun k hk => by rcases hk with hk | hk; exact hD k hk; rw [hk]; exact lt_heap (hm.blk 0 rfl)) (hs.mono fun k hk => .inl hk) ((lit_sl (hm.blk 0 rfl) rfl (by simp [maxLen])).mono fun k hk => .inr hk)
    rw [decide_eq_true (show ([3, 2, 1] : List Int) = [3, 2, 1] from rfl)] at this
    exact this) (det rfl (mv rfl) (guardT rfl rfl (bsl rfl (bsm u_sl_int z_int s_int (xs := [256, 0, 2, 0].map fun x => .int .i64 x) rfl rfl rfl (by decide) (by decide)) fun b2 => guardT rfl rfl (call (v := .int .i64 0) k_down_Index rfl rfl (fun w hm => by
    have := down_Index_ [256, 0, 2, 0] (by decide) 3 2 (some ⟨b2, 0, none⟩) 4 (fun k => k = b2) w (fun k hk => by rw [hk]; exact lt_heap (hm.blk 0 rfl)) (lit_sl (hm.blk 0 rfl) rfl (by simp [maxLen])) (Nat.le_trans (Mp.all_len _ _) (by decide))
    rw [show Mp.index [256, 0, 2, 0] 3 2 = 0 by decide] at this
    exact this) (guardT rfl rfl (det rfl (eql rfl rfl) (det rfl (pick rfl rfl) (det rfl (asg rfl) (nilS ?_))))))))))))   -- region 1
  exact ret (retT rfl rfl pr)
theorem downChain_ (c : Cf) (hc : c.ok) (l : List Bl) (hl1 : ∀ b ∈ l, b.h.ok) (hx : ∀ b ∈ l, ∀ x ∈ b.t, x.length ≤ 140737488355328) (A : Option Addr) (cap : Nat) (D : Nat → Prop) (w : World) (hD : ∀ k, D k → k < w.heap.size) (hs : Sl 67 A l.length cap (bl l) D w) (hts : Txs l D w) :
    Calls PP N_milepostlaw27_DownChain #[ag c.c, .slice A l.length cap] w (PR w (.bool true)) := by
  have hg : PP.eqGuardType PP.depth T_api_Hash = false := by kernel_rfl
  refine enter f_milepostlaw27_DownChain rfl n_milepostlaw27_DownChain rfl (M.init PP w D [] [Sl 67 A l.length cap (bl l), Txs l] ⟨Sl.stable, Txs.stable, trivial⟩ hD ⟨hs, hts, trivial⟩) ?_
  refine seq (region (box rfl rfl rfl fun b0 => det rfl (asg rfl) (nilS ?_)))   -- region 0
  refine seq ?_
  have hsp : ∀ w', M ⟨PP, w, D, []⟩ [.blk b0 (ob c.c T_api_Config)] [Sl 67 A l.length cap (bl l), Txs l] w' → Calls PP N_milepostlaw24_Much #[.slice A l.length cap] w' (PR w' (.bool (much24 l))) := fun w hm => by
    obtain ⟨D, d1, d2, hD, d4, d5⟩ := hm.data
    exact much24_ l hl1 hx A cap D w hD d5.1 d5.2.1
  refine seq (region (det rfl (mv rfl) (call k_milepostlaw24_Much rfl rfl hsp (det rfl (mv rfl) ?_))))
  cases hmu : much24 l with
  | true =>
    repeat (first | refine guardF rfl (vb rfl) rfl ?_ | refine guardU rfl rfl rfl ?_)
    refine det rfl (pick rfl rfl) (nilS ?_)
    refine condT rfl ?_
    refine seq (region (call k_milepostlaw27_awake rfl rfl (fun w _ => awake27_ w) (det rfl (asg rfl) (nilS ?_))))   -- region 2
    exact ret (retT rfl rfl pr)
  | false =>
    have hbo := Bok_of_much hmu hl1
    have h24 := (much24_false hmu).1
    refine guardT rfl rfl (det rfl (ldAll 0 rfl rfl g_api_Config (Cf.c_length hc)) (guardT rfl rfl (det rfl (mv rfl) (guardT rfl rfl (call k_chain_Check rfl rfl (fun w hm => by
      obtain ⟨D, d1, d2, hD, d4, d5⟩ := hm.data
      exact chain_Check_ c hc l hbo (by omega) A cap D w hD d5.1 d5.2.1) (guardT rfl rfl (det rfl (fldO (v := .int .i64 (chkF c l).1) rfl u_api_Fault rfl o_api_Errno rfl) (guardT rfl rfl (det rfl (neq rfl rfl) (det rfl (pick rfl rfl) (nilS ?_)))))))))))   -- region 1
    refine cond rfl (fun h => ?_) (fun h => ?_)   -- on t19
    · refine seq (region (call k_milepostlaw27_awake rfl rfl (fun w _ => awake27_ w) (det rfl (asg rfl) (nilS ?_))))   -- region 2
      exact ret (retT rfl rfl pr)
    · have h : (chkF c l).1 = 0 := by simpa using h
      have hch := chk_chn h
      have hids : (hl (idsA l)).length = l.length := by rw [hl_length, idsA_length]
      have hlev : (il (levs c.t l)).length = l.length := by rw [il_length, levs_length]
      refine skipS ?_
      refine seq (draw (m := 13) mix (by kernel_rfl) (take 0 rfl (by kernel_rfl) rfl (mv rfl) (take 2 rfl (by kernel_rfl) rfl (fadr rfl u_api_Config rfl s_api_Hash) (take 3 rfl (by kernel_rfl) rfl (ldA 0 rfl rfl g_api_Hash (Cf.at_t' hc) (by rw [b8_length]; exact hc.2)) (take 4 rfl (by kernel_rfl) rfl (mv rfl) (take 6 rfl (by kernel_rfl) rfl (fadr rfl u_api_Config rfl s_api_Hash) (take 7 rfl (by kernel_rfl) rfl (ldA 0 rfl rfl g_api_Hash (Cf.at_t' hc) (by rw [b8_length]; exact hc.2)) (take 8 rfl (by kernel_rfl) rfl (mv rfl) (onlyS 1 (k := l.length) hids rfl (by kernel_rfl) rfl k_chain_Ids rfl rfl (fun w hm => by
        obtain ⟨D, hD, hs⟩ := hm.sl (k := 0) rfl
        exact chain_Ids_ l (by omega) hl1 A cap D w hD hs) fun Bi qi => (onlyS 5 (k := l.length) hlev rfl (by kernel_rfl) rfl k_chain_Levels rfl rfl (fun w hm => by
        obtain ⟨D, hD, hs⟩ := hm.sl (k := 1) rfl
        exact chain_Levels_ c.t hc.2 l (by omega) hl1 A cap D w hD hs) fun Bv qv => (onlyV 9 (k := l.length + 1) (vecsA_length _ _ _) rfl (by kernel_rfl) rfl k_chain_Vectors rfl rfl (fun w hm => by
        obtain ⟨D, hD, hs⟩ := hm.sl (k := 2) rfl
        exact chain_Vectors_ c.t hc.2 l (by omega) hl1 A cap D w hD hs) fun Bw qw Lx => (take 10 rfl (by kernel_rfl) rfl (asg rfl) (take 11 rfl (by kernel_rfl) rfl (asg rfl) (take 12 rfl (by kernel_rfl) rfl (asg rfl) ((tail (by kernel_rfl) rfl (nilS ?_)))))))))))))))))   -- region 3
      obtain ⟨L, hL⟩ : ∃ L, L = Lx.1 := ⟨_, rfl⟩
      have hLm := Lx.2
      rw [← hL] at hLm ⊢
      have hL := hLm
      have hLl : L.length = l.length + 1 := by rw [← List.length_map (f := Vc.xs), hL, vecsA_length]
      refine refactT (K' := [Sl 32 Bi l.length qi (hl (idsA l)), Sl 1 Bv l.length qv (il (levs c.t l)), Sl 1 Bw (l.length + 1) qw (vl L), Vs L]) ⟨Sl.stable, Sl.stable, Sl.stable, Vs.stable, trivial⟩ (fun D w h => ⟨h.2.2.1, h.2.1, h.1.1, h.1.2, trivial⟩) ?_
      refine seq ?_
      refine seq (region (det rfl (asg rfl) (nilS ?_)))   -- region 4
      refine block ?_   -- block 0
      refine loopV (ι := Nat) (fun f => f ≤ l.length) (fun f => [(1, .slice A l.length cap), (5, .slice Bi l.length qi), (6, .slice Bv l.length qv), (7, .slice Bw (l.length + 1) qw), (8, .int .i64 f)]) (fun _ => []) (fun _ => [Sl 32 Bi l.length qi (hl (idsA l)), Sl 1 Bv l.length qv (il (levs c.t l)), Sl 1 Bw (l.length + 1) qw (vl L), Vs L]) (fun f => l.length - f) 0 (by omega) ⟨rfl, rfl, rfl, rfl, rfl, trivial⟩ (fun w hm => drop1 hm) ?_
      intro f σ hf
      refine seq ?_
      refine seq (region (det rfl (mv rfl) (det rfl (mv rfl) (det rfl (lenS u_sl_api_Block rfl) (det rfl (lss rfl rfl) (nilS ?_))))))   -- region 5
      refine cond rfl (fun h => ?_) (fun h => ?_)   -- on t36
      · have h := of_decide_eq_true h
        have hf2 : f < l.length := by omega
        refine skipS ?_
        refine seq ?_
        refine block ?_   -- block 1
        refine seq (region (det rfl (asg rfl) (nilS ?_)))   -- region 7
        refine block ?_   -- block 2
        refine loopV (ι := Nat) (fun g => g ≤ f + 1) (fun g => [(1, .slice A l.length cap), (5, .slice Bi l.length qi), (6, .slice Bv l.length qv), (7, .slice Bw (l.length + 1) qw), (8, .int .i64 f), (9, .int .i64 g)]) (fun _ => []) (fun _ => [Sl 32 Bi l.length qi (hl (idsA l)), Sl 1 Bv l.length qv (il (levs c.t l)), Sl 1 Bw (l.length + 1) qw (vl L), Vs L]) (fun g => f + 1 - g) 0 (by omega) ⟨rfl, rfl, rfl, rfl, rfl, rfl, trivial⟩ (fun w hm => hm) ?_
        intro g σ hgf
        refine seq ?_
        refine seq (region (det rfl (mv rfl) (det rfl (mv rfl) (det rfl (leq rfl rfl) (nilS ?_)))))   -- region 8
        refine cond rfl (fun h => ?_) (fun h => ?_)   -- on t41
        · have h := of_decide_eq_true h
          have hg2 : g ≤ f := by omega
          have hgo := Mp.walk_goes (levs c.t l) hch.levels f g (by omega) (by omega) (by rw [levs_length]; omega)
          obtain ⟨wl, hwl⟩ : ∃ wl, Mp.walk (levs c.t l) f g = wl := ⟨_, rfl⟩
          rw [hwl] at hgo
          obtain ⟨g1, g2, g3, _, g5, g6, g7⟩ := Mp.goes_at hgo
          have hilat : ∀ j, j < wl.length → (il wl)[j]? = some [.int .i64 (wl.getD j 0)] := fun j hj => il_at rfl hj
          refine skipS ?_
          refine seq ?_
          refine block ?_   -- block 3
          refine seq (region (det rfl (mv rfl) (det rfl (mv rfl) (det rfl (mv rfl) (callS' (m := wl.length) (il_length _) k_down_Walk rfl rfl (fun w hm => by
            obtain ⟨D, hD, hs⟩ := hm.sl (k := 1) rfl
            have := down_Walk_ (levs c.t l) (by rw [levs_length]; omega) f g Bv qv D w hD (by rw [levs_length]; exact hs) (fun x => Nat.le_trans (Mp.all_len _ _) (by decide))
            rw [hwl, levs_length] at this
            exact this) fun B9 q9 => (det rfl (asg rfl) (nilS ?_)))))))   -- region 10
          refine refactT (K' := [Sl 32 Bi l.length qi (hl (idsA l)), Sl 1 Bv l.length qv (il (levs c.t l)), Sl 1 Bw (l.length + 1) qw (vl L), Vs L, Sl 1 B9 wl.length q9 (il wl)]) ⟨Sl.stable, Sl.stable, Sl.stable, Vs.stable, Sl.stable, trivial⟩ (fun D w h => ⟨h.2.1, h.2.2.1, h.2.2.2.1, h.2.2.2.2.1, h.1, trivial⟩) ?_
          refine seq ?_
          refine seq (region (det rfl (mv rfl) (det rfl (lenS u_sl_int rfl) (det rfl (Det.to (eql rfl rfl) (v' := .bool false) (vb (decide_eq_false (by omega)))) (det rfl (mv rfl) (guardT rfl rfl (det rfl (mv rfl) (guardT rfl rfl (det rfl (ixS 4 rfl rfl u_sl_int s_int rfl (by omega) (by omega)) (guardT rfl rfl (det rfl (ldSO 4 (i := 0) rfl rfl o_int (hilat 0 g1)) (guardT rfl rfl (det rfl (mv rfl) (guardT rfl rfl (det rfl (Det.to (neq rfl rfl) (v' := .bool false) (vb (by rw [g2]; simp))) (det rfl (pick (b := false) rfl rfl) (det rfl (mv rfl) (guardT rfl rfl (det rfl (mv rfl) (guardT rfl rfl (det rfl (mv rfl) (guardT rfl rfl (det rfl (lenS u_sl_int rfl) (guardT rfl rfl (det rfl (Det.to (subI rfl rfl (by omega) (by omega)) (vi (show _ = ((wl.length - 1 : Nat) : Int) by omega))) (guardT rfl rfl (det rfl (ixS 4 rfl rfl u_sl_int s_int rfl (by omega) (by omega)) (guardT rfl rfl (det rfl (ldSO 4 (i := wl.length - 1) rfl rfl o_int (hilat _ (by omega))) (guardT rfl rfl (det rfl (mv rfl) (guardT rfl rfl (det rfl (Det.to (neq rfl rfl) (v' := .bool false) (vb (by rw [g3]; simp))) (det rfl (pick (b := false) rfl rfl) (nilS ?_)))))))))))))))))))))))))))))))))))   -- region 11
          refine condF rfl ?_
          refine skipS ?_
          refine seq (region (det rfl (asg rfl) (nilS ?_)))   -- region 13
          refine block ?_   -- block 4
          refine loopV (ι := Nat) (fun j => 1 ≤ j ∧ j ≤ wl.length) (fun j => [(1, .slice A l.length cap), (5, .slice Bi l.length qi), (6, .slice Bv l.length qv), (7, .slice Bw (l.length + 1) qw), (8, .int .i64 f), (9, .int .i64 g), (10, .slice B9 wl.length q9), (11, .int .i64 j)]) (fun _ => []) (fun _ => [Sl 32 Bi l.length qi (hl (idsA l)), Sl 1 Bv l.length qv (il (levs c.t l)), Sl 1 Bw (l.length + 1) qw (vl L), Vs L, Sl 1 B9 wl.length q9 (il wl)]) (fun j => wl.length - j) 1 ⟨by omega, by omega⟩ ⟨rfl, rfl, rfl, rfl, rfl, rfl, rfl, rfl, trivial⟩ (fun w hm => hm) ?_
          rintro j σ ⟨hj1, hjl⟩
          refine seq ?_
          refine seq (region (det rfl (mv rfl) (det rfl (mv rfl) (det rfl (lenS u_sl_int rfl) (det rfl (lss rfl rfl) (nilS ?_))))))   -- region 14
          refine cond rfl (fun h => ?_) (fun h => ?_)   -- on t71
          · have h := of_decide_eq_true h
            have hj2 : j < wl.length := by omega
            have hmem := g7 (j - 1) (by omega)
            rw [show j - 1 + 1 = j by omega] at hmem
            have hra := g6 (j - 1) (by omega)
            have hrb := g6 j hj2
            have hi0 := hilat (j - 1) (by omega)
            have hi1 := hilat j hj2
            obtain ⟨a, ha⟩ : ∃ a, wl.getD (j - 1) 0 = a := ⟨_, rfl⟩
            obtain ⟨b, hb⟩ : ∃ b, wl.getD j 0 = b := ⟨_, rfl⟩
            rw [ha] at hmem hra hi0
            rw [hb] at hmem hrb hi1
            have hlt := Mp.all_lt (levs c.t l) a b hmem
            obtain ⟨k, hk1, hk2⟩ := Mp.indexFrom_mem b (Mp.all (levs c.t l) a) 0 hmem
            have hix : Mp.index (levs c.t l) a b = (k : Int) := by rw [Mp.index, hk1]; omega
            have hkl : k < (Mp.all (levs c.t l) a).length := (List.getElem?_eq_some_iff.1 hk2).1
            obtain ⟨v, hv⟩ : ∃ v, L[a.toNat]? = some v := ⟨_, List.getElem?_eq_getElem (by omega)⟩
            have hvm : v ∈ L := List.mem_of_getElem? hv
            have hvx : v.xs = vecA c.t l a.toNat := by
              have : (L.map Vc.xs)[a.toNat]? = (vecsA c.t l l.length)[a.toNat]? := by rw [hL]
              rw [List.getElem?_map, hv, vecsA, List.getElem?_map, List.getElem?_range (by omega)] at this
              exact Option.some.inj this
            have hvok := vecA_ok c.t l a.toNat
            rw [← hvx] at hvok
            have hall := hch.vec (k := a.toNat) (by omega)
            rw [← hvx, show ((a.toNat : Nat) : Int) = a by omega] at hall
            obtain ⟨pl, hpl⟩ : ∃ pl, Mp.all (levs c.t l) a = pl := ⟨_, rfl⟩
            have hlen0 := Mp.all_len (levs c.t l) a
            rw [hpl] at hall hkl hk2 hlen0
            have hlen : v.xs.length = pl.length := by rw [hall, List.length_map]
            have hat : (vl L)[a.toNat]? = some [.slice v.A pl.length v.cap] := by
              rw [vl, List.getElem?_map, hv]; simp only [Option.map_some, Vc.s, hlen]
            have hva : v.xs.getD k [] = (idsA l).getD b.toNat [] := by
              rw [hall, List.getD_eq_getElem?_getD, List.getElem?_map, hk2]; rfl
            have h32 : (v.xs.getD k []).length = 32 := hvok.2 _ (getD_mem (by omega))
            have h32' : ((idsA l).getD b.toNat []).length = 32 := by rw [← hva]; exact h32
            refine skipS ?_
            refine seq ?_
            refine block ?_   -- block 5
            refine seq (draw (m := 12) mix (by kernel_rfl) (take 0 rfl (by kernel_rfl) rfl (mv rfl) (take 1 rfl (by kernel_rfl) rfl (mv rfl) (take 2 rfl (by kernel_rfl) rfl (mv rfl) (take 3 rfl (by kernel_rfl) rfl (Det.to (subI rfl rfl (by omega) (by omega)) (vi (show _ = ((j - 1 : Nat) : Int) by omega))) (take 4 rfl (by kernel_rfl) rfl (ixS 4 rfl rfl u_sl_int s_int rfl (by omega) (by omega)) (take 5 rfl (by kernel_rfl) rfl (ldSO 4 (i := j - 1) rfl rfl o_int hi0) (take 6 rfl (by kernel_rfl) rfl (mv rfl) (take 7 rfl (by kernel_rfl) rfl (mv rfl) (take 8 rfl (by kernel_rfl) rfl (ixS 4 rfl rfl u_sl_int s_int rfl (by omega) (by omega)) (take 9 rfl (by kernel_rfl) rfl (ldSO 4 (i := j) rfl rfl o_int hi1) (only 10 (v := .int .i64 k) rfl (by kernel_rfl) rfl k_down_Index rfl rfl (fun w hm => by
              obtain ⟨D, hD, hs⟩ := hm.sl (k := 1) rfl
              have := down_Index_ (levs c.t l) (by rw [levs_length]; omega) a b Bv qv D w hD (by rw [levs_length]; exact hs) (Nat.le_trans (Mp.all_len _ _) (by decide))
              rw [hix, levs_length] at this
              exact this) (take 11 rfl (by kernel_rfl) rfl (asg rfl) ((tail (by kernel_rfl) rfl (nilS ?_))))))))))))))))   -- region 16
            refine refactT (K' := [Sl 32 Bi l.length qi (hl (idsA l)), Sl 1 Bv l.length qv (il (levs c.t l)), Sl 1 Bw (l.length + 1) qw (vl L), Vs L, Sl 1 B9 wl.length q9 (il wl), Sl 32 v.A pl.length v.cap (hl v.xs)]) ⟨Sl.stable, Sl.stable, Sl.stable, Vs.stable, Sl.stable, Sl.stable, trivial⟩ (fun D w h => ⟨h.1, h.2.1, h.2.2.1, h.2.2.2.1, h.2.2.2.2.1, by have := h.2.2.2.1 v hvm; rw [hlen] at this; exact this, trivial⟩) ?_
            refine seq (drawI 60 [56] mix (by kernel_rfl) (by kernel_rfl) ?_)
            refine nI rfl rfl rfl (mv rfl) ?_
            refine nI rfl rfl rfl (mv rfl) ?_
            refine nI rfl rfl rfl (ixS 4 rfl rfl u_sl_int s_int rfl (by omega) (by omega)) ?_
            refine nI rfl rfl rfl (ldSO 4 (i := j) rfl rfl o_int hi1) ?_
            refine nI rfl rfl rfl (mv rfl) ?_
            refine nI rfl rfl rfl (mv rfl) ?_
            refine nI rfl rfl rfl (Det.to (subI rfl rfl (by omega) (by omega)) (vi (show _ = ((j - 1 : Nat) : Int) by omega))) ?_
            refine nI rfl rfl rfl (ixS 4 rfl rfl u_sl_int s_int rfl (by omega) (by omega)) ?_
            refine nI rfl rfl rfl (ldSO 4 (i := j - 1) rfl rfl o_int hi0) ?_
            refine nI rfl rfl rfl (Det.to (geq rfl rfl) (v' := .bool false) (vb (decide_eq_false (by omega)))) ?_
            refine nI rfl rfl rfl (mv rfl) ?_
            refine gI rfl rfl rfl rfl rfl (mv rfl) ?_
            refine gI rfl rfl rfl rfl rfl (Det.to (lss rfl rfl) (v' := .bool false) (vb (decide_eq_false (by omega)))) ?_
            refine nI rfl rfl rfl (pick (b := false) rfl rfl) ?_
            refine nI rfl rfl rfl (mv rfl) ?_
            refine gI rfl rfl rfl rfl rfl (mv rfl) ?_
            refine gI rfl rfl rfl rfl rfl (mv rfl) ?_
            refine gI rfl rfl rfl rfl rfl (mv rfl) ?_
            refine gI rfl rfl rfl rfl rfl (mv rfl) ?_
            refine gI rfl rfl rfl rfl rfl (Det.to (subI rfl rfl (by omega) (by omega)) (vi (show _ = ((j - 1 : Nat) : Int) by omega))) ?_
            refine gI rfl rfl rfl rfl rfl (ixS 4 rfl rfl u_sl_int s_int rfl (by omega) (by omega)) ?_
            refine gI rfl rfl rfl rfl rfl (ldSO 4 (i := j - 1) rfl rfl o_int hi0) ?_
            refine gI rfl rfl rfl rfl rfl (ixS 2 rfl rfl u_sl_sl_api_Hash s_sl_api_Hash rfl (by omega) (by omega)) ?_
            refine gI rfl rfl rfl rfl rfl (ldSO 2 (i := a.toNat) rfl rfl o_sl_api_Hash hat) ?_
            refine gI rfl rfl rfl rfl rfl (lenS u_sl_api_Hash rfl) ?_
            refine gI rfl rfl rfl rfl rfl (Det.to (geq rfl rfl) (v' := .bool false) (vb (decide_eq_false (by omega)))) ?_
            refine nI rfl rfl rfl (pick (b := false) rfl rfl) ?_
            refine nI rfl rfl rfl (mv rfl) ?_
            refine gI rfl rfl rfl rfl rfl (mv rfl) ?_
            refine gI rfl rfl rfl rfl rfl (mv rfl) ?_
            refine gI rfl rfl rfl rfl rfl (mv rfl) ?_
            refine gI rfl rfl rfl rfl rfl (Det.to (subI rfl rfl (by omega) (by omega)) (vi (show _ = ((j - 1 : Nat) : Int) by omega))) ?_
            refine gI rfl rfl rfl rfl rfl (ixS 4 rfl rfl u_sl_int s_int rfl (by omega) (by omega)) ?_
            refine gI rfl rfl rfl rfl rfl (ldSO 4 (i := j - 1) rfl rfl o_int hi0) ?_
            refine gI rfl rfl rfl rfl rfl (ixS 2 rfl rfl u_sl_sl_api_Hash s_sl_api_Hash rfl (by omega) (by omega)) ?_
            refine gI rfl rfl rfl rfl rfl (ldSO 2 (i := a.toNat) rfl rfl o_sl_api_Hash hat) ?_
            refine gI rfl rfl rfl rfl rfl (mv rfl) ?_
            refine gI rfl rfl rfl rfl rfl (ixS 5 rfl rfl u_sl_api_Hash s_api_Hash rfl (by omega) (by omega)) ?_
            refine gI rfl rfl rfl rfl rfl (ldSA 5 (i := k) rfl rfl g_api_Hash (hl_at (j := k) rfl (by omega))) ?_
            refine gI rfl rfl rfl rfl rfl (mv rfl) ?_
            refine gI rfl rfl rfl rfl rfl (mv rfl) ?_
            refine gI rfl rfl rfl rfl rfl (mv rfl) ?_
            refine gI rfl rfl rfl rfl rfl (ixS 4 rfl rfl u_sl_int s_int rfl (by omega) (by omega)) ?_
            refine gI rfl rfl rfl rfl rfl (ldSO 4 (i := j) rfl rfl o_int hi1) ?_
            refine gI rfl rfl rfl rfl rfl (ixS 0 rfl rfl u_sl_api_Hash s_api_Hash rfl (by omega) (by omega)) ?_
            refine gI rfl rfl rfl rfl rfl (ldSA 0 (i := b.toNat) rfl rfl g_api_Hash (hl_at (j := b.toNat) rfl (by rw [idsA_length]; omega))) ?_
            refine gI rfl rfl rfl rfl rfl (Det.to (neqA rfl rfl hg (eqH _ _ h32 h32')) (v' := .bool false) (vb (by rw [hva]; simp))) ?_
            refine nI rfl rfl rfl (pick (b := false) rfl rfl) ?_
            refine nI rfl rfl rfl (mv rfl) ?_
            refine gI rfl rfl rfl rfl rfl (mv rfl) ?_
            refine gI rfl rfl rfl rfl rfl (mv rfl) ?_
            refine gI rfl rfl rfl rfl rfl (mv rfl) ?_
            refine gI rfl rfl rfl rfl rfl (mv rfl) ?_
            refine gI rfl rfl rfl rfl rfl (Det.to (subI rfl rfl (by omega) (by omega)) (vi (show _ = ((j - 1 : Nat) : Int) by omega))) ?_
            refine gI rfl rfl rfl rfl rfl (ixS 4 rfl rfl u_sl_int s_int rfl (by omega) (by omega)) ?_
            refine gI rfl rfl rfl rfl rfl (ldSO 4 (i := j - 1) rfl rfl o_int hi0) ?_
            refine sgI (sz := 1) (k := pl.length) (il_length pl) rfl rfl rfl rfl k_near_All (show _ = [Value.slice Bv l.length qv, .int .i64 a] from rfl) rfl (fun w hm => ?_) fun B7 q7 => ?_
            · obtain ⟨D, hD, hs⟩ := hm.sl (k := 1) rfl
              have := near_All_ (levs c.t l) (by rw [levs_length]; omega) a Bv qv D w hD (by rw [levs_length]; exact hs)
              rw [hpl, levs_length] at this
              exact this
            refine gI rfl rfl rfl rfl rfl (lenS u_sl_int rfl) ?_
            refine gI rfl rfl rfl rfl rfl (Det.to (geq rfl rfl) (v' := .bool false) (vb (decide_eq_false (by omega)))) ?_
            refine nI rfl rfl rfl (pick (b := false) rfl rfl) ?_
            refine endI rfl (nilS ?_)   -- region 17
            refine condF rfl ?_
            refine skip ?_
            show Tr _ _ _ _ _ _ _
            refine region (det rfl (mv rfl) (det rfl (addI rfl rfl (by omega) (by omega)) (det rfl (asg rfl) (nil ?_))))   -- region 15
            refine again (j + 1) ⟨by omega, by omega⟩ ⟨rfl, rfl, rfl, rfl, rfl, rfl, rfl, rfl, trivial⟩ (fun w hm => hm.refact ⟨Sl.stable, Sl.stable, Sl.stable, Vs.stable, Sl.stable, trivial⟩ fun D h => ⟨h.2.1, h.2.2.1, h.2.2.2.1, h.2.2.2.2.1, h.2.2.2.2.2.1, trivial⟩) (by (first | omega | (dsimp only; omega)))
          · refine exit ?_   -- 4
            show Tr _ _ _ _ _ _ _
            refine region (det rfl (mv rfl) (det rfl (addI rfl rfl (by omega) (by omega)) (det rfl (asg rfl) (nil ?_))))   -- region 9
            refine again (g + 1) (by omega) ⟨rfl, rfl, rfl, rfl, rfl, rfl, trivial⟩ (fun w hm => hm.refact ⟨Sl.stable, Sl.stable, Sl.stable, Vs.stable, trivial⟩ fun D h => ⟨h.1, h.2.1, h.2.2.1, h.2.2.2.1, trivial⟩) (by (first | omega | (dsimp only; omega)))
        · refine exit ?_   -- 2
          show Tr _ _ _ _ _ _ _
          refine region (det rfl (mv rfl) (det rfl (addI rfl rfl (by omega) (by omega)) (det rfl (asg rfl) (nil ?_))))   -- region 6
          refine again (f + 1) (by omega) ⟨rfl, rfl, rfl, rfl, rfl, trivial⟩ (fun w hm => hm) (by (first | omega | (dsimp only; omega)))
      · refine exit ?_   -- 0
        show Tr _ _ _ _ _ _ _
        refine seq (region (call k_milepostlaw27_awake rfl rfl (fun w _ => awake27_ w) (det rfl (asg rfl) (nilS ?_))))   -- region 19
        exact ret (retT rfl rfl pr)
end Go.Proofs.Ytigcichdigkemaa.L
