/- Between: the program's and the reference's. -/
import Derived.Test.YtmcapgjdflohfaaGreatWay
import Derived.Test.YtmcapgjdflohfaaGreatPBtw
import Derived.Laws.ResultCell
set_option linter.all false
namespace Go.Proofs.YtmcapgjdflohfaaGreat.L
open Go Go.RowKit
set_option linter.unusedVariables false

theorem il_drop (xs : List Int) (k : Nat) : (il xs).drop k = il (xs.drop k) := by simp [il, List.map_drop]
theorem iv_flat (xs : List Int) : (il xs).flatten = iv xs := il_flat xs
theorem iv_app (a b : List Int) : iv (a ++ b) = iv a ++ iv b := by simp [iv]
theorem iv_drop (xs : List Int) (k : Nat) : (iv xs).drop k = iv (xs.drop k) := by simp [iv, List.map_drop]
theorem iv_take (xs : List Int) (k : Nat) : (iv xs).take k = iv (xs.take k) := by simp [iv, List.map_take]

theorem way_Between_ (l : List Int) (hn : l.length ≤ 1000000) (hi at_ lo : Int) (A : Option Addr) (cap : Nat) (D : Nat → Prop) (w : World) (hD : ∀ k, D k → k < w.heap.size) (hs : Sl 1 A l.length cap (il l) D w) :
    Calls PP N_way_Between #[.slice A l.length cap, .int .i64 hi, .int .i64 at_, .int .i64 lo] w (RS w 1 (il (Mp.btw l hi at_ lo))) := by
  have ha1 := Mp.walk_len l hi at_
  have hb1 := Mp.walk_len l at_ lo
  obtain ⟨a, ha⟩ : ∃ a, Mp.walk l hi at_ = a := ⟨_, rfl⟩
  obtain ⟨b, hb⟩ : ∃ b, Mp.walk l at_ lo = b := ⟨_, rfl⟩
  rw [ha] at ha1
  rw [hb] at hb1
  have key : ¬ ((a.length : Int) = 0) → ¬ ((b.length : Int) = 0) → ¬ (hi ≤ at_) → ¬ (at_ ≤ lo) → 2 ≤ a.length ∧ 2 ≤ b.length ∧ Mp.btw l hi at_ lo = ((a.drop 1 ++ b.drop 1).dropLast).reverse := by
    intro h1 h2 h3 h4
    have hane : a ≠ [] := by rintro rfl; exact h1 rfl
    have hbne : b ≠ [] := by rintro rfl; exact h2 rfl
    obtain ⟨_, la, lb⟩ := Mp.btw_eq l hi at_ lo (by omega) (by omega) (by rw [ha]; exact hane) (by rw [hb]; exact hbne)
    rw [ha] at la
    rw [hb] at lb
    exact ⟨la, lb, by rw [Mp.btw, if_neg (by rw [ha, hb]; rintro (h | h | h | h); omega; omega; exact hane h; exact hbne h), ha, hb]⟩
  have key0 : ((a.length : Int) = 0 ∨ (b.length : Int) = 0 ∨ hi ≤ at_ ∨ at_ ≤ lo) → Mp.btw l hi at_ lo = [] := by
    intro h
    rw [Mp.btw, if_pos]
    rw [ha, hb]
    rcases h with h | h | h | h
    · exact .inr (.inr (.inl (List.length_eq_zero_iff.1 (by omega))))
    · exact .inr (.inr (.inr (List.length_eq_zero_iff.1 (by omega))))
    · exact .inl h
    · exact .inr (.inl h)
  refine enter f_way_Between rfl n_way_Between rfl (M.init1 PP w Sl.stable hD hs) ?_
  refine seq (region (det rfl (asg rfl) (nilS ?_)))   -- region 0
  refine seq (region (det rfl (mv rfl) (det rfl (mv rfl) (det rfl (mv rfl) (callO (e := T_int) (sz := 1) (m := a.length) (xs := (il a).flatten) k_down_Walk rfl rfl (fun w hm => by
    obtain ⟨D, hD, hs⟩ := hm.sl (k := 0) rfl
    have := down_WalkO_ l hn hi at_ A cap D w hD hs (fun x => Nat.le_trans (Mp.all_len _ _) (by decide))
    rw [ha] at this
    exact this) fun B1 q1 => det rfl (mv rfl) (det rfl (mv rfl) (det rfl (mv rfl) (callS' (sz := 1) (ls := il b) (m := b.length) (il_length _) k_down_Walk rfl rfl (fun w hm => by
    obtain ⟨D, hD, hs⟩ := hm.sl (k := 0) rfl
    have := down_Walk_ l hn at_ lo A cap D w hD hs (fun x => Nat.le_trans (Mp.all_len _ _) (by decide))
    rw [hb] at this
    exact this) fun B2 q2 => (det rfl (asg rfl) (det rfl (asg rfl) (nilS ?_)))))))))))   -- region 1
  refine cutV (ι := Unit) (fun _ => ¬ ((a.length : Int) = 0) ∧ ¬ ((b.length : Int) = 0) ∧ ¬ (hi ≤ at_) ∧ ¬ (at_ ≤ lo)) (fun _ => [(9, .slice B1 a.length q1), (10, .slice B2 b.length q2)]) (fun _ => [.row (.slice B1 a.length q1) T_int 1 a.length (il a).flatten]) (fun _ => [Sl 1 B2 b.length q2 (il b), Sl 1 A l.length cap (il l)]) ?_ ?_
  rotate_left
  · rintro _ σ ⟨h1, h2, h3, h4⟩
    have kk := key h1 h2 h3 h4
    have la := kk.1
    have lb := kk.2.1
    have hbt := kk.2.2
    rw [hbt]
    have h0a : 0 < a.length := by omega
    refine asBlkT (A := B1) (m := a.length) (cap := q1) (sz := 1) (e := T_int) (xs := (il a).flatten) 0 rfl h0a fun g cells e1 hc1 hc2 hc3 hc4 => ?_
    subst e1
    rw [Nat.mul_one] at hc1 hc4
    rw [iv_flat] at hc4
    refine also (f := Sl 1 (if q2 = 1 then B2 else B2.map fun a => a.add (1 * 1)) (b.length - 1) (q2 - 1) (il (b.drop 1))) Sl.stable (fun D w hK => by
      have := Sl.cut (m := 1) (cap' := q2 - 1) hK.1 (by omega) (by have := hK.1.2.1; omega) (by omega)
      rw [il_drop] at this
      exact this) ?_
    refine slCapT 1 rfl fun hq2 => ?_
    refine seq (draw (m := 4) mix (by kernel_rfl) (take 0 rfl (by kernel_rfl) rfl (mv rfl) (take 1 rfl (by kernel_rfl) rfl (Det.to (slDrop (l := 1) u_sl_int s_int rfl rfl (by omega) (by omega)) (v' := .slice (some ⟨g, 1, none⟩) (a.length - 1) (q1 - 1)) (by rw [if_neg (by omega)]; rfl)) (take 2 rfl (by kernel_rfl) rfl (mv rfl) (take 3 rfl (by kernel_rfl) rfl (slDrop (l := 1) u_sl_int s_int rfl rfl (by omega) hq2) ((tail (by kernel_rfl) rfl (appM 0 0 u_sl_int i_int rfl rfl rfl rfl rfl (by omega) (by omega) (by omega) (by simp only [maxLen] at hc3 ⊢; omega) (by simp only [maxLen]; omega) (by omega) rfl fun b' off' cap' cells' hq1 hqm hq2 hq3 => det rfl (asg rfl) (nilS ?_)))))))))   -- region 4
    have e1 : (cells.drop 1).take (a.length - 1) = iv (a.drop 1) := by rw [← iv_drop, ← hc4, List.drop_take]
    rw [e1, iv_flat, ← iv_app] at hq3
    obtain ⟨X, hX⟩ : ∃ X, a.drop 1 ++ b.drop 1 = X := ⟨_, rfl⟩
    have hXl : X.length = a.length - 1 + (b.length - 1) := by rw [← hX, List.length_append, List.length_drop, List.length_drop]
    rw [hX] at hq3 hbt ⊢
    rw [← hXl] at hq3 hq1 ⊢
    have hR : (cells'.drop off').take (X.length - 1) = iv X.dropLast := by
      have := congrArg (List.take (X.length - 1)) hq3
      rw [List.take_take, Nat.min_eq_left (by omega), iv_take, ← List.dropLast_eq_take] at this
      exact this
    have hsp := split3 hR
    have hpre : (cells'.take off').length = off' := by rw [List.length_take]; omega
    have hdl : X.dropLast.length = X.length - 1 := List.length_dropLast
    rw [hsp]
    refine seq (region (det rfl (mv rfl) (det rfl (mv rfl) (det rfl (lenS u_sl_int rfl) (det rfl (Det.to (subI rfl rfl (by omega) (by omega)) (vi (show _ = ((X.length - 1 : Nat) : Int) by omega))) (det rfl (slTake u_sl_int s_int rfl rfl (by omega)) (det rfl (asg rfl) (nilS ?_))))))))   -- region 5
    refine seq (region (det rfl (mv rfl) (callW 0 k_slices_Reverse_int_int rfl rfl rfl (slices_Reverse_ b' off' (X.length - 1) cap' T_int (cells'.take off') (cells'.drop (off' + (X.length - 1))) X.dropLast hdl (by omega) hpre) (nilS ?_))))   -- region 6
    refine seq (region (det rfl (mv rfl) (det rfl (asg rfl) (nilS ?_))))   -- region 7
    refine ret (retMid (pre := cells'.take off') (R := X.dropLast.reverse) (m := X.length - 1) (cap := cap') rfl rfl (by rw [hpre]; rfl) (i := 0) rfl (by rw [List.length_reverse, hdl]) (by omega) hqm)
  refine seq (region (det rfl (mv rfl) (det rfl (lenS u_sl_int rfl) (det rfl (eql rfl rfl) (det rfl (mv rfl) (guardI rfl rfl rfl (fun _ => mv rfl) (guardI rfl rfl rfl (fun hb => lenS u_sl_int (bift hb rfl)) (guardI rfl rfl rfl (fun hb => eql (bift hb rfl) rfl) (det rfl (pick rfl (pickO rfl)) (det rfl (mv rfl) (guardI rfl rfl rfl (fun _ => mv rfl) (guardI rfl rfl rfl (fun _ => mv rfl) (guardI rfl rfl rfl (fun hb => leq (bift hb rfl) (bift hb rfl)) (det rfl (pick rfl (pickO rfl)) (det rfl (mv rfl) (guardI rfl rfl rfl (fun _ => mv rfl) (guardI rfl rfl rfl (fun _ => mv rfl) (guardI rfl rfl rfl (fun hb => leq (bift hb rfl) (bift hb rfl)) (det rfl (pick rfl (pickO rfl)) (nilS ?_))))))))))))))))))))   -- region 2
  refine cond rfl (fun h => ?_) (fun h => ?_)   -- on t37
  · refine seq (region (det rfl (asg rfl) (nilS ?_)))   -- region 3
    have e : Mp.btw l hi at_ lo = [] := key0 (by
      rcases Bool.or_eq_true_iff.1 h with h | h
      · rcases Bool.or_eq_true_iff.1 h with h | h
        · rcases Bool.or_eq_true_iff.1 h with h | h
          · exact .inl (of_decide_eq_true h)
          · exact .inr (.inl (of_decide_eq_true h))
        · exact .inr (.inr (.inl (of_decide_eq_true h)))
      · exact .inr (.inr (.inr (of_decide_eq_true h))))
    rw [e]; exact ret (retNil rfl rfl rfl)
  · have g1 := Bool.or_eq_false_iff.1 h
    have g2 := Bool.or_eq_false_iff.1 g1.1
    have g3 := Bool.or_eq_false_iff.1 g2.1
    have h4 : ¬ (at_ ≤ lo) := of_decide_eq_false g1.2
    have h3 : ¬ (hi ≤ at_) := of_decide_eq_false g2.2
    have h2 : ¬ ((b.length : Int) = 0) := of_decide_eq_false g3.2
    have h1 : ¬ ((a.length : Int) = 0) := of_decide_eq_false g3.1
    clear g1 g2 g3 h
    refine skip ?_
    exact meets () ⟨h1, h2, h3, h4⟩ ⟨rfl, rfl, trivial⟩ (fun w hm => hm)

theorem rev_step {α : Type} (xs : List α) (m : Nat) (h : m < xs.length) : (xs.drop m).reverse = (xs.drop (m + 1)).reverse ++ [xs[m]] := by
  rw [List.drop_eq_getElem_cons h, List.reverse_cons]
theorem ref47_Between_ (l : List Int) (hn : l.length ≤ 1000000) (hi at_ lo : Int) (A : Option Addr) (cap : Nat) (D : Nat → Prop) (w : World) (hD : ∀ k, D k → k < w.heap.size) (hs : Sl 1 A l.length cap (il l) D w) :
    Calls PP N_milepostref47_Between #[.slice A l.length cap, .int .i64 hi, .int .i64 at_, .int .i64 lo] w (RS w 1 (il (Mp.btw l hi at_ lo))) := by
  have ha1 := Mp.walk_len l hi at_
  have hb1 := Mp.walk_len l at_ lo
  obtain ⟨a, ha⟩ : ∃ a, Mp.walk l hi at_ = a := ⟨_, rfl⟩
  obtain ⟨b, hb⟩ : ∃ b, Mp.walk l at_ lo = b := ⟨_, rfl⟩
  rw [ha] at ha1
  rw [hb] at hb1
  have key : ¬ ((a.length : Int) = 0) → ¬ ((b.length : Int) = 0) → ¬ (hi ≤ at_) → ¬ (at_ ≤ lo) → 2 ≤ a.length ∧ 2 ≤ b.length ∧ Mp.btw l hi at_ lo = b.dropLast.reverse ++ (a.drop 1).dropLast.reverse := by
    intro h1 h2 h3 h4
    have hane : a ≠ [] := by rintro rfl; exact h1 rfl
    have hbne : b ≠ [] := by rintro rfl; exact h2 rfl
    obtain ⟨e, la, lb⟩ := Mp.btw_eq l hi at_ lo (by omega) (by omega) (by rw [ha]; exact hane) (by rw [hb]; exact hbne)
    rw [ha] at la
    rw [hb] at lb
    exact ⟨la, lb, by rw [e, ha, hb]⟩
  have key0 : (hi ≤ at_ ∨ at_ ≤ lo ∨ (a.length : Int) = 0 ∨ (b.length : Int) = 0) → Mp.btw l hi at_ lo = [] := by
    intro h
    rw [Mp.btw, if_pos]
    rw [ha, hb]
    rcases h with h | h | h | h
    · exact .inl h
    · exact .inr (.inl h)
    · exact .inr (.inr (.inl (List.length_eq_zero_iff.1 (by omega))))
    · exact .inr (.inr (.inr (List.length_eq_zero_iff.1 (by omega))))
  refine enter f_milepostref47_Between rfl n_milepostref47_Between rfl (M.init1 PP w Sl.stable hD hs) ?_
  refine seq (region (det rfl (asg rfl) (nilS ?_)))   -- region 0
  refine seq ?_
  refine seq (region (det rfl (mv rfl) (det rfl (mv rfl) (det rfl (leq rfl rfl) (det rfl (mv rfl) (guardI rfl rfl rfl (fun _ => mv rfl) (guardI rfl rfl rfl (fun _ => mv rfl) (guardI rfl rfl rfl (fun hb => leq (bift hb rfl) (bift hb rfl)) (det rfl (pick rfl (pickO rfl)) (nilS ?_))))))))))   -- region 1
  refine cond rfl (fun h => ?_) (fun h => ?_)   -- on t21
  · refine seq (region (det rfl (asg rfl) (nilS ?_)))   -- region 2
    have e : Mp.btw l hi at_ lo = [] := key0 (by
      rcases Bool.or_eq_true_iff.1 h with h | h
      · exact .inl (of_decide_eq_true h)
      · exact .inr (.inl (of_decide_eq_true h)))
    rw [e]; exact ret (retNil rfl rfl rfl)
  · have g1 := Bool.or_eq_false_iff.1 h
    have h4 : ¬ (at_ ≤ lo) := of_decide_eq_false g1.2
    have h3 : ¬ (hi ≤ at_) := of_decide_eq_false g1.1
    clear g1 h
    refine skipS ?_
    refine seq (region (det rfl (mv rfl) (det rfl (mv rfl) (det rfl (mv rfl) (callS' (sz := 1) (ls := il a) (m := a.length) (il_length _) k_milepostref22_Walk rfl rfl (fun w hm => by
      obtain ⟨D, hD, hs⟩ := hm.sl (k := 0) rfl
      have := ref22_Walk_ l hn hi at_ A cap D w hD hs
      rw [ha] at this
      exact this) fun B1 q1 => (det rfl (asg rfl) (nilS ?_)))))))   -- region 3
    refine seq (region (det rfl (mv rfl) (det rfl (mv rfl) (det rfl (mv rfl) (callS' (sz := 1) (ls := il b) (m := b.length) (il_length _) k_milepostref22_Walk rfl rfl (fun w hm => by
      obtain ⟨D, hD, hs⟩ := hm.sl (k := 1) rfl
      have := ref22_Walk_ l hn at_ lo A cap D w hD hs
      rw [hb] at this
      exact this) fun B2 q2 => (det rfl (asg rfl) (nilS ?_)))))))   -- region 4
    refine cutV (ι := Unit) (fun _ => ¬ ((a.length : Int) = 0) ∧ ¬ ((b.length : Int) = 0)) (fun _ => [(9, .slice B1 a.length q1), (10, .slice B2 b.length q2)]) (fun _ => []) (fun _ => [Sl 1 B2 b.length q2 (il b), Sl 1 B1 a.length q1 (il a)]) ?_ ?_
    · refine seq (region (det rfl (mv rfl) (det rfl (lenS u_sl_int rfl) (det rfl (eql rfl rfl) (det rfl (mv rfl) (guardI rfl rfl rfl (fun _ => mv rfl) (guardI rfl rfl rfl (fun hb => lenS u_sl_int (bift hb rfl)) (guardI rfl rfl rfl (fun hb => eql (bift hb rfl) rfl) (det rfl (pick rfl (pickO rfl)) (nilS ?_))))))))))   -- region 5
      refine cond rfl (fun h => ?_) (fun h => ?_)   -- on t37
      · refine seq (region (det rfl (asg rfl) (nilS ?_)))   -- region 6
        have e : Mp.btw l hi at_ lo = [] := key0 (by
          rcases Bool.or_eq_true_iff.1 h with h | h
          · exact .inr (.inr (.inl (of_decide_eq_true h)))
          · exact .inr (.inr (.inr (of_decide_eq_true h))))
        rw [e]; exact ret (retNil rfl rfl rfl)
      · have g1 := Bool.or_eq_false_iff.1 h
        refine skip ?_
        exact meets () ⟨of_decide_eq_false g1.1, of_decide_eq_false g1.2⟩ ⟨rfl, rfl, trivial⟩ (fun w hm => hm.refact ⟨Sl.stable, Sl.stable, trivial⟩ fun D h => ⟨h.1, h.2.1, trivial⟩)
    · rintro _ σ ⟨h1, h2⟩
      have kk := key h1 h2 h3 h4
      have la := kk.1
      have lb := kk.2.1
      rw [kk.2.2]
      refine seq (region (det rfl (asg rfl) (nilS ?_)))   -- region 7
      refine seq ?_
      refine seq (region (det rfl (mv rfl) (det rfl (lenS u_sl_int rfl) (det rfl (subI rfl rfl (by omega) (by omega)) (det rfl (asg rfl) (nilS ?_))))))   -- region 8
      refine block ?_   -- block 0
      have hbl : b.dropLast.length = b.length - 1 := List.length_dropLast
      have hal : (a.drop 1).dropLast.length = a.length - 2 := by rw [List.length_dropLast, List.length_drop]; omega
      refine loopV (ι := Nat × Option Addr × Nat) (fun (m, _, _) => m ≤ b.length - 1) (fun (m, B, q) => [(9, .slice B1 a.length q1), (10, .slice B2 b.length q2), (11, .slice B (b.dropLast.drop m).reverse.length q), (12, .int .i64 ((m : Int) - 1))]) (fun (m, B, q) => [.row (.slice B (b.dropLast.drop m).reverse.length q) T_int 1 (b.dropLast.drop m).reverse.length (il (b.dropLast.drop m).reverse).flatten]) (fun _ => [Sl 1 B2 b.length q2 (il b), Sl 1 B1 a.length q1 (il a)]) (fun (m, _, _) => m) (b.length - 1, none, 0) (by (first | omega | (dsimp only; omega))) ⟨rfl, rfl, ?_, vi (by omega), trivial⟩ (fun w hm => ?_) ?_
      · rw [List.drop_of_length_le (by omega)]; rfl
      · dsimp only
        rw [List.drop_of_length_le (by omega)]; exact hm.nilRow _ _
      rintro ⟨m, B, q⟩ σ hm
      dsimp only at hm ⊢
      have hlen : (b.dropLast.drop m).reverse.length = b.length - 1 - m := by rw [List.length_reverse, List.length_drop, hbl]
      refine seq ?_
      refine seq (region (det rfl (mv rfl) (det rfl (geq rfl rfl) (nilS ?_))))   -- region 9
      refine cond rfl (fun h => ?_) (fun h => ?_)   -- on t42
      · have h := of_decide_eq_true h
        obtain ⟨r, rfl⟩ : ∃ r, m = r + 1 := ⟨m - 1, by omega⟩
        have hst := rev_step b.dropLast r (by omega)
        have hx : b.getD r 0 = b.dropLast[r]'(by omega) := by
          rw [List.getElem_dropLast]; simp [show r < b.length by omega]
        rw [← hx] at hst
        refine skipS ?_
        refine seq ?_
        refine block ?_   -- block 1
        refine region (det rfl (mv rfl) (det rfl (mv rfl) (det rfl (Det.to (mv rfl) (vi (show _ = (r : Int) by omega))) (det rfl (ixS 0 rfl rfl u_sl_int s_int rfl (by omega) (by omega)) (det rfl (ldSO 0 (i := r) rfl rfl o_int (il_at rfl (by omega))) (bsl rfl (bs1 u_sl_int z_int s_int (cs := [.int .i64 (b.getD r 0)]) rfl rfl rfl (by decide) (by decide)) fun b0 => appB 1 0 u_sl_int i_int rfl (by decide) rfl rfl rfl rfl rfl rfl (by simp only [maxLen]; omega) (by omega) rfl fun A cap => det rfl (asg rfl) (nil ?_)))))))   -- region 11
        show Tr _ _ _ _ _ _ _
        refine region (det rfl (mv rfl) (det rfl (subI rfl rfl (by omega) (by omega)) (det rfl (asg rfl) (nil ?_))))   -- region 10
        refine again (r, _, _) (by (first | omega | (dsimp only; omega))) ⟨rfl, rfl, (by dsimp only; rw [hst, List.length_append]; rfl), vi (by omega), trivial⟩ (fun w hm => ?_) (by (first | omega | (dsimp only; omega)))
        dsimp only; rw [hst, List.length_append, il_app]; exact drop1 hm
      · have h := of_decide_eq_false h
        have e0 : m = 0 := by omega
        subst e0
        refine exit ?_   -- 0
        show Tr _ _ _ _ _ _ _
        rw [List.drop_zero] at hlen ⊢
        obtain ⟨X, hX⟩ : ∃ X, b.dropLast.reverse = X := ⟨_, rfl⟩
        have hXl : X.length = b.length - 1 := by rw [← hX]; exact hlen
        rw [hX]
        obtain ⟨Y, hY⟩ : ∃ Y, (a.drop 1).dropLast = Y := ⟨_, rfl⟩
        rw [hY] at hal ⊢
        have hYx : ∀ r (hr : r < Y.length), a.getD (r + 1) 0 = Y[r] := by
          intro r hr
          subst hY
          rw [List.getElem_dropLast, List.getElem_drop]; simp [show r + 1 < a.length by omega, Nat.add_comm]
        refine seq ?_
        refine seq (region (det rfl (mv rfl) (det rfl (lenS u_sl_int rfl) (det rfl (subI rfl rfl (by omega) (by omega)) (det rfl (asg rfl) (nilS ?_))))))   -- region 12
        refine block ?_   -- block 2
        refine loopV (ι := Nat × Option Addr × Nat) (fun (m, _, _) => m ≤ Y.length) (fun (m, B, q) => [(9, .slice B1 a.length q1), (11, .slice B (X ++ (Y.drop m).reverse).length q), (13, .int .i64 m)]) (fun (m, B, q) => [.row (.slice B (X ++ (Y.drop m).reverse).length q) T_int 1 (X ++ (Y.drop m).reverse).length (il (X ++ (Y.drop m).reverse)).flatten]) (fun _ => [Sl 1 B1 a.length q1 (il a)]) (fun (m, _, _) => m) (Y.length, B, q) (by (first | omega | (dsimp only; omega))) ⟨rfl, ?_, vi (by omega), trivial⟩ (fun w hm => ?_) ?_
        · rw [List.drop_length, List.reverse_nil, List.append_nil]; rfl
        · dsimp only
          rw [List.drop_length, List.reverse_nil, List.append_nil]
          exact hm.refact ⟨Sl.stable, trivial⟩ fun D h => ⟨h.2.1, trivial⟩
        rintro ⟨m, B, q⟩ σ hm
        dsimp only at hm ⊢
        have hlen2 : (X ++ (Y.drop m).reverse).length = X.length + (Y.length - m) := by rw [List.length_append, List.length_reverse, List.length_drop]
        refine seq ?_
        refine seq (region (det rfl (mv rfl) (det rfl (gtr rfl rfl) (nilS ?_))))   -- region 13
        refine cond rfl (fun h => ?_) (fun h => ?_)   -- on t56
        · have h := of_decide_eq_true h
          obtain ⟨r, rfl⟩ : ∃ r, m = r + 1 := ⟨m - 1, by omega⟩
          have hst := rev_step Y r (by omega)
          rw [← hYx r (by omega)] at hst
          have hl9 : (X ++ (Y.drop (r + 1)).reverse ++ [a.getD (r + 1) 0]).length = (X ++ (Y.drop (r + 1)).reverse).length + 1 := by rw [List.length_append]; rfl
          refine skipS ?_
          refine seq ?_
          refine block ?_   -- block 3
          refine region (det rfl (mv rfl) (det rfl (mv rfl) (det rfl (mv rfl) (det rfl (ixS 0 rfl rfl u_sl_int s_int rfl (by omega) (by omega)) (det rfl (ldSO 0 (i := r + 1) rfl rfl o_int (il_at rfl (by omega))) (bsl rfl (bs1 u_sl_int z_int s_int (cs := [.int .i64 (a.getD (r + 1) 0)]) rfl rfl rfl (by decide) (by decide)) fun b1 => appB 1 0 u_sl_int i_int rfl (by decide) rfl rfl rfl rfl rfl rfl (by simp only [maxLen]; omega) (by omega) rfl fun A cap => det rfl (asg rfl) (nil ?_)))))))   -- region 15
          show Tr _ _ _ _ _ _ _
          refine region (det rfl (mv rfl) (det rfl (subI rfl rfl (by omega) (by omega)) (det rfl (asg rfl) (nil ?_))))   -- region 14
          refine again (r, _, _) (by (first | omega | (dsimp only; omega))) ⟨rfl, (by dsimp only; rw [hst, ← List.append_assoc, hl9]; rfl), vi (by omega), trivial⟩ (fun w hm => ?_) (by (first | omega | (dsimp only; omega)))
          dsimp only; rw [hst, ← List.append_assoc, hl9, il_app]; exact drop1 hm
        · have h := of_decide_eq_false h
          have e0 : m = 0 := by omega
          subst e0
          refine exit ?_   -- 2
          show Tr _ _ _ _ _ _ _
          rw [List.drop_zero]
          refine seq (region (det rfl (mv rfl) (det rfl (asg rfl) (nilS ?_))))   -- region 16
          exact ret (retRow (i := 0) rfl rfl rfl rfl (il_length _) (il_ok _))
end Go.Proofs.YtmcapgjdflohfaaGreat.L
