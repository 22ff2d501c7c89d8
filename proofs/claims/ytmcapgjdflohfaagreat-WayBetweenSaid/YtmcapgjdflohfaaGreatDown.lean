/- Package down: the walks. -/
import Derived.Test.YtmcapgjdflohfaaGreatNear
set_option linter.all false
namespace Go.Proofs.YtmcapgjdflohfaaGreat.L
open Go Go.RowKit
set_option linter.unusedVariables false

theorem fold_take (tt : Int) (l : List Int) (k : Nat) (hk : k < l.length) : (l.take (k + 1)).foldl (Mp.farStep tt) (0, false) = Mp.farStep tt ((l.take k).foldl (Mp.farStep tt) (0, false)) (l.getD k 0) := by
  rw [List.take_succ_eq_append_getElem hk, List.foldl_append]; simp [hk]

theorem down_far_ (l : List Int) (hn : l.length ≤ 1000000) (tt : Int) (A : Option Addr) (cap : Nat) (D : Nat → Prop) (w : World) (hD : ∀ k, D k → k < w.heap.size) (hs : Sl 1 A l.length cap (il l) D w) :
    Calls PP N_down_far #[.slice A l.length cap, .int .i64 tt] w (PR w (.tuple #[.int .i64 (Mp.far l tt).1, .bool (Mp.far l tt).2])) := by
  refine enter f_down_far rfl n_down_far rfl (M.init1 PP w Sl.stable hD hs) ?_
  refine seq (region (det rfl (asg rfl) (det rfl (asg rfl) (nilS ?_))))   -- region 0
  refine seq (region (det rfl (asg rfl) (det rfl (asg rfl) (nilS ?_))))   -- region 1
  refine seq ?_
  refine seq (region (det rfl (mv rfl) (det rfl (lenS u_sl_int rfl) (det rfl (mv rfl) (nilS ?_)))))   -- region 2
  refine block ?_   -- block 0
  refine loopV (ι := Nat × Int × Bool) (fun (k, x, b) => k ≤ l.length ∧ (l.take k).foldl (Mp.farStep tt) (0, false) = (x, b)) (fun (k, x, b) => [(1, .int .i64 tt), (6, .int .i64 x), (7, .bool b), (10, .slice A l.length cap), (11, .int .i64 l.length), (12, .int .i64 k)]) (fun _ => []) (fun _ => [Sl 1 A l.length cap (il l)]) (fun (k, _, _) => l.length - k) (0, 0, false) ⟨by omega, rfl⟩ ⟨rfl, rfl, rfl, rfl, rfl, rfl, trivial⟩ (fun w hm => hm) ?_
  rintro ⟨k, x, b⟩ σ ⟨hk, hf⟩
  dsimp only at hk hf ⊢
  refine seq (region (det rfl (lss rfl rfl) (nilS ?_)))   -- region 3
  refine seq ?_
  refine cond rfl (fun h => ?_) (fun h => ?_)   -- on t13
  · have h := of_decide_eq_true h
    have hk2 : k < l.length := by omega
    have hstep := fold_take tt l k hk2
    rw [hf, Mp.farStep] at hstep
    dsimp only at hstep
    refine skipS ?_
    refine seq ?_
    refine block ?_   -- block 1
    refine seq (region (det rfl (ixS 0 rfl rfl u_sl_int s_int rfl (by omega) (by omega)) (det rfl (ldSO 0 rfl rfl o_int (il_at (j := k) (by omega) hk2)) (det rfl (asg rfl) (nilS ?_)))))   -- region 4
    obtain ⟨v, hv⟩ : ∃ v, l.getD k 0 = v := ⟨_, rfl⟩
    rw [hv] at hstep ⊢
    by_cases hc : tt ≤ v ∧ (b = false ∨ v < x)
    · rw [if_pos hc] at hstep
      refine seq (region (det rfl (mv rfl) (det rfl (mv rfl) (det rfl (geq rfl rfl) (det rfl (mv rfl) ?_)))))
      refine guardT rfl (vb (decide_eq_true hc.1)) (det rfl (mv rfl) ?_)
      refine guardT rfl (vb (decide_eq_true hc.1)) (det rfl (notB rfl) ?_)
      refine guardT rfl (vb (decide_eq_true hc.1)) (det rfl (mv rfl) ?_)
      cases b with
      | false =>
        refine guardF rfl rfl rfl ?_
        refine guardF rfl rfl rfl ?_
        refine guardF rfl rfl rfl ?_
        refine guardT rfl (vb (decide_eq_true hc.1)) (det rfl (pick rfl rfl) ?_)
        refine det rfl (pick (vb (decide_eq_true hc.1)) rfl) (nilS ?_)
        refine condT rfl ?_
        refine region (det rfl (mv rfl) (det rfl (asg rfl) (det rfl (asg rfl) (nil ?_))))   -- region 6
        show Tr _ _ _ _ _ _ _
        refine region (det rfl (addI rfl rfl (by omega) (by omega)) (det rfl (mv rfl) (nil ?_)))   -- region 7
        exact again (k + 1, v, true) ⟨by dsimp only; omega, hstep⟩ ⟨rfl, rfl, rfl, rfl, rfl, rfl, trivial⟩ (fun w hm => hm) (by (first | omega | (dsimp only; omega)))
      | true =>
        have hc2 : v < x := by rcases hc.2 with h | h; cases h; exact h
        refine guardT rfl rfl (det rfl (mv rfl) ?_)
        refine guardT rfl rfl (det rfl (mv rfl) ?_)
        refine guardT rfl rfl (det rfl (lss rfl rfl) ?_)
        refine guardT rfl (vb (decide_eq_true hc.1)) (det rfl (pick rfl (vb (decide_eq_true hc2))) ?_)
        refine det rfl (pick (vb (decide_eq_true hc.1)) rfl) (nilS ?_)
        refine condT rfl ?_
        refine region (det rfl (mv rfl) (det rfl (asg rfl) (det rfl (asg rfl) (nil ?_))))   -- region 6
        show Tr _ _ _ _ _ _ _
        refine region (det rfl (addI rfl rfl (by omega) (by omega)) (det rfl (mv rfl) (nil ?_)))   -- region 7
        exact again (k + 1, v, true) ⟨by dsimp only; omega, hstep⟩ ⟨rfl, rfl, rfl, rfl, rfl, rfl, trivial⟩ (fun w hm => hm) (by (first | omega | (dsimp only; omega)))
    · rw [if_neg hc] at hstep
      refine seq (region (det rfl (mv rfl) (det rfl (mv rfl) (det rfl (geq rfl rfl) (det rfl (mv rfl) ?_)))))
      by_cases c1 : tt ≤ v
      · have hb : b = true := by
          cases b with
          | false => exact absurd ⟨c1, .inl rfl⟩ hc
          | true => rfl
        subst hb
        have c2 : ¬ v < x := fun h => hc ⟨c1, .inr h⟩
        refine guardT rfl (vb (decide_eq_true c1)) (det rfl (mv rfl) ?_)
        refine guardT rfl (vb (decide_eq_true c1)) (det rfl (notB rfl) ?_)
        refine guardT rfl (vb (decide_eq_true c1)) (det rfl (mv rfl) ?_)
        refine guardT rfl rfl (det rfl (mv rfl) ?_)
        refine guardT rfl rfl (det rfl (mv rfl) ?_)
        refine guardT rfl rfl (det rfl (lss rfl rfl) ?_)
        refine guardT rfl (vb (decide_eq_true c1)) (det rfl (pick rfl (vb (decide_eq_false c2))) ?_)
        refine det rfl (pick (vb (decide_eq_true c1)) rfl) (nilS ?_)
        refine condF rfl ?_
        refine skip ?_
        show Tr _ _ _ _ _ _ _
        refine region (det rfl (addI rfl rfl (by omega) (by omega)) (det rfl (mv rfl) (nil ?_)))   -- region 7
        exact again (k + 1, x, true) ⟨by dsimp only; omega, hstep⟩ ⟨rfl, rfl, rfl, rfl, rfl, rfl, trivial⟩ (fun w hm => hm) (by (first | omega | (dsimp only; omega)))
      · repeat (first | refine guardF rfl (vb (decide_eq_false c1)) rfl ?_ | refine guardU rfl rfl rfl ?_)
        refine det rfl (pick (vb (decide_eq_false c1)) rfl) (nilS ?_)
        refine condF rfl ?_
        refine skip ?_
        show Tr _ _ _ _ _ _ _
        refine region (det rfl (addI rfl rfl (by omega) (by omega)) (det rfl (mv rfl) (nil ?_)))   -- region 7
        exact again (k + 1, x, b) ⟨by dsimp only; omega, hstep⟩ ⟨rfl, rfl, rfl, rfl, rfl, rfl, trivial⟩ (fun w hm => hm) (by (first | omega | (dsimp only; omega)))
  · have h := of_decide_eq_false h
    have e : k = l.length := by omega
    subst e
    rw [List.take_length] at hf
    refine exit ?_   -- 0
    show Tr _ _ _ _ _ _ _
    refine seq (region (det rfl (mv rfl) (det rfl (mv rfl) (det rfl (asg rfl) (det rfl (asg rfl) (nilS ?_))))))   -- region 8
    have e1 : Mp.far l tt = (x, b) := hf
    rw [e1]
    exact ret (ret2 rfl rfl rfl pr)

theorem down_Index_ (l : List Int) (hn : l.length ≤ 1000000) (a x : Int) (A : Option Addr) (cap : Nat) (D : Nat → Prop) (w : World) (hD : ∀ k, D k → k < w.heap.size) (hs : Sl 1 A l.length cap (il l) D w) (hl : (Mp.all l a).length ≤ 1000) :
    Calls PP N_down_Index #[.slice A l.length cap, .int .i64 a, .int .i64 x] w (PR w (.int .i64 (Mp.index l a x))) := by
  obtain ⟨y, hy⟩ : ∃ y, Mp.all l a = y := ⟨_, rfl⟩
  refine enter f_down_Index rfl n_down_Index rfl (M.init1 PP w Sl.stable hD hs) ?_
  refine seq (region (det rfl (asg rfl) (nilS ?_)))   -- region 0
  refine seq ?_
  refine seq (region (det rfl (mv rfl) (det rfl (mv rfl) (callS k_near_All rfl rfl (fun w hm => by
    obtain ⟨D, hD, hs⟩ := hm.sl (k := 0) rfl
    exact near_All_ l hn a A cap D w hD hs) fun B q => det rfl (lenS u_sl_int rfl) (det rfl (mv rfl) (nilS ?_))))))   -- region 1
  rw [il_length, Mp.index, hy]
  rw [hy] at hl
  refine block ?_   -- block 0
  refine loopV (ι := Nat) (fun k => k ≤ y.length ∧ Mp.indexFrom x (y.drop k) k = Mp.indexFrom x y 0) (fun k => [(2, .int .i64 x), (11, .slice B y.length q), (12, .int .i64 y.length), (13, .int .i64 k)]) (fun _ => []) (fun _ => [Sl 1 B y.length q (il y)]) (fun k => y.length - k) 0 ⟨by omega, rfl⟩ ⟨rfl, rfl, rfl, rfl, trivial⟩ (fun w hm => by
    obtain ⟨D, d1, d2, d3, d4, d5⟩ := hm.data
    exact ⟨hm.os, hm.tape, hm.output, hm.size, hm.frame, hm.holds, hm.mine, hm.nodup, ⟨Sl.stable, trivial⟩, D, d1, d2, d3, d4, d5.1, trivial⟩) ?_
  intro k σ ⟨hk, hc⟩
  refine seq (region (det rfl (lss rfl rfl) (nilS ?_)))   -- region 2
  refine seq ?_
  refine cond rfl (fun h => ?_) (fun h => ?_)   -- on t14
  · have h := of_decide_eq_true h
    have hk2 : k < y.length := by omega
    rw [List.drop_eq_getElem_cons hk2, Mp.indexFrom] at hc
    refine skipS ?_
    refine seq ?_
    refine block ?_   -- block 1
    refine seq (region (det rfl (mv rfl) (det rfl (ixS 0 rfl rfl u_sl_int s_int rfl (by omega) (by omega)) (det rfl (ldSO 0 rfl rfl o_int (il_at (j := k) (by omega) hk2)) (det rfl (asg rfl) (det rfl (asg rfl) (nilS ?_)))))))   -- region 3
    have e : y.getD k 0 = y[k] := by simp [hk2]
    rw [e]
    refine seq (region (det rfl (mv rfl) (det rfl (mv rfl) (det rfl (eql rfl rfl) (nilS ?_)))))   -- region 4
    refine cond rfl (fun h => ?_) (fun h => ?_)   -- on t20
    · have h := of_decide_eq_true h
      refine seq (region (det rfl (mv rfl) (det rfl (asg rfl) (nilS ?_))))   -- region 5
      exact ret (retT rfl rfl (pr' (vi (by rw [← hc, if_pos h]))))
    · have h := of_decide_eq_false h
      refine skip ?_
      show Tr _ _ _ _ _ _ _
      refine region (det rfl (addI rfl rfl (by omega) (by omega)) (det rfl (mv rfl) (nil ?_)))   -- region 6
      exact again (k + 1) ⟨by omega, by rw [← hc, if_neg h]; rfl⟩ ⟨rfl, rfl, rfl, rfl, trivial⟩ (fun w hm => hm) (by (first | omega | (dsimp only; omega)))
  · have h := of_decide_eq_false h
    refine exit ?_   -- 0
    show Tr _ _ _ _ _ _ _
    refine seq (region (det rfl (asg rfl) (nilS ?_)))   -- region 7
    have e : k = y.length := by omega
    rw [e, List.drop_length] at hc
    exact ret (retT rfl rfl (pr' (vi (by rw [← hc]; rfl))))

theorem down_WalkO_ (l : List Int) (hn : l.length ≤ 1000000) (a tt : Int) (A : Option Addr) (cap : Nat) (D : Nat → Prop) (w : World) (hD : ∀ k, D k → k < w.heap.size) (hs : Sl 1 A l.length cap (il l) D w) (hall : ∀ x, (Mp.all l x).length ≤ 1000) :
    Calls PP N_down_Walk #[.slice A l.length cap, .int .i64 a, .int .i64 tt] w (RO w T_int 1 (Mp.walk l a tt).length (il (Mp.walk l a tt)).flatten) := by
  refine enter f_down_Walk rfl n_down_Walk rfl (M.init1 PP w Sl.stable hD hs) ?_
  refine seq (region (det rfl (asg rfl) (nilS ?_)))   -- region 0
  refine seq ?_
  refine seq (region (det rfl (mv rfl) (det rfl (lss rfl rfl) (det rfl (mv rfl) ?_))))
  by_cases c1 : tt < 0
  · repeat (first | refine guardF rfl (vb (decide_eq_true c1)) rfl ?_ | refine guardU rfl rfl rfl ?_)
    refine det rfl (pick (vb (decide_eq_true c1)) rfl) (det rfl (mv rfl) ?_)
    repeat (first | refine guardF rfl (vb (rfl : true = !false)) rfl ?_ | refine guardU rfl rfl rfl ?_)
    refine det rfl (pick rfl rfl) (nilS ?_)
    refine condT rfl ?_
    refine seq (region (det rfl (asg rfl) (nilS ?_)))   -- region 2
    have e : Mp.walk l a tt = [] := by rw [Mp.walk, if_pos (.inl c1)]
    rw [e]; exact ret (retOwn0 rfl rfl rfl)
  refine guardT rfl (vb (decide_eq_false c1)) (det rfl (mv rfl) ?_)
  refine guardT rfl (vb (decide_eq_false c1)) (det rfl (mv rfl) ?_)
  refine guardT rfl (vb (decide_eq_false c1)) (det rfl (lss rfl rfl) ?_)
  by_cases c2 : a < tt
  · refine det rfl (pick (vb (decide_eq_false c1)) (vb (decide_eq_true c2))) (det rfl (mv rfl) ?_)
    repeat (first | refine guardF rfl (vb (rfl : true = !false)) rfl ?_ | refine guardU rfl rfl rfl ?_)
    refine det rfl (pick rfl rfl) (nilS ?_)
    refine condT rfl ?_
    refine seq (region (det rfl (asg rfl) (nilS ?_)))   -- region 2
    have e : Mp.walk l a tt = [] := by rw [Mp.walk, if_pos (.inr (.inl c2))]
    rw [e]; exact ret (retOwn0 rfl rfl rfl)
  refine det rfl (pick (vb (decide_eq_false c1)) (vb (decide_eq_false c2))) (det rfl (mv rfl) ?_)
  refine guardT rfl rfl (det rfl (mv rfl) ?_)
  refine guardT rfl rfl (det rfl (mv rfl) ?_)
  refine guardT rfl rfl (det rfl (lenS u_sl_int rfl) ?_)
  refine guardT rfl rfl (det rfl (geq rfl rfl) ?_)
  by_cases c3 : (l.length : Int) ≤ a
  · refine det rfl (pick rfl (vb (decide_eq_true c3))) (nilS ?_)
    refine condT rfl ?_
    refine seq (region (det rfl (asg rfl) (nilS ?_)))   -- region 2
    have e : Mp.walk l a tt = [] := by rw [Mp.walk, if_pos (.inr (.inr c3))]
    rw [e]; exact ret (retOwn0 rfl rfl rfl)
  refine det rfl (pick rfl (vb (decide_eq_false c3))) (nilS ?_)
  refine condF rfl ?_
  refine skipS ?_
  have ew : Mp.walk l a tt = Mp.walkN l tt ((a - tt).toNat + 1) a [a] := by rw [Mp.walk, if_neg (by omega)]
  refine seq (region (det rfl (mv rfl) (bsl rfl (bs1 u_sl_int z_int s_int (cs := [.int .i64 a]) rfl rfl rfl (by decide) (by decide)) fun b0 => det rfl (asg rfl) (nilS ?_))))   -- region 3
  refine seq ?_
  refine block ?_   -- block 0
  refine loopV (ι := Int × List Int × Nat × Option Addr × Nat) (fun (fr, y, k, _, _) => Mp.walkN l tt k fr y = Mp.walk l a tt ∧ tt ≤ fr ∧ fr < l.length ∧ fr - tt < k ∧ (y.length : Int) + (fr - tt) ≤ 1 + (a - tt)) (fun (fr, y, k, B, q) => [(0, .slice A l.length cap), (1, .int .i64 fr), (2, .int .i64 tt), (7, .slice B y.length q)])
    (fun (fr, y, k, B, q) => [.row (.slice B y.length q) T_int 1 y.length (il y).flatten]) (fun _ => [Sl 1 A l.length cap (il l)]) (fun (fr, _, _, _, _) => (fr - tt).toNat) (a, [a], (a - tt).toNat + 1, some ⟨b0, 0, none⟩, 1) ⟨ew.symm, by omega, by omega, by omega, by simp⟩ ⟨rfl, rfl, rfl, rfl, trivial⟩ (fun w hm => hm.asRow 0 rfl rfl rfl (by simp [maxLen])) ?_
  rintro ⟨fr, y, k, B, q⟩ σ ⟨hw, h1, h2, h3, h4⟩
  dsimp only at hw h1 h2 h3 h4 ⊢
  obtain ⟨k, rfl⟩ : ∃ m, k = m + 1 := ⟨k - 1, by omega⟩
  rw [Mp.walkN] at hw
  refine seq ?_
  refine seq (region (det rfl (mv rfl) (det rfl (mv rfl) (det rfl (gtr rfl rfl) (nilS ?_)))))   -- region 4
  refine cond rfl (fun h => ?_) (fun h => ?_)   -- on t27
  · have h := of_decide_eq_true h
    rw [if_pos h] at hw
    refine skipS ?_
    refine block ?_   -- block 1
    refine seq (region (det rfl (mv rfl) (det rfl (mv rfl) (callS k_near_All rfl rfl (fun w hm => by
      obtain ⟨D, hD, hs⟩ := hm.sl (k := 0) rfl
      exact near_All_ l hn fr A cap D w hD hs) fun B2 q2 => det rfl (mv rfl) (call k_down_far rfl rfl (fun w hm => by
      obtain ⟨D, hD, hs⟩ := hm.sl (k := 0) rfl
      rw [il_length] at hs ⊢
      exact down_far_ (Mp.all l fr) (by have := hall fr; omega) tt B2 q2 D w hD hs) (det rfl (mv rfl) (det rfl (extr rfl rfl) (det rfl (extr rfl rfl) (det rfl (asg rfl) (det rfl (asg rfl) (nilS ?_)))))))))))   -- region 5
    obtain ⟨f, hf⟩ : ∃ f, Mp.far (Mp.all l fr) tt = f := ⟨_, rfl⟩
    obtain ⟨f1, f2⟩ := f
    rw [hf] at hw ⊢
    dsimp only at hw ⊢
    refine seq ?_
    refine seq (region (det rfl (mv rfl) (det rfl (notB rfl) (nilS ?_))))   -- region 6
    cases f2 with
    | false =>
      refine condT rfl ?_
      refine seq (region (det rfl (asg rfl) (nilS ?_)))   -- region 7
      rw [if_neg (by decide)] at hw
      rw [← hw]; exact ret (retOwn0 rfl rfl rfl)
    | true =>
      rw [if_pos rfl] at hw
      have hs1 := Mp.far_some (Mp.all l fr) tt (by rw [hf])
      rw [hf] at hs1
      have hlt := Mp.all_lt l fr f1 hs1.2
      have hge : tt ≤ f1 := hs1.1
      have el : (y ++ [f1]).length = y.length + 1 := by simp
      refine condF rfl ?_
      refine skipS ?_
      refine region (det rfl (mv rfl) (det rfl (mv rfl) (bsl rfl (bs1 u_sl_int z_int s_int (cs := [.int .i64 f1]) rfl rfl rfl (by decide) (by decide)) fun b1 => appB 1 0 u_sl_int i_int rfl (by decide) rfl rfl rfl rfl rfl rfl (by simp only [maxLen]; omega) (by omega) rfl fun A cap => det rfl (mv rfl) (det rfl (asg rfl) (det rfl (asg rfl) (nil ?_))))))   -- region 8
      refine again (f1, y ++ [f1], k, _, _) ⟨hw, hge, by dsimp only; omega, by dsimp only; omega, by dsimp only; rw [el]; omega⟩ ⟨rfl, rfl, rfl, by dsimp only; rw [el]; rfl, trivial⟩ (fun w hm => ?_) (by dsimp only; omega)
      dsimp only
      rw [el, il_app]; exact drop1 hm.more
  · have h := of_decide_eq_false h
    rw [if_neg (by omega)] at hw
    refine exit ?_   -- 0
    show Tr _ _ _ _ _ _ _
    refine seq (region (det rfl (mv rfl) (det rfl (asg rfl) (nilS ?_))))   -- region 9
    rw [← hw]
    exact ret (retOwn (i := 0) rfl rfl rfl rfl)
theorem down_Walk_ (l : List Int) (hn : l.length ≤ 1000000) (a tt : Int) (A : Option Addr) (cap : Nat) (D : Nat → Prop) (w : World) (hD : ∀ k, D k → k < w.heap.size) (hs : Sl 1 A l.length cap (il l) D w) (hall : ∀ x, (Mp.all l x).length ≤ 1000) :
    Calls PP N_down_Walk #[.slice A l.length cap, .int .i64 a, .int .i64 tt] w (RS w 1 (il (Mp.walk l a tt))) :=
  (down_WalkO_ l hn a tt A cap D w hD hs hall).mono (RO.rs (il_length _) (il_ok _))
end Go.Proofs.YtmcapgjdflohfaaGreat.L
