/- The laws' own helpers: Much, Same of whole numbers. -/
import Derived.Test.YtmcapgjdflohfaaGreatVecs
import Derived.Test.YtmcapgjdflohfaaGreatNear
set_option linter.all false
namespace Go.Proofs.YtmcapgjdflohfaaGreat.L
open Go Go.RowKit
set_option linter.unusedVariables false

section
variable {c : Cx} {n : Nat} {Q : Exit → Env → World → Prop} {σ : Env} {H : List Res} {K : List Fact}
/-- A guarded operation, whether it runs or not. -/
theorem guardI {ops : Array Oper} {d : Nat} {op : Op} {t : TypeId} {p : String} {af : Array Edge} {l : List Oper} {j s : Nat} {b g : Bool} {v : Value}
    (hj : (ops[j]?).bind (·.dst) = some s) (hs : σ s = .bool b) (hd : Nat.blt d n = true) (hv : b = g → Det c σ H K ⟨some d, op, t, p, af, none⟩ v) (h : TL c n ops l Q (upd σ d (bif (b == g) then v else undef)) H K) :
    TL c n ops (⟨some d, op, t, p, af, some (j, g)⟩ :: l) Q σ H K := by
  by_cases e : b = g
  · subst e
    rw [beq_self_eq_true] at h
    exact guardT hj hs (det hd (hv rfl) h)
  · have e2 : b = !g := (by decide : ∀ b g : Bool, ¬ b = g → b = !g) b g e
    have e3 : (b == g) = false := (by decide : ∀ b g : Bool, ¬ b = g → (b == g) = false) b g e
    rw [e3] at h
    exact guardF hj (by rw [hs, e2]) hd h
theorem bift {b g : Bool} {v w : Value} (h : b = g) (hv : v = w) : (bif (b == g) then v else undef) = w := by rw [h, beq_self_eq_true, hv]; rfl
theorem pickA {b : Bool} {v : Value} {x : Bool} (h : v = .bool x) : (bif b then (bif (b == true) then v else undef) else .bool false) = .bool (b && x) := by cases b <;> simp [h]
theorem pickO {b : Bool} {v : Value} {x : Bool} (h : v = .bool x) : (bif b then .bool true else (bif (b == false) then v else undef)) = .bool (b || x) := by cases b <;> simp [h]
end

/-- A block that is known reads as a slice. -/
theorem blk_sl {w : World} {b sz n : Nat} {e : TypeId} {ls : List (List Value)} (h : w.heap[b]? = some (ob ls.flatten e)) (hl : ∀ l ∈ ls, l.length = sz ∧ one l = true) (hn : ls.length = n) (hm : n ≤ maxLen) : Sl sz (some ⟨b, 0, none⟩) n n ls (fun k => k = b) w := by
  refine ⟨hn, Nat.le_refl _, hm, hl, fun _ => ⟨b, 0, rfl, rfl, fun i l hil j u hju => ?_⟩⟩
  have hls : ∀ l ∈ ls, l.length = sz := fun l h => (hl l h).1
  rw [cell_ob h, Nat.zero_add]
  have hi : i < ls.length := (List.getElem?_eq_some_iff.1 hil).1
  have h4 : (ls.flatten.drop (i * sz))[j]? = ls.flatten[i * sz + j]? := by rw [List.getElem?_drop]
  have hlen : l.length = sz := hls l (List.mem_of_getElem? hil)
  have hj : j < l.length := (List.getElem?_eq_some_iff.1 hju).1
  rw [← h4, flat_drop hls, List.drop_eq_getElem_cons hi, List.flatten_cons]
  have : ls[i] = l := by have := List.getElem?_eq_some_iff.1 hil; exact this.2
  rw [this, List.getElem?_append_left hj, hju]

theorem same22_ (x y : List Int) (hn : x.length ≤ 1000000) (A B : Option Addr) (cap q : Nat) (D : Nat → Prop) (w : World) (hD : ∀ k, D k → k < w.heap.size) (hs : Sl 1 A x.length cap (il x) D w) (hs2 : Sl 1 B y.length q (il y) D w) :
    Calls PP N_milepostref22_Same #[.slice A x.length cap, .slice B y.length q] w (PR w (.bool (decide (x = y)))) := by
  refine enter f_milepostref22_Same rfl n_milepostref22_Same rfl (M.init PP w D [] [Sl 1 A x.length cap (il x), Sl 1 B y.length q (il y)] ⟨Sl.stable, Sl.stable, trivial⟩ hD ⟨hs, hs2, trivial⟩) ?_
  refine seq (region (det rfl (asg rfl) (nilS ?_)))   -- region 0
  refine seq ?_
  refine seq (region (det rfl (mv rfl) (det rfl (lenS u_sl_int rfl) (det rfl (mv rfl) (det rfl (lenS u_sl_int rfl) (det rfl (neq rfl rfl) (nilS ?_)))))))   -- region 1
  refine cond rfl (fun h => ?_) (fun h => ?_)   -- on t10
  · have h : ¬ ((x.length : Int) = y.length) := by simpa using h
    refine seq (region (det rfl (asg rfl) (nilS ?_)))   -- region 2
    exact ret (retT rfl rfl (pr' (vb (Eq.symm (decide_eq_false fun e => h (by rw [e]))))))
  · have h : x.length = y.length := by have : ((x.length : Int) = y.length) := by simpa using h
                                       omega
    refine skipS ?_
    refine seq ?_
    refine seq (region (det rfl (asg rfl) (nilS ?_)))   -- region 3
    refine block ?_   -- block 0
    refine loopV (ι := Nat) (fun k => k ≤ x.length ∧ x.take k = y.take k) (fun k => [(0, .slice A x.length cap), (1, .slice B y.length q), (5, .int .i64 k)]) (fun _ => []) (fun _ => [Sl 1 A x.length cap (il x), Sl 1 B y.length q (il y)]) (fun k => x.length - k) 0 ⟨by omega, by simp⟩ ⟨rfl, rfl, rfl, trivial⟩ (fun w hm => hm) ?_
    rintro k σ ⟨hk, hkt⟩
    refine seq ?_
    refine seq (region (det rfl (mv rfl) (det rfl (mv rfl) (det rfl (lenS u_sl_int rfl) (det rfl (lss rfl rfl) (nilS ?_))))))   -- region 4
    refine cond rfl (fun h => ?_) (fun h => ?_)   -- on t14
    · have h := of_decide_eq_true h
      have hk1 : k < x.length := by omega
      have hk2 : k < y.length := by omega
      refine skipS ?_
      refine seq ?_
      refine block ?_   -- block 1
      refine seq (draw (m := 9) mix (by kernel_rfl) (take 0 rfl (by kernel_rfl) rfl (mv rfl) (take 1 rfl (by kernel_rfl) rfl (mv rfl) (take 2 rfl (by kernel_rfl) rfl (ixS 0 rfl rfl u_sl_int s_int rfl (by omega) (by omega)) (take 3 rfl (by kernel_rfl) rfl (ldSO 0 rfl rfl o_int (il_at (j := k) (by omega) hk1)) (take 4 rfl (by kernel_rfl) rfl (mv rfl) (take 5 rfl (by kernel_rfl) rfl (mv rfl) (take 6 rfl (by kernel_rfl) rfl (ixS 1 rfl rfl u_sl_int s_int rfl (by omega) (by omega)) (take 7 rfl (by kernel_rfl) rfl (ldSO 1 rfl rfl o_int (il_at (j := k) (by omega) hk2)) (take 8 rfl (by kernel_rfl) rfl (neq rfl rfl) ((tail (by kernel_rfl) rfl (nilS ?_)))))))))))))   -- region 6
      refine cond rfl (fun h => ?_) (fun h => ?_)   -- on t25
      · have h : ¬ (x.getD k 0 = y.getD k 0) := by simpa using h
        refine seq (region (det rfl (asg rfl) (nilS ?_)))   -- region 7
        exact ret (retT rfl rfl (pr' (vb (Eq.symm (decide_eq_false fun e => h (by rw [e]))))))
      · have h : x.getD k 0 = y.getD k 0 := by simpa using h
        refine skip ?_
        show Tr _ _ _ _ _ _ _
        refine region (det rfl (mv rfl) (det rfl (addI rfl rfl (by omega) (by omega)) (det rfl (asg rfl) (nil ?_))))   -- region 5
        refine again (k + 1) ⟨by omega, ?_⟩ ⟨rfl, rfl, rfl, trivial⟩ (fun w hm => hm) (by (first | omega | (dsimp only; omega)))
        rw [List.take_succ_eq_append_getElem hk1, List.take_succ_eq_append_getElem hk2, hkt]
        have : x[k] = y[k] := by simpa [hk1, hk2] using h
        rw [this]
    · have h := of_decide_eq_false h
      have e : k = x.length := by omega
      subst e
      refine exit ?_   -- 0
      show Tr _ _ _ _ _ _ _
      refine seq (region (det rfl (asg rfl) (nilS ?_)))   -- region 8
      refine ret (retT rfl rfl (pr' (vb (Eq.symm (decide_eq_true ?_)))))
      rw [List.take_length] at hkt
      rw [hkt, List.take_of_length_le (by omega)]

/-! ### Much -/
def nOf (xs : List (List UInt8)) : Nat := xs.foldl (fun n x => min (n + 1 + x.length) 1048576) 0
theorem nOf_app (xs : List (List UInt8)) (x : List UInt8) : nOf (xs ++ [x]) = min (nOf xs + 1 + x.length) 1048576 := by simp [nOf]
theorem nOf_le (xs : List (List UInt8)) : nOf xs ≤ 1048576 := by
  have key : ∀ (xs : List (List UInt8)) (n : Nat), n ≤ 1048576 → xs.foldl (fun n x => min (n + 1 + x.length) 1048576) n ≤ 1048576 := by
    intro xs
    induction xs with
    | nil => intro n h; exact h
    | cons x r ih => intro n h; rw [List.foldl_cons]; exact ih _ (by omega)
  exact key xs 0 (by omega)
theorem nOf_mem (xs : List (List UInt8)) (h : nOf xs ≤ 6000) : ∀ x ∈ xs, x.length ≤ 6000 := by
  have key : ∀ (xs : List (List UInt8)) (n : Nat), n ≤ 1048576 → n ≤ xs.foldl (fun n x => min (n + 1 + x.length) 1048576) n ∧ (xs.foldl (fun n x => min (n + 1 + x.length) 1048576) n ≤ 6000 → ∀ x ∈ xs, x.length ≤ 6000) := by
    intro xs
    induction xs with
    | nil => intro n h; exact ⟨Nat.le_refl _, fun _ x hx => by cases hx⟩
    | cons x r ih =>
      intro n hn
      have := ih (min (n + 1 + x.length) 1048576) (by omega)
      rw [List.foldl_cons]
      refine ⟨by omega, fun h y hy => ?_⟩
      rcases List.mem_cons.1 hy with rfl | hy
      · omega
      · exact this.2 h y hy
  exact (key xs 0 (by omega)).2 h
def much22 (xs : List (List UInt8)) : Bool := (decide (60 < xs.length) && decide (xs.length ≤ 1024)) || decide (1050 < xs.length) || decide (6000 < nOf (xs.take 1100))
theorem much22_false {xs : List (List UInt8)} (h : much22 xs = false) : xs.length ≤ 1050 ∧ ∀ x ∈ xs, x.length ≤ 6000 := by
  simp only [much22, Bool.or_eq_false_iff, Bool.and_eq_false_iff, decide_eq_false_iff_not] at h
  have h1 : xs.length ≤ 1050 := by omega
  refine ⟨h1, ?_⟩
  have : xs.take 1100 = xs := List.take_of_length_le (by omega)
  rw [this] at h
  exact nOf_mem xs (by omega)
theorem much22_ (xs : List (List UInt8)) (hx : ∀ x ∈ xs, x.length ≤ 140737488355328) (A : Option Addr) (cap : Nat) (D : Nat → Prop) (w : World) (hD : ∀ k, D k → k < w.heap.size) (hs : Sl 1 A xs.length cap (tl xs) D w) :
    Calls PP N_milepostlaw22_Much #[.slice A xs.length cap] w (PR w (.bool (much22 xs))) := by
  have hmax : xs.length ≤ maxLen := Nat.le_trans hs.2.1 hs.2.2.1
  simp only [maxLen] at hmax
  refine enter f_milepostlaw22_Much rfl n_milepostlaw22_Much rfl (M.init1 PP w Sl.stable hD hs) ?_
  refine seq (region (det rfl (asg rfl) (nilS ?_)))   -- region 0
  refine seq (region (det rfl (asg rfl) (nilS ?_)))   -- region 1
  refine seq ?_
  refine seq (region (det rfl (asg rfl) (nilS ?_)))   -- region 2
  refine block ?_   -- block 0
  refine loopV (ι := Nat) (fun k => k ≤ xs.length ∧ k ≤ 1100) (fun k => [(0, .slice A xs.length cap), (3, .int .i64 (nOf (xs.take k))), (4, .int .i64 k)]) (fun _ => []) (fun _ => [Sl 1 A xs.length cap (tl xs)]) (fun k => 1100 - k) 0 ⟨by omega, by omega⟩ ⟨rfl, rfl, rfl, trivial⟩ (fun w hm => hm) ?_
  rintro k σ ⟨hk, hk1100⟩
  refine seq ?_
  refine seq (region (det rfl (mv rfl) (det rfl (mv rfl) (det rfl (lenS u_sl_string rfl) (det rfl (lss rfl rfl) (det rfl (mv rfl) (guardI rfl rfl rfl (fun _ => mv rfl) (guardI rfl rfl rfl (fun hb => lss (bift hb rfl) rfl) (det rfl (pick (b := decide ((k : Int) < xs.length)) rfl (pickA rfl)) (nilS ?_))))))))))   -- region 3
  refine cond rfl (fun h => ?_) (fun h => ?_)   -- on t12
  · have h := Bool.and_eq_true_iff.1 h
    have h1 := of_decide_eq_true h.1
    have h2 := of_decide_eq_true h.2
    have hk2 : k < xs.length := by omega
    have hxk := hx _ (List.getElem_mem hk2)
    have hng := nOf_le (xs.take k)
    have eg : xs.getD k [] = xs[k] := by simp [hk2]
    refine skipS ?_
    refine seq ?_
    refine block ?_   -- block 1
    refine region (det rfl (mv rfl) (det rfl (addI rfl rfl (by omega) (by omega)) (det rfl (mv rfl) (det rfl (mv rfl) (det rfl (ixS 0 rfl rfl u_sl_string s_string rfl (by omega) (by omega)) (det rfl (ldSO 0 rfl rfl o_string (tl_at (j := k) (by omega) hk2)) (det rfl (lenT u_string rfl) (det rfl (addI rfl rfl (by rw [eg]; omega) (by rw [eg]; omega)) (det rfl (minI rfl rfl) (det rfl (asg rfl) (nil ?_)))))))))))   -- region 5
    show Tr _ _ _ _ _ _ _
    refine region (det rfl (mv rfl) (det rfl (addI rfl rfl (by omega) (by omega)) (det rfl (asg rfl) (nil ?_))))   -- region 4
    refine again (k + 1) ⟨by omega, by omega⟩ ⟨rfl, vi ?_, rfl, trivial⟩ (fun w hm => hm) (by (first | omega | (dsimp only; omega)))
    rw [List.take_succ_eq_append_getElem hk2, nOf_app, eg]
    omega
  · refine exit ?_   -- 0
    show Tr _ _ _ _ _ _ _
    have hout : xs.take k = xs.take 1100 := by
      rcases Bool.and_eq_false_iff.1 h with h | h
      · have := of_decide_eq_false h
        rw [List.take_of_length_le (by omega), List.take_of_length_le (by omega)]
      · have := of_decide_eq_false h
        rw [show k = 1100 by omega]
    rw [hout]
    refine seq (region (det rfl (mv rfl) (det rfl (lenS u_sl_string rfl) (det rfl (gtr rfl rfl) (det rfl (mv rfl) (guardI rfl rfl rfl (fun _ => mv rfl) (guardI rfl rfl rfl (fun hb => lenS u_sl_string (bift hb rfl)) (guardI rfl rfl rfl (fun hb => leq (bift hb rfl) rfl) (det rfl (pick rfl (pickA rfl)) (det rfl (mv rfl) (guardI rfl rfl rfl (fun _ => mv rfl) (guardI rfl rfl rfl (fun hb => lenS u_sl_string (bift hb rfl)) (guardI rfl rfl rfl (fun hb => gtr (bift hb rfl) rfl) (det rfl (pick rfl (pickO rfl)) (det rfl (mv rfl) (guardI rfl rfl rfl (fun _ => mv rfl) (guardI rfl rfl rfl (fun hb => gtr (bift hb rfl) rfl) (det rfl (pick rfl (pickO rfl)) (det rfl (asg rfl) (nilS ?_))))))))))))))))))))   -- region 6
    refine ret (retT rfl rfl (pr' (vb ?_)))
    rw [much22, Bool.eq_iff_iff]
    simp only [Bool.or_eq_true, Bool.and_eq_true, decide_eq_true_eq]
    omega

/-! ### Much of blocks -/
def sumT (l : List Bl) : Nat := l.foldl (fun n b => n + b.t.length) 0
theorem sumT_app (l : List Bl) (b : Bl) : sumT (l ++ [b]) = sumT l + b.t.length := by simp [sumT]
def much24 (l : List Bl) : Bool := (l.take 30).any (fun b => much22 b.t) || (decide (24 < l.length) || decide (100 < sumT (l.take 30)))
theorem much24_false {l : List Bl} (h : much24 l = false) : l.length ≤ 24 ∧ ∀ b ∈ l, much22 b.t = false := by
  simp only [much24, Bool.or_eq_false_iff, decide_eq_false_iff_not] at h
  have h1 : l.length ≤ 24 := by omega
  refine ⟨h1, fun b hb => ?_⟩
  have e : l.take 30 = l := List.take_of_length_le (by omega)
  rw [e, List.any_eq_false] at h
  simpa using h.1 b hb
theorem much24_ (l : List Bl) (hl1 : ∀ b ∈ l, b.h.ok) (hx : ∀ b ∈ l, ∀ x ∈ b.t, x.length ≤ 140737488355328) (A : Option Addr) (cap : Nat) (D : Nat → Prop) (w : World) (hD : ∀ k, D k → k < w.heap.size) (hs : Sl 67 A l.length cap (bl l) D w) (hts : Txs l D w) :
    Calls PP N_milepostlaw24_Much #[.slice A l.length cap] w (PR w (.bool (much24 l))) := by
  have hmax : l.length ≤ maxLen := Nat.le_trans hs.2.1 hs.2.2.1
  simp only [maxLen] at hmax
  refine enter f_milepostlaw24_Much rfl n_milepostlaw24_Much rfl (M.init PP w D [] [Sl 67 A l.length cap (bl l), Txs l] ⟨Sl.stable, Txs.stable, trivial⟩ hD ⟨hs, hts, trivial⟩) ?_
  refine seq (region (det rfl (asg rfl) (nilS ?_)))   -- region 0
  refine seq (region (det rfl (asg rfl) (nilS ?_)))   -- region 1
  refine seq ?_
  refine seq (region (det rfl (asg rfl) (nilS ?_)))   -- region 2
  refine block ?_   -- block 0
  refine loopV (ι := Nat) (fun k => k ≤ l.length ∧ k ≤ 30 ∧ sumT (l.take k) ≤ 1050 * k ∧ (l.take k).any (fun b => much22 b.t) = false) (fun k => [(0, .slice A l.length cap), (3, .int .i64 (sumT (l.take k))), (4, .int .i64 k)]) (fun _ => []) (fun _ => [Sl 67 A l.length cap (bl l), Txs l]) (fun k => 30 - k) 0 ⟨by omega, by omega, by simp [sumT], by simp⟩ ⟨rfl, rfl, rfl, trivial⟩ (fun w hm => hm) ?_
  rintro k σ ⟨hk, hk30, hsum, hany⟩
  refine seq ?_
  refine seq (region (det rfl (mv rfl) (det rfl (mv rfl) (det rfl (lenS u_sl_api_Block rfl) (det rfl (lss rfl rfl) (det rfl (mv rfl) (guardI rfl rfl rfl (fun _ => mv rfl) (guardI rfl rfl rfl (fun hb => lss (bift hb rfl) rfl) (det rfl (pick (b := decide ((k : Int) < l.length)) rfl (pickA rfl)) (nilS ?_))))))))))   -- region 3
  refine cond rfl (fun h => ?_) (fun h => ?_)   -- on t12
  · have h := Bool.and_eq_true_iff.1 h
    have h1 := of_decide_eq_true h.1
    have h2 := of_decide_eq_true h.2
    have hk2 : k < l.length := by omega
    obtain ⟨b, hbk⟩ : ∃ b, l[k] = b := ⟨_, rfl⟩
    have hbm : b ∈ l := by rw [← hbk]; exact List.getElem_mem hk2
    have hb := hl1 b hbm
    have hxb := hx b hbm
    have hat : (bl l)[k]? = some b.c := by rw [bl_at (j := k) rfl hk2, hbk]
    refine skipS ?_
    refine seq ?_
    refine block ?_   -- block 1
    refine seq ?_
    refine seq (region (det rfl (mv rfl) (det rfl (mv rfl) (det rfl (ixS 0 rfl rfl u_sl_api_Block s_api_Block rfl (by omega) (by omega)) (det rfl (fadrS 0 rfl u_api_Block rfl s_sl_string rfl (by omega)) (det rfl (Det.to (ldSQ 0 (i := k) rfl rfl o_sl_string hat (Bl.at_s hb)) (v' := .slice b.A b.t.length b.cap) rfl) (call k_milepostlaw22_Much rfl rfl (fun w hm => by
      obtain ⟨D, d1, d2, hD, d4, d5⟩ := hm.data
      exact much22_ b.t hxb b.A b.cap D w hD (d5.2.1 b hbm)) (nilS ?_))))))))   -- region 5
    refine cond rfl (fun h => ?_) (fun h => ?_)   -- on t20
    · refine seq (region (det rfl (asg rfl) (nilS ?_)))   -- region 6
      refine ret (retT rfl rfl (pr' (vb ?_)))
      have : (l.take 30).any (fun b => much22 b.t) = true := by
        rw [List.any_eq_true]
        refine ⟨b, ?_, h⟩
        rw [← hbk]
        exact List.mem_take_iff_getElem.2 ⟨k, by omega, rfl⟩
      rw [much24, this]; rfl
    · have hbl := (much22_false h).1
      refine skipS ?_
      refine also (f := Sl 1 b.A b.t.length b.cap (tl b.t)) Sl.stable (fun D w hK => hK.2.1 b hbm) ?_
      refine region (det rfl (mv rfl) (det rfl (mv rfl) (det rfl (mv rfl) (det rfl (ixS 1 rfl rfl u_sl_api_Block s_api_Block rfl (by omega) (by omega)) (det rfl (fadrS 1 rfl u_api_Block rfl s_sl_string rfl (by omega)) (det rfl (Det.to (ldSQ 1 (i := k) rfl rfl o_sl_string hat (Bl.at_s hb)) (v' := .slice b.A b.t.length b.cap) rfl) (det rfl (lenS u_sl_string rfl) (det rfl (addI rfl rfl (by omega) (by omega)) (det rfl (asg rfl) (nil ?_))))))))))   -- region 7
      show Tr _ _ _ _ _ _ _
      refine region (det rfl (mv rfl) (det rfl (addI rfl rfl (by omega) (by omega)) (det rfl (asg rfl) (nil ?_))))   -- region 4
      have es : sumT (l.take (k + 1)) = sumT (l.take k) + b.t.length := by rw [List.take_succ_eq_append_getElem hk2, sumT_app, hbk]
      refine again (k + 1) ⟨by omega, by omega, by rw [es]; omega, by rw [List.take_succ_eq_append_getElem hk2, List.any_append, hany, hbk]; simpa using h⟩ ⟨rfl, vi (by rw [es]; omega), rfl, trivial⟩ (fun w hm => hm.more) (by (first | omega | (dsimp only; omega)))
  · refine exit ?_   -- 0
    show Tr _ _ _ _ _ _ _
    have hout : l.take k = l.take 30 := by
      rcases Bool.and_eq_false_iff.1 h with h | h
      · have := of_decide_eq_false h
        rw [List.take_of_length_le (by omega), List.take_of_length_le (by omega)]
      · have := of_decide_eq_false h
        rw [show k = 30 by omega]
    rw [hout] at hany ⊢
    refine seq (region (det rfl (mv rfl) (det rfl (lenS u_sl_api_Block rfl) (det rfl (gtr rfl rfl) (det rfl (mv rfl) (guardI rfl rfl rfl (fun _ => mv rfl) (guardI rfl rfl rfl (fun hb => gtr (bift hb rfl) rfl) (det rfl (pick rfl (pickO rfl)) (det rfl (asg rfl) (nilS ?_))))))))))   -- region 8
    refine ret (retT rfl rfl (pr' (vb ?_)))
    rw [much24, hany, Bool.eq_iff_iff]
    simp only [Bool.or_eq_true, decide_eq_true_eq, Bool.false_eq_true, false_or]
    omega
end Go.Proofs.YtmcapgjdflohfaaGreat.L
