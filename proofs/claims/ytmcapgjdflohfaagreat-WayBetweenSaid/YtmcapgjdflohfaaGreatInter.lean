/- Packages inter, txs.May: the walks. -/
import Derived.Test.YtmcapgjdflohfaaGreatChain
import Derived.Test.YtmcapgjdflohfaaGreatBulk
import Derived.Test.YtmcapgjdflohfaaGreatPVec
set_option linter.all false
namespace Go.Proofs.YtmcapgjdflohfaaGreat.L
open Go Go.RowKit
set_option linter.unusedVariables false

theorem inter_First_ (x : List UInt8) (hx : x.length = 32) (w : World) : Calls PP N_inter_First #[ag (b8 x)] w (RS w 32 (hl [x])) := by
  refine enter f_inter_First rfl n_inter_First rfl (M.init PP w (fun _ => False) [] [] trivial (fun _ h => h.elim) trivial) ?_
  refine seq (region (box rfl rfl rfl fun b0 => det rfl (asg rfl) (nilS ?_)))   -- region 0
  refine seq (region (det rfl (ldAll 0 rfl rfl g_api_Hash (by rw [b8_length, hx])) (bsl rfl (bs1 u_sl_api_Hash z_api_Hash s_api_Hash (cs := b8 x) rfl rfl (by rw [b8_length, hx]) (by decide) (by decide)) fun b1 => det rfl (asg rfl) (nilS ?_))))   -- region 1
  have e : (hl [x]).flatten = b8 x := by simp [hl]
  refine ret fun w hm => ?_
  exact retRow (i := 0) (ls := hl [x]) rfl rfl rfl (by rw [e]; rfl) rfl (hl_ok (by simp [hx])) w (hm.asRow 0 rfl rfl (m := 1) (sz := 32) (by rw [b8_length, hx]) (by simp [maxLen]))

/-- May: too many, or one too long: 4. -/
def mayF (xs : List (List UInt8)) : Int := if 1024 < xs.length then 4 else if xs.all (fun x => decide (x.length ≤ 4096)) = true then 0 else 4
theorem txs_May_ (xs : List (List UInt8)) (hn : xs.length ≤ 100000) (A : Option Addr) (cap : Nat) (D : Nat → Prop) (w : World) (hD : ∀ k, D k → k < w.heap.size) (hs : Sl 1 A xs.length cap (tl xs) D w) :
    Calls PP N_txs_May #[.slice A xs.length cap] w (PR w (.int .i64 (mayF xs))) := by
  refine enter f_txs_May rfl n_txs_May rfl (M.init1 PP w Sl.stable hD hs) ?_
  refine seq (region (det rfl (asg rfl) (nilS ?_)))   -- region 0
  refine seq ?_
  refine seq (region (det rfl (mv rfl) (det rfl (lenS u_sl_string rfl) (det rfl (gtr rfl rfl) (nilS ?_)))))   -- region 1
  refine cond rfl (fun h => ?_) (fun h => ?_)   -- on t7
  · have h := of_decide_eq_true h
    refine seq (region (det rfl (asg rfl) (nilS ?_)))   -- region 2
    exact ret (retT rfl rfl (pr' (vi (by rw [mayF, if_pos (by omega)]))))
  · have h0 := of_decide_eq_false h
    refine skipS ?_
    refine seq ?_
    refine seq (region (det rfl (mv rfl) (det rfl (lenS u_sl_string rfl) (det rfl (mv rfl) (nilS ?_)))))   -- region 3
    refine block ?_   -- block 0
    refine loopV (ι := Nat) (fun k => k ≤ xs.length ∧ (xs.take k).all (fun x => decide (x.length ≤ 4096)) = true) (fun k => [(8, .slice A xs.length cap), (9, .int .i64 xs.length), (10, .int .i64 k)]) (fun _ => []) (fun _ => [Sl 1 A xs.length cap (tl xs)]) (fun k => xs.length - k) 0 ⟨by omega, rfl⟩ ⟨rfl, rfl, rfl, trivial⟩ (fun w hm => hm) ?_
    intro k σ ⟨hk, hc⟩
    refine seq (region (det rfl (lss rfl rfl) (nilS ?_)))   -- region 4
    refine seq ?_
    refine cond rfl (fun h => ?_) (fun h => ?_)   -- on t11
    · have h := of_decide_eq_true h
      have hk2 : k < xs.length := by omega
      have eg : xs.getD k [] = xs[k] := by simp [hk2]
      refine skipS ?_
      refine seq ?_
      refine block ?_   -- block 1
      refine seq (region (det rfl (ixS 0 rfl rfl u_sl_string s_string rfl (by omega) (by omega)) (det rfl (ldSO 0 rfl rfl o_string (tl_at (j := k) (by omega) hk2)) (det rfl (asg rfl) (nilS ?_)))))   -- region 5
      rw [eg]
      refine seq (region (det rfl (mv rfl) (det rfl (lenT u_string rfl) (det rfl (gtr rfl rfl) (nilS ?_)))))   -- region 6
      refine cond rfl (fun h => ?_) (fun h => ?_)   -- on t16
      · have h := of_decide_eq_true h
        refine seq (region (det rfl (asg rfl) (nilS ?_)))   -- region 7
        refine ret (retT rfl rfl (pr' (vi ?_)))
        rw [mayF, if_neg (by omega), if_neg]
        intro hall
        have := List.all_eq_true.1 hall _ (List.getElem_mem hk2)
        have := of_decide_eq_true this
        omega
      · have h := of_decide_eq_false h
        refine skip ?_
        show Tr _ _ _ _ _ _ _
        refine region (det rfl (addI rfl rfl (by omega) (by omega)) (det rfl (mv rfl) (nil ?_)))   -- region 8
        refine again (k + 1) ⟨by omega, ?_⟩ ⟨rfl, rfl, rfl, trivial⟩ (fun w hm => hm) (by (first | omega | (dsimp only; omega)))
        rw [List.take_succ_eq_append_getElem hk2, List.all_append, hc]
        simp; omega
    · have h := of_decide_eq_false h
      refine exit ?_   -- 0
      show Tr _ _ _ _ _ _ _
      refine seq (region (det rfl (asg rfl) (nilS ?_)))   -- region 9
      have e : k = xs.length := by omega
      rw [e, List.take_length] at hc
      exact ret (retT rfl rfl (pr' (vi (by rw [mayF, if_neg (by omega), if_pos hc]))))

/-! ### inter.Next -/
def z32 : List UInt8 := List.replicate 32 0
def hset (o : List (List UInt8)) (x : List UInt8) : Nat → List (List UInt8)
  | 0 => o
  | k + 1 => (hset o x k).set k x
theorem hset_length (o : List (List UInt8)) (x : List UInt8) (k : Nat) : (hset o x k).length = o.length := by
  induction k with
  | zero => rfl
  | succ k ih => rw [hset, List.length_set, ih]
theorem hset_get (o : List (List UInt8)) (x : List UInt8) (k j : Nat) (hj : j < o.length) : (hset o x k)[j]? = some (if j < k then x else o.getD j []) := by
  induction k with
  | zero => simp [hset, hj]
  | succ k ih =>
    rw [hset, List.getElem?_set, hset_length]
    by_cases h : k = j
    · subst h; simp [hj]
    · rw [if_neg h, ih]
      congr 1
      by_cases h2 : j < k
      · rw [if_pos h2, if_pos (by omega)]
      · rw [if_neg h2, if_neg (by omega)]
theorem hset_ok {o : List (List UInt8)} {x : List UInt8} (ho : ∀ y ∈ o, y.length = 32) (hx : x.length = 32) (k : Nat) : ∀ y ∈ hset o x k, y.length = 32 := by
  induction k with
  | zero => exact ho
  | succ k ih =>
    intro y hy
    rcases List.mem_or_eq_of_mem_set hy with h | h
    · exact ih y h
    · rw [h]; exact hx
theorem hl_set (o : List (List UInt8)) (j : Nat) (x : List UInt8) : (hl o).set j (b8 x) = hl (o.set j x) := by simp [hl, List.map_set]
theorem hl_len {o : List (List UInt8)} (ho : ∀ y ∈ o, y.length = 32) : ∀ l ∈ hl o, l.length = 32 := fun l h => (hl_ok ho l h).1

/-- What Next makes, step by step. -/
def nextS (xs : List (List UInt8)) (x : List UInt8) (lv : Int) : List (List UInt8) :=
  let L := (min (max lv 0) 255).toNat
  let n := max xs.length (L + 2)
  let last := xs.getD (xs.length - 1) []
  (hset (xs ++ (hset (List.replicate n z32) last n).drop xs.length) x (L + 1)).set (n - 1) last
theorem nextS_eq (xs : List (List UInt8)) (hne : xs ≠ []) (x : List UInt8) (lv : Int) : nextS xs x lv = Mp.next [] xs x lv := by
  have hpos : 0 < xs.length := List.length_pos_iff.2 hne
  unfold nextS Mp.next
  rw [if_neg hne]
  dsimp only
  obtain ⟨L, hL⟩ : ∃ L, (min (max lv 0) 255).toNat = L := ⟨_, rfl⟩
  rw [hL]
  obtain ⟨n, hn⟩ : ∃ n, max xs.length (L + 2) = n := ⟨_, rfl⟩
  rw [hn]
  have hn1 : xs.length ≤ n := by omega
  have hn2 : L + 2 ≤ n := by omega
  have hlen : (xs ++ (hset (List.replicate n z32) (xs.getD (xs.length - 1) []) n).drop xs.length).length = n := by rw [List.length_append, List.length_drop, hset_length, List.length_replicate]; omega
  apply List.ext_getElem?
  intro j
  rw [List.getElem?_set, hset_length, hlen, List.getElem?_map]
  by_cases hj : j < n
  · rw [List.getElem?_range hj, Option.map_some]
    by_cases h1 : j + 1 = n
    · rw [if_pos (by omega), if_pos (by omega), if_pos h1]
    · rw [if_neg (by omega), if_neg h1, hset_get _ _ _ _ (by rw [hlen]; exact hj)]
      congr 1
      by_cases h2 : j ≤ L
      · rw [if_pos (by omega), if_pos h2]
      · rw [if_neg (by omega), if_neg h2]
        by_cases h3 : j < xs.length
        · rw [if_pos h3]
          simp [List.getD_eq_getElem?_getD, List.getElem?_append_left h3]
        · rw [if_neg h3]
          rw [List.getD_eq_getElem?_getD, List.getElem?_append_right (by omega), List.getElem?_drop, hset_get _ _ _ _ (by rw [List.length_replicate]; omega), if_pos (by omega)]
          rfl
  · rw [if_neg (by omega), List.getElem?_eq_none (by rw [hset_length, hlen]; omega), List.getElem?_eq_none (by simp; omega)]; rfl

theorem hl_rep (n : Nat) : hl (List.replicate n z32) = List.replicate n (List.replicate 32 (.int .u8 0)) := by simp only [hl, List.map_replicate]; rfl
theorem rep_ok (n : Nat) : ∀ y ∈ List.replicate n z32, y.length = 32 := fun y h => by rw [(List.mem_replicate.1 h).2]; rfl

theorem inter_Next_ (xs : List (List UInt8)) (hn : xs.length ≤ 100000) (hx : ∀ y ∈ xs, y.length = 32) (x : List UInt8) (hx2 : x.length = 32) (lv : Int) (A : Option Addr) (cap : Nat) (D : Nat → Prop) (w : World) (hD : ∀ k, D k → k < w.heap.size) (hs : Sl 32 A xs.length cap (hl xs) D w) :
    Calls PP N_inter_Next #[.slice A xs.length cap, ag (b8 x), .int .i64 lv] w (RS w 32 (hl (Mp.next [] xs x lv))) := by
  refine enter f_inter_Next rfl n_inter_Next rfl (M.init1 PP w Sl.stable hD hs) ?_
  refine seq (region (box rfl rfl rfl fun b0 => det rfl (asg rfl) (nilS ?_)))   -- region 0
  refine seq ?_
  refine seq (region (det rfl (mv rfl) (det rfl (lenS u_sl_api_Hash rfl) (det rfl (eql rfl rfl) (nilS ?_)))))   -- region 1
  refine cond rfl (fun h => ?_) (fun h => ?_)   -- on t13
  · have h := of_decide_eq_true h
    refine seq (region (det rfl (asg rfl) (nilS ?_)))   -- region 2
    have e : Mp.next [] xs x lv = [] := by rw [Mp.next, if_pos (List.length_eq_zero_iff.1 (by omega))]
    rw [e]; exact ret (retNil rfl rfl rfl)
  · have h0 := of_decide_eq_false h
    have hne : xs ≠ [] := fun h => h0 (by rw [h]; rfl)
    have hpos : 0 < xs.length := List.length_pos_iff.2 hne
    rw [← nextS_eq xs hne x lv]
    obtain ⟨L, hL⟩ : ∃ L, (min (max lv 0) 255).toNat = L := ⟨_, rfl⟩
    obtain ⟨n, hnn⟩ : ∃ n, max xs.length (L + 2) = n := ⟨_, rfl⟩
    obtain ⟨la, hla⟩ : ∃ la, xs.getD (xs.length - 1) [] = la := ⟨_, rfl⟩
    have hla32 : la.length = 32 := by rw [← hla]; exact hx _ (getD_mem (by omega))
    rw [show nextS xs x lv = (hset (xs ++ (hset (List.replicate n z32) la n).drop xs.length) x (L + 1)).set (n - 1) la by rw [nextS, hL, hnn, hla]]
    refine skipS ?_
    refine seq (region (det rfl (mv rfl) (det rfl (maxI rfl rfl) (det rfl (Det.to (minI rfl rfl) (vi (show _ = (L : Int) by omega))) (det rfl (asg rfl) (nilS ?_))))))   -- region 3
    refine seq (region (det rfl (mv rfl) (det rfl (lenS u_sl_api_Hash rfl) (det rfl (mv rfl) (det rfl (addI rfl rfl (by omega) (by omega)) (det rfl (Det.to (maxI rfl rfl) (vi (show _ = (n : Int) by omega))) (mksA u_sl_api_Hash i_api_Hash rfl (by decide) rfl rfl rfl rfl (by omega) (by omega) rfl fun b1 => det rfl (asg rfl) (nilS ?_))))))))   -- region 4
    refine seq (region (det rfl (mv rfl) (det rfl (mv rfl) (det rfl (lenS u_sl_api_Hash rfl) (det rfl (subI rfl rfl (by omega) (by omega)) (det rfl (ixS 0 rfl rfl u_sl_api_Hash s_api_Hash rfl (by omega) (by omega)) (det rfl (ldSA 0 rfl rfl g_api_Hash (hl_at (j := xs.length - 1) (by omega) (by omega))) (alloc z_api_Hash rfl rfl fun b2 => stoA 0 rfl rfl rfl s_api_Hash (by rw [hla, b8_length, hla32]) (b8_one _) rfl (nilS ?_)))))))))   -- region 5
    rw [hla]
    have hrl := rep_ok n
    refine seq ?_
    refine seq (region (det rfl (mv rfl) (det rfl (lenS u_sl_api_Hash rfl) (det rfl (mv rfl) (nilS ?_)))))   -- region 6
    refine block ?_   -- block 0
    refine loopV (ι := Nat) (fun k => k ≤ n) (fun k => [(0, .slice A xs.length cap), (2, .int .i64 L), (4, .pointer (some ⟨b0, 0, none⟩)), (7, .slice (some ⟨b1, 0, none⟩) n n), (8, .pointer (some ⟨b2, 0, none⟩)), (30, .int .i64 n), (31, .int .i64 k)]) (fun k => [.blk b2 (ob (b8 la) T_api_Hash), .blk b1 (ob (hl (hset (List.replicate n z32) la k)).flatten T_api_Hash), .blk b0 (ob (b8 x) T_api_Hash)]) (fun _ => [Sl 32 A xs.length cap (hl xs)]) (fun k => n - k) 0 (by omega) ⟨rfl, rfl, rfl, rfl, rfl, rfl, rfl, trivial⟩ (fun w hm => by
      have e : (hl (hset (List.replicate n z32) la 0)) = List.replicate n (List.replicate 32 (.int .u8 0)) := hl_rep n
      rw [e]; exact hm) ?_
    intro k σ hk
    have hok := hset_ok hrl hla32 k
    have hlen : (hl (hset (List.replicate n z32) la k)).length = n := by rw [hl_length, hset_length, List.length_replicate]
    refine seq (region (det rfl (lss rfl rfl) (nilS ?_)))   -- region 7
    refine seq ?_
    refine cond rfl (fun h => ?_) (fun h => ?_)   -- on t32
    · have h := of_decide_eq_true h
      refine skipS ?_
      refine seq ?_
      refine block ?_   -- block 1
      refine seq (region (det rfl (mv rfl) (det rfl (asg rfl) (nilS ?_))))   -- region 8
      refine region (det rfl (mv rfl) (det rfl (mv rfl) (det rfl (ldAll 0 rfl rfl g_api_Hash (by rw [b8_length, hla32])) (det rfl (ixB rfl rfl u_sl_api_Hash s_api_Hash (by omega) (by omega)) (stoE 1 k rfl rfl (by omega) rfl s_api_Hash (by rw [b8_length, hla32]) (b8_one _) (hl_len hok) (by rw [hlen]; omega) (nil ?_))))))   -- region 9
      show Tr _ _ _ _ _ _ _
      refine region (det rfl (addI rfl rfl (by omega) (by omega)) (det rfl (mv rfl) (nil ?_)))   -- region 10
      refine again (k + 1) (by omega) ⟨rfl, rfl, rfl, rfl, rfl, rfl, rfl, trivial⟩ (fun w hm => ?_) (by (first | omega | (dsimp only; omega)))
      have e : hl (hset (List.replicate n z32) la (k + 1)) = (hl (hset (List.replicate n z32) la k)).set k (b8 la) := (hl_set _ _ _).symm
      show M _ [.blk b2 (ob (b8 la) T_api_Hash), .blk b1 (ob (hl (hset (List.replicate n z32) la (k + 1))).flatten T_api_Hash), .blk b0 (ob (b8 x) T_api_Hash)] _ w
      rw [e]; exact hm
    · have h := of_decide_eq_false h
      have e : k = n := by omega
      subst e
      refine exit ?_   -- 0
      show Tr _ _ _ _ _ _ _
      refine also (f := Sl 32 A xs.length xs.length (hl xs)) Sl.stable (fun D w hK => Sl.shrink hK.1 (Nat.le_refl _) hs.2.1) ?_
      refine seq (region (det rfl (mv rfl) (det rfl (mv rfl) (det rfl (mv rfl) (det rfl (lenS u_sl_api_Hash rfl) (det rfl (mv rfl) (det rfl (lenS u_sl_api_Hash rfl) (det rfl (slFull u_sl_api_Hash s_api_Hash rfl rfl rfl (Nat.le_refl _) hs.2.1) (cpS 1 0 rfl rfl rfl rfl u_sl_api_Hash s_api_Hash (by decide) hpos (by omega) (hl_len hok) hlen rfl (nilS ?_))))))))))   -- region 11
      obtain ⟨o, ho⟩ : ∃ o, xs ++ (hset (List.replicate k z32) la k).drop xs.length = o := ⟨_, rfl⟩
      have eo : hl xs ++ (hl (hset (List.replicate k z32) la k)).drop xs.length = hl o := by rw [← ho, hl, hl, hl, List.map_append, List.map_drop]
      rw [ho, eo]
      have ho32 : ∀ y ∈ o, y.length = 32 := by
        intro y hy
        rw [← ho] at hy
        rcases List.mem_append.1 hy with h | h
        · exact hx y h
        · exact hok y (List.mem_of_mem_drop h)
      have hol : o.length = k := by rw [← ho, List.length_append, List.length_drop, hset_length, List.length_replicate]; omega
      refine seq ?_
      refine seq (region (det rfl (mv rfl) (det rfl (addI rfl rfl (by omega) (by omega)) (det rfl (mv rfl) (nilS ?_)))))   -- region 12
      refine block ?_   -- block 2
      refine loopV (ι := Nat) (fun j => j ≤ L + 1) (fun j => [(4, .pointer (some ⟨b0, 0, none⟩)), (7, .slice (some ⟨b1, 0, none⟩) k k), (8, .pointer (some ⟨b2, 0, none⟩)), (48, .int .i64 ((L : Int) + 1)), (49, .int .i64 j)]) (fun j => [.blk b2 (ob (b8 la) T_api_Hash), .blk b1 (ob (hl (hset o x j)).flatten T_api_Hash), .blk b0 (ob (b8 x) T_api_Hash)]) (fun _ => []) (fun j => L + 1 - j) 0 (by omega) ⟨rfl, rfl, rfl, rfl, rfl, trivial⟩ (fun w hm => hm.more.more) ?_
      intro j σ hj
      have hok2 := hset_ok ho32 hx2 j
      have hlen2 : (hl (hset o x j)).length = k := by rw [hl_length, hset_length, hol]
      refine seq (region (det rfl (lss rfl rfl) (nilS ?_)))   -- region 13
      refine seq ?_
      refine cond rfl (fun h => ?_) (fun h => ?_)   -- on t50
      · have h := of_decide_eq_true h
        refine skipS ?_
        refine seq ?_
        refine block ?_   -- block 3
        refine seq (region (det rfl (mv rfl) (det rfl (asg rfl) (nilS ?_))))   -- region 14
        refine region (det rfl (mv rfl) (det rfl (mv rfl) (det rfl (ldAll 2 rfl rfl g_api_Hash (by rw [b8_length, hx2])) (det rfl (ixB rfl rfl u_sl_api_Hash s_api_Hash (by omega) (by omega)) (stoE 1 j rfl rfl (by omega) rfl s_api_Hash (by rw [b8_length, hx2]) (b8_one _) (hl_len hok2) (by rw [hlen2]; omega) (nil ?_))))))   -- region 15
        show Tr _ _ _ _ _ _ _
        refine region (det rfl (addI rfl rfl (by omega) (by omega)) (det rfl (mv rfl) (nil ?_)))   -- region 16
        refine again (j + 1) (by omega) ⟨rfl, rfl, rfl, rfl, rfl, trivial⟩ (fun w hm => ?_) (by (first | omega | (dsimp only; omega)))
        have e : hl (hset o x (j + 1)) = (hl (hset o x j)).set j (b8 x) := (hl_set _ _ _).symm
        show M _ [.blk b2 (ob (b8 la) T_api_Hash), .blk b1 (ob (hl (hset o x (j + 1))).flatten T_api_Hash), .blk b0 (ob (b8 x) T_api_Hash)] _ w
        rw [e]; exact hm
      · have h := of_decide_eq_false h
        have e : j = L + 1 := by omega
        subst e
        refine exit ?_   -- 2
        show Tr _ _ _ _ _ _ _
        refine seq (region (det rfl (mv rfl) (det rfl (mv rfl) (det rfl (lenS u_sl_api_Hash rfl) (det rfl (subI rfl rfl (by omega) (by omega)) (det rfl (ldAll 0 rfl rfl g_api_Hash (by rw [b8_length, hla32])) (det rfl (ixB rfl rfl u_sl_api_Hash s_api_Hash (by omega) (by omega)) (stoE 1 (k - 1) rfl rfl (by omega) rfl s_api_Hash (by rw [b8_length, hla32]) (b8_one _) (hl_len hok2) (by rw [hlen2]; omega) (nilS ?_)))))))))   -- region 17
        refine seq (region (det rfl (mv rfl) (det rfl (asg rfl) (nilS ?_))))   -- region 18
        rw [hl_set]
        have hf : ∀ y ∈ (hset o x (L + 1)).set (k - 1) la, y.length = 32 := fun y hy => by
          rcases List.mem_or_eq_of_mem_set hy with h | h
          · exact hok2 y h
          · rw [h]; exact hla32
        have hfl : ((hset o x (L + 1)).set (k - 1) la).length = k := by rw [List.length_set, hset_length, hol]
        refine ret fun w hm => ?_
        exact retRow (i := 1) (ls := hl ((hset o x (L + 1)).set (k - 1) la)) rfl rfl rfl rfl (by rw [hl_length, hfl]) (hl_ok hf) w (hm.asRow 1 rfl rfl (m := k) (sz := 32) (by rw [flat_length (hl_len hf), hl_length, hfl]) (by simp only [maxLen]; omega))
end Go.Proofs.YtmcapgjdflohfaaGreat.L
