/- Packages shape, tree, link, txs: the walks up to the roots. -/
import Derived.Test.YtmcapgjdflohfaaGreatWork
import Derived.Test.YtmcapgjdflohfaaGreatSlice
import Derived.Test.YtmcapgjdflohfaaGreatPMerkle
set_option linter.all false
namespace Go.Proofs.YtmcapgjdflohfaaGreat.L
open Go Go.RowKit
set_option linter.unusedVariables false

/-- Lists of texts, of hashes, as slices' elements. -/
def tl (xs : List (List UInt8)) : List (List Value) := xs.map fun x => [.string (bs x)]
def hl (xs : List (List UInt8)) : List (List Value) := xs.map b8
theorem tl_length (xs : List (List UInt8)) : (tl xs).length = xs.length := by simp [tl]
theorem hl_length (xs : List (List UInt8)) : (hl xs).length = xs.length := by simp [hl]
theorem tl_flat (xs : List (List UInt8)) : (tl xs).flatten = tx xs := by
  induction xs with
  | nil => rfl
  | cons x r ih => simp only [tl, tx, List.map_cons, List.flatten_cons] at *; rw [ih]; rfl
theorem tl_ok (xs : List (List UInt8)) : ∀ l ∈ tl xs, l.length = 1 ∧ one l = true := by
  intro l h; obtain ⟨x, _, rfl⟩ := List.mem_map.1 h; exact ⟨rfl, rfl⟩
theorem hl_ok {xs : List (List UInt8)} (hx : ∀ x ∈ xs, x.length = 32) : ∀ l ∈ hl xs, l.length = 32 ∧ one l = true := by
  intro l h; obtain ⟨x, hm, rfl⟩ := List.mem_map.1 h; exact ⟨by rw [b8_length]; exact hx x hm, b8_one _⟩
theorem tl_at {xs : List (List UInt8)} {o j : Nat} (ho : o = j) (h : j < xs.length) : (tl xs)[o]? = some [.string (bs (xs.getD j []))] := by
  subst ho; simp [tl, h]
theorem hl_at {xs : List (List UInt8)} {o j : Nat} (ho : o = j) (h : j < xs.length) : (hl xs)[o]? = some (b8 (xs.getD j [])) := by
  subst ho; simp [hl, h]
theorem take_map {α β : Type} {f : α → β} {xs : List α} {d : α} {k : Nat} (h : k < xs.length) : (xs.take (k + 1)).map f = (xs.take k).map f ++ [f (xs.getD k d)] := by
  rw [List.take_succ_eq_append_getElem h, List.map_append]
  congr 1; simp [h]
theorem tx_app (a : List (List UInt8)) (b : List UInt8) : tx (a ++ [b]) = tx a ++ [.string (bs b)] := by simp [tx]
theorem hl_app (a : List (List UInt8)) (b : List UInt8) : (hl (a ++ [b])).flatten = (hl a).flatten ++ b8 b := by simp [hl]
theorem getD_mem {xs : List (List UInt8)} {k : Nat} (h : k < xs.length) : xs.getD k [] ∈ xs := by
  simp [h]

theorem txs_texts_ (xs : List (List UInt8)) (hn : xs.length ≤ 100000) (hx : ∀ x ∈ xs, x.length ≤ 100000000) (A : Option Addr) (cap : Nat) (D : Nat → Prop) (w : World) (hD : ∀ k, D k → k < w.heap.size) (hs : Sl 1 A xs.length cap (tl xs) D w) :
    Calls PP N_txs_texts #[.slice A xs.length cap] w (RS w 1 (tl (xs.map (84 :: ·)))) := by
  refine enter f_txs_texts rfl n_txs_texts rfl (M.init1 PP w Sl.stable hD hs) ?_
  refine seq (region (det rfl (asg rfl) (nilS ?_)))   -- region 0
  refine seq (region (det rfl (asg rfl) (nilS ?_)))   -- region 1
  refine seq ?_
  refine seq (region (det rfl (mv rfl) (det rfl (lenS u_sl_string rfl) (det rfl (mv rfl) (nilS ?_)))))   -- region 2
  refine block ?_   -- block 0
  refine loopV (ι := Nat × Option Addr × Nat) (fun (k, _, _) => k ≤ xs.length) (fun (k, B, q) => [(3, .slice B k q), (6, .slice A xs.length cap), (7, .int .i64 xs.length), (8, .int .i64 k)]) (fun (k, B, q) => [.row (.slice B k q) T_string 1 k (tx ((xs.take k).map (84 :: ·)))]) (fun _ => [Sl 1 A xs.length cap (tl xs)]) (fun (k, _, _) => xs.length - k) (0, none, 0) (by omega) ⟨rfl, rfl, rfl, rfl, trivial⟩ (fun w hm => hm.nilRow _ _) ?_
  rintro ⟨k, B, q⟩ σ hk
  dsimp only at hk ⊢
  refine seq (region (det rfl (lss rfl rfl) (nilS ?_)))   -- region 3
  refine seq ?_
  refine cond rfl (fun h => ?_) (fun h => ?_)   -- on t9
  · have h := of_decide_eq_true h
    refine skipS ?_
    refine seq ?_
    refine block ?_   -- block 1
    refine seq (region (det rfl (ixS 0 rfl rfl u_sl_string s_string rfl (by omega) (by omega)) (det rfl (ldSO 0 rfl rfl o_string (tl_at (j := k) (by omega) (by omega))) (det rfl (asg rfl) (nilS ?_)))))   -- region 4
    refine region (det rfl (mv rfl) (det rfl (mv rfl) (call k_txs_Text rfl rfl (fun w _ => txs_Text_ _ (Nat.le_trans (hx _ (getD_mem (by omega))) (by omega)) w) (bsl rfl (bs1 u_sl_string z_string s_string (cs := [.string (bs (84 :: xs.getD k []))]) rfl rfl rfl (by decide) (by decide)) fun b0 => appB 1 0 u_sl_string i_string rfl (by decide) rfl rfl rfl rfl rfl rfl (by simp only [maxLen]; omega) (by omega) rfl fun A cap => det rfl (asg rfl) (nil ?_)))))   -- region 5
    show Tr _ _ _ _ _ _ _
    refine region (det rfl (addI rfl rfl (by omega) (by omega)) (det rfl (mv rfl) (nil ?_)))   -- region 6
    refine again (k + 1, _, _) (by (first | omega | (dsimp only; omega))) ⟨rfl, rfl, rfl, rfl, trivial⟩ (fun w hm => ?_) (by (first | omega | (dsimp only; omega)))
    dsimp only
    rw [take_map (d := []) (by omega), tx_app]
    exact drop1 hm
  · have h := of_decide_eq_false h
    have e : k = xs.length := by omega
    subst e
    refine exit ?_   -- 0
    show Tr _ _ _ _ _ _ _
    rw [List.take_length]
    refine seq (region (det rfl (mv rfl) (det rfl (asg rfl) (nilS ?_))))   -- region 7
    exact ret (retRow (i := 0) rfl rfl rfl (by rw [tl_flat]; rfl) (by rw [tl_length, List.length_map]) (tl_ok _))
theorem link_texts_ (xs : List (List UInt8)) (hn : xs.length ≤ 100000) (hx : ∀ x ∈ xs, x.length = 32) (A : Option Addr) (cap : Nat) (D : Nat → Prop) (w : World) (hD : ∀ k, D k → k < w.heap.size) (hs : Sl 32 A xs.length cap (hl xs) D w) :
    Calls PP N_link_texts #[.slice A xs.length cap] w (RS w 1 (tl (xs.map (76 :: ·)))) := by
  refine enter f_link_texts rfl n_link_texts rfl (M.init1 PP w Sl.stable hD hs) ?_
  refine seq (region (det rfl (asg rfl) (nilS ?_)))   -- region 0
  refine seq (region (det rfl (asg rfl) (nilS ?_)))   -- region 1
  refine seq ?_
  refine seq (region (det rfl (mv rfl) (det rfl (lenS u_sl_api_Hash rfl) (det rfl (mv rfl) (nilS ?_)))))   -- region 2
  refine block ?_   -- block 0
  refine loopV (ι := Nat × Option Addr × Nat) (fun (k, _, _) => k ≤ xs.length) (fun (k, B, q) => [(3, .slice B k q), (6, .slice A xs.length cap), (7, .int .i64 xs.length), (8, .int .i64 k)]) (fun (k, B, q) => [.row (.slice B k q) T_string 1 k (tx ((xs.take k).map (76 :: ·)))]) (fun _ => [Sl 32 A xs.length cap (hl xs)]) (fun (k, _, _) => xs.length - k) (0, none, 0) (by omega) ⟨rfl, rfl, rfl, rfl, trivial⟩ (fun w hm => hm.nilRow _ _) ?_
  rintro ⟨k, B, q⟩ σ hk
  dsimp only at hk ⊢
  refine seq (region (det rfl (lss rfl rfl) (nilS ?_)))   -- region 3
  refine seq ?_
  refine cond rfl (fun h => ?_) (fun h => ?_)   -- on t9
  · have h := of_decide_eq_true h
    refine skipS ?_
    refine seq ?_
    refine block ?_   -- block 1
    have e32 : (b8 (xs.getD k [])).length = 32 := by rw [b8_length]; exact hx _ (getD_mem (by omega))
    refine seq (region (det rfl (ixS 0 rfl rfl u_sl_api_Hash s_api_Hash rfl (by omega) (by omega)) (det rfl (ldSA 0 rfl rfl g_api_Hash (hl_at (j := k) (by omega) (by omega))) (alloc z_api_Hash rfl rfl fun b0 => stoA 0 rfl rfl rfl s_api_Hash e32 (b8_one _) rfl (nilS ?_)))))   -- region 4
    refine region (det rfl (mv rfl) (det rfl (ldAll 0 rfl rfl g_api_Hash e32) (call k_link_Text rfl rfl (fun w _ => link_Text_ _ (hx _ (getD_mem (by omega))) w) (bsl rfl (bs1 u_sl_string z_string s_string (cs := [.string (bs (76 :: xs.getD k []))]) rfl rfl rfl (by decide) (by decide)) fun b1 => appB 2 0 u_sl_string i_string rfl (by decide) rfl rfl rfl rfl rfl rfl (by simp only [maxLen]; omega) (by omega) rfl fun A cap => det rfl (asg rfl) (nil ?_)))))   -- region 5
    show Tr _ _ _ _ _ _ _
    refine region (det rfl (addI rfl rfl (by omega) (by omega)) (det rfl (mv rfl) (nil ?_)))   -- region 6
    refine again (k + 1, _, _) (by (first | omega | (dsimp only; omega))) ⟨rfl, rfl, rfl, rfl, trivial⟩ (fun w hm => ?_) (by (first | omega | (dsimp only; omega)))
    dsimp only
    rw [take_map (d := []) (by omega), tx_app]
    exact drop1 (drop1 hm)
  · have h := of_decide_eq_false h
    have e : k = xs.length := by omega
    subst e
    refine exit ?_   -- 0
    show Tr _ _ _ _ _ _ _
    rw [List.take_length]
    refine seq (region (det rfl (mv rfl) (det rfl (asg rfl) (nilS ?_))))   -- region 7
    exact ret (retRow (i := 0) rfl rfl rfl (by rw [tl_flat]; rfl) (by rw [tl_length, List.length_map]) (tl_ok _))

/-! ### shape, tree -/
theorem left_step (m p : Nat) (h2 : 2 ≤ m) (e : Nat) (hp : p = 2 ^ e) (hle : p ≤ m - 1) (hd : ¬ p ≤ (m - 1) / 2) : p = Mp.left m := by
  unfold Mp.left
  rw [if_neg (by omega)]
  have h1 : 2 ^ e ≤ m - 1 := hp ▸ hle
  have h3 : m - 1 < 2 ^ (e + 1) := by rw [Nat.pow_succ]; omega
  have : Nat.log2 (m - 1) = e := by
    have := (Nat.le_log2 (by omega : m - 1 ≠ 0)).2 h1
    have := (Nat.log2_lt (by omega : m - 1 ≠ 0)).2 h3
    omega
  rw [this, hp]
theorem shape_Left_ (m : Nat) (hm : m ≤ 1000000000) : Pure PP N_shape_Left #[.int .i64 m] (.int .i64 (Mp.left m : Nat)) := by
  refine enter0 f_shape_Left rfl n_shape_Left rfl fun w => ?_
  refine seq (region (det rfl (asg rfl) (nilS ?_)))   -- region 0
  refine seq ?_
  refine seq (region (det rfl (mv rfl) (det rfl (lss rfl rfl) (nilS ?_))))   -- region 1
  refine cond rfl (fun h => ?_) (fun h => ?_)   -- on t5
  · have h := of_decide_eq_true h
    refine seq (region (det rfl (asg rfl) (nilS ?_)))   -- region 2
    exact ret (retT rfl rfl (pr' (vi (by rw [Mp.left, if_pos (by omega)]; rfl))))
  · have h := of_decide_eq_false h
    refine skipS ?_
    refine seq (region (det rfl (asg rfl) (nilS ?_)))   -- region 3
    refine seq ?_
    refine block ?_   -- block 0
    refine loopV (ι := Nat × Nat) (fun (p, e) => p = 2 ^ e ∧ 1 ≤ p ∧ p ≤ m - 1) (fun (p, e) => [(0, .int .i64 m), (3, .int .i64 p)]) (fun _ => []) (fun _ => []) (fun (p, e) => m - p) (1, 0) ⟨rfl, by omega, by omega⟩ ⟨rfl, rfl, trivial⟩ (fun w hm => hm) ?_
    rintro ⟨p, e⟩ σ ⟨hp, hp1, hp2⟩
    dsimp only at hp hp1 hp2 ⊢
    refine seq ?_
    refine seq (region (det rfl (mv rfl) (det rfl (mv rfl) (det rfl (subI rfl rfl (by omega) (by omega)) (det rfl (Det.to (quo rfl rfl (by decide)) (vi (show _ = (((m - 1) / 2 : Nat) : Int) by rw [Int.tdiv_eq_ediv_of_nonneg (by omega), i64_in (by omega) (by omega)]; omega))) (det rfl (leq rfl rfl) (nilS ?_)))))))   -- region 4
    refine cond rfl (fun h => ?_) (fun h => ?_)   -- on t10
    · have h := of_decide_eq_true h
      refine skipS ?_
      refine block ?_   -- block 1
      refine region (det rfl (mv rfl) (det rfl (mulI rfl rfl (by omega) (by omega)) (det rfl (asg rfl) (nil ?_))))   -- region 5
      refine again (2 * p, e + 1) ⟨by dsimp only; rw [Nat.pow_succ, hp]; omega, by dsimp only; omega, by dsimp only; omega⟩ ⟨rfl, vi (by dsimp only; omega), trivial⟩ (fun w hm => hm) (by (first | omega | (dsimp only; omega)))
    · have h := of_decide_eq_false h
      refine exit ?_   -- 0
      show Tr _ _ _ _ _ _ _
      refine seq (region (det rfl (mv rfl) (det rfl (asg rfl) (nilS ?_))))   -- region 6
      exact ret (retT rfl rfl (pr' (vi (by rw [left_step m p (by omega) e hp hp2 (by omega)]))))

theorem leafS_length (x : List UInt8) : (leafS x).length = 32 := sha_length _
theorem tree_each_ (xs : List (List UInt8)) (hn : xs.length ≤ 100000) (hx : ∀ x ∈ xs, x.length ≤ 100000001) (A : Option Addr) (cap : Nat) (D : Nat → Prop) (w : World) (hD : ∀ k, D k → k < w.heap.size) (hs : Sl 1 A xs.length cap (tl xs) D w) :
    Calls PP N_tree_each_string_api_Hash #[.slice A xs.length cap, .func (.func N_tag_LeafSum) #[] #[]] w (RS w 32 (hl (xs.map leafS))) := by
  refine enter f_tree_each_string_api_Hash rfl n_tree_each_string_api_Hash rfl (M.init1 PP w Sl.stable hD hs) ?_
  refine seq (region (det rfl (asg rfl) (nilS ?_)))   -- region 0
  refine seq (region (det rfl (asg rfl) (nilS ?_)))   -- region 1
  refine seq ?_
  refine seq (region (det rfl (mv rfl) (det rfl (lenS u_sl_string rfl) (det rfl (mv rfl) (nilS ?_)))))   -- region 2
  refine block ?_   -- block 0
  refine loopV (ι := Nat × Option Addr × Nat) (fun (k, _, _) => k ≤ xs.length) (fun (k, B, q) => [(1, .func (.func N_tag_LeafSum) #[] #[]), (5, .slice B k q), (8, .slice A xs.length cap), (9, .int .i64 xs.length), (10, .int .i64 k)]) (fun (k, B, q) => [.row (.slice B k q) T_api_Hash 32 k (hl ((xs.take k).map leafS)).flatten]) (fun _ => [Sl 1 A xs.length cap (tl xs)]) (fun (k, _, _) => xs.length - k) (0, none, 0) (by omega) ⟨rfl, rfl, rfl, rfl, rfl, trivial⟩ (fun w hm => hm.nilRow _ _) ?_
  rintro ⟨k, B, q⟩ σ hk
  dsimp only at hk ⊢
  refine seq (region (det rfl (lss rfl rfl) (nilS ?_)))   -- region 3
  refine seq ?_
  refine cond rfl (fun h => ?_) (fun h => ?_)   -- on t11
  · have h := of_decide_eq_true h
    refine skipS ?_
    refine seq ?_
    refine block ?_   -- block 1
    refine seq (region (det rfl (ixS 0 rfl rfl u_sl_string s_string rfl (by omega) (by omega)) (det rfl (ldSO 0 rfl rfl o_string (tl_at (j := k) (by omega) (by omega))) (det rfl (asg rfl) (nilS ?_)))))   -- region 4
    refine region (det rfl (mv rfl) (det rfl (mv rfl) (det rfl (mv rfl) (callF k_tag_LeafSum rfl rfl rfl (fun w _ => tag_LeafSum_ _ (Nat.le_trans (hx _ (getD_mem (by omega))) (by omega)) w) (bsl rfl (bs1 u_sl_api_Hash z_api_Hash s_api_Hash (cs := b8 (leafS (xs.getD k []))) rfl rfl (by rw [b8_length, leafS_length]) (by decide) (by decide)) fun b0 => appB 1 0 u_sl_api_Hash i_api_Hash rfl (by decide) rfl rfl rfl rfl (by rw [b8_length, leafS_length]) (b8_one _) (by simp only [maxLen]; omega) (by omega) rfl fun A cap => det rfl (asg rfl) (nil ?_))))))   -- region 5
    show Tr _ _ _ _ _ _ _
    refine region (det rfl (addI rfl rfl (by omega) (by omega)) (det rfl (mv rfl) (nil ?_)))   -- region 6
    refine again (k + 1, _, _) (by (first | omega | (dsimp only; omega))) ⟨rfl, rfl, rfl, rfl, rfl, trivial⟩ (fun w hm => ?_) (by (first | omega | (dsimp only; omega)))
    dsimp only
    rw [take_map (d := []) (by omega), hl_app]
    exact drop1 hm
  · have h := of_decide_eq_false h
    have e : k = xs.length := by omega
    subst e
    refine exit ?_   -- 0
    show Tr _ _ _ _ _ _ _
    rw [List.take_length]
    refine seq (region (det rfl (mv rfl) (det rfl (asg rfl) (nilS ?_))))   -- region 7
    exact ret (retRow (i := 0) rfl rfl rfl rfl (by rw [hl_length, List.length_map]) (hl_ok (fun x hx => by obtain ⟨y, _, rfl⟩ := List.mem_map.1 hx; exact leafS_length y)))

theorem tree_Leaves_ (xs : List (List UInt8)) (hn : xs.length ≤ 100000) (hx : ∀ x ∈ xs, x.length ≤ 100000001) (A : Option Addr) (cap : Nat) (D : Nat → Prop) (w : World) (hD : ∀ k, D k → k < w.heap.size) (hs : Sl 1 A xs.length cap (tl xs) D w) :
    Calls PP N_tree_Leaves #[.slice A xs.length cap] w (RS w 32 (hl (xs.map leafS))) := by
  refine enter f_tree_Leaves rfl n_tree_Leaves rfl (M.init1 PP w Sl.stable hD hs) ?_
  refine seq (region (det rfl (asg rfl) (nilS ?_)))   -- region 0
  refine seq (region (det rfl (mv rfl) (callSN k_tree_each_string_api_Hash rfl rfl (fun w hm => by
    obtain ⟨D, hD, hs⟩ := hm.sl (k := 0) rfl
    exact tree_each_ xs hn hx A cap D w hD hs) fun B q => (det rfl (asg rfl) (nilS ?_)))))   -- region 1
  exact ret (retFr rfl rfl rfl 0 rfl)

/-- The latter part of a slice. -/
abbrev cutA (A : Option Addr) (cap m sz : Nat) : Option Addr := if cap = m then A else A.map fun a => a.add (m * sz)
theorem left_le (n : Nat) : Mp.left n ≤ n := by
  by_cases h2 : 2 ≤ n
  · have := Mp.left_lt h2; omega
  · rw [Mp.left, if_pos (by omega)]; omega
/-- parted: both parts of a slice. -/
theorem tree_parted_ (A : Option Addr) (n cap : Nat) (hn : n ≤ 1000000) (hc : n ≤ cap) : Pure PP N_tree_parted_api_Hash #[.slice A n cap] (.tuple #[.slice A (Mp.left n) cap, .slice (cutA A cap (Mp.left n) 32) (n - Mp.left n) (cap - Mp.left n)]) := by
  have hle := left_le n
  refine enter0 f_tree_parted_api_Hash rfl n_tree_parted_api_Hash rfl fun w => ?_
  refine seq (region (det rfl (asg rfl) (det rfl (asg rfl) (nilS ?_))))   -- region 0
  refine seq (region (det rfl (mv rfl) (det rfl (lenS u_sl_api_Hash rfl) (call k_shape_Left rfl rfl (fun w _ => shape_Left_ _ (by omega) w) (det rfl (asg rfl) (nilS ?_))))))   -- region 1
  refine seq (draw (m := 8) mix (by kernel_rfl) (take 0 rfl (by kernel_rfl) rfl (mv rfl) (take 1 rfl (by kernel_rfl) rfl (mv rfl) (take 2 rfl (by kernel_rfl) rfl (slTake u_sl_api_Hash s_api_Hash rfl rfl (Nat.le_trans hle hc)) (take 3 rfl (by kernel_rfl) rfl (mv rfl) (take 4 rfl (by kernel_rfl) rfl (mv rfl) (take 5 rfl (by kernel_rfl) rfl (slDrop u_sl_api_Hash s_api_Hash rfl rfl hle hc) (take 6 rfl (by kernel_rfl) rfl (asg rfl) (take 7 rfl (by kernel_rfl) rfl (asg rfl) ((tail (by kernel_rfl) rfl (nilS ?_))))))))))))   -- region 2
  exact ret (ret2 rfl rfl rfl pr)

def topS (xs : List (List UInt8)) : List UInt8 := Mp.top (List.replicate 32 0) nodeS xs
theorem nodeS_length (x y : List UInt8) : (nodeS x y).length = 32 := sha_length _
theorem topS_length (xs : List (List UInt8)) (hx : ∀ x ∈ xs, x.length = 32) : (topS xs).length = 32 := by
  unfold topS
  by_cases h : xs.length < 2
  · rw [Mp.top_small _ _ _ h]
    cases xs with
    | nil => rfl
    | cons x r => exact hx x (List.mem_cons_self ..)
  · rw [Mp.top_step _ _ _ h]; exact nodeS_length _ _

theorem tree_Top_ (N : Nat) : ∀ (xs : List (List UInt8)), xs.length ≤ N → xs.length ≤ 1000000 → (∀ x ∈ xs, x.length = 32) → ∀ (A : Option Addr) (cap : Nat) (D : Nat → Prop) (w : World), (∀ k, D k → k < w.heap.size) → Sl 32 A xs.length cap (hl xs) D w →
    Calls PP N_tree_Top #[.slice A xs.length cap] w (PR w (ag (b8 (topS xs)))) := by
  induction N using Nat.strongRecOn with
  | _ N ih =>
  intro xs hN hn hx A cap D w hD hs
  have ht := topS_length xs hx
  refine enter f_tree_Top rfl n_tree_Top rfl (M.init1 PP w Sl.stable hD hs) ?_
  refine seq (region (alloc z_api_Hash rfl rfl fun b0 => nilS ?_))   -- region 0
  refine seq ?_
  refine seq (region (det rfl (mv rfl) (det rfl (lenS u_sl_api_Hash rfl) (nilS ?_))))   -- region 1
  refine block ?_   -- block 0
  refine seq (region (det rfl (eql rfl rfl) (det rfl (asg rfl) (nilS ?_))))   -- region 2
  refine cond rfl (fun h => ?_) (fun h => ?_)   -- on t7
  · have h := of_decide_eq_true h
    refine seq (region (det rfl (bldE z_api_Hash u_api_Hash s_uint8) (stoA 0 (rs := b8 (List.replicate 32 0)) rfl rfl rfl s_api_Hash rfl rfl rfl (nilS ?_))))   -- region 3
    have e : topS xs = List.replicate 32 0 := by
      have : xs = [] := List.length_eq_zero_iff.1 (by omega)
      subst this; rw [topS, Mp.top_small _ _ _ (by decide)]; rfl
    rw [e]
    exact ret (retH rfl rfl 0 rfl rfl rfl pr)
  · have h0 := of_decide_eq_false h
    refine seq (region (det rfl (eql rfl rfl) (det rfl (asg rfl) (nilS ?_))))   -- region 4
    refine cond rfl (fun h => ?_) (fun h => ?_)   -- on t10
    · have h := of_decide_eq_true h
      have e : xs.getD 0 [] = topS xs := by
        rw [topS, Mp.top_small _ _ _ (by omega)]
        cases xs with
        | nil => simp at h
        | cons x r => rfl
      refine seq (region (det rfl (mv rfl) (det rfl (ixS 0 rfl rfl u_sl_api_Hash s_api_Hash rfl (by omega) (by omega)) (det rfl (ldSA 0 rfl rfl g_api_Hash (hl_at (j := 0) (by omega) (by omega))) (stoA 0 rfl rfl rfl s_api_Hash (by rw [e, b8_length, ht]) (b8_one _) rfl (nilS ?_))))))   -- region 5
      rw [e]
      exact ret (retH rfl ht 0 rfl rfl rfl pr)
    · have h1 := of_decide_eq_false h
      have h2 : 2 ≤ xs.length := by omega
      have hlt := Mp.left_lt h2
      have hpos := Mp.left_pos h2
      have hcap := hs.2.1
      obtain ⟨p, hp⟩ : ∃ p, Mp.left xs.length = p := ⟨_, rfl⟩
      rw [hp] at hlt hpos
      refine skip ?_
      show Tr _ _ _ _ _ _ _
      refine seq (region (det rfl (mv rfl) (call k_tree_parted_api_Hash rfl rfl (fun w _ => tree_parted_ A xs.length cap hn hcap w) (det rfl (mv rfl) (det rfl (extr rfl rfl) (det rfl (extr rfl rfl) (det rfl (asg rfl) (det rfl (asg rfl) (nilS ?_)))))))))   -- region 6
      rw [hp]
      refine also (f := Sl 32 A p cap (hl (xs.take p))) Sl.stable (fun D w hK => by
        have := (hK.1 : Sl 32 A xs.length cap (hl xs) D w).take (m := p) (by omega)
        rwa [hl, ← List.map_take] at this) ?_
      refine also (f := Sl 32 (cutA A cap p 32) (xs.length - p) (cap - p) (hl (xs.drop p))) Sl.stable (fun D w hK => by
        have := (hK.2.1 : Sl 32 A xs.length cap (hl xs) D w).cut (m := p) (cap' := cap - p) (by omega) (by omega) (by omega)
        rwa [hl, ← List.map_drop] at this) ?_
      have l1 : (xs.take p).length = p := by rw [List.length_take]; omega
      have l2 : (xs.drop p).length = xs.length - p := by rw [List.length_drop]
      have e : topS xs = nodeS (topS (xs.take p)) (topS (xs.drop p)) := by rw [topS, Mp.top_step _ _ _ (by omega), hp]; rfl
      have hx1 : ∀ x ∈ xs.take p, x.length = 32 := fun x h => hx x (List.mem_of_mem_take h)
      have hx2 : ∀ x ∈ xs.drop p, x.length = 32 := fun x h => hx x (List.mem_of_mem_drop h)
      refine seq (region (det rfl (mv rfl) (call k_tree_Top rfl rfl (fun w hm => by
        obtain ⟨D, hD, hs⟩ := hm.sl (k := 1) rfl
        have := ih p (by omega) (xs.take p) (by omega) (by omega) hx1 A cap D w hD (by rw [l1]; exact hs)
        rw [l1] at this; exact this) (det rfl (mv rfl) (call k_tree_Top rfl rfl (fun w hm => by
        obtain ⟨D, hD, hs⟩ := hm.sl (k := 0) rfl
        have := ih (xs.length - p) (by omega) (xs.drop p) (by omega) (by omega) hx2 (cutA A cap p 32) (cap - p) D w hD (by rw [l2]; exact hs)
        rw [l2] at this; exact this) (call k_tag_NodeSum rfl rfl (fun w _ => tag_NodeSum_ _ _ (topS_length _ hx1) (topS_length _ hx2) w) (stoA 0 rfl rfl rfl s_api_Hash (by rw [b8_length, nodeS_length]) (b8_one _) rfl (nilS ?_))))))))   -- region 7
      rw [e]
      exact ret (retH rfl (nodeS_length _ _) 0 rfl rfl rfl pr)
end Go.Proofs.YtmcapgjdflohfaaGreat.L
