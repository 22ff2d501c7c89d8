/- Packages tree, link, txs: the roots; package block. -/
import Derived.Test.YtmcapgjdflohfaaGreatTree
set_option linter.all false
namespace Go.Proofs.YtmcapgjdflohfaaGreat.L
open Go Go.RowKit
set_option linter.unusedVariables false

def rootF (xs : List (List UInt8)) : List UInt8 := rootS xs.length (topS (xs.map leafS))
theorem rootF_length (xs : List (List UInt8)) : (rootF xs).length = 32 := sha_length _
theorem map_leaf_ok (xs : List (List UInt8)) : ∀ x ∈ xs.map leafS, x.length = 32 := fun x hx => by obtain ⟨y, _, rfl⟩ := List.mem_map.1 hx; exact leafS_length y

theorem tree_Root_ (xs : List (List UInt8)) (hn : xs.length ≤ 100000) (hx : ∀ x ∈ xs, x.length ≤ 100000001) (A : Option Addr) (cap : Nat) (D : Nat → Prop) (w : World) (hD : ∀ k, D k → k < w.heap.size) (hs : Sl 1 A xs.length cap (tl xs) D w) :
    Calls PP N_tree_Root #[.slice A xs.length cap] w (PR w (ag (b8 (rootF xs)))) := by
  have hm := map_leaf_ok xs
  have hml : (hl (xs.map leafS)).length = (xs.map leafS).length := hl_length _
  refine enter f_tree_Root rfl n_tree_Root rfl (M.init1 PP w Sl.stable hD hs) ?_
  refine seq (region (alloc z_api_Hash rfl rfl fun b0 => nilS ?_))   -- region 0
  refine seq (region (det rfl (mv rfl) (det rfl (lenS u_sl_string rfl) (det rfl (Det.to (conv u_int u_uint64 rfl) (vi (wrap_u64_nat (xs.length : Int) (by omega) (by omega)))) (det rfl (mv rfl) (callS k_tree_Leaves rfl rfl (fun w hm => by
    obtain ⟨D, hD, hs⟩ := hm.sl (k := 0) rfl
    exact tree_Leaves_ xs hn hx A cap D w hD hs) fun B q => call k_tree_Top rfl rfl (fun w hM => by
    obtain ⟨D, hD, hs⟩ := hM.sl (k := 0) rfl
    rw [hml] at hs ⊢
    exact tree_Top_ _ (xs.map leafS) (Nat.le_refl _) (by rw [List.length_map]; omega) hm B q D w hD hs) (call k_tag_RootSum rfl rfl (fun w _ => tag_RootSum_ _ _ (topS_length _ hm) w) (stoA 0 rfl rfl rfl s_api_Hash (by rw [b8_length]; exact sha_length _) (b8_one _) rfl (nilS ?_)))))))))   -- region 1
  exact ret (retH rfl (sha_length _) 0 rfl rfl rfl pr)

def linkR (xs : List (List UInt8)) : List UInt8 := rootF (xs.map (76 :: ·))
def txsR (xs : List (List UInt8)) : List UInt8 := rootF (xs.map (84 :: ·))
theorem link_Root_ (xs : List (List UInt8)) (hn : xs.length ≤ 100000) (hx : ∀ x ∈ xs, x.length = 32) (A : Option Addr) (cap : Nat) (D : Nat → Prop) (w : World) (hD : ∀ k, D k → k < w.heap.size) (hs : Sl 32 A xs.length cap (hl xs) D w) :
    Calls PP N_link_Root #[.slice A xs.length cap] w (PR w (ag (b8 (linkR xs)))) := by
  have hml : (tl (xs.map (76 :: ·))).length = (xs.map (76 :: ·)).length := tl_length _
  have hx' : ∀ x ∈ xs.map (76 :: ·), x.length ≤ 100000001 := fun x h => by obtain ⟨y, hy, rfl⟩ := List.mem_map.1 h; have := hx y hy; simp only [List.length_cons]; omega
  refine enter f_link_Root rfl n_link_Root rfl (M.init1 PP w Sl.stable hD hs) ?_
  refine seq (region (alloc z_api_Hash rfl rfl fun b0 => nilS ?_))   -- region 0
  refine seq (region (det rfl (mv rfl) (callS k_link_texts rfl rfl (fun w hm => by
    obtain ⟨D, hD, hs⟩ := hm.sl (k := 0) rfl
    exact link_texts_ xs hn hx A cap D w hD hs) fun B q => call k_tree_Root rfl rfl (fun w hM => by
    obtain ⟨D, hD, hs⟩ := hM.sl (k := 0) rfl
    rw [hml] at hs ⊢
    exact tree_Root_ (xs.map (76 :: ·)) (by rw [List.length_map]; omega) hx' B q D w hD hs) (stoA 0 rfl rfl rfl s_api_Hash (by rw [b8_length]; exact sha_length _) (b8_one _) rfl (nilS ?_)))))   -- region 1
  exact ret (retH rfl (rootF_length _) 0 rfl rfl rfl pr)
theorem txs_Root_ (xs : List (List UInt8)) (hn : xs.length ≤ 100000) (hx : ∀ x ∈ xs, x.length ≤ 100000000) (A : Option Addr) (cap : Nat) (D : Nat → Prop) (w : World) (hD : ∀ k, D k → k < w.heap.size) (hs : Sl 1 A xs.length cap (tl xs) D w) :
    Calls PP N_txs_Root #[.slice A xs.length cap] w (PR w (ag (b8 (txsR xs)))) := by
  have hml : (tl (xs.map (84 :: ·))).length = (xs.map (84 :: ·)).length := tl_length _
  have hx' : ∀ x ∈ xs.map (84 :: ·), x.length ≤ 100000001 := fun x h => by obtain ⟨y, hy, rfl⟩ := List.mem_map.1 h; have := hx y hy; simp only [List.length_cons]; omega
  refine enter f_txs_Root rfl n_txs_Root rfl (M.init1 PP w Sl.stable hD hs) ?_
  refine seq (region (alloc z_api_Hash rfl rfl fun b0 => nilS ?_))   -- region 0
  refine seq (region (det rfl (mv rfl) (callS k_txs_texts rfl rfl (fun w hm => by
    obtain ⟨D, hD, hs⟩ := hm.sl (k := 0) rfl
    exact txs_texts_ xs hn hx A cap D w hD hs) fun B q => call k_tree_Root rfl rfl (fun w hM => by
    obtain ⟨D, hD, hs⟩ := hM.sl (k := 0) rfl
    rw [hml] at hs ⊢
    exact tree_Root_ (xs.map (84 :: ·)) (by rw [List.length_map]; omega) hx' B q D w hD hs) (stoA 0 rfl rfl rfl s_api_Hash (by rw [b8_length]; exact sha_length _) (b8_one _) rfl (nilS ?_)))))   -- region 1
  exact ret (retH rfl (rootF_length _) 0 rfl rfl rfl pr)
end Go.Proofs.YtmcapgjdflohfaaGreat.L
