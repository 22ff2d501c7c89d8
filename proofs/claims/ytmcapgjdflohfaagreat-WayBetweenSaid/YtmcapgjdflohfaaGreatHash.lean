/- Packages tag, link, txs (texts), head, ident: the walks. -/
import Derived.Test.YtmcapgjdflohfaaGreatTag
set_option linter.all false
namespace Go.Proofs.YtmcapgjdflohfaaGreat.L
open Go Go.RowKit
set_option linter.unusedVariables false


/-- The hashes of the tree and of headers. -/
def leafS (s : List UInt8) : List UInt8 := sha (0 :: s)
def nodeS (l r : List UInt8) : List UInt8 := sha (1 :: (l ++ r))
def rootS (n : Int) (top : List UInt8) : List UInt8 := sha (2 :: (putL n 8 ++ top))
def headS (s : List UInt8) : List UInt8 := sha (3 :: s)

theorem flat1 (x : List UInt8) : [x].flatten = x := by simp
theorem flat2 (x y : List UInt8) : [x, y].flatten = x ++ y := by simp

theorem tag_LeafText_ (s : List UInt8) (hs : s.length ≤ 1000000000) : Pure PP N_tag_LeafText #[.string (bs s)] (.string (bs (0 :: s))) := by
  refine enter0 f_tag_LeafText rfl n_tag_LeafText rfl fun w => ?_
  refine seq (region (det rfl (asg rfl) (nilS ?_)))   -- region 0
  refine seq (region (det rfl (mv rfl) (bsl rfl (bs1 u_sl_string z_string s_string (cs := tx [s]) rfl rfl rfl (by decide) (by decide)) fun b0 => call k_tag_Text rfl rfl (fun w hm => tag_Text_ 0 b0 1 [s] _ (Nat.le_refl _) (by simp) (by rw [flat1]; omega) w (hm.blk 0 rfl)) (det rfl (asg rfl) (nilS ?_)))))   -- region 1
  exact ret (retT rfl rfl (pr' (vs (congrArg bs (by rw [flat1])))))
theorem tag_HeaderText_ (s : List UInt8) (hs : s.length ≤ 1000000000) : Pure PP N_tag_HeaderText #[.string (bs s)] (.string (bs (3 :: s))) := by
  refine enter0 f_tag_HeaderText rfl n_tag_HeaderText rfl fun w => ?_
  refine seq (region (det rfl (asg rfl) (nilS ?_)))   -- region 0
  refine seq (region (det rfl (mv rfl) (bsl rfl (bs1 u_sl_string z_string s_string (cs := tx [s]) rfl rfl rfl (by decide) (by decide)) fun b0 => call k_tag_Text rfl rfl (fun w hm => tag_Text_ 3 b0 1 [s] _ (Nat.le_refl _) (by simp) (by rw [flat1]; omega) w (hm.blk 0 rfl)) (det rfl (asg rfl) (nilS ?_)))))   -- region 1
  exact ret (retT rfl rfl (pr' (vs (congrArg bs (by rw [flat1])))))
theorem tag_NodeText_ (l r : List UInt8) (hl : l.length = 32) (hr : r.length = 32) : Pure PP N_tag_NodeText #[ag (b8 l), ag (b8 r)] (.string (bs (1 :: (l ++ r)))) := by
  refine enter0 f_tag_NodeText rfl n_tag_NodeText rfl fun w => ?_
  refine seq (region (box rfl rfl rfl fun b0 => box rfl rfl rfl fun b1 => det rfl (asg rfl) (nilS ?_)))   -- region 0
  refine seq (draw (m := 7) mix (by kernel_rfl) (take 0 rfl (by kernel_rfl) rfl (arrS u_api_Hash s_uint8 rfl) (take 1 rfl (by kernel_rfl) rfl (strB 1 (r := l) u_sl_uint8 u_uint8 u_string rfl rfl (whole8 hl) hl) (take 2 rfl (by kernel_rfl) rfl (arrS u_api_Hash s_uint8 rfl) (take 3 rfl (by kernel_rfl) rfl (strB 0 (r := r) u_sl_uint8 u_uint8 u_string rfl rfl (whole8 hr) hr)
    (only1 4 (by kernel_rfl) (canL 4 rfl rfl rfl (bsm u_sl_string z_string s_string (xs := tx [l, r]) rfl rfl rfl (by decide) (by decide)) fun b2 => only 5 rfl (by kernel_rfl) rfl k_tag_Text rfl rfl (fun w hm => tag_Text_ 1 b2 2 [l, r] _ (Nat.le_refl _) (by simp) (by rw [flat2, List.length_append]; omega) w (hm.blk 0 rfl)) (take 6 rfl (by kernel_rfl) rfl (asg rfl) ((tail (by kernel_rfl) rfl (nilS ?_)))))))))))   -- region 1
  exact ret (retT rfl rfl (pr' (vs (congrArg bs (by rw [flat2])))))
theorem tag_RootText_ (k : Int) (r : List UInt8) (hr : r.length = 32) : Pure PP N_tag_RootText #[.int .u64 k, ag (b8 r)] (.string (bs (2 :: (putL k 8 ++ r)))) := by
  refine enter0 f_tag_RootText rfl n_tag_RootText rfl fun w => ?_
  refine seq (region (box rfl rfl rfl fun b0 => det rfl (asg rfl) (nilS ?_)))   -- region 0
  refine seq (draw (m := 7) mix (by kernel_rfl) (take 0 rfl (by kernel_rfl) rfl (mv rfl) (take 2 rfl (by kernel_rfl) rfl (arrS u_api_Hash s_uint8 rfl) (take 3 rfl (by kernel_rfl) rfl (strB 0 (r := r) u_sl_uint8 u_uint8 u_string rfl rfl (whole8 hr) hr) (only 1 rfl (by kernel_rfl) rfl k_word_Put64 rfl rfl (fun w _ => word_Put64_ k w)
    (only1 4 (by kernel_rfl) (canL 4 rfl rfl rfl (bsm u_sl_string z_string s_string (xs := tx [putL k 8, r]) rfl rfl rfl (by decide) (by decide)) fun b2 => only 5 rfl (by kernel_rfl) rfl k_tag_Text rfl rfl (fun w hm => tag_Text_ 2 b2 2 [putL k 8, r] _ (Nat.le_refl _) (by simp) (by rw [flat2, List.length_append, putL_length]; omega) w (hm.blk 0 rfl)) (take 6 rfl (by kernel_rfl) rfl (asg rfl) ((tail (by kernel_rfl) rfl (nilS ?_)))))))))))   -- region 1
  exact ret (retT rfl rfl (pr' (vs (congrArg bs (by rw [flat2])))))

theorem retH {fn : Func} {c : Cx} {n : Nat} {σ : Env} {H : List Res} {K : List Fact} {R : Ending → World → Prop} {s : Nat} {b : Nat} {e : TypeId} {l : List UInt8} (hc : c.P = PP) (hl : l.length = 32) (i : Nat) (hr : fn.results = #[.cell s T_api_Hash]) (hv : σ s = .pointer (some ⟨b, 0, none⟩)) (hi : H[i]? = some (.blk b (ob (b8 l) e)))
    (h : ∀ w, M c H K w → R (.returned (ag (b8 l))) w) : ∀ w, M c H K w → post c.P fn n R .ret σ w :=
  retC i hr hv hi (by rw [b8_length, hl, hc]; exact g_api_Hash) h

theorem tag_LeafSum_ (s : List UInt8) (hs : s.length ≤ 1000000000) : Pure PP N_tag_LeafSum #[.string (bs s)] (ag (b8 (leafS s))) := by
  refine enter0 f_tag_LeafSum rfl n_tag_LeafSum rfl fun w => ?_
  refine seq (region (alloc z_api_Hash rfl rfl fun b0 => nilS ?_))   -- region 0
  refine seq (region (det rfl (mv rfl) (call k_tag_LeafText rfl rfl (fun w _ => tag_LeafText_ s hs w) (call k_sha_Sum rfl rfl (fun w _ => sha_Sum' _ (by simp; omega) w) (stoA 0 rfl rfl rfl s_api_Hash (by rw [b8_length]; exact sha_length _) (b8_one _) rfl (nilS ?_))))))   -- region 1
  exact ret (retH rfl (sha_length _) 0 rfl rfl rfl pr)
theorem tag_HeaderSum_ (s : List UInt8) (hs : s.length ≤ 1000000000) : Pure PP N_tag_HeaderSum #[.string (bs s)] (ag (b8 (headS s))) := by
  refine enter0 f_tag_HeaderSum rfl n_tag_HeaderSum rfl fun w => ?_
  refine seq (region (alloc z_api_Hash rfl rfl fun b0 => nilS ?_))   -- region 0
  refine seq (region (det rfl (mv rfl) (call k_tag_HeaderText rfl rfl (fun w _ => tag_HeaderText_ s hs w) (call k_sha_Sum rfl rfl (fun w _ => sha_Sum' _ (by simp; omega) w) (stoA 0 rfl rfl rfl s_api_Hash (by rw [b8_length]; exact sha_length _) (b8_one _) rfl (nilS ?_))))))   -- region 1
  exact ret (retH rfl (sha_length _) 0 rfl rfl rfl pr)
theorem tag_NodeSum_ (l r : List UInt8) (hl : l.length = 32) (hr : r.length = 32) : Pure PP N_tag_NodeSum #[ag (b8 l), ag (b8 r)] (ag (b8 (nodeS l r))) := by
  refine enter0 f_tag_NodeSum rfl n_tag_NodeSum rfl fun w => ?_
  refine seq (region (box rfl rfl rfl fun b0 => box rfl rfl rfl fun b1 => alloc z_api_Hash rfl rfl fun b2 => nilS ?_))   -- region 0
  refine seq (region (det rfl (ldAll 2 rfl rfl g_api_Hash (by rw [b8_length]; exact hl)) (det rfl (ldAll 1 rfl rfl g_api_Hash (by rw [b8_length]; exact hr)) (call k_tag_NodeText rfl rfl (fun w _ => tag_NodeText_ l r hl hr w) (call k_sha_Sum rfl rfl (fun w _ => sha_Sum' _ (by simp; omega) w) (stoA 0 rfl rfl rfl s_api_Hash (by rw [b8_length]; exact sha_length _) (b8_one _) rfl (nilS ?_)))))))   -- region 1
  exact ret (retH rfl (sha_length _) 0 rfl rfl rfl pr)
theorem tag_RootSum_ (k : Int) (r : List UInt8) (hr : r.length = 32) : Pure PP N_tag_RootSum #[.int .u64 k, ag (b8 r)] (ag (b8 (rootS k r))) := by
  refine enter0 f_tag_RootSum rfl n_tag_RootSum rfl fun w => ?_
  refine seq (region (box rfl rfl rfl fun b0 => alloc z_api_Hash rfl rfl fun b1 => nilS ?_))   -- region 0
  refine seq (region (det rfl (mv rfl) (det rfl (ldAll 1 rfl rfl g_api_Hash (by rw [b8_length]; exact hr)) (call k_tag_RootText rfl rfl (fun w _ => tag_RootText_ k r hr w) (call k_sha_Sum rfl rfl (fun w _ => sha_Sum' _ (by simp [putL_length]; omega) w) (stoA 0 rfl rfl rfl s_api_Hash (by rw [b8_length]; exact sha_length _) (b8_one _) rfl (nilS ?_)))))))   -- region 1
  exact ret (retH rfl (sha_length _) 0 rfl rfl rfl pr)

theorem link_Text_ (l : List UInt8) (hl : l.length = 32) : Pure PP N_link_Text #[ag (b8 l)] (.string (bs (76 :: l))) := by
  refine enter0 f_link_Text rfl n_link_Text rfl fun w => ?_
  refine seq (region (box rfl rfl rfl fun b0 => det rfl (asg rfl) (nilS ?_)))   -- region 0
  refine seq (region (det rfl (arrS u_api_Hash s_uint8 rfl) (det rfl (strB 0 (r := l) u_sl_uint8 u_uint8 u_string rfl rfl (whole8 hl) hl) (det rfl (tadd (a := [76]) rfl rfl (by simp only [List.length_singleton]; omega)) (det rfl (asg rfl) (nilS ?_))))))   -- region 1
  exact ret (retT rfl rfl pr)
theorem txs_Text_ (l : List UInt8) (hl : l.length ≤ 1000000000) : Pure PP N_txs_Text #[.string (bs l)] (.string (bs (84 :: l))) := by
  refine enter0 f_txs_Text rfl n_txs_Text rfl fun w => ?_
  refine seq (region (det rfl (asg rfl) (nilS ?_)))   -- region 0
  refine seq (region (det rfl (mv rfl) (det rfl (tadd (a := [84]) rfl rfl (by simp only [List.length_singleton]; omega)) (det rfl (asg rfl) (nilS ?_)))))   -- region 1
  exact ret (retT rfl rfl pr)
end Go.Proofs.YtmcapgjdflohfaaGreat.L
