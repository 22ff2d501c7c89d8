/- Package sha: the walks of First, rounds, Spread, Mix, Pad. -/
import Derived.Test.YtmcapgjdflohfaaGreatShaP
import Derived.Test.YtmcapgjdflohfaaGreatRule
import Derived.Test.YtmcapgjdflohfaaGreatShelf
set_option linter.all false
namespace Go.Proofs.YtmcapgjdflohfaaGreat.L
open Go Go.RowKit
set_option linter.unusedVariables false

theorem word_Rot_ (x n : Int) : Pure PP N_word_Rot #[.int .u32 x, .int .i64 n] (.int .u32 (rotI x n)) := by
  have hb := band31 (IntKind.u64.wrap n)
  refine enter0 f_word_Rot rfl n_word_Rot rfl fun w => ?_
  refine seq (region (det rfl (asg rfl) (nilS ?_)))
  refine seq (region (det rfl (mv rfl) (det rfl (conv u_int u_uint rfl) (det rfl (and rfl rfl) (det rfl (asg rfl) (nilS ?_))))))
  refine seq (region (det rfl (mv rfl) (det rfl (mv rfl) (det rfl (shr rfl rfl hb.1) (det rfl (mv rfl) (det rfl (mv rfl) (det rfl (sub rfl rfl) (det rfl (shl rfl rfl (u64_nn _)) (det rfl (or rfl rfl) (det rfl (asg rfl) (nilS ?_)))))))))))
  exact ret (retT rfl rfl pr)
theorem sha_First_ : Pure PP N_sha_First #[] (ag (w32 kFirst)) := by
  refine enter0 f_sha_First rfl n_sha_First rfl fun w => ?_
  refine seq (region (alloc z_sha_Words rfl rfl fun b0 => nilS ?_))   -- region 0
  refine seq (region (det rfl (bldL (xs := w32 kFirst) z_sha_Words u_sha_Words s_uint32 rfl rfl rfl) (stoA 0 rfl rfl rfl s_sha_Words rfl rfl rfl (nilS ?_))))   -- region 1
  exact ret (retC 0 rfl rfl rfl g_sha_Words pr)
theorem sha_rounds_ : Pure PP N_sha_rounds #[] (ag (w32 kRounds)) := by
  refine enter0 f_sha_rounds rfl n_sha_rounds rfl fun w => ?_
  refine seq (region (alloc z_a64_uint32 rfl rfl fun b0 => nilS ?_))   -- region 0
  refine seq (region (det rfl (bldL (xs := w32 kRounds) z_a64_uint32 u_a64_uint32 s_uint32 rfl rfl rfl) (stoA 0 rfl rfl rfl s_a64_uint32 rfl rfl rfl (nilS ?_))))   -- region 1
  exact ret (retC 0 rfl rfl rfl g_a64_uint32 pr)

theorem sha_Spread_ (b : List UInt8) (hb : b.length ≤ 1000000000000) : Pure PP N_sha_Spread #[.string (bs b)] (ag (w32 (spr b 64))) := by
  refine enter0 f_sha_Spread rfl n_sha_Spread rfl fun w => ?_
  refine seq (region (alloc z_a64_uint32 rfl rfl fun b0 => nilS ?_))   -- region 0
  refine seq (region (alloc z_a64_uint32 rfl rfl fun b1 => nilS ?_))   -- region 1
  refine seq ?_
  refine seq (region (det rfl (mv rfl) (nilS ?_)))   -- region 2
  refine block ?_   -- block 0
  refine loopV (ι := Nat) (fun k => k ≤ 64) (fun k => [(0, .string (bs b)), (2, .pointer (some ⟨b0, 0, none⟩)), (3, .pointer (some ⟨b1, 0, none⟩)), (9, .int .i64 k)]) (fun k => [.blk b1 (ob (w32 (spr b k)) T_a64_uint32), .blk b0 (ob (w32 (spr b 0)) T_a64_uint32)]) (fun _ => []) (fun k => 64 - k) 0 (by omega) ⟨rfl, rfl, rfl, rfl, trivial⟩ (fun w hm => hm) ?_
  intro k σ hk
  have hl := spr_length b k
  refine seq (region (det rfl (lss rfl rfl) (nilS ?_)))   -- region 3
  refine seq ?_
  refine cond rfl (fun h => ?_) (fun h => ?_)   -- on t10
  · have h := of_decide_eq_true h
    refine skipS ?_
    refine seq ?_
    refine block ?_   -- block 1
    refine seq (region (det rfl (mv rfl) (det rfl (asg rfl) (nilS ?_))))   -- region 4
    refine seq ?_
    refine seq (region (det rfl (mv rfl) (det rfl (lss rfl rfl) (nilS ?_))))   -- region 5
    refine cond rfl (fun h => ?_) (fun h => ?_)   -- on t13
    · have h := of_decide_eq_true h
      refine seq (region (det rfl (mv rfl) (det rfl (mv rfl) (det rfl (mv rfl) (det rfl (mulI rfl rfl (by omega) (by omega)) (call k_word_Take32 rfl rfl (fun w _ => word_Take32_ b _ hb (by omega) (by omega) w) (det rfl (iadr rfl rfl u_a64_uint32 s_uint32 (by omega) (by omega)) (sto1 0 k rfl rfl rfl s_uint32 rfl (by omega) (by rw [w32_length]; omega) w32_set (nilS ?_)))))))))   -- region 6
      refine exit ?_   -- 1
      show Tr _ _ _ _ _ _ _
      refine region (det rfl (addI rfl rfl (by omega) (by omega)) (det rfl (mv rfl) (nil ?_)))   -- region 11
      refine again (k + 1) (by omega) ⟨rfl, rfl, rfl, rfl, trivial⟩ (fun w hm => ?_) (by (first | omega | (dsimp only; omega)))
      have e : spr b (k + 1) = _ := congrArg (List.set (spr b k) k) (if_pos (by omega) : sprV b (spr b k) k = _)
      show M _ [.blk b1 (ob (w32 (spr b (k + 1))) T_a64_uint32), _] _ w
      rw [e]; exact hm
    · have h := of_decide_eq_false h
      refine skipS ?_
      refine seq (draw (m := 10) mix (by kernel_rfl) (take 0 rfl (by kernel_rfl) rfl (mv rfl) (take 1 rfl (by kernel_rfl) rfl (subI rfl rfl (by omega) (by omega)) (take 2 rfl (by kernel_rfl) rfl (iadr rfl rfl u_a64_uint32 s_uint32 (by omega) (by omega)) (take 3 rfl (by kernel_rfl) rfl (ldB 0 rfl rfl o_uint32 (w32_at (j := k - 15) (by omega) (by omega))) (take 4 rfl (by kernel_rfl) rfl (mv rfl) (take 5 rfl (by kernel_rfl) rfl (subI rfl rfl (by omega) (by omega)) (take 6 rfl (by kernel_rfl) rfl (iadr rfl rfl u_a64_uint32 s_uint32 (by omega) (by omega)) (take 7 rfl (by kernel_rfl) rfl (ldB 0 rfl rfl o_uint32 (w32_at (j := k - 2) (by omega) (by omega))) (take 8 rfl (by kernel_rfl) rfl (asg rfl) (take 9 rfl (by kernel_rfl) rfl (asg rfl) ((tail (by kernel_rfl) rfl (nilS ?_))))))))))))))   -- region 7
      refine seq (region (det rfl (mv rfl) (call k_word_Rot rfl rfl (fun w _ => word_Rot_ _ _ w) (det rfl (mv rfl) (call k_word_Rot rfl rfl (fun w _ => word_Rot_ _ _ w) (det rfl (xor rfl rfl) (det rfl (mv rfl) (det rfl (shr rfl rfl (by decide)) (det rfl (xor rfl rfl) (det rfl (asg rfl) (nilS ?_)))))))))))   -- region 8
      refine seq (region (det rfl (mv rfl) (call k_word_Rot rfl rfl (fun w _ => word_Rot_ _ _ w) (det rfl (mv rfl) (call k_word_Rot rfl rfl (fun w _ => word_Rot_ _ _ w) (det rfl (xor rfl rfl) (det rfl (mv rfl) (det rfl (shr rfl rfl (by decide)) (det rfl (xor rfl rfl) (det rfl (asg rfl) (nilS ?_)))))))))))   -- region 9
      refine draw (m := 15) mix (by kernel_rfl) (take 0 rfl (by kernel_rfl) rfl (mv rfl) (take 1 rfl (by kernel_rfl) rfl (mv rfl) (take 2 rfl (by kernel_rfl) rfl (subI rfl rfl (by omega) (by omega)) (take 3 rfl (by kernel_rfl) rfl (iadr rfl rfl u_a64_uint32 s_uint32 (by omega) (by omega)) (take 4 rfl (by kernel_rfl) rfl (ldB 0 rfl rfl o_uint32 (w32_at (j := k - 16) (by omega) (by omega))) (take 5 rfl (by kernel_rfl) rfl (mv rfl) (take 6 rfl (by kernel_rfl) rfl (add rfl rfl) (take 7 rfl (by kernel_rfl) rfl (mv rfl) (take 8 rfl (by kernel_rfl) rfl (subI rfl rfl (by omega) (by omega)) (take 9 rfl (by kernel_rfl) rfl (iadr rfl rfl u_a64_uint32 s_uint32 (by omega) (by omega)) (take 10 rfl (by kernel_rfl) rfl (ldB 0 rfl rfl o_uint32 (w32_at (j := k - 7) (by omega) (by omega))) (take 11 rfl (by kernel_rfl) rfl (add rfl rfl) (take 12 rfl (by kernel_rfl) rfl (mv rfl) (take 13 rfl (by kernel_rfl) rfl (add rfl rfl) (take 14 rfl (by kernel_rfl) rfl (iadr rfl rfl u_a64_uint32 s_uint32 (by omega) (by omega)) ((tail (by kernel_rfl) rfl (sto1 0 k rfl rfl rfl s_uint32 rfl (by omega) (by rw [w32_length]; omega) w32_set (nil ?_)))))))))))))))))))   -- region 10
      show Tr _ _ _ _ _ _ _
      refine region (det rfl (addI rfl rfl (by omega) (by omega)) (det rfl (mv rfl) (nil ?_)))   -- region 11
      refine again (k + 1) (by omega) ⟨rfl, rfl, rfl, rfl, trivial⟩ (fun w hm => ?_) (by (first | omega | (dsimp only; omega)))
      have e : spr b (k + 1) = _ := congrArg (List.set (spr b k) k) (if_neg (by omega) : sprV b (spr b k) k = _)
      show M _ [.blk b1 (ob (w32 (spr b (k + 1))) T_a64_uint32), _] _ w
      rw [e]; exact hm
  · have h := of_decide_eq_false h
    have e : k = 64 := by omega
    subst e
    refine exit ?_   -- 0
    show Tr _ _ _ _ _ _ _
    refine seq (region (det rfl (ldA 0 (r := w32 (spr b 64)) rfl rfl g_a64_uint32 (List.take_of_length_le (by rw [List.length_drop, w32_length]; omega)) (by rw [w32_length]; omega)) (stoA 1 rfl rfl rfl s_a64_uint32 (by rw [w32_length]; omega) (w32_one _) rfl (nilS ?_))))   -- region 12
    exact ret (retC 1 rfl rfl rfl (by rw [w32_length, hl]; exact g_a64_uint32) pr)
theorem sha_Mix_ (x : List Int) (hh : x.length = 8) (b : List UInt8) (hb : b.length ≤ 1000000000000) : Pure PP N_sha_Mix #[ag (w32 x), .string (bs b)] (ag (w32 (mixF x b))) := by
  refine enter0 f_sha_Mix rfl n_sha_Mix rfl fun w => ?_
  refine seq (region (box (cs := w32 x) rfl rfl rfl fun b0 => alloc z_sha_Words rfl rfl fun b1 => nilS ?_))   -- region 0
  refine seq (region (det rfl (mv rfl) (call k_sha_Spread rfl rfl (fun w _ => sha_Spread_ b hb w) (call k_sha_rounds rfl rfl (fun w _ => sha_rounds_ w) (alloc z_a64_uint32 rfl rfl fun b2 => alloc z_a64_uint32 rfl rfl fun b3 => stoA 1 rfl rfl rfl s_a64_uint32 (by rw [w32_length, spr_length]) (w32_one _) rfl (stoA 0 rfl rfl rfl s_a64_uint32 rfl rfl rfl (nilS ?_)))))))   -- region 1
  refine seq (region (det rfl (ldA 3 (r := w32 x) rfl rfl g_sha_Words (List.take_of_length_le (by rw [List.length_drop, w32_length]; omega)) (by rw [w32_length]; omega)) (alloc z_sha_Words rfl rfl fun b4 => stoA 0 rfl rfl rfl s_sha_Words (by rw [w32_length]; omega) (w32_one _) rfl (nilS ?_))))   -- region 2
  refine seq ?_
  refine seq (region (det rfl (mv rfl) (nilS ?_)))   -- region 3
  refine block ?_   -- block 0
  refine loopV (ι := Nat) (fun k => k ≤ 64) (fun k => [(2, .pointer (some ⟨b0, 0, none⟩)), (4, .pointer (some ⟨b1, 0, none⟩)), (5, .pointer (some ⟨b2, 0, none⟩)), (6, .pointer (some ⟨b3, 0, none⟩)), (7, .pointer (some ⟨b4, 0, none⟩)), (18, .int .i64 k)]) (fun k => [.blk b4 (ob (w32 (mixV (spr b 64) kRounds x k)) T_sha_Words), .blk b3 (ob (w32 kRounds) T_a64_uint32), .blk b2 (ob (w32 (spr b 64)) T_a64_uint32), .blk b1 (ob (w32 (List.replicate 8 0)) T_sha_Words), .blk b0 (ob (w32 (x)) T_sha_Words)]) (fun _ => []) (fun k => 64 - k) 0 (by omega) ⟨rfl, rfl, rfl, rfl, rfl, rfl, trivial⟩ (fun w hm => hm) ?_
  intro k σ hk
  have hv : (mixV (spr b 64) kRounds x k).length = 8 := mixV_length hh k
  have hs := spr_length b 64
  refine seq (region (det rfl (lss rfl rfl) (nilS ?_)))   -- region 4
  refine seq ?_
  refine cond rfl (fun h => ?_) (fun h => ?_)   -- on t19
  · have h := of_decide_eq_true h
    refine skipS ?_
    refine seq ?_
    refine block ?_   -- block 1
    refine seq (region (det rfl (mv rfl) (det rfl (asg rfl) (nilS ?_))))   -- region 5
    refine seq (draw (m := 12) mix (by kernel_rfl) (take 0 rfl (by kernel_rfl) rfl (iadr rfl rfl u_sha_Words s_uint32 (by omega) (by omega)) (take 1 rfl (by kernel_rfl) rfl (ldB 0 rfl rfl o_uint32 (w32_at rfl (by omega))) (take 3 rfl (by kernel_rfl) rfl (iadr rfl rfl u_sha_Words s_uint32 (by omega) (by omega)) (take 4 rfl (by kernel_rfl) rfl (ldB 0 rfl rfl o_uint32 (w32_at rfl (by omega))) (take 7 rfl (by kernel_rfl) rfl (iadr rfl rfl u_sha_Words s_uint32 (by omega) (by omega)) (take 8 rfl (by kernel_rfl) rfl (ldB 0 rfl rfl o_uint32 (w32_at rfl (by omega))) (only 2 rfl (by kernel_rfl) rfl k_word_Rot rfl rfl (fun w _ => word_Rot_ _ _ w) (only 5 rfl (by kernel_rfl) rfl k_word_Rot rfl rfl (fun w _ => word_Rot_ _ _ w) (take 6 rfl (by kernel_rfl) rfl (xor rfl rfl) (only 9 rfl (by kernel_rfl) rfl k_word_Rot rfl rfl (fun w _ => word_Rot_ _ _ w) (take 10 rfl (by kernel_rfl) rfl (xor rfl rfl) (take 11 rfl (by kernel_rfl) rfl (asg rfl) ((tail (by kernel_rfl) rfl (nilS ?_))))))))))))))))   -- region 6
    refine seq (region (det rfl (iadr rfl rfl u_sha_Words s_uint32 (by omega) (by omega)) (det rfl (ldB 0 rfl rfl o_uint32 (w32_at rfl (by omega))) (det rfl (iadr rfl rfl u_sha_Words s_uint32 (by omega) (by omega)) (det rfl (ldB 0 rfl rfl o_uint32 (w32_at rfl (by omega))) (det rfl (and rfl rfl) (det rfl (iadr rfl rfl u_sha_Words s_uint32 (by omega) (by omega)) (det rfl (ldB 0 rfl rfl o_uint32 (w32_at rfl (by omega))) (det rfl (xorU rfl) (det rfl (iadr rfl rfl u_sha_Words s_uint32 (by omega) (by omega)) (det rfl (ldB 0 rfl rfl o_uint32 (w32_at rfl (by omega))) (det rfl (and rfl rfl) (det rfl (xor rfl rfl) (det rfl (asg rfl) (nilS ?_)))))))))))))))   -- region 7
    refine seq (draw (m := 15) mix (by kernel_rfl) (take 0 rfl (by kernel_rfl) rfl (iadr rfl rfl u_sha_Words s_uint32 (by omega) (by omega)) (take 1 rfl (by kernel_rfl) rfl (ldB 0 rfl rfl o_uint32 (w32_at rfl (by omega))) (take 2 rfl (by kernel_rfl) rfl (mv rfl) (take 3 rfl (by kernel_rfl) rfl (add rfl rfl) (take 4 rfl (by kernel_rfl) rfl (mv rfl) (take 5 rfl (by kernel_rfl) rfl (add rfl rfl) (take 6 rfl (by kernel_rfl) rfl (mv rfl) (take 7 rfl (by kernel_rfl) rfl (iadr rfl rfl u_a64_uint32 s_uint32 (by omega) (by omega)) (take 8 rfl (by kernel_rfl) rfl (ldB 1 rfl rfl o_uint32 (w32_at (j := k) (by omega) (by rw [show kRounds.length = 64 from rfl]; omega))) (take 9 rfl (by kernel_rfl) rfl (add rfl rfl) (take 10 rfl (by kernel_rfl) rfl (mv rfl) (take 11 rfl (by kernel_rfl) rfl (iadr rfl rfl u_a64_uint32 s_uint32 (by omega) (by omega)) (take 12 rfl (by kernel_rfl) rfl (ldB 2 rfl rfl o_uint32 (w32_at (j := k) (by omega) (by omega))) (take 13 rfl (by kernel_rfl) rfl (add rfl rfl) (take 14 rfl (by kernel_rfl) rfl (asg rfl) ((tail (by kernel_rfl) rfl (nilS ?_)))))))))))))))))))   -- region 8
    refine seq (draw (m := 12) mix (by kernel_rfl) (take 0 rfl (by kernel_rfl) rfl (iadr rfl rfl u_sha_Words s_uint32 (by omega) (by omega)) (take 1 rfl (by kernel_rfl) rfl (ldB 0 rfl rfl o_uint32 (w32_at rfl (by omega))) (take 3 rfl (by kernel_rfl) rfl (iadr rfl rfl u_sha_Words s_uint32 (by omega) (by omega)) (take 4 rfl (by kernel_rfl) rfl (ldB 0 rfl rfl o_uint32 (w32_at rfl (by omega))) (take 7 rfl (by kernel_rfl) rfl (iadr rfl rfl u_sha_Words s_uint32 (by omega) (by omega)) (take 8 rfl (by kernel_rfl) rfl (ldB 0 rfl rfl o_uint32 (w32_at rfl (by omega))) (only 2 rfl (by kernel_rfl) rfl k_word_Rot rfl rfl (fun w _ => word_Rot_ _ _ w) (only 5 rfl (by kernel_rfl) rfl k_word_Rot rfl rfl (fun w _ => word_Rot_ _ _ w) (take 6 rfl (by kernel_rfl) rfl (xor rfl rfl) (only 9 rfl (by kernel_rfl) rfl k_word_Rot rfl rfl (fun w _ => word_Rot_ _ _ w) (take 10 rfl (by kernel_rfl) rfl (xor rfl rfl) (take 11 rfl (by kernel_rfl) rfl (asg rfl) ((tail (by kernel_rfl) rfl (nilS ?_))))))))))))))))   -- region 9
    refine seq (region (det rfl (iadr rfl rfl u_sha_Words s_uint32 (by omega) (by omega)) (det rfl (ldB 0 rfl rfl o_uint32 (w32_at rfl (by omega))) (det rfl (iadr rfl rfl u_sha_Words s_uint32 (by omega) (by omega)) (det rfl (ldB 0 rfl rfl o_uint32 (w32_at rfl (by omega))) (det rfl (and rfl rfl) (det rfl (iadr rfl rfl u_sha_Words s_uint32 (by omega) (by omega)) (det rfl (ldB 0 rfl rfl o_uint32 (w32_at rfl (by omega))) (det rfl (iadr rfl rfl u_sha_Words s_uint32 (by omega) (by omega)) (det rfl (ldB 0 rfl rfl o_uint32 (w32_at rfl (by omega))) (det rfl (and rfl rfl) (det rfl (xor rfl rfl) (det rfl (iadr rfl rfl u_sha_Words s_uint32 (by omega) (by omega)) (det rfl (ldB 0 rfl rfl o_uint32 (w32_at rfl (by omega))) (det rfl (iadr rfl rfl u_sha_Words s_uint32 (by omega) (by omega)) (det rfl (ldB 0 rfl rfl o_uint32 (w32_at rfl (by omega))) (det rfl (and rfl rfl) (det rfl (xor rfl rfl) (det rfl (asg rfl) (nilS ?_))))))))))))))))))))   -- region 10
    refine region (det rfl (mv rfl) (det rfl (mv rfl) (det rfl (add rfl rfl) (det rfl (mv rfl) (det rfl (add rfl rfl) (det rfl (iadr rfl rfl u_sha_Words s_uint32 (by omega) (by omega)) (det rfl (ldB 0 rfl rfl o_uint32 (w32_at rfl (by omega))) (det rfl (iadr rfl rfl u_sha_Words s_uint32 (by omega) (by omega)) (det rfl (ldB 0 rfl rfl o_uint32 (w32_at rfl (by omega))) (det rfl (iadr rfl rfl u_sha_Words s_uint32 (by omega) (by omega)) (det rfl (ldB 0 rfl rfl o_uint32 (w32_at rfl (by omega))) (det rfl (iadr rfl rfl u_sha_Words s_uint32 (by omega) (by omega)) (det rfl (ldB 0 rfl rfl o_uint32 (w32_at rfl (by omega))) (det rfl (mv rfl) (det rfl (add rfl rfl) (det rfl (iadr rfl rfl u_sha_Words s_uint32 (by omega) (by omega)) (det rfl (ldB 0 rfl rfl o_uint32 (w32_at rfl (by omega))) (det rfl (iadr rfl rfl u_sha_Words s_uint32 (by omega) (by omega)) (det rfl (ldB 0 rfl rfl o_uint32 (w32_at rfl (by omega))) (det rfl (iadr rfl rfl u_sha_Words s_uint32 (by omega) (by omega)) (det rfl (ldB 0 rfl rfl o_uint32 (w32_at rfl (by omega))) (det rfl (bldL (xs := w32 (mixV (spr b 64) kRounds x (k + 1))) z_sha_Words u_sha_Words s_uint32 rfl rfl rfl) (stoA 0 rfl rfl rfl s_sha_Words rfl rfl (by rw [w32_length]; omega) (nil ?_))))))))))))))))))))))))   -- region 11
    show Tr _ _ _ _ _ _ _
    refine region (det rfl (addI rfl rfl (by omega) (by omega)) (det rfl (mv rfl) (nil ?_)))   -- region 12
    exact again (k + 1) (by omega) ⟨rfl, rfl, rfl, rfl, rfl, rfl, trivial⟩ (fun w hm => hm) (by (first | omega | (dsimp only; omega)))
  · have h := of_decide_eq_false h
    have e64 : k = 64 := by omega
    subst e64
    refine exit ?_   -- 0
    show Tr _ _ _ _ _ _ _
    refine seq ?_
    refine seq (region (det rfl (mv rfl) (nilS ?_)))   -- region 13
    refine block ?_   -- block 2
    refine loopV (ι := Nat) (fun k => k ≤ 8) (fun k => [(2, .pointer (some ⟨b0, 0, none⟩)), (4, .pointer (some ⟨b1, 0, none⟩)), (7, .pointer (some ⟨b4, 0, none⟩)), (109, .int .i64 k)]) (fun k => [.blk b4 (ob (w32 (mixV (spr b 64) kRounds x 64)) T_sha_Words), .blk b3 (ob (w32 kRounds) T_a64_uint32), .blk b2 (ob (w32 (spr b 64)) T_a64_uint32), .blk b1 (ob (w32 (List.replicate 8 0)) T_sha_Words), .blk b0 (ob (w32 (mixH x (mixV (spr b 64) kRounds x 64) k)) T_sha_Words)]) (fun _ => []) (fun k => 8 - k) 0 (by omega) ⟨rfl, rfl, rfl, rfl, trivial⟩ (fun w hm => hm) ?_
    intro k σ hk
    have hv : (mixV (spr b 64) kRounds x 64).length = 8 := mixV_length hh 64
    have hg : (mixH x (mixV (spr b 64) kRounds x 64) k).length = 8 := by rw [mixH_length, hh]
    refine seq (region (det rfl (lss rfl rfl) (nilS ?_)))   -- region 14
    refine seq ?_
    refine cond rfl (fun h => ?_) (fun h => ?_)   -- on t110
    · have h := of_decide_eq_true h
      refine skipS ?_
      refine seq ?_
      refine block ?_   -- block 3
      refine seq (region (det rfl (mv rfl) (det rfl (asg rfl) (nilS ?_))))   -- region 15
      refine draw (m := 8) mix (by kernel_rfl) (take 0 rfl (by kernel_rfl) rfl (mv rfl) (take 1 rfl (by kernel_rfl) rfl (iadr rfl rfl u_sha_Words s_uint32 (by omega) (by omega)) (take 2 rfl (by kernel_rfl) rfl (ldB 4 rfl rfl o_uint32 (w32_at (j := k) (by omega) (by omega))) (take 3 rfl (by kernel_rfl) rfl (mv rfl) (take 4 rfl (by kernel_rfl) rfl (iadr rfl rfl u_sha_Words s_uint32 (by omega) (by omega)) (take 5 rfl (by kernel_rfl) rfl (ldB 0 rfl rfl o_uint32 (w32_at (j := k) (by omega) (by omega))) (take 6 rfl (by kernel_rfl) rfl (add rfl rfl) (take 7 rfl (by kernel_rfl) rfl (iadr rfl rfl u_sha_Words s_uint32 (by omega) (by omega)) ((tail (by kernel_rfl) rfl (sto1 4 k rfl rfl rfl s_uint32 rfl (by omega) (by rw [w32_length]; omega) w32_set (nil ?_))))))))))))   -- region 16
      show Tr _ _ _ _ _ _ _
      refine region (det rfl (addI rfl rfl (by omega) (by omega)) (det rfl (mv rfl) (nil ?_)))   -- region 17
      exact again (k + 1) (by omega) ⟨rfl, rfl, rfl, rfl, trivial⟩ (fun w hm => hm) (by (first | omega | (dsimp only; omega)))
    · have h := of_decide_eq_false h
      refine exit ?_   -- 2
      show Tr _ _ _ _ _ _ _
      have e : k = 8 := by omega
      subst e
      refine seq (region (det rfl (ldA 4 (r := w32 (mixF x b)) rfl rfl g_sha_Words (List.take_of_length_le (by rw [List.length_drop, w32_length]; omega)) (by rw [w32_length, mixF_length b hh])) (stoA 3 rfl rfl rfl s_sha_Words (by rw [w32_length, mixF_length b hh]) (w32_one _) rfl (nilS ?_))))   -- region 18
      exact ret (retC 3 rfl rfl rfl (by rw [w32_length, mixF_length b hh]; exact g_sha_Words) pr)

end Go.Proofs.YtmcapgjdflohfaaGreat.L
