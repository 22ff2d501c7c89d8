/- Package work: the walks. -/
import Derived.Test.YtmcapgjdflohfaaGreatWide
set_option linter.all false
namespace Go.Proofs.YtmcapgjdflohfaaGreat.L
open Go Go.RowKit
set_option linter.unusedVariables false

/-- An id's work against the target; its level. -/
def okW (i t : List UInt8) : Bool := decide (cmpN (ofN i 4) (ofN t 4) 4 ≤ 0)
def levF (x t : List Int) : Nat → Nat → Int
  | 0, n => (n : Int) - 1
  | r + 1, n => if 0 < cmpN x (shrN t n) 4 then (n : Int) - 1 else levF x t r (n + 1)
def levW (i t : List UInt8) : Int := levF (ofN i 4) (ofN t 4) 256 0
theorem levF_range (x t : List Int) (r n : Nat) : (n : Int) - 1 ≤ levF x t r n ∧ levF x t r n ≤ n + r - 1 := by
  induction r generalizing n with
  | zero => simp only [levF]; omega
  | succ r ih =>
    simp only [levF]
    split
    · omega
    · have := ih (n + 1); omega
theorem levW_range (i t : List UInt8) : -1 ≤ levW i t ∧ levW i t ≤ 255 := by
  have := levF_range (ofN i 4) (ofN t 4) 256 0
  unfold levW; omega

theorem work_Ok_ (i t : List UInt8) (hi : i.length = 32) (ht : t.length = 32) : Pure PP N_work_Ok #[ag (b8 i), ag (b8 t)] (.bool (okW i t)) := by
  refine enter0 f_work_Ok rfl n_work_Ok rfl fun w => ?_
  refine seq (region (box rfl rfl rfl fun b0 => box rfl rfl rfl fun b1 => det rfl (asg rfl) (nilS ?_)))   -- region 0
  refine seq (draw (m := 7) mix (by kernel_rfl) (take 0 rfl (by kernel_rfl) rfl (ldAll 1 rfl rfl g_api_Hash (by rw [b8_length]; exact hi)) (take 2 rfl (by kernel_rfl) rfl (ldAll 0 rfl rfl g_api_Hash (by rw [b8_length]; exact ht)) (only 1 rfl (by kernel_rfl) rfl k_wide_Of rfl rfl (fun w _ => wide_Of_ i hi w) (only 3 rfl (by kernel_rfl) rfl k_wide_Of rfl rfl (fun w _ => wide_Of_ t ht w) (only 4 rfl (by kernel_rfl) rfl k_wide_Cmp rfl rfl (fun w _ => wide_Cmp_ _ _ (ofN_length _ _) (ofN_length _ _) w) (take 5 rfl (by kernel_rfl) rfl (leq rfl rfl) (take 6 rfl (by kernel_rfl) rfl (asg rfl) ((tail (by kernel_rfl) rfl (nilS ?_)))))))))))   -- region 1
  exact ret (retT rfl rfl pr)
theorem work_Level_ (i t : List UInt8) (hi : i.length = 32) (ht : t.length = 32) : Pure PP N_work_Level #[ag (b8 i), ag (b8 t)] (.int .i64 (levW i t)) := by
  refine enter0 f_work_Level rfl n_work_Level rfl fun w => ?_
  refine seq (region (box rfl rfl rfl fun b0 => box rfl rfl rfl fun b1 => det rfl (asg rfl) (nilS ?_)))   -- region 0
  refine cutV (ι := Nat × Nat) (fun _ => True) (fun p => [(5, .pointer (some ⟨p.1, 0, none⟩)), (6, .pointer (some ⟨p.2, 0, none⟩))]) (fun p => [.blk p.2 (ob (w64 (ofN t 4)) T_wide_N), .blk p.1 (ob (w64 (ofN i 4)) T_wide_N)]) (fun _ => []) ?_ ?_
  ·
    refine draw (m := 6) mix (by kernel_rfl) ?_
    refine take 0 rfl (by kernel_rfl) rfl (ldAll 1 rfl rfl g_api_Hash (by rw [b8_length]; exact hi)) ?_
    refine take 2 rfl (by kernel_rfl) rfl (ldAll 0 rfl rfl g_api_Hash (by rw [b8_length]; exact ht)) ?_
    refine fork3 1 4 5 (by kernel_rfl) ?_ ?_ ?_
    · refine canP 1 rfl rfl k_wide_Of rfl rfl (fun w _ => wide_Of_ i hi w) ?_
      refine fork3 3 4 5 (by kernel_rfl) ?_ ?_ ?_
      · refine canP 3 rfl rfl k_wide_Of rfl rfl (fun w _ => wide_Of_ t ht w) ?_
        refine fork2 4 5 (by kernel_rfl) ?_ ?_
        · refine canA 4 rfl rfl z_wide_N rfl rfl fun b2 => ?_
          refine only1 5 (by kernel_rfl) (canA 5 rfl rfl z_wide_N rfl rfl fun b3 => ?_)
          exact tail (by kernel_rfl) rfl (stoA 1 rfl rfl rfl s_wide_N (by rw [w64_length, ofN_length]) (w64_one _) rfl (stoA 0 rfl rfl rfl s_wide_N (by rw [w64_length, ofN_length]) (w64_one _) rfl (nil (meets (b2, b3) trivial ⟨rfl, rfl, trivial⟩ (fun w hm => pA hm)))))
        · refine canA 5 rfl rfl z_wide_N rfl rfl fun b4 => ?_
          refine only1 4 (by kernel_rfl) (canA 4 rfl rfl z_wide_N rfl rfl fun b5 => ?_)
          exact tail (by kernel_rfl) rfl (stoA 0 rfl rfl rfl s_wide_N (by rw [w64_length, ofN_length]) (w64_one _) rfl (stoA 1 rfl rfl rfl s_wide_N (by rw [w64_length, ofN_length]) (w64_one _) rfl (nil (meets (b5, b4) trivial ⟨rfl, rfl, trivial⟩ (fun w hm => pB hm)))))
      · refine canA 4 rfl rfl z_wide_N rfl rfl fun b6 => ?_
        refine fork2 3 5 (by kernel_rfl) ?_ ?_
        · refine canP 3 rfl rfl k_wide_Of rfl rfl (fun w _ => wide_Of_ t ht w) ?_
          refine only1 5 (by kernel_rfl) (canA 5 rfl rfl z_wide_N rfl rfl fun b7 => ?_)
          exact tail (by kernel_rfl) rfl (stoA 1 rfl rfl rfl s_wide_N (by rw [w64_length, ofN_length]) (w64_one _) rfl (stoA 0 rfl rfl rfl s_wide_N (by rw [w64_length, ofN_length]) (w64_one _) rfl (nil (meets (b6, b7) trivial ⟨rfl, rfl, trivial⟩ (fun w hm => pA hm)))))
        · refine canA 5 rfl rfl z_wide_N rfl rfl fun b8 => ?_
          refine only1 3 (by kernel_rfl) (canP 3 rfl rfl k_wide_Of rfl rfl (fun w _ => wide_Of_ t ht w) ?_)
          exact tail (by kernel_rfl) rfl (stoA 1 rfl rfl rfl s_wide_N (by rw [w64_length, ofN_length]) (w64_one _) rfl (stoA 0 rfl rfl rfl s_wide_N (by rw [w64_length, ofN_length]) (w64_one _) rfl (nil (meets (b6, b8) trivial ⟨rfl, rfl, trivial⟩ (fun w hm => pA hm)))))
      · refine canA 5 rfl rfl z_wide_N rfl rfl fun b9 => ?_
        refine fork2 3 4 (by kernel_rfl) ?_ ?_
        · refine canP 3 rfl rfl k_wide_Of rfl rfl (fun w _ => wide_Of_ t ht w) ?_
          refine only1 4 (by kernel_rfl) (canA 4 rfl rfl z_wide_N rfl rfl fun b10 => ?_)
          exact tail (by kernel_rfl) rfl (stoA 0 rfl rfl rfl s_wide_N (by rw [w64_length, ofN_length]) (w64_one _) rfl (stoA 1 rfl rfl rfl s_wide_N (by rw [w64_length, ofN_length]) (w64_one _) rfl (nil (meets (b10, b9) trivial ⟨rfl, rfl, trivial⟩ (fun w hm => pB hm)))))
        · refine canA 4 rfl rfl z_wide_N rfl rfl fun b11 => ?_
          refine only1 3 (by kernel_rfl) (canP 3 rfl rfl k_wide_Of rfl rfl (fun w _ => wide_Of_ t ht w) ?_)
          exact tail (by kernel_rfl) rfl (stoA 0 rfl rfl rfl s_wide_N (by rw [w64_length, ofN_length]) (w64_one _) rfl (stoA 1 rfl rfl rfl s_wide_N (by rw [w64_length, ofN_length]) (w64_one _) rfl (nil (meets (b11, b9) trivial ⟨rfl, rfl, trivial⟩ (fun w hm => pB hm)))))
    · refine canA 4 rfl rfl z_wide_N rfl rfl fun b12 => ?_
      refine fork2 1 5 (by kernel_rfl) ?_ ?_
      · refine canP 1 rfl rfl k_wide_Of rfl rfl (fun w _ => wide_Of_ i hi w) ?_
        refine fork2 3 5 (by kernel_rfl) ?_ ?_
        · refine canP 3 rfl rfl k_wide_Of rfl rfl (fun w _ => wide_Of_ t ht w) ?_
          refine only1 5 (by kernel_rfl) (canA 5 rfl rfl z_wide_N rfl rfl fun b13 => ?_)
          exact tail (by kernel_rfl) rfl (stoA 1 rfl rfl rfl s_wide_N (by rw [w64_length, ofN_length]) (w64_one _) rfl (stoA 0 rfl rfl rfl s_wide_N (by rw [w64_length, ofN_length]) (w64_one _) rfl (nil (meets (b12, b13) trivial ⟨rfl, rfl, trivial⟩ (fun w hm => pA hm)))))
        · refine canA 5 rfl rfl z_wide_N rfl rfl fun b14 => ?_
          refine only1 3 (by kernel_rfl) (canP 3 rfl rfl k_wide_Of rfl rfl (fun w _ => wide_Of_ t ht w) ?_)
          exact tail (by kernel_rfl) rfl (stoA 1 rfl rfl rfl s_wide_N (by rw [w64_length, ofN_length]) (w64_one _) rfl (stoA 0 rfl rfl rfl s_wide_N (by rw [w64_length, ofN_length]) (w64_one _) rfl (nil (meets (b12, b14) trivial ⟨rfl, rfl, trivial⟩ (fun w hm => pA hm)))))
      · refine canA 5 rfl rfl z_wide_N rfl rfl fun b15 => ?_
        refine only1 1 (by kernel_rfl) (canP 1 rfl rfl k_wide_Of rfl rfl (fun w _ => wide_Of_ i hi w) ?_)
        refine only1 3 (by kernel_rfl) (canP 3 rfl rfl k_wide_Of rfl rfl (fun w _ => wide_Of_ t ht w) ?_)
        exact tail (by kernel_rfl) rfl (stoA 1 rfl rfl rfl s_wide_N (by rw [w64_length, ofN_length]) (w64_one _) rfl (stoA 0 rfl rfl rfl s_wide_N (by rw [w64_length, ofN_length]) (w64_one _) rfl (nil (meets (b12, b15) trivial ⟨rfl, rfl, trivial⟩ (fun w hm => pA hm)))))
    · refine canA 5 rfl rfl z_wide_N rfl rfl fun b16 => ?_
      refine fork2 1 4 (by kernel_rfl) ?_ ?_
      · refine canP 1 rfl rfl k_wide_Of rfl rfl (fun w _ => wide_Of_ i hi w) ?_
        refine fork2 3 4 (by kernel_rfl) ?_ ?_
        · refine canP 3 rfl rfl k_wide_Of rfl rfl (fun w _ => wide_Of_ t ht w) ?_
          refine only1 4 (by kernel_rfl) (canA 4 rfl rfl z_wide_N rfl rfl fun b17 => ?_)
          exact tail (by kernel_rfl) rfl (stoA 0 rfl rfl rfl s_wide_N (by rw [w64_length, ofN_length]) (w64_one _) rfl (stoA 1 rfl rfl rfl s_wide_N (by rw [w64_length, ofN_length]) (w64_one _) rfl (nil (meets (b17, b16) trivial ⟨rfl, rfl, trivial⟩ (fun w hm => pB hm)))))
        · refine canA 4 rfl rfl z_wide_N rfl rfl fun b18 => ?_
          refine only1 3 (by kernel_rfl) (canP 3 rfl rfl k_wide_Of rfl rfl (fun w _ => wide_Of_ t ht w) ?_)
          exact tail (by kernel_rfl) rfl (stoA 0 rfl rfl rfl s_wide_N (by rw [w64_length, ofN_length]) (w64_one _) rfl (stoA 1 rfl rfl rfl s_wide_N (by rw [w64_length, ofN_length]) (w64_one _) rfl (nil (meets (b18, b16) trivial ⟨rfl, rfl, trivial⟩ (fun w hm => pB hm)))))
      · refine canA 4 rfl rfl z_wide_N rfl rfl fun b19 => ?_
        refine only1 1 (by kernel_rfl) (canP 1 rfl rfl k_wide_Of rfl rfl (fun w _ => wide_Of_ i hi w) ?_)
        refine only1 3 (by kernel_rfl) (canP 3 rfl rfl k_wide_Of rfl rfl (fun w _ => wide_Of_ t ht w) ?_)
        exact tail (by kernel_rfl) rfl (stoA 0 rfl rfl rfl s_wide_N (by rw [w64_length, ofN_length]) (w64_one _) rfl (stoA 1 rfl rfl rfl s_wide_N (by rw [w64_length, ofN_length]) (w64_one _) rfl (nil (meets (b19, b16) trivial ⟨rfl, rfl, trivial⟩ (fun w hm => pB hm)))))
  · rintro ⟨b5, b6⟩ σ _
    dsimp only
    refine seq (region (det rfl (asg rfl) (nilS ?_)))   -- region 2
    refine seq ?_
    refine seq (region (det rfl (mv rfl) (nilS ?_)))   -- region 3
    refine block ?_   -- block 0
    refine loopV (ι := Nat) (fun k => k ≤ 256 ∧ levF (ofN i 4) (ofN t 4) (256 - k) k = levW i t) (fun k => [(5, .pointer (some ⟨b5, 0, none⟩)), (6, .pointer (some ⟨b6, 0, none⟩)), (7, .int .i64 ((k : Int) - 1)), (13, .int .i64 k)]) (fun k => [.blk b6 (ob (w64 (ofN t 4)) T_wide_N), .blk b5 (ob (w64 (ofN i 4)) T_wide_N)]) (fun _ => []) (fun k => 256 - k) 0 ⟨by omega, rfl⟩ ⟨rfl, rfl, rfl, rfl, trivial⟩ (fun w hm => hm) ?_
    intro k σ ⟨hk, hc⟩
    refine seq (region (det rfl (lss rfl rfl) (nilS ?_)))   -- region 4
    refine seq ?_
    refine cond rfl (fun h => ?_) (fun h => ?_)   -- on t14
    · have h := of_decide_eq_true h
      refine skipS ?_
      refine seq ?_
      refine block ?_   -- block 1
      refine seq (region (det rfl (mv rfl) (det rfl (asg rfl) (nilS ?_))))   -- region 5
      refine seq ?_
      rw [show 256 - k = (255 - k) + 1 by omega, levF] at hc
      refine seq (draw (m := 6) mix (by kernel_rfl) (take 0 rfl (by kernel_rfl) rfl (ldAll 1 rfl rfl g_wide_N (by rw [w64_length, ofN_length])) (take 1 rfl (by kernel_rfl) rfl (ldAll 0 rfl rfl g_wide_N (by rw [w64_length, ofN_length])) (take 2 rfl (by kernel_rfl) rfl (mv rfl) (only 3 rfl (by kernel_rfl) rfl k_wide_Shr rfl rfl (fun w _ => wide_Shr_ _ (ofN_length _ _) k (by omega) w) (only 4 rfl (by kernel_rfl) rfl k_wide_Cmp rfl rfl (fun w _ => wide_Cmp_ _ _ (ofN_length _ _) (shrN_length _ _ (ofN_length _ _)) w) (take 5 rfl (by kernel_rfl) rfl (gtr rfl rfl) ((tail (by kernel_rfl) rfl (nilS ?_))))))))))   -- region 6
      refine cond rfl (fun h => ?_) (fun h => ?_)   -- on t21
      · have h := of_decide_eq_true h
        refine exit ?_   -- 0
        show Tr _ _ _ _ _ _ _
        refine seq (region (det rfl (mv rfl) (det rfl (asg rfl) (nilS ?_))))   -- region 9
        exact ret (retT rfl rfl (pr' (vi (by rw [← hc, if_pos h]))))
      · have h := of_decide_eq_false h
        refine skipS ?_
        refine region (det rfl (mv rfl) (det rfl (asg rfl) (nil ?_)))   -- region 7
        show Tr _ _ _ _ _ _ _
        refine region (det rfl (addI rfl rfl (by omega) (by omega)) (det rfl (mv rfl) (nil ?_)))   -- region 8
        exact again (k + 1) ⟨by omega, by rw [← hc, if_neg h, show 256 - (k + 1) = 255 - k by omega]⟩ ⟨rfl, rfl, vi (by omega), rfl, trivial⟩ (fun w hm => hm) (by (first | omega | (dsimp only; omega)))
    · have h := of_decide_eq_false h
      refine exit ?_   -- 0
      show Tr _ _ _ _ _ _ _
      refine seq (region (det rfl (mv rfl) (det rfl (asg rfl) (nilS ?_))))   -- region 9
      exact ret (retT rfl rfl (pr' (vi (by rw [show 256 - k = 0 by omega, levF] at hc; exact hc))))
end Go.Proofs.YtmcapgjdflohfaaGreat.L
