/- Package chain: behind. -/
import Derived.Test.YtmcapgjdflohfaaGreatInter
set_option linter.all false
namespace Go.Proofs.YtmcapgjdflohfaaGreat.L
open Go Go.RowKit
set_option linter.unusedVariables false

def behindS (t : List UInt8) (v : List (List UInt8)) (b : Bl) (i : Nat) : List (List UInt8) := if i = 0 then [idL b.h] else Mp.next [] v (idL b.h) (levW (idL b.h) t)
theorem chain_behind_ (t : List UInt8) (ht : t.length = 32) (v : List (List UInt8)) (hn : v.length ≤ 100000) (hv : ∀ y ∈ v, y.length = 32) (b : Bl) (hb : b.h.ok) (i : Nat) (A : Option Addr) (cap : Nat) (D : Nat → Prop) (w : World) (hD : ∀ k, D k → k < w.heap.size) (hs : Sl 32 A v.length cap (hl v) D w) :
    Calls PP N_chain_behind #[ag (b8 t), .slice A v.length cap, ag b.c, .int .i64 i] w (RS w 32 (hl (behindS t v b i))) := by
  refine enter f_chain_behind rfl n_chain_behind rfl (M.init1 PP w Sl.stable hD hs) ?_
  refine seq (region (box rfl rfl rfl fun b0 => box rfl rfl rfl fun b1 => det rfl (asg rfl) (nilS ?_)))   -- region 0
  refine seq (region (det rfl (ldAll 0 rfl rfl g_api_Block (Bl.c_length hb)) (call k_chain_id rfl rfl (fun w _ => chain_id_ b hb w) (alloc z_api_Hash rfl rfl fun b2 => stoA 0 rfl rfl rfl s_api_Hash (by rw [b8_length, idL_length]) (b8_one _) rfl (nilS ?_)))))   -- region 1
  refine seq ?_
  refine seq (region (det rfl (mv rfl) (det rfl (eql rfl rfl) (nilS ?_))))   -- region 2
  refine cond rfl (fun h => ?_) (fun h => ?_)   -- on t13
  · have h := of_decide_eq_true h
    refine seq (region (det rfl (ldAll 0 rfl rfl g_api_Hash (by rw [b8_length, idL_length])) (callSN k_inter_First rfl rfl (fun w _ => inter_First_ _ (idL_length _) w) fun B q => (det rfl (asg rfl) (nilS ?_)))))   -- region 3
    rw [behindS, if_pos (by omega)]
    exact ret (retFr rfl rfl rfl 0 rfl)
  · have h := of_decide_eq_false h
    refine skipS ?_
    refine seq (draw (m := 7) mix (by kernel_rfl) (take 0 rfl (by kernel_rfl) rfl (mv rfl) (take 1 rfl (by kernel_rfl) rfl (ldAll 0 rfl rfl g_api_Hash (by rw [b8_length, idL_length])) (take 2 rfl (by kernel_rfl) rfl (ldAll 0 rfl rfl g_api_Hash (by rw [b8_length, idL_length])) (take 3 rfl (by kernel_rfl) rfl (ldAll 2 rfl rfl g_api_Hash (by rw [b8_length, ht])) (only 4 rfl (by kernel_rfl) rfl k_work_Level rfl rfl (fun w _ => work_Level_ _ t (idL_length _) ht w) (onlySN 5 rfl (by kernel_rfl) rfl k_inter_Next rfl rfl (fun w hm => by
      obtain ⟨D, hD, hs⟩ := hm.sl (k := 0) rfl
      exact inter_Next_ v hn hv _ (idL_length _) _ A cap D w hD hs) fun B q => (take 6 rfl (by kernel_rfl) rfl (asg rfl) (tail (by kernel_rfl) rfl (nilS ?_))))))))))   -- region 4
    rw [behindS, if_neg (by omega)]
    exact ret (retFr rfl rfl rfl 0 rfl)
end Go.Proofs.YtmcapgjdflohfaaGreat.L
