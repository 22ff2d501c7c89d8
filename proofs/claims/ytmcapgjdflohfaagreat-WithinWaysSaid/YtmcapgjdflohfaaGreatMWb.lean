/- The shelf's layings at this seat, in plain words (written by the kit's lay-plain.mjs). -/
import Derived.Test.YtmcapgjdflohfaaGreatMWa
import Derived.Shelf.Strings.Repeat
import Derived.Room.Shelf.Join48
import Derived.Shelf.Slices.Reverse
import Derived.Test.YtmcapgjdflohfaaGreatProg
import Derived.RangeFuncBox
import Derived.RangeFuncLeaves
import Derived.Shelf.Abstract
import Derived.Shelf.RegionOpen
import Derived.WalkKit
import Derived.OwnWalkIn
import Derived.TacticsInMore
import Derived.LoopNIn
import Derived.LoopIn
import Derived.Maps.AppendAt
import Derived.ChangeKeysEq
set_option linter.all false
namespace Go.Proofs
open Go.Shelf
def YtmcapgjdflohfaaGreat.lays105_ren : Go.Shelf.Ren := ⟨fun | 105 => 212 | 212 => 220 | 99 => 221 | 165 => 213 | 166 => 214 | 170 => 222 | 169 => 215 | 263 => 228 | 264 => 229 | 206 => 230 | 240 => 223 | 241 => 224 | 276 => 231 | 277 => 232 | n => n, fun | 9 => 9 | 3 => 3 | 4 => 4 | 20 => 20 | 0 => 0 | 46 => 141 | 109 => 224 | 5 => 5 | 72 => 211 | 76 => 215 | 51 => 22 | 146 => 232 | 53 => 25 | 148 => 234 | 70 => 209 | 37 => 140 | 75 => 214 | 127 => 228 | 164 => 236 | 80 => 217 | n => n, fun | n => n⟩
theorem YtmcapgjdflohfaaGreat.lays105 : Go.Proofs.Lays.n105 Tryz.prog YtmcapgjdflohfaaGreat.lays105_ren := {
  mixed := by kernel_rfl
  f99 := Tryz.func221.trans (congrArg some (by kernel_rfl))
  f105 := Tryz.func212.trans (congrArg some (by kernel_rfl))
  f165 := Tryz.func213.trans (congrArg some (by kernel_rfl))
  f166 := Tryz.func214.trans (congrArg some (by kernel_rfl))
  f169 := Tryz.func215.trans (congrArg some (by kernel_rfl))
  f170 := Tryz.func222.trans (congrArg some (by kernel_rfl))
  f206 := Tryz.func230.trans (congrArg some (by kernel_rfl))
  f212 := Tryz.func220.trans (congrArg some (by kernel_rfl))
  f240 := Tryz.func223.trans (congrArg some (by kernel_rfl))
  f241 := Tryz.func224.trans (congrArg some (by kernel_rfl))
  f263 := Tryz.func228.trans (congrArg some (by kernel_rfl))
  f264 := Tryz.func229.trans (congrArg some (by kernel_rfl))
  f276 := Tryz.func231.trans (congrArg some (by kernel_rfl))
  f277 := Tryz.func232.trans (congrArg some (by kernel_rfl))
  t0 := Tryz.underlying0
  a0 := Tryz.isAgg0
  z0 := Tryz.sizeOf0
  v0 := Tryz.zeroValue0
  t3 := Tryz.underlying3
  a3 := Tryz.isAgg3
  z3 := Tryz.sizeOf3
  v3 := Tryz.zeroValue3
  t4 := Tryz.underlying4
  a4 := Tryz.isAgg4
  z4 := Tryz.sizeOf4
  v4 := Tryz.zeroValue4
  t5 := Tryz.underlying5
  a5 := Tryz.isAgg5
  z5 := Tryz.sizeOf5
  v5 := Tryz.zeroValue5
  t9 := Tryz.underlying9
  a9 := Tryz.isAgg9
  z9 := Tryz.sizeOf9
  v9 := Tryz.zeroValue9
  t20 := Tryz.underlying20
  a20 := Tryz.isAgg20
  z20 := Tryz.sizeOf20
  v20 := Tryz.zeroValue20
  t37 := Tryz.underlying140
  a37 := Tryz.isAgg140
  z37 := Tryz.sizeOf140
  v37 := Tryz.zeroValue140
  t46 := Tryz.underlying141
  a46 := Tryz.isAgg141
  z46 := Tryz.sizeOf141
  v46 := Tryz.zeroValue141
  t51 := Tryz.underlying22
  a51 := Tryz.isAgg22
  z51 := Tryz.sizeOf22
  v51 := Tryz.zeroValue22
  t53 := Tryz.underlying25
  a53 := Tryz.isAgg25
  z53 := Tryz.sizeOf25
  v53 := Tryz.zeroValue25
  t70 := Tryz.underlying209
  a70 := Tryz.isAgg209
  z70 := Tryz.sizeOf209
  v70 := Tryz.zeroValue209
  t72 := Tryz.underlying211
  a72 := Tryz.isAgg211
  z72 := Tryz.sizeOf211
  v72 := Tryz.zeroValue211
  t75 := Tryz.underlying214
  a75 := Tryz.isAgg214
  z75 := Tryz.sizeOf214
  v75 := Tryz.zeroValue214
  t76 := Tryz.underlying215
  a76 := Tryz.isAgg215
  z76 := Tryz.sizeOf215
  v76 := Tryz.zeroValue215
  t109 := Tryz.underlying224
  a109 := Tryz.isAgg224
  z109 := Tryz.sizeOf224
  v109 := Tryz.zeroValue224
  t127 := Tryz.underlying228
  a127 := Tryz.isAgg228
  z127 := Tryz.sizeOf228
  v127 := Tryz.zeroValue228
  t146 := Tryz.underlying232
  a146 := Tryz.isAgg232
  z146 := Tryz.sizeOf232
  v146 := Tryz.zeroValue232
  t148 := Tryz.underlying234
  a148 := Tryz.isAgg234
  z148 := Tryz.sizeOf234
  v148 := Tryz.zeroValue234
  t164 := Tryz.underlying236
  a164 := Tryz.isAgg236
  z164 := Tryz.sizeOf236
  v164 := Tryz.zeroValue236 }
def YtmcapgjdflohfaaGreat.lays156_ren : Go.Shelf.Ren := ⟨fun | 156 => 197 | 165 => 213 | 166 => 214 | 169 => 215 | 240 => 223 | 241 => 224 | 276 => 231 | 277 => 232 | n => n, fun | 31 => 69 | 9 => 9 | 3 => 3 | 4 => 4 | 0 => 0 | 20 => 20 | 72 => 211 | 76 => 215 | 70 => 209 | 37 => 140 | 75 => 214 | 127 => 228 | 164 => 236 | 5 => 5 | 80 => 217 | n => n, fun | n => n⟩
theorem YtmcapgjdflohfaaGreat.lays156 : Go.Proofs.Lays.n156 Tryz.prog YtmcapgjdflohfaaGreat.lays156_ren := {
  mixed := by kernel_rfl
  f156 := Tryz.func197.trans (congrArg some (by kernel_rfl))
  f165 := Tryz.func213.trans (congrArg some (by kernel_rfl))
  f166 := Tryz.func214.trans (congrArg some (by kernel_rfl))
  f169 := Tryz.func215.trans (congrArg some (by kernel_rfl))
  f240 := Tryz.func223.trans (congrArg some (by kernel_rfl))
  f241 := Tryz.func224.trans (congrArg some (by kernel_rfl))
  f276 := Tryz.func231.trans (congrArg some (by kernel_rfl))
  f277 := Tryz.func232.trans (congrArg some (by kernel_rfl))
  t0 := Tryz.underlying0
  a0 := Tryz.isAgg0
  z0 := Tryz.sizeOf0
  v0 := Tryz.zeroValue0
  t3 := Tryz.underlying3
  a3 := Tryz.isAgg3
  z3 := Tryz.sizeOf3
  v3 := Tryz.zeroValue3
  t4 := Tryz.underlying4
  a4 := Tryz.isAgg4
  z4 := Tryz.sizeOf4
  v4 := Tryz.zeroValue4
  t9 := Tryz.underlying9
  a9 := Tryz.isAgg9
  z9 := Tryz.sizeOf9
  v9 := Tryz.zeroValue9
  t20 := Tryz.underlying20
  a20 := Tryz.isAgg20
  z20 := Tryz.sizeOf20
  v20 := Tryz.zeroValue20
  t31 := Tryz.underlying69
  a31 := Tryz.isAgg69
  z31 := Tryz.sizeOf69
  v31 := Tryz.zeroValue69
  t37 := Tryz.underlying140
  a37 := Tryz.isAgg140
  z37 := Tryz.sizeOf140
  v37 := Tryz.zeroValue140
  t70 := Tryz.underlying209
  a70 := Tryz.isAgg209
  z70 := Tryz.sizeOf209
  v70 := Tryz.zeroValue209
  t72 := Tryz.underlying211
  a72 := Tryz.isAgg211
  z72 := Tryz.sizeOf211
  v72 := Tryz.zeroValue211
  t75 := Tryz.underlying214
  a75 := Tryz.isAgg214
  z75 := Tryz.sizeOf214
  v75 := Tryz.zeroValue214
  t76 := Tryz.underlying215
  a76 := Tryz.isAgg215
  z76 := Tryz.sizeOf215
  v76 := Tryz.zeroValue215
  t127 := Tryz.underlying228
  a127 := Tryz.isAgg228
  z127 := Tryz.sizeOf228
  v127 := Tryz.zeroValue228
  t164 := Tryz.underlying236
  a164 := Tryz.isAgg236
  z164 := Tryz.sizeOf236
  v164 := Tryz.zeroValue236 }
def YtmcapgjdflohfaaGreat.lays112_ren : Go.Shelf.Ren := ⟨fun | 112 => 66 | n => n, fun | 28 => 38 | 3 => 3 | 4 => 4 | 0 => 0 | n => n, fun | n => n⟩
theorem YtmcapgjdflohfaaGreat.lays112 : Go.Proofs.Lays.n112 Tryz.prog YtmcapgjdflohfaaGreat.lays112_ren := {
  mixed := by kernel_rfl
  f112 := Tryz.func66.trans (congrArg some (by kernel_rfl))
  t0 := Tryz.underlying0
  a0 := Tryz.isAgg0
  z0 := Tryz.sizeOf0
  v0 := Tryz.zeroValue0
  t3 := Tryz.underlying3
  a3 := Tryz.isAgg3
  z3 := Tryz.sizeOf3
  v3 := Tryz.zeroValue3
  t4 := Tryz.underlying4
  a4 := Tryz.isAgg4
  z4 := Tryz.sizeOf4
  v4 := Tryz.zeroValue4
  t28 := Tryz.underlying38
  a28 := Tryz.isAgg38
  z28 := Tryz.sizeOf38
  v28 := Tryz.zeroValue38 }
end Go.Proofs

namespace Go.Proofs
open Go.Shelf
theorem YtmcapgjdflohfaaGreat.extra105 : Builder.Extra Tryz.prog YtmcapgjdflohfaaGreat.lays105_ren := {
  sizeBuilder := by kernel_rfl
  liesBuilder := by kernel_rfl
  t5 := Tryz.underlying5
  a5 := Tryz.isAgg5
  z5 := Tryz.sizeOf5
  v5 := Tryz.zeroValue5
  infoByte := by kernel_rfl
  cellsByte := by kernel_rfl
  sizeByte := by kernel_rfl
  neB5 := by decide }
theorem YtmcapgjdflohfaaGreat.extra156 : Builder.Extra Tryz.prog YtmcapgjdflohfaaGreat.lays156_ren := {
  sizeBuilder := by kernel_rfl
  liesBuilder := by kernel_rfl
  t5 := Tryz.underlying5
  a5 := Tryz.isAgg5
  z5 := Tryz.sizeOf5
  v5 := Tryz.zeroValue5
  infoByte := by kernel_rfl
  cellsByte := by kernel_rfl
  sizeByte := by kernel_rfl
  neB5 := by decide }
namespace YtmcapgjdflohfaaGreat.L
open Go Go.RowKit

theorem bs_list (l : List UInt8) : (bs l).data.toList = l := rfl
theorem strings_Repeat_ (l : List UInt8) (k : Nat) (hk : l.length * k ≤ 140737488355328) (h2 : k ≤ 9223372036854775807) : Pure PP N_strings_Repeat #[.string (bs l), .int .i64 k] (.string (bs (Lib.repeatL l k))) := fun w =>
  Any.strings_Repeat YtmcapgjdflohfaaGreat.lays105 YtmcapgjdflohfaaGreat.extra105 (bs l) k w h2 (by rw [bs_size]; exact hk)

theorem flat_join (xs : List (List UInt8)) : Lib.join xs [] = xs.flatten := by
  cases xs with
  | nil => rfl
  | cons x r =>
    rw [Lib.join_cons]
    simp [Lib.joinTail]
/-- strings.Join with no separator, of a block of texts. -/
theorem strings_Join_ (b cap : Nat) (xs : List (List UInt8)) (e : TypeId) (w : World) (hb : w.heap[b]? = some (ob (xs.map fun x => .string (bs x)) e)) (hc : xs.length ≤ cap) (hn : xs.length ≤ 140737488355328) (hl : xs.flatten.length ≤ 281474976710656) :
    Calls PP N_strings_Join #[.slice (some ⟨b, 0, none⟩) xs.length cap, .string ⟨#[]⟩] w (PR w (.string (bs xs.flatten))) := by
  have e1 : (xs.map bs).map (·.data.toList) = xs := by
    rw [List.map_map]
    conv => rhs; rw [← List.map_id xs]
    rfl
  have hj : Lib.join ((xs.map bs).map (·.data.toList)) (⟨#[]⟩ : ByteArray).data.toList = xs.flatten := by rw [e1]; exact flat_join xs
  have := Any.strings_Join_48 YtmcapgjdflohfaaGreat.lays156 YtmcapgjdflohfaaGreat.extra156 b 0 cap (xs.map bs) ⟨#[]⟩ w (fun j x hx => by
    rw [cell_ob hb, Nat.zero_add]
    rw [List.getElem?_map] at hx ⊢
    obtain ⟨y, hy, rfl⟩ := Option.map_eq_some_iff.1 hx
    rw [hy]; rfl) (by
      rcases Nat.lt_or_ge b w.heap.size with h | h
      · exact h
      · rw [Array.getElem?_eq_none h] at hb; cases hb) (by simpa using hn) (by simpa using hc) (by rw [hj]; exact hl)
  rw [hj, List.length_map] at this
  exact this
end YtmcapgjdflohfaaGreat.L
end Go.Proofs

namespace Go.Proofs.YtmcapgjdflohfaaGreat.L
open Go Go.RowKit
set_option linter.unusedVariables false

theorem word_Rot_ (x n : Int) : Pure PP N_word_Rot #[.int .u32 x, .int .i64 n] (.int .u32 (rotI x n)) := by
  have hb := band31 (IntKind.u64.wrap n)
  refine enter0 f_word_Rot rfl n_word_Rot rfl fun w => ?_
  refine seq (region (det rfl (asg rfl) (nilS ?_)))
  refine seq (region (det rfl (mv rfl) (det rfl (conv u_int u_uint rfl) (det rfl (and rfl rfl) (det rfl (asg rfl) (nilS ?_))))))
  refine seq (region (det rfl (mv rfl) (det rfl (mv rfl) (det rfl (shr rfl rfl hb.1) (det rfl (mv rfl) (det rfl (mv rfl) (det rfl (sub rfl rfl) (det rfl (shl rfl rfl (u64_nn _)) (det rfl (or rfl rfl) (det rfl (asg rfl) (nilS ?_)))))))))))
  exact ret (retT rfl rfl pr)
theorem sha_First_ : Pure PP N_sha_First #[] (ag (w32 kFirst)) := by
  refine enter0 f_sha_First rfl n_sha_First rfl fun w => ?_
  refine seq (region (alloc z_sha_Words rfl rfl fun b0 => nilS ?_))   -- region 0
  refine seq (region (det rfl (bldL (xs := w32 kFirst) z_sha_Words u_sha_Words s_uint32 rfl rfl rfl) (stoA 0 rfl rfl rfl s_sha_Words rfl rfl rfl (nilS ?_))))   -- region 1
  exact ret (retC 0 rfl rfl rfl g_sha_Words pr)
theorem sha_rounds_ : Pure PP N_sha_rounds #[] (ag (w32 kRounds)) := by
  refine enter0 f_sha_rounds rfl n_sha_rounds rfl fun w => ?_
  refine seq (region (alloc z_a64_uint32 rfl rfl fun b0 => nilS ?_))   -- region 0
  refine seq (region (det rfl (bldL (xs := w32 kRounds) z_a64_uint32 u_a64_uint32 s_uint32 rfl rfl rfl) (stoA 0 rfl rfl rfl s_a64_uint32 rfl rfl rfl (nilS ?_))))   -- region 1
  exact ret (retC 0 rfl rfl rfl g_a64_uint32 pr)

theorem sha_Spread_ (b : List UInt8) (hb : b.length ≤ 1000000000000) : Pure PP N_sha_Spread #[.string (bs b)] (ag (w32 (spr b 64))) := by
  refine enter0 f_sha_Spread rfl n_sha_Spread rfl fun w => ?_
  refine seq (region (alloc z_a64_uint32 rfl rfl fun b0 => nilS ?_))   -- region 0
  refine seq (region (alloc z_a64_uint32 rfl rfl fun b1 => nilS ?_))   -- region 1
  refine seq ?_
  refine seq (region (det rfl (mv rfl) (nilS ?_)))   -- region 2
  refine block ?_   -- block 0
  refine loopV (ι := Nat) (fun k => k ≤ 64) (fun k => [(0, .string (bs b)), (2, .pointer (some ⟨b0, 0, none⟩)), (3, .pointer (some ⟨b1, 0, none⟩)), (9, .int .i64 k)]) (fun k => [.blk b1 (ob (w32 (spr b k)) T_a64_uint32), .blk b0 (ob (w32 (spr b 0)) T_a64_uint32)]) (fun _ => []) (fun k => 64 - k) 0 (by omega) ⟨rfl, rfl, rfl, rfl, trivial⟩ (fun w hm => hm) ?_
  intro k σ hk
  have hl := spr_length b k
  refine seq (region (det rfl (lss rfl rfl) (nilS ?_)))   -- region 3
  refine seq ?_
  refine cond rfl (fun h => ?_) (fun h => ?_)   -- on t10
  · have h := of_decide_eq_true h
    refine skipS ?_
    refine seq ?_
    refine block ?_   -- block 1
    refine seq (region (det rfl (mv rfl) (det rfl (asg rfl) (nilS ?_))))   -- region 4
    refine seq ?_
    refine seq (region (det rfl (mv rfl) (det rfl (lss rfl rfl) (nilS ?_))))   -- region 5
    refine cond rfl (fun h => ?_) (fun h => ?_)   -- on t13
    · have h := of_decide_eq_true h
      refine seq (region (det rfl (mv rfl) (det rfl (mv rfl) (det rfl (mv rfl) (det rfl (mulI rfl rfl (by omega) (by omega)) (call k_word_Take32 rfl rfl (fun w _ => word_Take32_ b _ hb (by omega) (by omega) w) (det rfl (iadr rfl rfl u_a64_uint32 s_uint32 (by omega) (by omega)) (sto1 0 k rfl rfl rfl s_uint32 rfl (by omega) (by rw [w32_length]; omega) w32_set (nilS ?_)))))))))   -- region 6
      refine exit ?_   -- 1
      show Tr _ _ _ _ _ _ _
      refine region (det rfl (addI rfl rfl (by omega) (by omega)) (det rfl (mv rfl) (nil ?_)))   -- region 11
      refine again (k + 1) (by omega) ⟨rfl, rfl, rfl, rfl, trivial⟩ (fun w hm => ?_) (by (first | omega | (dsimp only; omega)))
      have e : spr b (k + 1) = _ := congrArg (List.set (spr b k) k) (if_pos (by omega) : sprV b (spr b k) k = _)
      show M _ [.blk b1 (ob (w32 (spr b (k + 1))) T_a64_uint32), _] _ w
      rw [e]; exact hm
    · have h := of_decide_eq_false h
      refine skipS ?_
      refine seq (draw (m := 10) mix (by kernel_rfl) (take 0 rfl (by kernel_rfl) rfl (mv rfl) (take 1 rfl (by kernel_rfl) rfl (subI rfl rfl (by omega) (by omega)) (take 2 rfl (by kernel_rfl) rfl (iadr rfl rfl u_a64_uint32 s_uint32 (by omega) (by omega)) (take 3 rfl (by kernel_rfl) rfl (ldB 0 rfl rfl o_uint32 (w32_at (j := k - 15) (by omega) (by omega))) (take 4 rfl (by kernel_rfl) rfl (mv rfl) (take 5 rfl (by kernel_rfl) rfl (subI rfl rfl (by omega) (by omega)) (take 6 rfl (by kernel_rfl) rfl (iadr rfl rfl u_a64_uint32 s_uint32 (by omega) (by omega)) (take 7 rfl (by kernel_rfl) rfl (ldB 0 rfl rfl o_uint32 (w32_at (j := k - 2) (by omega) (by omega))) (take 8 rfl (by kernel_rfl) rfl (asg rfl) (take 9 rfl (by kernel_rfl) rfl (asg rfl) ((tail (by kernel_rfl) rfl (nilS ?_))))))))))))))   -- region 7
      refine seq (region (det rfl (mv rfl) (call k_word_Rot rfl rfl (fun w _ => word_Rot_ _ _ w) (det rfl (mv rfl) (call k_word_Rot rfl rfl (fun w _ => word_Rot_ _ _ w) (det rfl (xor rfl rfl) (det rfl (mv rfl) (det rfl (shr rfl rfl (by decide)) (det rfl (xor rfl rfl) (det rfl (asg rfl) (nilS ?_)))))))))))   -- region 8
      refine seq (region (det rfl (mv rfl) (call k_word_Rot rfl rfl (fun w _ => word_Rot_ _ _ w) (det rfl (mv rfl) (call k_word_Rot rfl rfl (fun w _ => word_Rot_ _ _ w) (det rfl (xor rfl rfl) (det rfl (mv rfl) (det rfl (shr rfl rfl (by decide)) (det rfl (xor rfl rfl) (det rfl (asg rfl) (nilS ?_)))))))))))   -- region 9
      refine draw (m := 15) mix (by kernel_rfl) (take 0 rfl (by kernel_rfl) rfl (mv rfl) (take 1 rfl (by kernel_rfl) rfl (mv rfl) (take 2 rfl (by kernel_rfl) rfl (subI rfl rfl (by omega) (by omega)) (take 3 rfl (by kernel_rfl) rfl (iadr rfl rfl u_a64_uint32 s_uint32 (by omega) (by omega)) (take 4 rfl (by kernel_rfl) rfl (ldB 0 rfl rfl o_uint32 (w32_at (j := k - 16) (by omega) (by omega))) (take 5 rfl (by kernel_rfl) rfl (mv rfl) (take 6 rfl (by kernel_rfl) rfl (add rfl rfl) (take 7 rfl (by kernel_rfl) rfl (mv rfl) (take 8 rfl (by kernel_rfl) rfl (subI rfl rfl (by omega) (by omega)) (take 9 rfl (by kernel_rfl) rfl (iadr rfl rfl u_a64_uint32 s_uint32 (by omega) (by omega)) (take 10 rfl (by kernel_rfl) rfl (ldB 0 rfl rfl o_uint32 (w32_at (j := k - 7) (by omega) (by omega))) (take 11 rfl (by kernel_rfl) rfl (add rfl rfl) (take 12 rfl (by kernel_rfl) rfl (mv rfl) (take 13 rfl (by kernel_rfl) rfl (add rfl rfl) (take 14 rfl (by kernel_rfl) rfl (iadr rfl rfl u_a64_uint32 s_uint32 (by omega) (by omega)) ((tail (by kernel_rfl) rfl (sto1 0 k rfl rfl rfl s_uint32 rfl (by omega) (by rw [w32_length]; omega) w32_set (nil ?_)))))))))))))))))))   -- region 10
      show Tr _ _ _ _ _ _ _
      refine region (det rfl (addI rfl rfl (by omega) (by omega)) (det rfl (mv rfl) (nil ?_)))   -- region 11
      refine again (k + 1) (by omega) ⟨rfl, rfl, rfl, rfl, trivial⟩ (fun w hm => ?_) (by (first | omega | (dsimp only; omega)))
      have e : spr b (k + 1) = _ := congrArg (List.set (spr b k) k) (if_neg (by omega) : sprV b (spr b k) k = _)
      show M _ [.blk b1 (ob (w32 (spr b (k + 1))) T_a64_uint32), _] _ w
      rw [e]; exact hm
  · have h := of_decide_eq_false h
    have e : k = 64 := by omega
    subst e
    refine exit ?_   -- 0
    show Tr _ _ _ _ _ _ _
    refine seq (region (det rfl (ldA 0 (r := w32 (spr b 64)) rfl rfl g_a64_uint32 (List.take_of_length_le (by rw [List.length_drop, w32_length]; omega)) (by rw [w32_length]; omega)) (stoA 1 rfl rfl rfl s_a64_uint32 (by rw [w32_length]; omega) (w32_one _) rfl (nilS ?_))))   -- region 12
    exact ret (retC 1 rfl rfl rfl (by rw [w32_length, hl]; exact g_a64_uint32) pr)
theorem sha_Mix_ (x : List Int) (hh : x.length = 8) (b : List UInt8) (hb : b.length ≤ 1000000000000) : Pure PP N_sha_Mix #[ag (w32 x), .string (bs b)] (ag (w32 (mixF x b))) := by
  refine enter0 f_sha_Mix rfl n_sha_Mix rfl fun w => ?_
  refine seq (region (box (cs := w32 x) rfl rfl rfl fun b0 => alloc z_sha_Words rfl rfl fun b1 => nilS ?_))   -- region 0
  refine seq (region (det rfl (mv rfl) (call k_sha_Spread rfl rfl (fun w _ => sha_Spread_ b hb w) (call k_sha_rounds rfl rfl (fun w _ => sha_rounds_ w) (alloc z_a64_uint32 rfl rfl fun b2 => alloc z_a64_uint32 rfl rfl fun b3 => stoA 1 rfl rfl rfl s_a64_uint32 (by rw [w32_length, spr_length]) (w32_one _) rfl (stoA 0 rfl rfl rfl s_a64_uint32 rfl rfl rfl (nilS ?_)))))))   -- region 1
  refine seq (region (det rfl (ldA 3 (r := w32 x) rfl rfl g_sha_Words (List.take_of_length_le (by rw [List.length_drop, w32_length]; omega)) (by rw [w32_length]; omega)) (alloc z_sha_Words rfl rfl fun b4 => stoA 0 rfl rfl rfl s_sha_Words (by rw [w32_length]; omega) (w32_one _) rfl (nilS ?_))))   -- region 2
  refine seq ?_
  refine seq (region (det rfl (mv rfl) (nilS ?_)))   -- region 3
  refine block ?_   -- block 0
  refine loopV (ι := Nat) (fun k => k ≤ 64) (fun k => [(2, .pointer (some ⟨b0, 0, none⟩)), (4, .pointer (some ⟨b1, 0, none⟩)), (5, .pointer (some ⟨b2, 0, none⟩)), (6, .pointer (some ⟨b3, 0, none⟩)), (7, .pointer (some ⟨b4, 0, none⟩)), (18, .int .i64 k)]) (fun k => [.blk b4 (ob (w32 (mixV (spr b 64) kRounds x k)) T_sha_Words), .blk b3 (ob (w32 kRounds) T_a64_uint32), .blk b2 (ob (w32 (spr b 64)) T_a64_uint32), .blk b1 (ob (w32 (List.replicate 8 0)) T_sha_Words), .blk b0 (ob (w32 (x)) T_sha_Words)]) (fun _ => []) (fun k => 64 - k) 0 (by omega) ⟨rfl, rfl, rfl, rfl, rfl, rfl, trivial⟩ (fun w hm => hm) ?_
  intro k σ hk
  have hv : (mixV (spr b 64) kRounds x k).length = 8 := mixV_length hh k
  have hs := spr_length b 64
  refine seq (region (det rfl (lss rfl rfl) (nilS ?_)))   -- region 4
  refine seq ?_
  refine cond rfl (fun h => ?_) (fun h => ?_)   -- on t19
  · have h := of_decide_eq_true h
    refine skipS ?_
    refine seq ?_
    refine block ?_   -- block 1
    refine seq (region (det rfl (mv rfl) (det rfl (asg rfl) (nilS ?_))))   -- region 5
    refine seq (draw (m := 12) mix (by kernel_rfl) (take 0 rfl (by kernel_rfl) rfl (iadr rfl rfl u_sha_Words s_uint32 (by omega) (by omega)) (take 1 rfl (by kernel_rfl) rfl (ldB 0 rfl rfl o_uint32 (w32_at rfl (by omega))) (take 3 rfl (by kernel_rfl) rfl (iadr rfl rfl u_sha_Words s_uint32 (by omega) (by omega)) (take 4 rfl (by kernel_rfl) rfl (ldB 0 rfl rfl o_uint32 (w32_at rfl (by omega))) (take 7 rfl (by kernel_rfl) rfl (iadr rfl rfl u_sha_Words s_uint32 (by omega) (by omega)) (take 8 rfl (by kernel_rfl) rfl (ldB 0 rfl rfl o_uint32 (w32_at rfl (by omega))) (only 2 rfl (by kernel_rfl) rfl k_word_Rot rfl rfl (fun w _ => word_Rot_ _ _ w) (only 5 rfl (by kernel_rfl) rfl k_word_Rot rfl rfl (fun w _ => word_Rot_ _ _ w) (take 6 rfl (by kernel_rfl) rfl (xor rfl rfl) (only 9 rfl (by kernel_rfl) rfl k_word_Rot rfl rfl (fun w _ => word_Rot_ _ _ w) (take 10 rfl (by kernel_rfl) rfl (xor rfl rfl) (take 11 rfl (by kernel_rfl) rfl (asg rfl) ((tail (by kernel_rfl) rfl (nilS ?_))))))))))))))))   -- region 6
    refine seq (region (det rfl (iadr rfl rfl u_sha_Words s_uint32 (by omega) (by omega)) (det rfl (ldB 0 rfl rfl o_uint32 (w32_at rfl (by omega))) (det rfl (iadr rfl rfl u_sha_Words s_uint32 (by omega) (by omega)) (det rfl (ldB 0 rfl rfl o_uint32 (w32_at rfl (by omega))) (det rfl (and rfl rfl) (det rfl (iadr rfl rfl u_sha_Words s_uint32 (by omega) (by omega)) (det rfl (ldB 0 rfl rfl o_uint32 (w32_at rfl (by omega))) (det rfl (xorU rfl) (det rfl (iadr rfl rfl u_sha_Words s_uint32 (by omega) (by omega)) (det rfl (ldB 0 rfl rfl o_uint32 (w32_at rfl (by omega))) (det rfl (and rfl rfl) (det rfl (xor rfl rfl) (det rfl (asg rfl) (nilS ?_)))))))))))))))   -- region 7
    refine seq (draw (m := 15) mix (by kernel_rfl) (take 0 rfl (by kernel_rfl) rfl (iadr rfl rfl u_sha_Words s_uint32 (by omega) (by omega)) (take 1 rfl (by kernel_rfl) rfl (ldB 0 rfl rfl o_uint32 (w32_at rfl (by omega))) (take 2 rfl (by kernel_rfl) rfl (mv rfl) (take 3 rfl (by kernel_rfl) rfl (add rfl rfl) (take 4 rfl (by kernel_rfl) rfl (mv rfl) (take 5 rfl (by kernel_rfl) rfl (add rfl rfl) (take 6 rfl (by kernel_rfl) rfl (mv rfl) (take 7 rfl (by kernel_rfl) rfl (iadr rfl rfl u_a64_uint32 s_uint32 (by omega) (by omega)) (take 8 rfl (by kernel_rfl) rfl (ldB 1 rfl rfl o_uint32 (w32_at (j := k) (by omega) (by rw [show kRounds.length = 64 from rfl]; omega))) (take 9 rfl (by kernel_rfl) rfl (add rfl rfl) (take 10 rfl (by kernel_rfl) rfl (mv rfl) (take 11 rfl (by kernel_rfl) rfl (iadr rfl rfl u_a64_uint32 s_uint32 (by omega) (by omega)) (take 12 rfl (by kernel_rfl) rfl (ldB 2 rfl rfl o_uint32 (w32_at (j := k) (by omega) (by omega))) (take 13 rfl (by kernel_rfl) rfl (add rfl rfl) (take 14 rfl (by kernel_rfl) rfl (asg rfl) ((tail (by kernel_rfl) rfl (nilS ?_)))))))))))))))))))   -- region 8
    refine seq (draw (m := 12) mix (by kernel_rfl) (take 0 rfl (by kernel_rfl) rfl (iadr rfl rfl u_sha_Words s_uint32 (by omega) (by omega)) (take 1 rfl (by kernel_rfl) rfl (ldB 0 rfl rfl o_uint32 (w32_at rfl (by omega))) (take 3 rfl (by kernel_rfl) rfl (iadr rfl rfl u_sha_Words s_uint32 (by omega) (by omega)) (take 4 rfl (by kernel_rfl) rfl (ldB 0 rfl rfl o_uint32 (w32_at rfl (by omega))) (take 7 rfl (by kernel_rfl) rfl (iadr rfl rfl u_sha_Words s_uint32 (by omega) (by omega)) (take 8 rfl (by kernel_rfl) rfl (ldB 0 rfl rfl o_uint32 (w32_at rfl (by omega))) (only 2 rfl (by kernel_rfl) rfl k_word_Rot rfl rfl (fun w _ => word_Rot_ _ _ w) (only 5 rfl (by kernel_rfl) rfl k_word_Rot rfl rfl (fun w _ => word_Rot_ _ _ w) (take 6 rfl (by kernel_rfl) rfl (xor rfl rfl) (only 9 rfl (by kernel_rfl) rfl k_word_Rot rfl rfl (fun w _ => word_Rot_ _ _ w) (take 10 rfl (by kernel_rfl) rfl (xor rfl rfl) (take 11 rfl (by kernel_rfl) rfl (asg rfl) ((tail (by kernel_rfl) rfl (nilS ?_))))))))))))))))   -- region 9
    refine seq (region (det rfl (iadr rfl rfl u_sha_Words s_uint32 (by omega) (by omega)) (det rfl (ldB 0 rfl rfl o_uint32 (w32_at rfl (by omega))) (det rfl (iadr rfl rfl u_sha_Words s_uint32 (by omega) (by omega)) (det rfl (ldB 0 rfl rfl o_uint32 (w32_at rfl (by omega))) (det rfl (and rfl rfl) (det rfl (iadr rfl rfl u_sha_Words s_uint32 (by omega) (by omega)) (det rfl (ldB 0 rfl rfl o_uint32 (w32_at rfl (by omega))) (det rfl (iadr rfl rfl u_sha_Words s_uint32 (by omega) (by omega)) (det rfl (ldB 0 rfl rfl o_uint32 (w32_at rfl (by omega))) (det rfl (and rfl rfl) (det rfl (xor rfl rfl) (det rfl (iadr rfl rfl u_sha_Words s_uint32 (by omega) (by omega)) (det rfl (ldB 0 rfl rfl o_uint32 (w32_at rfl (by omega))) (det rfl (iadr rfl rfl u_sha_Words s_uint32 (by omega) (by omega)) (det rfl (ldB 0 rfl rfl o_uint32 (w32_at rfl (by omega))) (det rfl (and rfl rfl) (det rfl (xor rfl rfl) (det rfl (asg rfl) (nilS ?_))))))))))))))))))))   -- region 10
    refine region (det rfl (mv rfl) (det rfl (mv rfl) (det rfl (add rfl rfl) (det rfl (mv rfl) (det rfl (add rfl rfl) (det rfl (iadr rfl rfl u_sha_Words s_uint32 (by omega) (by omega)) (det rfl (ldB 0 rfl rfl o_uint32 (w32_at rfl (by omega))) (det rfl (iadr rfl rfl u_sha_Words s_uint32 (by omega) (by omega)) (det rfl (ldB 0 rfl rfl o_uint32 (w32_at rfl (by omega))) (det rfl (iadr rfl rfl u_sha_Words s_uint32 (by omega) (by omega)) (det rfl (ldB 0 rfl rfl o_uint32 (w32_at rfl (by omega))) (det rfl (iadr rfl rfl u_sha_Words s_uint32 (by omega) (by omega)) (det rfl (ldB 0 rfl rfl o_uint32 (w32_at rfl (by omega))) (det rfl (mv rfl) (det rfl (add rfl rfl) (det rfl (iadr rfl rfl u_sha_Words s_uint32 (by omega) (by omega)) (det rfl (ldB 0 rfl rfl o_uint32 (w32_at rfl (by omega))) (det rfl (iadr rfl rfl u_sha_Words s_uint32 (by omega) (by omega)) (det rfl (ldB 0 rfl rfl o_uint32 (w32_at rfl (by omega))) (det rfl (iadr rfl rfl u_sha_Words s_uint32 (by omega) (by omega)) (det rfl (ldB 0 rfl rfl o_uint32 (w32_at rfl (by omega))) (det rfl (bldL (xs := w32 (mixV (spr b 64) kRounds x (k + 1))) z_sha_Words u_sha_Words s_uint32 rfl rfl rfl) (stoA 0 rfl rfl rfl s_sha_Words rfl rfl (by rw [w32_length]; omega) (nil ?_))))))))))))))))))))))))   -- region 11
    show Tr _ _ _ _ _ _ _
    refine region (det rfl (addI rfl rfl (by omega) (by omega)) (det rfl (mv rfl) (nil ?_)))   -- region 12
    exact again (k + 1) (by omega) ⟨rfl, rfl, rfl, rfl, rfl, rfl, trivial⟩ (fun w hm => hm) (by (first | omega | (dsimp only; omega)))
  · have h := of_decide_eq_false h
    have e64 : k = 64 := by omega
    subst e64
    refine exit ?_   -- 0
    show Tr _ _ _ _ _ _ _
    refine seq ?_
    refine seq (region (det rfl (mv rfl) (nilS ?_)))   -- region 13
    refine block ?_   -- block 2
    refine loopV (ι := Nat) (fun k => k ≤ 8) (fun k => [(2, .pointer (some ⟨b0, 0, none⟩)), (4, .pointer (some ⟨b1, 0, none⟩)), (7, .pointer (some ⟨b4, 0, none⟩)), (109, .int .i64 k)]) (fun k => [.blk b4 (ob (w32 (mixV (spr b 64) kRounds x 64)) T_sha_Words), .blk b3 (ob (w32 kRounds) T_a64_uint32), .blk b2 (ob (w32 (spr b 64)) T_a64_uint32), .blk b1 (ob (w32 (List.replicate 8 0)) T_sha_Words), .blk b0 (ob (w32 (mixH x (mixV (spr b 64) kRounds x 64) k)) T_sha_Words)]) (fun _ => []) (fun k => 8 - k) 0 (by omega) ⟨rfl, rfl, rfl, rfl, trivial⟩ (fun w hm => hm) ?_
    intro k σ hk
    have hv : (mixV (spr b 64) kRounds x 64).length = 8 := mixV_length hh 64
    have hg : (mixH x (mixV (spr b 64) kRounds x 64) k).length = 8 := by rw [mixH_length, hh]
    refine seq (region (det rfl (lss rfl rfl) (nilS ?_)))   -- region 14
    refine seq ?_
    refine cond rfl (fun h => ?_) (fun h => ?_)   -- on t110
    · have h := of_decide_eq_true h
      refine skipS ?_
      refine seq ?_
      refine block ?_   -- block 3
      refine seq (region (det rfl (mv rfl) (det rfl (asg rfl) (nilS ?_))))   -- region 15
      refine draw (m := 8) mix (by kernel_rfl) (take 0 rfl (by kernel_rfl) rfl (mv rfl) (take 1 rfl (by kernel_rfl) rfl (iadr rfl rfl u_sha_Words s_uint32 (by omega) (by omega)) (take 2 rfl (by kernel_rfl) rfl (ldB 4 rfl rfl o_uint32 (w32_at (j := k) (by omega) (by omega))) (take 3 rfl (by kernel_rfl) rfl (mv rfl) (take 4 rfl (by kernel_rfl) rfl (iadr rfl rfl u_sha_Words s_uint32 (by omega) (by omega)) (take 5 rfl (by kernel_rfl) rfl (ldB 0 rfl rfl o_uint32 (w32_at (j := k) (by omega) (by omega))) (take 6 rfl (by kernel_rfl) rfl (add rfl rfl) (take 7 rfl (by kernel_rfl) rfl (iadr rfl rfl u_sha_Words s_uint32 (by omega) (by omega)) ((tail (by kernel_rfl) rfl (sto1 4 k rfl rfl rfl s_uint32 rfl (by omega) (by rw [w32_length]; omega) w32_set (nil ?_))))))))))))   -- region 16
      show Tr _ _ _ _ _ _ _
      refine region (det rfl (addI rfl rfl (by omega) (by omega)) (det rfl (mv rfl) (nil ?_)))   -- region 17
      exact again (k + 1) (by omega) ⟨rfl, rfl, rfl, rfl, trivial⟩ (fun w hm => hm) (by (first | omega | (dsimp only; omega)))
    · have h := of_decide_eq_false h
      refine exit ?_   -- 2
      show Tr _ _ _ _ _ _ _
      have e : k = 8 := by omega
      subst e
      refine seq (region (det rfl (ldA 4 (r := w32 (mixF x b)) rfl rfl g_sha_Words (List.take_of_length_le (by rw [List.length_drop, w32_length]; omega)) (by rw [w32_length, mixF_length b hh])) (stoA 3 rfl rfl rfl s_sha_Words (by rw [w32_length, mixF_length b hh]) (w32_one _) rfl (nilS ?_))))   -- region 18
      exact ret (retC 3 rfl rfl rfl (by rw [w32_length, mixF_length b hh]; exact g_sha_Words) pr)

end Go.Proofs.YtmcapgjdflohfaaGreat.L

namespace Go.Proofs.YtmcapgjdflohfaaGreat.L
open Go Go.RowKit

section
variable {c : Cx} {n : Nat} {Q : Exit → Env → World → Prop} {σ : Env} {H : List Res} {K : List Fact}
variable {d : Option Tmp} {t : TypeId} {p : String} {af : Array Edge} {g : Option (Nat × Bool)}

theorem Det.to {o : Oper} {v v' : Value} (h : Det c σ H K o v) (e : v = v') : Det c σ H K o v' := e ▸ h

theorem equal_nil {P : Program} {tx e : TypeId} (a : Addr) (hu : P.underlying tx = some (.pointer e)) (w : World) : (Op.equal tx (.pointer (some a)) (.pointer none)).run P w = .ok false w := by
  have key : ∀ k, (Op.equalIn (k + 1) tx (.pointer (some a)) (.pointer none)).run P w = .ok false w := by
    intro k
    unfold Op.equalIn
    rw [Sem.run_bind, run_und hu]
    rfl
  exact key 9999
/-- A pointer against nil. -/
theorem peqS {x y : Operand} {tx ty e : TypeId} {a : Addr} (hu : c.P.underlying tx = some (.pointer e)) (hx : ev σ x = .pointer (some a)) (hy : ev σ y = .pointer none) : Det c σ H K ⟨d, .binOp .eql tx x y ty, t, p, af, g⟩ (.bool false) := fun w _ => by
  have hg : (eqGuard .eql tx x y (.pointer (some a)) (.pointer none)).run c.P w = .ok () w := rfl
  simp only [execOp, hx, hy, Sem.run_bind, hg, Result.andThen_ok, binOp, equal_nil a hu, Sem.run_pure]
theorem pneS {x y : Operand} {tx ty e : TypeId} {a : Addr} (hu : c.P.underlying tx = some (.pointer e)) (hx : ev σ x = .pointer (some a)) (hy : ev σ y = .pointer none) : Det c σ H K ⟨d, .binOp .neq tx x y ty, t, p, af, g⟩ (.bool true) := fun w _ => by
  have hg : (eqGuard .neq tx x y (.pointer (some a)) (.pointer none)).run c.P w = .ok () w := rfl
  simp only [execOp, hx, hy, Sem.run_bind, hg, Result.andThen_ok, binOp, equal_nil a hu, Sem.run_pure]; rfl

/-- A call that turns one block. -/
def Writes (P : Program) (f : FuncId) (args : Array Value) (b : Nat) (o o' : Obj) (v : Value) : Prop :=
  ∀ w, w.heap[b]? = some o → Calls P f args w fun e w' => e = .returned v ∧ w'.heap[b]? = some o' ∧ w.grownBy w' (some b)

theorem M.initW (P : Program) (w : World) (b : Nat) (o : Obj) (hb : w.heap[b]? = some o) : M ⟨P, w, fun _ => False, [b]⟩ [.blk b o] [] w :=
  { os := rfl, tape := rfl, output := rfl, size := Nat.le_refl _, frame := fun _ _ _ => rfl
    holds := fun r h => by simp only [List.mem_singleton] at h; subst h; exact hb
    mine := fun k h => by
      have : k = b := by simpa [places, Res.at] using h
      subst this
      refine ⟨.inr (List.mem_singleton.2 rfl), ?_⟩
      rcases Nat.lt_or_ge k w.heap.size with h | h
      · exact h
      · rw [Array.getElem?_eq_none h] at hb; cases hb
    nodup := by simp [places, Res.at]
    stable := trivial
    data := ⟨fun _ => False, fun _ h => h.elim, fun _ h => h, fun _ h => h.elim, fun _ _ h => h, trivial⟩ }

theorem enterW {P : Program} {f : FuncId} {fn : Func} {code : Code} {n : Nat} {args : Array Value} {b : Nat} {o o' : Obj} {v : Value}
    (hf : P.funcs[f]? = some fn) (hb : fn.body = some code) (hn : fn.ntmps = n) (ha : Nat.ble args.size n = true)
    (h : ∀ w, Tr ⟨P, w, fun _ => False, [b]⟩ n code (post P fn n fun e w' => e = .returned v ∧ w'.heap[b]? = some o' ∧ w.grownBy w' (some b)) (start args) [.blk b o] []) : Writes P f args b o o' v :=
  fun w hw => enter hf hb hn ha (M.initW P w b o hw) (h w)

/-- The end of such a call. -/
theorem prW {b : Nat} {o : Obj} {v : Value} (i : Nat) (hS : c.S = [b]) (hH : H[i]? = some (.blk b o)) : ∀ w', M c H K w' → (Ending.returned v = .returned v ∧ w'.heap[b]? = some o ∧ c.w0.grownBy w' (some b)) := fun w' hm =>
  ⟨rfl, hm.blk i hH, hm.os, hm.tape, hm.output, hm.size, fun k hk hne => hm.frame k hk (by rw [hS]; intro hc; exact hne (congrArg some (List.mem_singleton.1 hc)))⟩

theorem callW {ops : Array Oper} {d : Nat} {f : FuncId} {args : Array Operand} {ats : Array TypeId} {vs : List Value} {l : List Oper} {v : Value} {b : Nat} {o o' : Obj} (i : Nat) (hf : Fn c.P f) (ha : args.toList.map (ev σ) = vs) (hd : Nat.blt d n = true)
    (hi : H[i]? = some (.blk b o)) (spec : Writes c.P f vs.toArray b o o' v) (h : TL c n ops l Q (upd σ d v) (H.set i (.blk b o')) K) :
    TL c n ops (⟨some d, .call { callee := .value (.func f), args := args, argTypes := ats }, t, p, af, none⟩ :: l) Q σ H K := by
  intro w hm a hr
  refine wpList_run rfl ?_
  rw [hr.eval, hf.run, map_args ha]
  refine (spec w (hm.blk i hi)).mono ?_
  rintro e w' ⟨rfl, hb, hg⟩
  exact h w' (hm.change i hi hg hb (.inl rfl)) _ (hr.put d _ (by simp [Nat.blt] at hd; omega))

/-- A call that makes one new block and hands its address back. -/
def Makes (P : Program) (f : FuncId) (args : Array Value) (o : Obj) : Prop :=
  ∀ w, Calls P f args w fun e w' => ∃ b, e = .returned (.pointer (some ⟨b, 0, none⟩)) ∧ w'.heap[b]? = some o ∧ w.heap.size ≤ b ∧ w.grownBy w' none
theorem prN {b : Nat} {o : Obj} (i : Nat) (hS : c.S = []) (hH : H[i]? = some (.blk b o)) : ∀ w', M c H K w' → ∃ b', Ending.returned (.pointer (some ⟨b, 0, none⟩)) = .returned (.pointer (some ⟨b', 0, none⟩)) ∧ w'.heap[b']? = some o ∧ c.w0.heap.size ≤ b' ∧ c.w0.grownBy w' none := fun w' hm => by
  refine ⟨b, rfl, hm.blk i hH, ?_, grown_below (hm.below hS)⟩
  have := (hm.mine b (mem_places.2 ⟨_, List.mem_of_getElem? hH, rfl⟩)).1
  rw [hS] at this
  rcases this with h | h
  · exact h
  · cases h
theorem callN {ops : Array Oper} {d : Nat} {f : FuncId} {args : Array Operand} {ats : Array TypeId} {vs : List Value} {l : List Oper} {o : Obj} (hf : Fn c.P f) (ha : args.toList.map (ev σ) = vs) (hd : Nat.blt d n = true)
    (spec : Makes c.P f vs.toArray o) (h : ∀ b, TL c n ops l Q (upd σ d (.pointer (some ⟨b, 0, none⟩))) (.blk b o :: H) K) :
    TL c n ops (⟨some d, .call { callee := .value (.func f), args := args, argTypes := ats }, t, p, af, none⟩ :: l) Q σ H K := by
  intro w hm a hr
  refine wpList_run rfl ?_
  rw [hr.eval, hf.run, map_args ha]
  refine (spec w).mono ?_
  rintro e w' ⟨b, rfl, hb, hlt, hg⟩
  exact h b w' (hm.add hg hb (.inr ⟨b, rfl, hlt⟩)) _ (hr.put d _ (by simp [Nat.blt] at hd; omega))
end
end Go.Proofs.YtmcapgjdflohfaaGreat.L

namespace Go.Proofs.YtmcapgjdflohfaaGreat.L
open Go Go.RowKit
set_option linter.unusedVariables false

theorem Lib_rep (k : Nat) : Lib.repeatL [0] k = List.replicate k (0 : UInt8) := by
  induction k with
  | zero => rfl
  | succ k ih => rw [Lib.repeatL, ih]; rfl

theorem gap_eq (m : Nat) (hm : m ≤ 1000000000000) : IntKind.i64.wrap ((IntKind.u64.wrap (119 - ((m : Int).tmod 64))).tmod 64) = (((119 - m % 64) % 64 : Nat) : Int) := by
  have e1 : ((m : Int).tmod 64) = ((m % 64 : Nat) : Int) := by rw [Int.tmod_eq_emod_of_nonneg (by omega)]; omega
  rw [e1]
  have e2 : IntKind.u64.wrap (119 - ((m % 64 : Nat) : Int)) = ((119 - m % 64 : Nat) : Int) := by
    simp [IntKind.wrap, IntKind.signed, IntKind.bits]; omega
  rw [e2, Int.tmod_eq_emod_of_nonneg (by omega), i64_in (by omega) (by omega)]
  omega
theorem wrap_u64_nat (x : Int) (h0 : 0 ≤ x) (h : x ≤ 18446744073709551615) : IntKind.u64.wrap x = x := by
  simp [IntKind.wrap, IntKind.signed, IntKind.bits]; omega

theorem padL_length (m : Nat) : (padL m).length = 1 + (119 - m % 64) % 64 + 8 := by
  simp [padL, putL_length]; omega

theorem sha_Pad_ (m : Nat) (hm : m ≤ 1000000000000) : Pure PP N_sha_Pad #[.int .u64 m] (.string (bs (padL m))) := by
  have hg : (119 - m % 64) % 64 < 64 := Nat.mod_lt _ (by decide)
  refine enter0 f_sha_Pad rfl n_sha_Pad rfl fun w => ?_
  refine seq (region (det rfl (asg rfl) (nilS ?_)))   -- region 0
  refine seq (region (det rfl (mv rfl) (det rfl (rem rfl rfl (by decide)) (det rfl (sub rfl rfl) (det rfl (rem rfl rfl (by decide)) (det rfl (asg rfl) (nilS ?_)))))))   -- region 1
  refine seq (region (det rfl (mv rfl) (det rfl (Det.to (conv u_uint64 u_int rfl) (by exact vi (gap_eq m hm))) (call k_strings_Repeat rfl rfl (fun w _ => strings_Repeat_ [0] _ (by rw [List.length_singleton]; omega) (by omega) w) (det rfl (tadd (a := [128]) rfl rfl (by simp [Lib.repeatL_length]; omega)) (det rfl (mv rfl) (det rfl (Det.to (mul rfl rfl) (vi (wrap_u64_nat (8 * (m : Int)) (by omega) (by omega)))) (call k_word_Put64 rfl rfl (fun w _ => word_Put64_ _ w) (det rfl (tadd rfl rfl (by simp [Lib.repeatL_length, putL_length]; omega)) (det rfl (asg rfl) (nilS ?_)))))))))))   -- region 2
  refine ret (retT rfl rfl (pr' ?_))
  rw [Lib_rep, padL]
  exact vs (congrArg bs (by simp))

theorem one_append (a b : List Value) : one (a ++ b) = (one a && one b) := by simp [one]
/-- A hash under way. -/
def stC (h : List Int) (r : List UInt8) (m : Nat) (on : Bool) : List Value := w32 h ++ [.string (bs r), .int .u64 m, .bool on]
section
variable {h h' : List Int} {r r' : List UInt8} {m m' : Nat} {on on' : Bool} (hh : h.length = 8)
include hh
theorem stC_length : (stC h r m on).length = 11 := by simp [stC, w32_length, hh]
theorem stC_one : one (stC h r m on) = true := by
  rw [stC, one_append, w32_one]; rfl
theorem stC_8 : (stC h r m on)[8]? = some (.string (bs r)) := by rw [stC, List.getElem?_append_right (by rw [w32_length]; omega), w32_length, hh]; rfl
theorem stC_9 : (stC h r m on)[9]? = some (.int .u64 m) := by rw [stC, List.getElem?_append_right (by rw [w32_length]; omega), w32_length, hh]; rfl
theorem stC_10 : (stC h r m on)[10]? = some (.bool on) := by rw [stC, List.getElem?_append_right (by rw [w32_length]; omega), w32_length, hh]; rfl
theorem stC_set8 : (stC h r m on).set 8 (.string (bs r')) = stC h r' m on := by rw [stC, List.set_append_right _ _ (by rw [w32_length]; omega), w32_length, hh]; rfl
theorem stC_set9 : (stC h r m on).set 9 (.int .u64 m') = stC h r m' on := by rw [stC, List.set_append_right _ _ (by rw [w32_length]; omega), w32_length, hh]; rfl
theorem stC_set10 : (stC h r m on).set 10 (.bool on') = stC h r m on' := by rw [stC, List.set_append_right _ _ (by rw [w32_length]; omega), w32_length, hh]; rfl
theorem stC_words : ((stC h r m on).drop 0).take 8 = w32 h := by rw [List.drop_zero, stC, List.take_append_of_le_length (by rw [w32_length]; omega), List.take_of_length_le (by rw [w32_length]; omega)]
theorem stC_put (hh' : h'.length = 8) : (stC h r m on).take 0 ++ w32 h' ++ (stC h r m on).drop (0 + (w32 h').length) = stC h' r m on := by
  rw [List.take_zero, List.nil_append, stC, w32_length, hh', List.drop_append_of_le_length (by rw [w32_length]; omega), List.drop_of_length_le (by rw [w32_length]; omega)]; rfl
end

/-- Whole blocks of 64 bytes, as many as are asked. -/
def shaB (b : List UInt8) (q : Nat) : List UInt8 := (b.take (64 * q + 64)).drop (64 * q)
def shaH (h : List Int) (b : List UInt8) : Nat → List Int
  | 0 => h
  | q + 1 => mixF (shaH h b q) (shaB b q)
theorem shaH_length {h : List Int} (hh : h.length = 8) (b : List UInt8) (q : Nat) : (shaH h b q).length = 8 := by
  induction q with
  | zero => exact hh
  | succ q ih => exact mixF_length _ ih
theorem shaB_length (b : List UInt8) (q : Nat) : (shaB b q).length ≤ 64 := by
  simp [shaB]; omega

theorem run_placesS (P : Program) (w : World) {fs : Array Field} (h : (fs.toList.all fun f => ((P.info? f.type).map (·.size)).isSome) = true) : (fs.mapM (fun f => do Pure.pure (f.offset, ← sizeOf f.type) : Field → Sem (Nat × Nat))).run P w = .ok (fs.map fun f => (f.offset, ((P.info? f.type).map (·.size)).getD 0)) w := by
  have := run_places (P := P) fs.toList (fun f hf => List.all_eq_true.1 h f hf) w
  simpa using this

theorem sha_Write_ (bk : Nat) (h : List Int) (hh : h.length = 8) (r b : List UInt8) (m : Nat) (on : Bool) (hb : r.length + b.length ≤ 1000000000000) (hm : m + b.length ≤ 1000000000000) :
    Writes PP N_sha_State_Write #[.pointer (some ⟨bk, 0, none⟩), .string (bs b)] bk (ob (stC h r m on) T_sha_State)
      (ob (stC (shaH (if on then h else kFirst) (r ++ b) ((r ++ b).length / 64)) ((r ++ b).drop (64 * ((r ++ b).length / 64))) (m + b.length) true) T_sha_State) (.tuple #[]) := by
  obtain ⟨x, hx⟩ : ∃ x, (if on then h else kFirst) = x := ⟨_, rfl⟩
  have hx8 : x.length = 8 := by rw [← hx]; split; exact hh; rfl
  rw [hx]
  refine enterW f_sha_State_Write rfl n_sha_State_Write rfl fun w => ?_
  refine seq ?_
  refine seq (region (det rfl (mv rfl) (det rfl (peqS u_p_sha_State rfl rfl) (nilS ?_))))   -- region 0
  refine condF rfl ?_
  refine skipS ?_
  refine cutV (ι := Unit) (fun _ => True) (fun _ => [(0, .pointer (some ⟨bk, 0, none⟩)), (1, .string (bs b))]) (fun _ => [.blk bk (ob (stC x r m true) T_sha_State)]) (fun _ => []) ?_ ?_
  · refine seq (region (det rfl (mv rfl) (det rfl (nilchk rfl) (det rfl (fadr rfl u_sha_State rfl s_bool) (det rfl (ldB 0 rfl rfl o_bool (stC_10 hh)) (det rfl (notB rfl) (nilS ?_)))))))   -- region 1
    cases on with
    | false =>
      have e : x = kFirst := hx.symm
      subst e
      refine condT rfl ?_
      refine region (det rfl (mv rfl) (det rfl (mv rfl) (call k_sha_First rfl rfl (fun w _ => sha_First_ w) (det rfl (nilchk rfl) (det rfl (fadr rfl u_sha_State rfl s_sha_Words) (sto 0 (vs := w32 kFirst) rfl rfl rfl rfl s_sha_Words rfl (by rw [stC_length hh]; decide) (stC_put hh rfl) (det rfl (nilchk rfl) (det rfl (fadr rfl u_sha_State rfl s_bool) (sto1 0 10 rfl rfl rfl s_bool rfl rfl (by rw [stC_length rfl]; decide) (stC_set10 rfl) (nil ?_))))))))))   -- region 2
      exact meets () trivial ⟨rfl, rfl, trivial⟩ (fun w hm => hm)
    | true =>
      have e : x = h := hx.symm
      subst e
      refine condF rfl ?_
      refine skip ?_
      exact meets () trivial ⟨rfl, rfl, trivial⟩ (fun w hm => hm)
  · intro _ σ _
    obtain ⟨F, hF⟩ : ∃ F, r ++ b = F := ⟨_, rfl⟩
    have hFl : F.length = r.length + b.length := by rw [← hF, List.length_append]
    rw [hF]
    refine seq (region (det rfl (mv rfl) (det rfl (nilchk rfl) (det rfl (fadr rfl u_sha_State rfl s_uint64) (det rfl (ldB 0 rfl rfl o_uint64 (stC_9 hx8)) (det rfl (mv rfl) (det rfl (lenT u_string rfl) (det rfl (Det.to (conv u_int u_uint64 rfl) (by exact vi (wrap_u64_nat b.length (by omega) (by omega)))) (det rfl (Det.to (add rfl rfl) (vi (wrap_u64_nat ((m + b.length : Nat) : Int) (by omega) (by omega)))) (det rfl (nilchk rfl) (det rfl (fadr rfl u_sha_State rfl s_uint64) (sto1 0 9 rfl rfl rfl s_uint64 rfl rfl (by rw [stC_length hx8]; decide) (stC_set9 hx8) (nilS ?_)))))))))))))   -- region 3
    refine seq (region (det rfl (mv rfl) (det rfl (nilchk rfl) (det rfl (fadr rfl u_sha_State rfl s_string) (det rfl (ldB 0 rfl rfl o_string (stC_8 hx8)) (det rfl (mv rfl) (det rfl (tadd rfl rfl (by omega)) (det rfl (nilchk rfl) (det rfl (fadr rfl u_sha_State rfl s_string) (sto1 0 8 rfl rfl rfl s_string rfl rfl (by rw [stC_length hx8]; decide) (stC_set8 hx8) (nilS ?_)))))))))))   -- region 4
    refine seq (region (det rfl (asg rfl) (nilS ?_)))   -- region 5
    rw [hF]
    refine seq ?_
    refine block ?_   -- block 0
    refine loopV (ι := Nat) (fun k => k ≤ F.length / 64) (fun k => [(0, .pointer (some ⟨bk, 0, none⟩)), (4, .int .i64 (64 * (k : Int)))]) (fun k => [.blk bk (ob (stC (shaH x F k) F (m + b.length) true) T_sha_State)]) (fun _ => []) (fun k => F.length / 64 - k) 0 (by omega) ⟨rfl, vi (by omega), trivial⟩ (fun w hm => hm) ?_
    intro k σ hk
    have hk8 := shaH_length hx8 F k
    refine seq ?_
    refine seq (region (det rfl (mv rfl) (det rfl (nilchk rfl) (det rfl (fadr rfl u_sha_State rfl s_string) (det rfl (ldB 0 rfl rfl o_string (stC_8 hk8)) (det rfl (lenT u_string rfl) (det rfl (mv rfl) (det rfl (subI rfl rfl (by omega) (by omega)) (det rfl (geq rfl rfl) (nilS ?_))))))))))   -- region 6
    refine cond rfl (fun h => ?_) (fun h => ?_)   -- on t44
    · have h := of_decide_eq_true h
      refine skipS ?_
      refine block ?_   -- block 1
      refine seq (draw (m := 16) mix (by kernel_rfl) (take 0 rfl (by kernel_rfl) rfl (mv rfl) (take 1 rfl (by kernel_rfl) rfl (mv rfl) (take 2 rfl (by kernel_rfl) rfl (nilchk rfl) (take 3 rfl (by kernel_rfl) rfl (fadr rfl u_sha_State rfl s_sha_Words) (take 4 rfl (by kernel_rfl) rfl (ldA 0 (r := w32 (shaH x F k)) rfl rfl g_sha_Words (stC_words hk8) (by rw [w32_length]; omega)) (take 5 rfl (by kernel_rfl) rfl (mv rfl) (take 6 rfl (by kernel_rfl) rfl (nilchk rfl) (take 7 rfl (by kernel_rfl) rfl (fadr rfl u_sha_State rfl s_string) (take 8 rfl (by kernel_rfl) rfl (ldB 0 rfl rfl o_string (stC_8 hk8)) (take 9 rfl (by kernel_rfl) rfl (mv rfl) (take 10 rfl (by kernel_rfl) rfl (mv rfl) (take 11 rfl (by kernel_rfl) rfl (addI rfl rfl (by omega) (by omega)) (take 12 rfl (by kernel_rfl) rfl (Det.to (cutT u_string rfl rfl rfl (by omega) (by omega) (by omega)) (vs (congrArg bs (show _ = shaB F k by rw [shaB, show (64 * (k : Int) + 64).toNat = 64 * k + 64 by omega, show (64 * (k : Int)).toNat = 64 * k by omega])))) (only 13 rfl (by kernel_rfl) rfl k_sha_Mix rfl rfl (fun w _ => sha_Mix_ _ hk8 _ (Nat.le_trans (shaB_length F k) (by omega)) w) (take 14 rfl (by kernel_rfl) rfl (nilchk rfl) (take 15 rfl (by kernel_rfl) rfl (fadr rfl u_sha_State rfl s_sha_Words) ((tail (by kernel_rfl) rfl (sto 0 (vs := w32 (shaH x F (k + 1))) rfl rfl rfl rfl (by rw [w32_length, shaH_length hx8]; exact s_sha_Words) (w32_one _) (by rw [stC_length hk8, w32_length, shaH_length hx8]; decide) (stC_put hk8 (shaH_length hx8 F (k + 1))) (nilS ?_)))))))))))))))))))))   -- region 7
      refine region (det rfl (mv rfl) (det rfl (addI rfl rfl (by omega) (by omega)) (det rfl (asg rfl) (nil ?_))))   -- region 8
      exact again (k + 1) (by omega) ⟨rfl, vi (by omega), trivial⟩ (fun w hm => hm) (by (first | omega | (dsimp only; omega)))
    · have h := of_decide_eq_false h
      have e : k = F.length / 64 := by omega
      refine exit ?_   -- 0
      show Tr _ _ _ _ _ _ _
      refine region (det rfl (mv rfl) (det rfl (mv rfl) (det rfl (nilchk rfl) (det rfl (fadr rfl u_sha_State rfl s_string) (det rfl (ldB 0 rfl rfl o_string (stC_8 hk8)) (det rfl (mv rfl) (det rfl (cutTl u_string rfl rfl (by omega) (by omega)) (det rfl (nilchk rfl) (det rfl (fadr rfl u_sha_State rfl s_string) (sto1 0 8 rfl rfl rfl s_string rfl rfl (by rw [stC_length hk8]; decide) (stC_set8 hk8) (nil ?_)))))))))))   -- region 9
      refine ret0 rfl (prW 0 rfl ?_)
      rw [← e, show (64 * (k : Int)).toNat = 64 * k by omega]; rfl

theorem sha_New_ : Makes PP N_sha_New #[] (ob (stC (List.replicate 8 0) [] 0 false) T_sha_State) := fun w => by
  refine enter f_sha_New rfl n_sha_New rfl (M.init PP w (fun _ => False) [] [] trivial (fun _ h => h.elim) trivial) ?_
  refine seq (region (det rfl (asg rfl) (nilS ?_)))   -- region 0
  refine seq (region (det rfl (bldZ z_sha_State u_sha_State (fun w => run_placesS PP w (by kernel_rfl))) (box (cs := stC (List.replicate 8 0) [] 0 false) rfl rfl rfl fun b0 => det rfl (asg rfl) (nilS ?_))))   -- region 1
  exact ret (retT rfl rfl (prN 0 rfl rfl))

theorem outL_length {h : List Int} : (outL h).length = 4 * h.length := by
  induction h with
  | nil => rfl
  | cons x r ih => simp only [outL, List.map_cons, List.flatten_cons, List.length_append, putL_length, List.length_cons] at *; omega
theorem outL_app (a b : List Int) : outL (a ++ b) = outL a ++ outL b := by simp [outL]

theorem out_step {x : List Int} {k : Nat} (hk : k < x.length) (h8 : 4 * k + 4 ≤ 32) : (b8 (outL (x.take k)) ++ List.replicate (32 - 4 * k) (Value.int .u8 0)).take (4 * k) ++ b8 ((putL (IntKind.u64.wrap (x.getD k 0)) 4).take 4) ++
    (b8 (outL (x.take k)) ++ List.replicate (32 - 4 * k) (Value.int .u8 0)).drop (4 * k + min (putL (IntKind.u64.wrap (x.getD k 0)) 4).length 4) = b8 (outL (x.take (k + 1))) ++ List.replicate (32 - 4 * (k + 1)) (Value.int .u8 0) := by
  have hl : (b8 (outL (x.take k))).length = 4 * k := by rw [b8_length, outL_length, List.length_take]; omega
  have e1 : ∀ y, (putL y 4).take 4 = putL y 4 := fun y => List.take_of_length_le (by rw [putL_length]; omega)
  have e2 : (b8 (outL (x.take k))).take (4 * k) = b8 (outL (x.take k)) := List.take_of_length_le (by omega)
  have e3 : (b8 (outL (x.take k))).drop (4 * k + 4) = [] := List.drop_of_length_le (by omega)
  rw [putL_length, show min 4 4 = 4 from rfl, List.take_append_of_le_length (by omega), e1, e2, List.drop_append, hl, e3, List.nil_append,
    show 4 * k + 4 - 4 * k = 4 by omega, List.drop_replicate, show 32 - 4 * k - 4 = 32 - 4 * (k + 1) by omega]
  congr 1
  rw [List.take_succ_eq_append_getElem hk, outL_app, b8, b8, b8, List.map_append]
  congr 1
  simp [outL, hk]
/-- The hash of what was written. -/
def sumL (h : List Int) (r : List UInt8) (m : Nat) : List UInt8 := outL (shaH h (r ++ padL m) ((r ++ padL m).length / 64))

theorem sha_StateSum_ (bk : Nat) (y : List Int) (hh : y.length = 8) (r : List UInt8) (m : Nat) (hm : m ≤ 100000000000) (hr : r.length ≤ 100000000000) :
    Writes PP N_sha_State_Sum #[.pointer (some ⟨bk, 0, none⟩)] bk (ob (stC y r m true) T_sha_State) (ob (stC y r m true) T_sha_State) (ag (b8 (sumL y r m))) := by
  have hp := padL_length m
  have hpl : (padL m).length ≤ 100 := by have := Nat.mod_lt (119 - m % 64) (show 0 < 64 by decide); omega
  refine enterW f_sha_State_Sum rfl n_sha_State_Sum rfl fun w => ?_
  refine seq (region (alloc z_api_Hash rfl rfl fun b0 => nilS ?_))   -- region 0
  refine seq (region (det rfl (bldZ z_sha_State u_sha_State (fun w => run_placesS PP w (by kernel_rfl))) (alloc (cs := stC (List.replicate 8 0) [] 0 false) z_sha_State rfl rfl fun b1 => stoA 0 (rs := stC (List.replicate 8 0) [] 0 false) rfl rfl rfl s_sha_State rfl rfl rfl (nilS ?_))))   -- region 1
  refine seq ?_
  refine seq (region (det rfl (mv rfl) (det rfl (pneS u_p_sha_State rfl rfl) (nilS ?_))))   -- region 2
  refine condT rfl ?_
  refine region (det rfl (mv rfl) (det rfl (nilchk rfl) (det rfl (ldA 2 (r := stC y r m true) rfl rfl g_sha_State (by rw [List.drop_zero, List.take_of_length_le (by rw [stC_length hh]; decide)]) (stC_length hh)) (stoA 0 rfl rfl rfl s_sha_State (stC_length hh) (stC_one hh) rfl (nilS ?_)))))   -- region 3
  refine seq (region (det rfl (fadr rfl u_sha_State rfl s_uint64) (det rfl (ldB 0 rfl rfl o_uint64 (stC_9 hh)) (call k_sha_Pad rfl rfl (fun w _ => sha_Pad_ m (by omega) w) (callW 0 k_sha_State_Write rfl rfl rfl (sha_Write_ b1 y hh r (padL m) m true (by omega) (by omega)) (nilS ?_))))))   -- region 4
  obtain ⟨x, hx⟩ : ∃ x, shaH y (r ++ padL m) ((r ++ padL m).length / 64) = x := ⟨_, rfl⟩
  have hx8 : x.length = 8 := by rw [← hx]; exact shaH_length hh _ _
  rw [if_pos rfl, hx]
  refine seq (region (alloc z_api_Hash rfl rfl fun b2 => nilS ?_))   -- region 5
  refine seq ?_
  refine seq (region (det rfl (fadr rfl u_sha_State rfl s_sha_Words) (det rfl (ldA 1 (r := w32 x) rfl rfl g_sha_Words (stC_words hx8) (by rw [w32_length]; omega)) (det rfl (mv rfl) (nilS ?_)))))   -- region 6
  refine block ?_   -- block 0
  have hs0 : sumL y r m = outL x := by rw [sumL, hx]
  refine loopV (ι := Nat) (fun k => k ≤ 8) (fun k => [(2, .pointer (some ⟨b0, 0, none⟩)), (4, .pointer (some ⟨b2, 0, none⟩)), (18, ag (w32 x)), (19, .int .i64 k)])
    (fun k => [.blk b2 (ob (b8 (outL (x.take k)) ++ List.replicate (32 - 4 * k) (.int .u8 0)) T_api_Hash), .blk b0 (ob (List.replicate 32 (.int .u8 0)) T_api_Hash), .blk bk (ob (stC y r m true) T_sha_State)]) (fun _ => []) (fun k => 8 - k) 0 (by omega) ⟨rfl, rfl, rfl, rfl, trivial⟩ (fun w hm => M.sub hm (.cons_cons _ (.cons _ (List.Sublist.refl _)))) ?_
  intro k σ hk
  refine seq (region (det rfl (lss rfl rfl) (nilS ?_)))   -- region 7
  refine seq ?_
  refine cond rfl (fun h => ?_) (fun h => ?_)   -- on t20
  · have h := of_decide_eq_true h
    refine skipS ?_
    refine seq ?_
    refine block ?_   -- block 1
    refine seq (region (det rfl (mv rfl) (det rfl (idxO rfl rfl u_sha_Words o_uint32 s_uint32 (by omega) (by omega) (w32_at (j := k) (by omega) (by omega))) (det rfl (asg rfl) (det rfl (asg rfl) (nilS ?_))))))   -- region 8
    refine draw (m := 11) mix (by kernel_rfl) (take 0 rfl (by kernel_rfl) rfl (mv rfl) (take 1 rfl (by kernel_rfl) rfl (mulI rfl rfl (by omega) (by omega)) (take 2 rfl (by kernel_rfl) rfl (mv rfl) (take 3 rfl (by kernel_rfl) rfl (mulI rfl rfl (by omega) (by omega)) (take 4 rfl (by kernel_rfl) rfl (addI rfl rfl (by omega) (by omega)) (take 5 rfl (by kernel_rfl) rfl (mv rfl) (take 6 rfl (by kernel_rfl) rfl (mulI rfl rfl (by omega) (by omega)) (take 7 rfl (by kernel_rfl) rfl (addI rfl rfl (by omega) (by omega)) (take 8 rfl (by kernel_rfl) rfl (Det.to (arrS3 u_api_Hash s_uint8 rfl rfl rfl rfl (by omega) (by omega) (by omega) (by omega) (by omega)) (show _ = Value.slice (some ⟨b2, 4 * k, none⟩) 4 4 by rw [show 0 + (4 * (k : Int)).toNat = 4 * k by omega, show (4 * (k : Int) + 4).toNat - (4 * (k : Int)).toNat = 4 by omega])) (take 9 rfl (by kernel_rfl) rfl (mv rfl) (only 10 rfl (by kernel_rfl) rfl k_word_Put32 rfl rfl (fun w _ => word_Put32_ _ w) ((tail (by kernel_rfl) rfl (cpT 0 rfl rfl rfl u_sl_uint8 s_uint8 rfl (by simp [b8_length, outL_length, putL_length]; omega) (out_step (by omega) (by omega)) (nil ?_)))))))))))))))   -- region 9
    show Tr _ _ _ _ _ _ _
    refine region (det rfl (addI rfl rfl (by omega) (by omega)) (det rfl (mv rfl) (nil ?_)))   -- region 10
    exact again (k + 1) (by omega) ⟨rfl, rfl, rfl, rfl, trivial⟩ (fun w hm => hm) (by (first | omega | (dsimp only; omega)))
  · have h := of_decide_eq_false h
    have e : k = 8 := by omega
    subst e
    refine exit ?_   -- 0
    show Tr _ _ _ _ _ _ _
    rw [List.take_of_length_le (by omega), show 32 - 4 * 8 = 0 from rfl, List.replicate_zero, List.append_nil, ← hs0]
    have hl : (b8 (sumL y r m)).length = 32 := by rw [hs0, b8_length, outL_length, hx8]
    refine seq (region (det rfl (ldA 0 (r := b8 (sumL y r m)) rfl rfl g_api_Hash (by rw [List.drop_zero, List.take_of_length_le (by omega)]) hl) (stoA 1 rfl rfl rfl s_api_Hash hl (b8_one _) rfl (nilS ?_))))   -- region 11
    exact ret (retC 1 rfl rfl rfl (by rw [hl]; exact g_api_Hash) (prW 2 rfl rfl))

theorem sha_Sum_ (b : List UInt8) (hb : b.length ≤ 10000000000) : Pure PP N_sha_Sum #[.string (bs b)] (ag (b8 (sumL (shaH kFirst b (b.length / 64)) (b.drop (64 * (b.length / 64))) b.length))) := by
  refine enter0 f_sha_Sum rfl n_sha_Sum rfl fun w => ?_
  refine seq (region (alloc z_api_Hash rfl rfl fun b0 => nilS ?_))   -- region 0
  refine seq (region (callN k_sha_New rfl rfl sha_New_ fun b1 => det rfl (asg rfl) (nilS ?_)))   -- region 1
  refine seq (region (det rfl (mv rfl) (det rfl (mv rfl) (callW 0 k_sha_State_Write rfl rfl rfl (sha_Write_ b1 (List.replicate 8 0) rfl [] b 0 false (by simp; omega) (by omega)) (nilS ?_)))))   -- region 2
  rw [if_neg (by decide), List.nil_append, Nat.zero_add]
  have hl : (b8 (sumL (shaH kFirst b (b.length / 64)) (b.drop (64 * (b.length / 64))) b.length)).length = 32 := by rw [sumL, b8_length, outL_length, shaH_length (shaH_length rfl _ _)]
  refine seq (region (det rfl (mv rfl) (callW 0 k_sha_State_Sum rfl rfl rfl (sha_StateSum_ b1 _ (shaH_length rfl _ _) _ _ (by omega) (by rw [List.length_drop]; omega)) (stoA 1 rfl rfl rfl s_api_Hash hl (b8_one _) rfl (nilS ?_)))))   -- region 3
  exact ret (retC 1 rfl rfl rfl (by rw [hl]; exact g_api_Hash) pr)
/-- SHA-256. -/
def sha (b : List UInt8) : List UInt8 := sumL (shaH kFirst b (b.length / 64)) (b.drop (64 * (b.length / 64))) b.length
theorem sha_length (b : List UInt8) : (sha b).length = 32 := by rw [sha, sumL, outL_length, shaH_length (shaH_length rfl _ _)]
end Go.Proofs.YtmcapgjdflohfaaGreat.L

namespace Go.Proofs.YtmcapgjdflohfaaGreat.L
open Go Go.RowKit

/-- A literal of one-celled elements, all of them given, in their order. -/
theorem bslL {P : Program} {tt e : TypeId} {z : Value} {m : Nat} {xs : List Value} (ht : P.underlying tt = some (.slice e)) (hz : (P.info? e).map (·.zero) = some (some z)) (hs : (P.info? e).map (·.size) = some 1)
    (h1 : one xs = true) (hm : xs.length = m) (hm0 : 0 < m) (h24 : m ≤ 16777216) (w : World) : (Instr.buildSlice tt m (xs.zipIdx.map fun (v, i) => (i, v)).toArray).run P w = .ok (.slice (some ⟨w.heap.size, 0, none⟩) m m) (w.alloc (ob xs e)) := by
  have hf : Instr.fill (fun i => some (i * 1, 1)) ((Array.range (m * 1)).map (z.cells[· % z.cells.size]!)) (xs.zipIdx.map fun (v, i) => (i, v)) = some xs.toArray := by
    have := fill_all (xs := xs) (zs := ((Array.range (m * 1)).map (z.cells[· % z.cells.size]!)).toList) h1 (by simp [hm])
    rw [Array.toArray_toList] at this
    exact this
  simp only [Instr.buildSlice, Sem.run_bind, run_und ht, run_size hs, Result.andThen_ok]
  rw [if_neg (by omega), if_neg (by omega)]
  simp only [Sem.run_bind, Sem.run_pure, run_zero hz, Result.andThen_ok, hf]
  simp [newRow]

theorem map_parts {parts : Array (Nat × Operand)} {f : Nat × Operand → Nat × Value} {l : List (Nat × Value)} (h : parts.toList.map f = l) : parts.map f = l.toArray := by
  apply Array.toList_inj.1; rw [Array.toList_map]; exact h
/-- One element, of so many cells; elements of one cell. -/
theorem bs1 {P : Program} {σ : Env} {tt e : TypeId} {parts : Array (Nat × Operand)} {sz : Nat} {z v : Value} {cs : List Value} (ht : P.underlying tt = some (.slice e)) (hz : (P.info? e).map (·.zero) = some (some z)) (hs : (P.info? e).map (·.size) = some sz)
    (hp : (parts.toList.map fun (i, x) => (i, ev σ x)) = [(0, v)]) (hc : v.cells = cs.toArray) (hl : cs.length = sz) (h0 : 0 < sz) (h24 : sz ≤ 16777216) (w : World) : (Instr.buildSlice tt 1 (parts.map fun (i, x) => (i, ev σ x))).run P w = .ok (.slice (some ⟨w.heap.size, 0, none⟩) 1 1) (w.alloc (ob cs e)) := by
  rw [map_parts hp]; exact bsl1 ht hz hs h0 h24 hc hl w
theorem bsm {P : Program} {σ : Env} {tt e : TypeId} {parts : Array (Nat × Operand)} {z : Value} {m : Nat} {xs : List Value} (ht : P.underlying tt = some (.slice e)) (hz : (P.info? e).map (·.zero) = some (some z)) (hs : (P.info? e).map (·.size) = some 1)
    (hp : (parts.toList.map fun (i, x) => (i, ev σ x)) = xs.zipIdx.map fun (v, i) => (i, v)) (h1 : one xs = true) (hm : xs.length = m) (hm0 : 0 < m) (h24 : m ≤ 16777216) (w : World) : (Instr.buildSlice tt m (parts.map fun (i, x) => (i, ev σ x))).run P w = .ok (.slice (some ⟨w.heap.size, 0, none⟩) m m) (w.alloc (ob xs e)) := by
  rw [map_parts hp]; exact bslL ht hz hs h1 hm hm0 h24 w

section
variable {c : Cx} {n : Nat} {Q : Exit → Env → World → Prop} {σ : Env} {H : List Res} {K : List Fact}
variable {ops : Array Oper} {m f : Nat} {listed : Array Bool}
variable {d : Option Tmp} {t : TypeId} {p : String} {af : Array Edge} {g : Option (Nat × Bool)}

/-- What a literal of a slice does. -/
theorem run_bsl {tt e : TypeId} {k : Nat} {parts : Array (Nat × Operand)} {cs : List Value}
    (hrun : ∀ w, (Instr.buildSlice tt k (parts.map fun (i, x) => (i, ev σ x))).run c.P w = .ok (.slice (some ⟨w.heap.size, 0, none⟩) k k) (w.alloc (ob cs e))) :
    ∀ w, M c H K w → ∃ b w', (execOp (ev σ) ⟨d, .buildSlice tt k parts, t, p, af, g⟩).run c.P w = .ok (.value (.slice (some ⟨b, 0, none⟩) k k)) w' ∧ M c (.blk b (ob cs e) :: H) K w' := by
  intro w hm
  refine ⟨w.heap.size, _, ?_, hm.add (World.grownBy_alloc w _ none) (heap_alloc_new w _) (.inr ⟨_, rfl, Nat.le_refl _⟩)⟩
  simp only [execOp, Sem.run_bind, hrun, Result.andThen_ok, Sem.run_pure]
/-- What an allocation does. -/
theorem run_alloc {e : TypeId} {z : Value} {cs : List Value} (hz : (c.P.info? e).map (·.zero) = some (some z)) (hc : z.cells = cs.toArray) :
    ∀ w, M c H K w → ∃ b w', (execOp (ev σ) ⟨d, .alloc e, t, p, af, g⟩).run c.P w = .ok (.value (.pointer (some ⟨b, 0, none⟩))) w' ∧ M c (.blk b (ob cs e) :: H) K w' := by
  intro w hm
  refine ⟨w.heap.size, _, ?_, hm.add (World.grownBy_alloc w _ none) (heap_alloc_new w _) (.inr ⟨_, rfl, Nat.le_refl _⟩)⟩
  simp [execOp, Instr.alloc, run_zero hz, newVar, newRow, hc]
theorem M.swap {w : World} {x y : Res} {r : List Res} (hm : M c (x :: y :: r) K w) : M c (y :: x :: r) K w := by
  have hp : ∀ k, k ∈ places (y :: x :: r) ↔ k ∈ places (x :: y :: r) := fun k => by simp only [places, List.mem_append]; constructor <;> (rintro (h | h | h) <;> simp [h])
  refine ⟨hm.os, hm.tape, hm.output, hm.size, hm.frame, fun q hq => hm.holds q (by simp only [List.mem_cons] at hq ⊢; rcases hq with h | h | h <;> simp [h]), fun k hk => hm.mine k ((hp k).1 hk), ?_, hm.stable, ?_⟩
  · have := hm.nodup
    simp only [places] at this ⊢
    refine (List.Perm.nodup_iff ?_).1 this
    rw [← List.append_assoc, ← List.append_assoc]
    exact List.Perm.append_right _ List.perm_append_comm
  · obtain ⟨D, d1, d2, d3, d4, d5⟩ := hm.data
    exact ⟨D, d1, d2, d3, fun k hk => d4 k ((hp k).1 hk), d5⟩
theorem pA {w : World} {x y : Res} {r : List Res} (hm : M c (x :: y :: r) K w) : M c [x, y] K w := hm.sub (.cons_cons _ (.cons_cons _ (List.nil_sublist _)))
theorem pB {w : World} {x y : Res} {r : List Res} (hm : M c (y :: x :: r) K w) : M c [x, y] K w := pA hm.swap
theorem drop1 {w : World} {r : Res} (hm : M c (r :: H) K w) : M c H K w := hm.sub (.cons _ (List.Sublist.refl _))

/-- One of those that may come up. -/
def Can (c : Cx) (n : Nat) (ops : Array Oper) (Q : Exit → Env → World → Prop) (m f : Nat) (listed : Array Bool) (σ : Env) (H : List Res) (K : List Fact) (i : Nat) : Prop :=
  okDraw ops m = true → HeadInv .any ops m listed → i ∈ Region.ready .any ops listed → ∀ w, M c H K w → ∀ a, Rep n a σ → i < m ∧ wpOp c.P ops (lift n Q) i (fun a' w' => M c H K w' ∧ wpHd c.P .any ops (lift n Q) (M c H K) m (LT c n ops Q m) f (listed.setIfInBounds i true) a' w') a w

theorem fork2 (i j : Nat) (hr : Region.ready .any ops listed = [i, j]) (hi : Can c n ops Q m f listed σ H K i) (hj : Can c n ops Q m f listed σ H K j) : HD c n ops Q m (f + 1) listed σ H K := by
  intro hok inv w hM a hrep
  refine ⟨by rw [hr]; simp, fun k hk => ?_⟩
  have hk' := hk
  rw [hr] at hk'
  simp only [List.mem_cons, List.not_mem_nil, or_false] at hk'
  rcases hk' with rfl | rfl
  · exact hi hok inv hk w hM a hrep
  · exact hj hok inv hk w hM a hrep
theorem fork3 (i j l : Nat) (hr : Region.ready .any ops listed = [i, j, l]) (hi : Can c n ops Q m f listed σ H K i) (hj : Can c n ops Q m f listed σ H K j) (hl : Can c n ops Q m f listed σ H K l) : HD c n ops Q m (f + 1) listed σ H K := by
  intro hok inv w hM a hrep
  refine ⟨by rw [hr]; simp, fun k hk => ?_⟩
  have hk' := hk
  rw [hr] at hk'
  simp only [List.mem_cons, List.not_mem_nil, or_false] at hk'
  rcases hk' with rfl | rfl | rfl
  · exact hi hok inv hk w hM a hrep
  · exact hj hok inv hk w hM a hrep
  · exact hl hok inv hk w hM a hrep

theorem canE [NoP Q] {β : Type} (V : β → Value) (H' : β → List Res) (K' : β → List Fact) (i : Nat) {d : Nat} {op : Op} {t : TypeId} {p : String} {af : Array Edge} (hi : ops[i]? = some ⟨some d, op, t, p, af, none⟩)
    (him : Nat.blt i m = true) (hd : Nat.blt d n = true)
    (he : ∀ w, M c H K w → ∃ b w', (execOp (ev σ) ⟨some d, op, t, p, af, none⟩).run c.P w = .ok (.value (V b)) w' ∧ M c (H' b) (K' b) w')
    (hw : ∀ b w, M c (H' b) (K' b) w → M c H K w)
    (h : ∀ b, HD c n ops Q m f (listed.setIfInBounds i true) (upd σ d (V b)) (H' b) (K' b)) : Can c n ops Q m f listed σ H K i := by
  intro hok inv hri w hM a hr
  have him' : i < m := by simp [Nat.blt] at him; omega
  refine ⟨him', ?_⟩
  unfold wpOp
  simp only [hi, Region.wanted, if_true]
  refine .inl ?_
  unfold Oper.wp
  obtain ⟨b, w', hrun, hM'⟩ := he w hM
  rw [hr.eval, hrun]
  exact ⟨hw b w' hM', wpHd_mono (hw b) f _ _ _ (h b hok (inv.set hri him') w' hM' _ (hr.put d _ (by simp [Nat.blt] at hd; omega)))⟩

/-- Of them, a literal of a slice. -/
theorem canL [NoP Q] (i : Nat) {d : Nat} {tt e : TypeId} {k : Nat} {parts : Array (Nat × Operand)} {t : TypeId} {p : String} {af : Array Edge} {cs : List Value} (hi : ops[i]? = some ⟨some d, .buildSlice tt k parts, t, p, af, none⟩)
    (him : Nat.blt i m = true) (hd : Nat.blt d n = true)
    (hrun : ∀ w, (Instr.buildSlice tt k (parts.map fun (i, x) => (i, ev σ x))).run c.P w = .ok (.slice (some ⟨w.heap.size, 0, none⟩) k k) (w.alloc (ob cs e)))
    (h : ∀ b, HD c n ops Q m f (listed.setIfInBounds i true) (upd σ d (.slice (some ⟨b, 0, none⟩) k k)) (.blk b (ob cs e) :: H) K) : Can c n ops Q m f listed σ H K i :=
  canE (fun b => .slice (some ⟨b, 0, none⟩) k k) (fun b => .blk b (ob cs e) :: H) (fun _ => K) i hi him hd (run_bsl hrun) (fun _ _ => drop1) h
/-- Of them, an allocation. -/
theorem canA [NoP Q] (i : Nat) {d : Nat} {e : TypeId} {z : Value} {t : TypeId} {p : String} {af : Array Edge} {cs : List Value} (hi : ops[i]? = some ⟨some d, .alloc e, t, p, af, none⟩)
    (him : Nat.blt i m = true) (hz : (c.P.info? e).map (·.zero) = some (some z)) (hc : z.cells = cs.toArray) (hd : Nat.blt d n = true)
    (h : ∀ b, HD c n ops Q m f (listed.setIfInBounds i true) (upd σ d (.pointer (some ⟨b, 0, none⟩))) (.blk b (ob cs e) :: H) K) : Can c n ops Q m f listed σ H K i :=
  canE (fun b => .pointer (some ⟨b, 0, none⟩)) (fun b => .blk b (ob cs e) :: H) (fun _ => K) i hi him hd (run_alloc hz hc) (fun _ _ => drop1) h
/-- The only one, a literal of a slice. -/
theorem only1 (i : Nat) (hr : Region.ready .any ops listed = [i]) (hi : Can c n ops Q m f listed σ H K i) : HD c n ops Q m (f + 1) listed σ H K := by
  intro hok inv w hM a hrep
  refine ⟨by rw [hr]; simp, fun k hk => ?_⟩
  have hk' := hk
  rw [hr] at hk'
  simp only [List.mem_cons, List.not_mem_nil, or_false] at hk'
  subst hk'
  exact hi hok inv hk w hM a hrep

theorem canP [NoP Q] (i : Nat) {d : Nat} {fid : FuncId} {args : Array Operand} {ats : Array TypeId} {vs : List Value} {t : TypeId} {p : String} {af : Array Edge} {v : Value} (hi : ops[i]? = some ⟨some d, .call { callee := .value (.func fid), args := args, argTypes := ats }, t, p, af, none⟩)
    (him : Nat.blt i m = true) (hf : Fn c.P fid) (ha : args.toList.map (ev σ) = vs) (hd : Nat.blt d n = true)
    (spec : ∀ w, M c H K w → Calls c.P fid vs.toArray w fun e w' => e = .returned v ∧ Below w.heap.size w w') (h : HD c n ops Q m f (listed.setIfInBounds i true) (upd σ d v) H K) : Can c n ops Q m f listed σ H K i := by
  intro hok inv hri w hM a hr
  have him' : i < m := by simp [Nat.blt] at him; omega
  refine ⟨him', ?_⟩
  unfold wpOp
  simp only [hi, Region.wanted, if_true]
  refine .inl ?_
  unfold Oper.wp
  rw [hr.eval, hf.run, map_args ha]
  refine (spec w hM).mono ?_
  rintro e w' ⟨rfl, hbel⟩
  have hM' := hM.pure (grown_below hbel)
  exact ⟨hM', h hok (inv.set hri him') w' hM' _ (hr.put d _ (by simp [Nat.blt] at hd; omega))⟩
end
end Go.Proofs.YtmcapgjdflohfaaGreat.L

namespace Go.Proofs.YtmcapgjdflohfaaGreat.L
open Go Go.RowKit
set_option linter.unusedVariables false

theorem sha_Sum' (b : List UInt8) (hb : b.length ≤ 10000000000) : Pure PP N_sha_Sum #[.string (bs b)] (ag (b8 (sha b))) := sha_Sum_ b hb

/-- Texts as cells. -/
def tx (xs : List (List UInt8)) : List Value := xs.map fun x => .string (bs x)
theorem tx_one (xs : List (List UInt8)) : one (tx xs) = true := by
  rw [one, List.all_eq_true]; intro v hv
  obtain ⟨x, _, rfl⟩ := List.mem_map.1 hv; rfl

/-- A block that is data. -/
def Bk (bk : Nat) (o : Obj) : Fact := fun D w => D bk ∧ w.heap[bk]? = some o
theorem Bk.stable {bk : Nat} {o : Obj} : Stable (Bk bk o) := by
  rintro D D' w w' hD hw ⟨h1, h2⟩
  have hlt : bk < w.heap.size := by
    rcases Nat.lt_or_ge bk w.heap.size with h | h
    · exact h
    · rw [Array.getElem?_eq_none h] at h2; cases h2
  exact ⟨hD _ h1, by rw [hw _ h1 hlt]; exact h2⟩
theorem lt_heap {w : World} {b : Nat} {o : Obj} (h : w.heap[b]? = some o) : b < w.heap.size := by
  rcases Nat.lt_or_ge b w.heap.size with h' | h'
  · exact h'
  · rw [Array.getElem?_eq_none h'] at h; cases h
theorem M.bk {c : Cx} {H : List Res} {K : List Fact} {w : World} (hm : M c H K w) {k bk : Nat} {o : Obj} (hk : K[k]? = some (Bk bk o)) : w.heap[bk]? = some o := by
  obtain ⟨D, _, _, h⟩ := hm.fact hk
  exact h.2

/-- tag.Text, called with a block of texts of the caller's. -/
theorem tag_Text_ (g : UInt8) (bk cap : Nat) (xs : List (List UInt8)) (e : TypeId) (hc : xs.length ≤ cap) (hn : xs.length ≤ 1000) (hl : xs.flatten.length ≤ 10000000000) (w : World) (hb : w.heap[bk]? = some (ob (tx xs) e)) :
    Calls PP N_tag_Text #[.int .u8 g.toNat, .slice (some ⟨bk, 0, none⟩) xs.length cap] w (PR w (.string (bs (g :: xs.flatten)))) := by
  refine enter f_tag_Text rfl n_tag_Text rfl (M.init PP w (fun k => k = bk) [] [Bk bk (ob (tx xs) e)] ⟨Bk.stable, trivial⟩ (fun k hk => by rw [hk]; exact lt_heap hb) ⟨⟨rfl, hb⟩, trivial⟩) ?_
  refine seq (region (det rfl (asg rfl) (nilS ?_)))   -- region 0
  refine seq (draw (m := 7) mix (by kernel_rfl) (take 0 rfl (by kernel_rfl) rfl (mv rfl) (take 3 rfl (by kernel_rfl) rfl (mv rfl) (fork2 1 4 (by kernel_rfl) ?_ ?_))))
  · refine canL 1 rfl rfl rfl (bs1 u_sl_uint8 z_uint8 s_uint8 (cs := [.int .u8 g.toNat]) rfl rfl rfl (by decide) (by decide)) fun b => ?_
    refine take 2 rfl (by kernel_rfl) rfl (strB 0 (r := [g]) u_sl_uint8 u_uint8 u_string rfl rfl rfl rfl) ?_
    refine only 4 rfl (by kernel_rfl) rfl k_strings_Join rfl rfl (fun w hm => strings_Join_ bk cap xs e w (hm.bk (k := 0) rfl) hc (by omega) (by omega)) ?_
    refine take 5 rfl (by kernel_rfl) rfl (tadd rfl rfl (by simp only [List.length_singleton]; omega)) ?_
    refine take 6 rfl (by kernel_rfl) rfl (asg rfl) (tail (by kernel_rfl) rfl (nilS ?_))
    exact ret (retT rfl rfl pr)
  · refine canP 4 rfl rfl k_strings_Join rfl rfl (fun w hm => strings_Join_ bk cap xs e w (hm.bk (k := 0) rfl) hc (by omega) (by omega)) ?_
    refine only1 1 (by kernel_rfl) (canL 1 rfl rfl rfl (bs1 u_sl_uint8 z_uint8 s_uint8 (cs := [.int .u8 g.toNat]) rfl rfl rfl (by decide) (by decide)) fun b => ?_)
    refine take 2 rfl (by kernel_rfl) rfl (strB 0 (r := [g]) u_sl_uint8 u_uint8 u_string rfl rfl rfl rfl) ?_
    refine take 5 rfl (by kernel_rfl) rfl (tadd rfl rfl (by simp only [List.length_singleton]; omega)) ?_
    refine take 6 rfl (by kernel_rfl) rfl (asg rfl) (tail (by kernel_rfl) rfl (nilS ?_))
    exact ret (retT rfl rfl pr)
end Go.Proofs.YtmcapgjdflohfaaGreat.L

namespace Go.Proofs.YtmcapgjdflohfaaGreat.L
open Go Go.RowKit
set_option linter.unusedVariables false


/-- The hashes of the tree and of headers. -/
def leafS (s : List UInt8) : List UInt8 := sha (0 :: s)
def nodeS (l r : List UInt8) : List UInt8 := sha (1 :: (l ++ r))
def rootS (n : Int) (top : List UInt8) : List UInt8 := sha (2 :: (putL n 8 ++ top))
def headS (s : List UInt8) : List UInt8 := sha (3 :: s)

theorem flat1 (x : List UInt8) : [x].flatten = x := by simp
theorem flat2 (x y : List UInt8) : [x, y].flatten = x ++ y := by simp

theorem tag_LeafText_ (s : List UInt8) (hs : s.length ≤ 1000000000) : Pure PP N_tag_LeafText #[.string (bs s)] (.string (bs (0 :: s))) := by
  refine enter0 f_tag_LeafText rfl n_tag_LeafText rfl fun w => ?_
  refine seq (region (det rfl (asg rfl) (nilS ?_)))   -- region 0
  refine seq (region (det rfl (mv rfl) (bsl rfl (bs1 u_sl_string z_string s_string (cs := tx [s]) rfl rfl rfl (by decide) (by decide)) fun b0 => call k_tag_Text rfl rfl (fun w hm => tag_Text_ 0 b0 1 [s] _ (Nat.le_refl _) (by simp) (by rw [flat1]; omega) w (hm.blk 0 rfl)) (det rfl (asg rfl) (nilS ?_)))))   -- region 1
  exact ret (retT rfl rfl (pr' (vs (congrArg bs (by rw [flat1])))))
theorem tag_HeaderText_ (s : List UInt8) (hs : s.length ≤ 1000000000) : Pure PP N_tag_HeaderText #[.string (bs s)] (.string (bs (3 :: s))) := by
  refine enter0 f_tag_HeaderText rfl n_tag_HeaderText rfl fun w => ?_
  refine seq (region (det rfl (asg rfl) (nilS ?_)))   -- region 0
  refine seq (region (det rfl (mv rfl) (bsl rfl (bs1 u_sl_string z_string s_string (cs := tx [s]) rfl rfl rfl (by decide) (by decide)) fun b0 => call k_tag_Text rfl rfl (fun w hm => tag_Text_ 3 b0 1 [s] _ (Nat.le_refl _) (by simp) (by rw [flat1]; omega) w (hm.blk 0 rfl)) (det rfl (asg rfl) (nilS ?_)))))   -- region 1
  exact ret (retT rfl rfl (pr' (vs (congrArg bs (by rw [flat1])))))
theorem tag_NodeText_ (l r : List UInt8) (hl : l.length = 32) (hr : r.length = 32) : Pure PP N_tag_NodeText #[ag (b8 l), ag (b8 r)] (.string (bs (1 :: (l ++ r)))) := by
  refine enter0 f_tag_NodeText rfl n_tag_NodeText rfl fun w => ?_
  refine seq (region (box rfl rfl rfl fun b0 => box rfl rfl rfl fun b1 => det rfl (asg rfl) (nilS ?_)))   -- region 0
  refine seq (draw (m := 7) mix (by kernel_rfl) (take 0 rfl (by kernel_rfl) rfl (arrS u_api_Hash s_uint8 rfl) (take 1 rfl (by kernel_rfl) rfl (strB 1 (r := l) u_sl_uint8 u_uint8 u_string rfl rfl (whole8 hl) hl) (take 2 rfl (by kernel_rfl) rfl (arrS u_api_Hash s_uint8 rfl) (take 3 rfl (by kernel_rfl) rfl (strB 0 (r := r) u_sl_uint8 u_uint8 u_string rfl rfl (whole8 hr) hr)
    (only1 4 (by kernel_rfl) (canL 4 rfl rfl rfl (bsm u_sl_string z_string s_string (xs := tx [l, r]) rfl rfl rfl (by decide) (by decide)) fun b2 => only 5 rfl (by kernel_rfl) rfl k_tag_Text rfl rfl (fun w hm => tag_Text_ 1 b2 2 [l, r] _ (Nat.le_refl _) (by simp) (by rw [flat2, List.length_append]; omega) w (hm.blk 0 rfl)) (take 6 rfl (by kernel_rfl) rfl (asg rfl) ((tail (by kernel_rfl) rfl (nilS ?_)))))))))))   -- region 1
  exact ret (retT rfl rfl (pr' (vs (congrArg bs (by rw [flat2])))))
theorem tag_RootText_ (k : Int) (r : List UInt8) (hr : r.length = 32) : Pure PP N_tag_RootText #[.int .u64 k, ag (b8 r)] (.string (bs (2 :: (putL k 8 ++ r)))) := by
  refine enter0 f_tag_RootText rfl n_tag_RootText rfl fun w => ?_
  refine seq (region (box rfl rfl rfl fun b0 => det rfl (asg rfl) (nilS ?_)))   -- region 0
  refine seq (draw (m := 7) mix (by kernel_rfl) (take 0 rfl (by kernel_rfl) rfl (mv rfl) (take 2 rfl (by kernel_rfl) rfl (arrS u_api_Hash s_uint8 rfl) (take 3 rfl (by kernel_rfl) rfl (strB 0 (r := r) u_sl_uint8 u_uint8 u_string rfl rfl (whole8 hr) hr) (only 1 rfl (by kernel_rfl) rfl k_word_Put64 rfl rfl (fun w _ => word_Put64_ k w)
    (only1 4 (by kernel_rfl) (canL 4 rfl rfl rfl (bsm u_sl_string z_string s_string (xs := tx [putL k 8, r]) rfl rfl rfl (by decide) (by decide)) fun b2 => only 5 rfl (by kernel_rfl) rfl k_tag_Text rfl rfl (fun w hm => tag_Text_ 2 b2 2 [putL k 8, r] _ (Nat.le_refl _) (by simp) (by rw [flat2, List.length_append, putL_length]; omega) w (hm.blk 0 rfl)) (take 6 rfl (by kernel_rfl) rfl (asg rfl) ((tail (by kernel_rfl) rfl (nilS ?_)))))))))))   -- region 1
  exact ret (retT rfl rfl (pr' (vs (congrArg bs (by rw [flat2])))))

theorem retH {fn : Func} {c : Cx} {n : Nat} {σ : Env} {H : List Res} {K : List Fact} {R : Ending → World → Prop} {s : Nat} {b : Nat} {e : TypeId} {l : List UInt8} (hc : c.P = PP) (hl : l.length = 32) (i : Nat) (hr : fn.results = #[.cell s T_api_Hash]) (hv : σ s = .pointer (some ⟨b, 0, none⟩)) (hi : H[i]? = some (.blk b (ob (b8 l) e)))
    (h : ∀ w, M c H K w → R (.returned (ag (b8 l))) w) : ∀ w, M c H K w → post c.P fn n R .ret σ w :=
  retC i hr hv hi (by rw [b8_length, hl, hc]; exact g_api_Hash) h

theorem tag_LeafSum_ (s : List UInt8) (hs : s.length ≤ 1000000000) : Pure PP N_tag_LeafSum #[.string (bs s)] (ag (b8 (leafS s))) := by
  refine enter0 f_tag_LeafSum rfl n_tag_LeafSum rfl fun w => ?_
  refine seq (region (alloc z_api_Hash rfl rfl fun b0 => nilS ?_))   -- region 0
  refine seq (region (det rfl (mv rfl) (call k_tag_LeafText rfl rfl (fun w _ => tag_LeafText_ s hs w) (call k_sha_Sum rfl rfl (fun w _ => sha_Sum' _ (by simp; omega) w) (stoA 0 rfl rfl rfl s_api_Hash (by rw [b8_length]; exact sha_length _) (b8_one _) rfl (nilS ?_))))))   -- region 1
  exact ret (retH rfl (sha_length _) 0 rfl rfl rfl pr)
theorem tag_HeaderSum_ (s : List UInt8) (hs : s.length ≤ 1000000000) : Pure PP N_tag_HeaderSum #[.string (bs s)] (ag (b8 (headS s))) := by
  refine enter0 f_tag_HeaderSum rfl n_tag_HeaderSum rfl fun w => ?_
  refine seq (region (alloc z_api_Hash rfl rfl fun b0 => nilS ?_))   -- region 0
  refine seq (region (det rfl (mv rfl) (call k_tag_HeaderText rfl rfl (fun w _ => tag_HeaderText_ s hs w) (call k_sha_Sum rfl rfl (fun w _ => sha_Sum' _ (by simp; omega) w) (stoA 0 rfl rfl rfl s_api_Hash (by rw [b8_length]; exact sha_length _) (b8_one _) rfl (nilS ?_))))))   -- region 1
  exact ret (retH rfl (sha_length _) 0 rfl rfl rfl pr)
theorem tag_NodeSum_ (l r : List UInt8) (hl : l.length = 32) (hr : r.length = 32) : Pure PP N_tag_NodeSum #[ag (b8 l), ag (b8 r)] (ag (b8 (nodeS l r))) := by
  refine enter0 f_tag_NodeSum rfl n_tag_NodeSum rfl fun w => ?_
  refine seq (region (box rfl rfl rfl fun b0 => box rfl rfl rfl fun b1 => alloc z_api_Hash rfl rfl fun b2 => nilS ?_))   -- region 0
  refine seq (region (det rfl (ldAll 2 rfl rfl g_api_Hash (by rw [b8_length]; exact hl)) (det rfl (ldAll 1 rfl rfl g_api_Hash (by rw [b8_length]; exact hr)) (call k_tag_NodeText rfl rfl (fun w _ => tag_NodeText_ l r hl hr w) (call k_sha_Sum rfl rfl (fun w _ => sha_Sum' _ (by simp; omega) w) (stoA 0 rfl rfl rfl s_api_Hash (by rw [b8_length]; exact sha_length _) (b8_one _) rfl (nilS ?_)))))))   -- region 1
  exact ret (retH rfl (sha_length _) 0 rfl rfl rfl pr)
theorem tag_RootSum_ (k : Int) (r : List UInt8) (hr : r.length = 32) : Pure PP N_tag_RootSum #[.int .u64 k, ag (b8 r)] (ag (b8 (rootS k r))) := by
  refine enter0 f_tag_RootSum rfl n_tag_RootSum rfl fun w => ?_
  refine seq (region (box rfl rfl rfl fun b0 => alloc z_api_Hash rfl rfl fun b1 => nilS ?_))   -- region 0
  refine seq (region (det rfl (mv rfl) (det rfl (ldAll 1 rfl rfl g_api_Hash (by rw [b8_length]; exact hr)) (call k_tag_RootText rfl rfl (fun w _ => tag_RootText_ k r hr w) (call k_sha_Sum rfl rfl (fun w _ => sha_Sum' _ (by simp [putL_length]; omega) w) (stoA 0 rfl rfl rfl s_api_Hash (by rw [b8_length]; exact sha_length _) (b8_one _) rfl (nilS ?_)))))))   -- region 1
  exact ret (retH rfl (sha_length _) 0 rfl rfl rfl pr)

theorem link_Text_ (l : List UInt8) (hl : l.length = 32) : Pure PP N_link_Text #[ag (b8 l)] (.string (bs (76 :: l))) := by
  refine enter0 f_link_Text rfl n_link_Text rfl fun w => ?_
  refine seq (region (box rfl rfl rfl fun b0 => det rfl (asg rfl) (nilS ?_)))   -- region 0
  refine seq (region (det rfl (arrS u_api_Hash s_uint8 rfl) (det rfl (strB 0 (r := l) u_sl_uint8 u_uint8 u_string rfl rfl (whole8 hl) hl) (det rfl (tadd (a := [76]) rfl rfl (by simp only [List.length_singleton]; omega)) (det rfl (asg rfl) (nilS ?_))))))   -- region 1
  exact ret (retT rfl rfl pr)
theorem txs_Text_ (l : List UInt8) (hl : l.length ≤ 1000000000) : Pure PP N_txs_Text #[.string (bs l)] (.string (bs (84 :: l))) := by
  refine enter0 f_txs_Text rfl n_txs_Text rfl fun w => ?_
  refine seq (region (det rfl (asg rfl) (nilS ?_)))   -- region 0
  refine seq (region (det rfl (mv rfl) (det rfl (tadd (a := [84]) rfl rfl (by simp only [List.length_singleton]; omega)) (det rfl (asg rfl) (nilS ?_)))))   -- region 1
  exact ret (retT rfl rfl pr)
end Go.Proofs.YtmcapgjdflohfaaGreat.L

namespace Go.Proofs.YtmcapgjdflohfaaGreat.L
open Go Go.RowKit
set_option linter.unusedVariables false

/-- A header. -/
structure Hd where
  h : Int
  l : List UInt8
  t : List UInt8
  n : Int
  deriving DecidableEq
/-- Its roots have 32 bytes each. -/
def Hd.ok (x : Hd) : Prop := x.l.length = 32 ∧ x.t.length = 32
def Hd.c (x : Hd) : List Value := .int .u32 x.h :: (b8 x.l ++ (b8 x.t ++ [.int .u64 x.n]))
def headB (x : Hd) : List UInt8 := putL (IntKind.u64.wrap x.h) 4 ++ x.l ++ x.t ++ putL x.n 8
def idL (x : Hd) : List UInt8 := headS (headB x)
theorem idL_length (x : Hd) : (idL x).length = 32 := sha_length _
theorem Hd.c_length {x : Hd} (hx : x.ok) : x.c.length = 66 := by simp [Hd.c, b8_length, hx.1, hx.2]
theorem Hd.c_one (x : Hd) : one x.c = true := by
  rw [Hd.c, show ∀ (v : Value) l, one (v :: l) = (v.oneCell' && one l) from fun _ _ => rfl, one_append, one_append, b8_one, b8_one]; rfl
theorem Hd.at_l {x : Hd} (hx : x.ok) : (x.c.drop (0 + 1)).take 32 = b8 x.l := by
  rw [Hd.c, Nat.zero_add, List.drop_succ_cons, List.drop_zero, List.take_append_of_le_length (by rw [b8_length, hx.1]; decide), List.take_of_length_le (by rw [b8_length, hx.1]; decide)]
theorem Hd.at_t {x : Hd} (hx : x.ok) : (x.c.drop (0 + 33)).take 32 = b8 x.t := by
  rw [Hd.c, Nat.zero_add, show (33 : Nat) = 32 + 1 from rfl, List.drop_succ_cons, List.drop_append, List.drop_of_length_le (by rw [b8_length, hx.1]; decide), b8_length, hx.1, List.nil_append, Nat.sub_self, List.drop_zero, List.take_append_of_le_length (by rw [b8_length, hx.2]; decide), List.take_of_length_le (by rw [b8_length, hx.2]; decide)]
theorem Hd.at_n {x : Hd} (hx : x.ok) : x.c[0 + 65]? = some (.int .u64 x.n) := by
  rw [Hd.c, Nat.zero_add, show (65 : Nat) = 64 + 1 from rfl, List.getElem?_cons_succ, List.getElem?_append_right (by rw [b8_length, hx.1]; decide), b8_length, hx.1, List.getElem?_append_right (by rw [b8_length, hx.2]; decide), b8_length, hx.2]; rfl

theorem head_Bytes_ (x : Hd) (hx : x.ok) : Pure PP N_head_Bytes #[ag x.c] (.string (bs (headB x))) := by
  have h1 := hx.1; have h2 := hx.2
  refine enter0 f_head_Bytes rfl n_head_Bytes rfl fun w => ?_
  refine seq (region (box rfl rfl rfl fun b0 => det rfl (asg rfl) (nilS ?_)))   -- region 0
  refine seq (draw (m := 16) mix (by kernel_rfl) (take 0 rfl (by kernel_rfl) rfl (fadr rfl u_api_Header rfl s_uint32) (take 1 rfl (by kernel_rfl) rfl (ldB 0 rfl rfl o_uint32 rfl) (take 3 rfl (by kernel_rfl) rfl (fadr rfl u_api_Header rfl s_api_Hash) (take 4 rfl (by kernel_rfl) rfl (arrS u_api_Hash s_uint8 rfl) (take 5 rfl (by kernel_rfl) rfl (strB 0 (r := x.l) u_sl_uint8 u_uint8 u_string rfl rfl (Hd.at_l hx) h1) (take 7 rfl (by kernel_rfl) rfl (fadr rfl u_api_Header rfl s_api_Hash) (take 8 rfl (by kernel_rfl) rfl (arrS u_api_Hash s_uint8 rfl) (take 9 rfl (by kernel_rfl) rfl (strB 0 (r := x.t) u_sl_uint8 u_uint8 u_string rfl rfl (Hd.at_t hx) h2) (take 11 rfl (by kernel_rfl) rfl (fadr rfl u_api_Header rfl s_uint64) (take 12 rfl (by kernel_rfl) rfl (ldB 0 rfl rfl o_uint64 (Hd.at_n hx)) (only 2 rfl (by kernel_rfl) rfl k_word_Put32 rfl rfl (fun w _ => word_Put32_ _ w) (take 6 rfl (by kernel_rfl) rfl (tadd rfl rfl (by rw [putL_length]; omega)) (take 10 rfl (by kernel_rfl) rfl (tadd rfl rfl (by rw [List.length_append, putL_length]; omega)) (only 13 rfl (by kernel_rfl) rfl k_word_Put64 rfl rfl (fun w _ => word_Put64_ _ w) (take 14 rfl (by kernel_rfl) rfl (tadd rfl rfl (by rw [List.length_append, List.length_append, putL_length, putL_length]; omega)) (take 15 rfl (by kernel_rfl) rfl (asg rfl) ((tail (by kernel_rfl) rfl (nilS ?_))))))))))))))))))))   -- region 1
  exact ret (retT rfl rfl pr)
theorem headB_length {x : Hd} (hx : x.ok) : (headB x).length = 76 := by simp [headB, putL_length, hx.1, hx.2]
theorem ident_Id_ (x : Hd) (hx : x.ok) : Pure PP N_ident_Id #[ag x.c] (ag (b8 (idL x))) := by
  refine enter0 f_ident_Id rfl n_ident_Id rfl fun w => ?_
  refine seq (region (box rfl rfl rfl fun b0 => alloc z_api_Hash rfl rfl fun b1 => nilS ?_))   -- region 0
  refine seq (region (det rfl (ldAll 1 rfl rfl g_api_Header (Hd.c_length hx)) (call k_head_Bytes rfl rfl (fun w _ => head_Bytes_ x hx w) (call k_tag_HeaderSum rfl rfl (fun w _ => tag_HeaderSum_ _ (by rw [headB_length hx]; decide) w) (stoA 0 rfl rfl rfl s_api_Hash (by rw [b8_length]; exact sha_length _) (b8_one _) rfl (nilS ?_))))))   -- region 1
  exact ret (retH rfl (sha_length _) 0 rfl rfl rfl pr)

/-! ### wide -/
def w64 (l : List Int) : List Value := l.map fun x => .int .u64 x
theorem w64_length (l : List Int) : (w64 l).length = l.length := by simp [w64]
theorem w64_one (l : List Int) : one (w64 l) = true := by
  rw [one, List.all_eq_true]; intro v hv
  obtain ⟨x, _, rfl⟩ := List.mem_map.1 hv; rfl
theorem w64_at {l : List Int} {o j : Nat} (ho : o = j) (h : j < l.length) : (w64 l)[o]? = some (.int .u64 (l.getD j 0)) := by
  subst ho; simp [w64, h]
theorem w64_set {l : List Int} {j : Nat} {x : Int} : (w64 l).set j (.int .u64 x) = w64 (l.set j x) := by
  simp [w64, List.map_set]
theorem retN {fn : Func} {c : Cx} {n : Nat} {σ : Env} {H : List Res} {K : List Fact} {R : Ending → World → Prop} {s : Nat} {b : Nat} {e : TypeId} {l : List Int} (hc : c.P = PP) (hl : l.length = 4) (i : Nat) (hr : fn.results = #[.cell s T_wide_N]) (hv : σ s = .pointer (some ⟨b, 0, none⟩)) (hi : H[i]? = some (.blk b (ob (w64 l) e)))
    (h : ∀ w, M c H K w → R (.returned (ag (w64 l))) w) : ∀ w, M c H K w → post c.P fn n R .ret σ w :=
  retC i hr hv hi (by rw [w64_length, hl, hc]; exact g_wide_N) h

def ofN (b : List UInt8) : Nat → List Int
  | 0 => [0, 0, 0, 0]
  | k + 1 => (ofN b k).set (3 - k) (takeN b (8 * (k : Int)) 8)
theorem ofN_length (b : List UInt8) (k : Nat) : (ofN b k).length = 4 := by
  induction k with
  | zero => rfl
  | succ k ih => simp only [ofN, List.length_set, ih]
theorem wide_Of_ (b : List UInt8) (hb : b.length = 32) : Pure PP N_wide_Of #[ag (b8 b)] (ag (w64 (ofN b 4))) := by
  refine enter0 f_wide_Of rfl n_wide_Of rfl fun w => ?_
  refine seq (region (box rfl rfl rfl fun b0 => alloc z_wide_N rfl rfl fun b1 => nilS ?_))   -- region 0
  refine seq (region (alloc z_wide_N rfl rfl fun b2 => nilS ?_))   -- region 1
  refine seq ?_
  refine seq (region (det rfl (mv rfl) (nilS ?_)))   -- region 2
  refine block ?_   -- block 0
  refine loopV (ι := Nat) (fun k => k ≤ 4) (fun k => [(1, .pointer (some ⟨b0, 0, none⟩)), (2, .pointer (some ⟨b1, 0, none⟩)), (3, .pointer (some ⟨b2, 0, none⟩)), (5, .int .i64 k)]) (fun k => [.blk b2 (ob (w64 (ofN b k)) T_wide_N), .blk b1 (ob (w64 (ofN b 0)) T_wide_N), .blk b0 (ob (b8 b) T_api_Hash)]) (fun _ => []) (fun k => 4 - k) 0 (by omega) ⟨rfl, rfl, rfl, rfl, trivial⟩ (fun w hm => hm) ?_
  intro k σ hk
  have hl := ofN_length b k
  refine seq (region (det rfl (lss rfl rfl) (nilS ?_)))   -- region 3
  refine seq ?_
  refine cond rfl (fun h => ?_) (fun h => ?_)   -- on t6
  · have h := of_decide_eq_true h
    refine skipS ?_
    refine seq ?_
    refine block ?_   -- block 1
    refine seq (region (det rfl (mv rfl) (det rfl (asg rfl) (nilS ?_))))   -- region 4
    refine region (det rfl (mv rfl) (det rfl (subI rfl rfl (by omega) (by omega)) (det rfl (arrS u_api_Hash s_uint8 rfl) (det rfl (strB 2 (r := b) u_sl_uint8 u_uint8 u_string rfl rfl (whole8 hb) hb) (det rfl (mv rfl) (det rfl (mulI rfl rfl (by omega) (by omega)) (call k_word_Take64 rfl rfl (fun w _ => word_Take64_ b _ (by omega) (by omega) (by omega) w) (det rfl (iadr rfl rfl u_wide_N s_uint64 (by omega) (by omega)) (sto1 0 (3 - k) rfl rfl rfl s_uint64 rfl (by omega) (by rw [w64_length]; omega) w64_set (nil ?_))))))))))   -- region 5
    show Tr _ _ _ _ _ _ _
    refine region (det rfl (addI rfl rfl (by omega) (by omega)) (det rfl (mv rfl) (nil ?_)))   -- region 6
    exact again (k + 1) (by omega) ⟨rfl, rfl, rfl, rfl, trivial⟩ (fun w hm => hm) (by (first | omega | (dsimp only; omega)))
  · have h := of_decide_eq_false h
    have e : k = 4 := by omega
    subst e
    refine exit ?_   -- 0
    show Tr _ _ _ _ _ _ _
    refine seq (region (det rfl (ldAll 0 rfl rfl g_wide_N (by rw [w64_length, hl])) (stoA 1 rfl rfl rfl s_wide_N (by rw [w64_length, hl]) (w64_one _) rfl (nilS ?_))))   -- region 7
    exact ret (retN rfl hl 1 rfl rfl rfl pr)

/-- Which is the greater, the lowest `r` limbs. -/
def cmpN (x y : List Int) : Nat → Int
  | 0 => 0
  | r + 1 => if x.getD r 0 < y.getD r 0 then -1 else if y.getD r 0 < x.getD r 0 then 1 else cmpN x y r
theorem cmpN_range (x y : List Int) (r : Nat) : -1 ≤ cmpN x y r ∧ cmpN x y r ≤ 1 := by
  induction r with
  | zero => simp [cmpN]
  | succ r ih => simp only [cmpN]; split; omega; split <;> omega
end Go.Proofs.YtmcapgjdflohfaaGreat.L

namespace Go.Proofs.YtmcapgjdflohfaaGreat.L
open Go Go.RowKit
set_option linter.unusedVariables false
theorem wide_Cmp_ (x y : List Int) (hx : x.length = 4) (hy : y.length = 4) : Pure PP N_wide_Cmp #[ag (w64 x), ag (w64 y)] (.int .i64 (cmpN x y 4)) := by
  refine enter0 f_wide_Cmp rfl n_wide_Cmp rfl fun w => ?_
  refine seq (region (box rfl rfl rfl fun b0 => box rfl rfl rfl fun b1 => det rfl (asg rfl) (nilS ?_)))   -- region 0
  refine seq ?_
  refine seq (region (det rfl (mv rfl) (nilS ?_)))   -- region 1
  refine block ?_   -- block 0
  refine loopV (ι := Nat) (fun k => k ≤ 4 ∧ cmpN x y (4 - k) = cmpN x y 4) (fun k => [(2, .pointer (some ⟨b0, 0, none⟩)), (3, .pointer (some ⟨b1, 0, none⟩)), (8, .int .i64 k)]) (fun k => [.blk b1 (ob (w64 y) T_wide_N), .blk b0 (ob (w64 x) T_wide_N)]) (fun _ => []) (fun k => 4 - k) 0 ⟨by omega, rfl⟩ ⟨rfl, rfl, rfl, trivial⟩ (fun w hm => hm) ?_
  intro k σ ⟨hk, hc⟩
  refine seq (region (det rfl (lss rfl rfl) (nilS ?_)))   -- region 2
  refine seq ?_
  refine cond rfl (fun h => ?_) (fun h => ?_)   -- on t9
  · have h := of_decide_eq_true h
    refine skipS ?_
    refine seq ?_
    refine block ?_   -- block 1
    refine seq (region (det rfl (mv rfl) (det rfl (asg rfl) (nilS ?_))))   -- region 3
    refine seq (draw (m := 10) mix (by kernel_rfl) (take 0 rfl (by kernel_rfl) rfl (mv rfl) (take 1 rfl (by kernel_rfl) rfl (subI rfl rfl (by omega) (by omega)) (take 2 rfl (by kernel_rfl) rfl (iadr rfl rfl u_wide_N s_uint64 (by omega) (by omega)) (take 3 rfl (by kernel_rfl) rfl (ldB 1 rfl rfl o_uint64 (w64_at (j := 3 - k) (by omega) (by omega))) (take 4 rfl (by kernel_rfl) rfl (mv rfl) (take 5 rfl (by kernel_rfl) rfl (subI rfl rfl (by omega) (by omega)) (take 6 rfl (by kernel_rfl) rfl (iadr rfl rfl u_wide_N s_uint64 (by omega) (by omega)) (take 7 rfl (by kernel_rfl) rfl (ldB 0 rfl rfl o_uint64 (w64_at (j := 3 - k) (by omega) (by omega))) (take 8 rfl (by kernel_rfl) rfl (asg rfl) (take 9 rfl (by kernel_rfl) rfl (asg rfl) ((tail (by kernel_rfl) rfl (nilS ?_))))))))))))))   -- region 4
    rw [show 4 - k = (3 - k) + 1 by omega, cmpN] at hc
    refine block ?_   -- block 2
    refine seq (region (det rfl (mv rfl) (det rfl (mv rfl) (det rfl (lss rfl rfl) (det rfl (asg rfl) (nilS ?_))))))   -- region 5
    refine cond rfl (fun h => ?_) (fun h => ?_)   -- on t19
    · have h := of_decide_eq_true h
      refine seq (region (det rfl (asg rfl) (nilS ?_)))   -- region 6
      exact ret (retT rfl rfl (pr' (vi (by rw [← hc, if_pos h]))))
    · have h0 := of_decide_eq_false h
      refine seq (region (det rfl (mv rfl) (det rfl (mv rfl) (det rfl (gtr rfl rfl) (det rfl (asg rfl) (nilS ?_))))))   -- region 7
      refine cond rfl (fun h => ?_) (fun h => ?_)   -- on t23
      · have h := of_decide_eq_true h
        refine seq (region (det rfl (asg rfl) (nilS ?_)))   -- region 8
        exact ret (retT rfl rfl (pr' (vi (by rw [← hc, if_neg h0, if_pos h]))))
      · have h := of_decide_eq_false h
        refine skip ?_
        show Tr _ _ _ _ _ _ _
        refine region (det rfl (addI rfl rfl (by omega) (by omega)) (det rfl (mv rfl) (nil ?_)))   -- region 9
        exact again (k + 1) ⟨by omega, by rw [← hc, if_neg h0, if_neg h]; congr 1; omega⟩ ⟨rfl, rfl, rfl, trivial⟩ (fun w hm => hm) (by (first | omega | (dsimp only; omega)))
  · have h := of_decide_eq_false h
    refine exit ?_   -- 0
    show Tr _ _ _ _ _ _ _
    refine seq (region (det rfl (asg rfl) (nilS ?_)))   -- region 10
    exact ret (retT rfl rfl (pr' (vi (by rw [← hc, show 4 - k = 0 by omega]; rfl))))

theorem bldE {c : Cx} {σ : Env} {H : List Res} {K : List Fact} {d : Option Tmp} {t : TypeId} {p : String} {af : Array Edge} {g : Option (Nat × Bool)} {tt e : TypeId} {m sz : Nat} {z : List Value} (hz : (c.P.info? tt).map (·.zero) = some (some (ag z))) (ht : c.P.underlying tt = some (.array m e)) (hs : (c.P.info? e).map (·.size) = some sz) :
    Det c σ H K ⟨d, .build tt #[], t, p, af, g⟩ (ag z) := bldA (ps := []) hz ht hs (by simp) (by simp [Instr.fill])

/-- Shr: the limb at `k`. -/
def shrV (x : List Int) (s b k : Nat) : Int :=
  if 0 < b ∧ k + s + 1 < 4 then bor .u64 (bshr .u64 (x.getD (k + s) 0) b) (bshl .u64 (x.getD (k + s + 1) 0) (IntKind.u64.wrap (64 - b)).toNat) else bshr .u64 (x.getD (k + s) 0) b
def shrK (x : List Int) (s b : Nat) : Nat → List Int
  | 0 => [0, 0, 0, 0]
  | k + 1 => (shrK x s b k).set k (shrV x s b k)
def shrN (x : List Int) (n : Nat) : List Int := if n = 0 then x else if 256 ≤ n then [0, 0, 0, 0] else shrK x (n / 64) (n % 64) (4 - n / 64)
theorem shrK_length (x : List Int) (s b k : Nat) : (shrK x s b k).length = 4 := by
  induction k with
  | zero => rfl
  | succ k ih => simp only [shrK, List.length_set, ih]
theorem shrN_length (x : List Int) (n : Nat) (hx : x.length = 4) : (shrN x n).length = 4 := by
  unfold shrN; split; exact hx; split; rfl; exact shrK_length _ _ _ _
theorem tdiv_nat (n : Nat) (h : n ≤ 1000000) : IntKind.i64.wrap ((n : Int).tdiv 64) = ((n / 64 : Nat) : Int) := by
  rw [Int.tdiv_eq_ediv_of_nonneg (by omega), i64_in (by omega) (by omega)]; omega
theorem tmod_nat (n : Nat) : (n : Int).tmod 64 = ((n % 64 : Nat) : Int) := by
  rw [Int.tmod_eq_emod_of_nonneg (by omega)]; omega

theorem wide_Shr_ (x : List Int) (hx : x.length = 4) (n : Nat) (hn : n ≤ 100000) : Pure PP N_wide_Shr #[ag (w64 x), .int .i64 n] (ag (w64 (shrN x n))) := by
  refine enter0 f_wide_Shr rfl n_wide_Shr rfl fun w => ?_
  refine seq (region (box rfl rfl rfl fun b0 => alloc z_wide_N rfl rfl fun b1 => nilS ?_))   -- region 0
  refine seq ?_
  refine seq (region (det rfl (mv rfl) (det rfl (leq rfl rfl) (nilS ?_))))   -- region 1
  refine cond rfl (fun h => ?_) (fun h => ?_)   -- on t10
  · have h := of_decide_eq_true h
    refine seq (region (det rfl (ldAll 1 rfl rfl g_wide_N (by rw [w64_length, hx])) (stoA 0 rfl rfl rfl s_wide_N (by rw [w64_length, hx]) (w64_one _) rfl (nilS ?_))))
    have e : shrN x n = x := by rw [shrN, if_pos (by omega)]
    rw [e]
    exact ret (retN rfl hx 0 rfl rfl rfl pr)
  · have h := of_decide_eq_false h
    refine skipS ?_
    refine seq ?_
    refine seq (region (det rfl (mv rfl) (det rfl (geq rfl rfl) (nilS ?_))))   -- region 3
    refine cond rfl (fun h => ?_) (fun h => ?_)   -- on t13
    · have h := of_decide_eq_true h
      refine seq (region (det rfl (bldE z_wide_N u_wide_N s_uint64) (stoA 0 (rs := w64 [0, 0, 0, 0]) rfl rfl rfl s_wide_N rfl rfl rfl (nilS ?_))))
      have e : shrN x n = [0, 0, 0, 0] := by rw [shrN, if_neg (by omega), if_pos (by omega)]
      rw [e]
      exact ret (retN rfl rfl 0 rfl rfl rfl pr)
    · have h := of_decide_eq_false h
      refine skipS ?_
      refine seq (region (alloc z_wide_N rfl rfl fun b2 => nilS ?_))   -- region 5
      obtain ⟨s, hs⟩ : ∃ s, n / 64 = s := ⟨_, rfl⟩
      obtain ⟨q, hq⟩ : ∃ q, n % 64 = q := ⟨_, rfl⟩
      have e : shrN x n = shrK x s q (4 - s) := by rw [shrN, if_neg (by omega), if_neg (by omega), hs, hq]
      rw [e]
      refine seq (region (det rfl (mv rfl) (det rfl (Det.to (quo rfl rfl (by decide)) (vi (show _ = ((s : Nat) : Int) by rw [tdiv_nat n (by omega), hs]))) (det rfl (mv rfl) (det rfl (Det.to (rem rfl rfl (by decide)) (vi (show _ = ((q : Nat) : Int) by rw [tmod_nat n, hq]))) (det rfl (Det.to (conv u_int u_uint rfl) (vi (wrap_u64_nat (q : Int) (by omega) (by omega)))) (det rfl (asg rfl) (det rfl (asg rfl) (nilS ?_)))))))))   -- region 6
      refine seq ?_
      refine seq (region (det rfl (mv rfl) (det rfl (subI rfl rfl (by omega) (by omega)) (det rfl (mv rfl) (nilS ?_)))))   -- region 7
      refine block ?_   -- block 0
      refine loopV (ι := Nat) (fun k => k ≤ 4 - s) (fun k => [(2, .pointer (some ⟨b0, 0, none⟩)), (4, .pointer (some ⟨b1, 0, none⟩)), (5, .pointer (some ⟨b2, 0, none⟩)), (6, .int .i64 s), (7, .int .u64 q), (21, .int .i64 (4 - (s : Int))), (22, .int .i64 k)]) (fun k => [.blk b2 (ob (w64 (shrK x s q k)) T_wide_N), .blk b1 (ob (w64 [0, 0, 0, 0]) T_wide_N), .blk b0 (ob (w64 x) T_wide_N)]) (fun _ => []) (fun k => 4 - s - k) 0 (by omega) ⟨rfl, rfl, rfl, rfl, rfl, rfl, rfl, trivial⟩ (fun w hm => hm) ?_
      intro k σ hk
      have hl := shrK_length x s q k
      refine seq (region (det rfl (lss rfl rfl) (nilS ?_)))   -- region 8
      refine seq ?_
      refine cond rfl (fun h => ?_) (fun h => ?_)   -- on t23
      · have h := of_decide_eq_true h
        refine skipS ?_
        refine seq ?_
        refine block ?_   -- block 1
        refine seq (region (det rfl (mv rfl) (det rfl (asg rfl) (nilS ?_))))   -- region 9
        refine seq (region (det rfl (mv rfl) (det rfl (mv rfl) (det rfl (mv rfl) (det rfl (addI rfl rfl (by omega) (by omega)) (det rfl (iadr rfl rfl u_wide_N s_uint64 (by omega) (by omega)) (det rfl (ldB 2 rfl rfl o_uint64 (w64_at (j := k + s) (by omega) (by omega))) (det rfl (mv rfl) (det rfl (shr rfl rfl (by omega)) (det rfl (iadr rfl rfl u_wide_N s_uint64 (by omega) (by omega)) (sto1 0 k rfl rfl rfl s_uint64 rfl (by omega) (by rw [w64_length]; omega) w64_set (nilS ?_))))))))))))   -- region 10
        refine seq (region (det rfl (mv rfl) (det rfl (gtr rfl rfl) (det rfl (mv rfl) ?_))))
        by_cases c1 : 0 < q
        · have c1' : (0 : Int) < q := by omega
          refine guardT rfl (vb (decide_eq_true c1')) (det rfl (mv rfl) ?_)
          refine guardT rfl (vb (decide_eq_true c1')) (det rfl (mv rfl) ?_)
          refine guardT rfl (vb (decide_eq_true c1')) (det rfl (addI rfl rfl (by omega) (by omega)) ?_)
          refine guardT rfl (vb (decide_eq_true c1')) (det rfl (addI rfl rfl (by omega) (by omega)) ?_)
          refine guardT rfl (vb (decide_eq_true c1')) (det rfl (lss rfl rfl) ?_)
          refine det rfl (pick (vb (decide_eq_true c1')) rfl) (nilS ?_)
          refine cond rfl (fun h => ?_) (fun h => ?_)   -- on t42
          · have h := of_decide_eq_true h
            refine draw (m := 14) mix (by kernel_rfl) (take 0 rfl (by kernel_rfl) rfl (mv rfl) (take 1 rfl (by kernel_rfl) rfl (iadr rfl rfl u_wide_N s_uint64 (by omega) (by omega)) (take 2 rfl (by kernel_rfl) rfl (ldB 0 rfl rfl o_uint64 (w64_at (j := k) (by omega) (by rw [List.length_set]; omega))) (take 3 rfl (by kernel_rfl) rfl (mv rfl) (take 4 rfl (by kernel_rfl) rfl (mv rfl) (take 5 rfl (by kernel_rfl) rfl (addI rfl rfl (by omega) (by omega)) (take 6 rfl (by kernel_rfl) rfl (addI rfl rfl (by omega) (by omega)) (take 7 rfl (by kernel_rfl) rfl (iadr rfl rfl u_wide_N s_uint64 (by omega) (by omega)) (take 8 rfl (by kernel_rfl) rfl (ldB 2 rfl rfl o_uint64 (w64_at (j := k + s + 1) (by omega) (by omega))) (take 9 rfl (by kernel_rfl) rfl (mv rfl) (take 10 rfl (by kernel_rfl) rfl (sub rfl rfl) (take 11 rfl (by kernel_rfl) rfl (shl rfl rfl (u64_nn _)) (take 12 rfl (by kernel_rfl) rfl (or rfl rfl) (take 13 rfl (by kernel_rfl) rfl (iadr rfl rfl u_wide_N s_uint64 (by omega) (by omega)) ((tail (by kernel_rfl) rfl (sto1 0 k rfl rfl rfl s_uint64 rfl (by omega) (by rw [w64_length, List.length_set]; omega) w64_set (nil ?_))))))))))))))))))   -- region 12
            show Tr _ _ _ _ _ _ _
            refine region (det rfl (addI rfl rfl (by omega) (by omega)) (det rfl (mv rfl) (nil ?_)))   -- region 13
            refine again (k + 1) (by omega) ⟨rfl, rfl, rfl, rfl, rfl, rfl, rfl, trivial⟩ (fun w hm => ?_) (by (first | omega | (dsimp only; omega)))
            have e : shrK x s q (k + 1) = (shrK x s q k).set k _ := congrArg (List.set _ k) (if_pos ⟨by omega, by omega⟩ : shrV x s q k = _)
            have e2 : ((shrK x s q k).set k (bshr .u64 (x.getD (k + s) 0) q)).getD k 0 = bshr .u64 (x.getD (k + s) 0) q := by simp [show k < (shrK x s q k).length by omega]
            have e3 : ∀ y, ((shrK x s q k).set k (bshr .u64 (x.getD (k + s) 0) q)).set k y = (shrK x s q k).set k y := fun y => List.set_set ..
            have hm2 : M _ [.blk b2 (ob (w64 (((shrK x s q k).set k (bshr .u64 (x.getD (k + s) 0) q)).set k (bor .u64 (((shrK x s q k).set k (bshr .u64 (x.getD (k + s) 0) q)).getD k 0) (bshl .u64 (x.getD (k + s + 1) 0) (IntKind.u64.wrap (64 - q)).toNat)))) T_wide_N), _, _] _ w := hm
            rw [e2, e3, ← e] at hm2; exact hm2
          · have h := of_decide_eq_false h
            refine skip ?_
            show Tr _ _ _ _ _ _ _
            refine region (det rfl (addI rfl rfl (by omega) (by omega)) (det rfl (mv rfl) (nil ?_)))
            refine again (k + 1) (by omega) ⟨rfl, rfl, rfl, rfl, rfl, rfl, rfl, trivial⟩ (fun w hm => ?_) (by (first | omega | (dsimp only; omega)))
            have e : shrK x s q (k + 1) = (shrK x s q k).set k _ := congrArg (List.set _ k) (if_neg (by omega) : shrV x s q k = _)
            show M _ [.blk b2 (ob (w64 (shrK x s q (k + 1))) T_wide_N), _, _] _ w
            rw [e]; exact hm
        · have c1' : ¬ (0 : Int) < q := by omega
          repeat (first | refine guardF rfl (vb (decide_eq_false c1')) rfl ?_ | refine guardU rfl rfl rfl ?_)
          refine det rfl (pick (vb (decide_eq_false c1')) rfl) (nilS ?_)
          refine condF rfl ?_
          refine skip ?_
          show Tr _ _ _ _ _ _ _
          refine region (det rfl (addI rfl rfl (by omega) (by omega)) (det rfl (mv rfl) (nil ?_)))
          refine again (k + 1) (by omega) ⟨rfl, rfl, rfl, rfl, rfl, rfl, rfl, trivial⟩ (fun w hm => ?_) (by (first | omega | (dsimp only; omega)))
          have e : shrK x s q (k + 1) = (shrK x s q k).set k _ := congrArg (List.set _ k) (if_neg (by omega) : shrV x s q k = _)
          show M _ [.blk b2 (ob (w64 (shrK x s q (k + 1))) T_wide_N), _, _] _ w
          rw [e]; exact hm
      · have h := of_decide_eq_false h
        have e4 : k = 4 - s := by omega
        rw [← e4]
        refine exit ?_   -- 0
        show Tr _ _ _ _ _ _ _
        refine seq (region (det rfl (ldAll 0 rfl rfl g_wide_N (by rw [w64_length, hl])) (stoA 1 rfl rfl rfl s_wide_N (by rw [w64_length, hl]) (w64_one _) rfl (nilS ?_))))   -- region 14
        exact ret (retN rfl (shrK_length _ _ _ _) 1 rfl rfl rfl pr)
end Go.Proofs.YtmcapgjdflohfaaGreat.L

namespace Go.Proofs.YtmcapgjdflohfaaGreat.L
open Go Go.RowKit
set_option linter.unusedVariables false

/-- An id's work against the target; its level. -/
def okW (i t : List UInt8) : Bool := decide (cmpN (ofN i 4) (ofN t 4) 4 ≤ 0)
def levF (x t : List Int) : Nat → Nat → Int
  | 0, n => (n : Int) - 1
  | r + 1, n => if 0 < cmpN x (shrN t n) 4 then (n : Int) - 1 else levF x t r (n + 1)
def levW (i t : List UInt8) : Int := levF (ofN i 4) (ofN t 4) 256 0
theorem levF_range (x t : List Int) (r n : Nat) : (n : Int) - 1 ≤ levF x t r n ∧ levF x t r n ≤ n + r - 1 := by
  induction r generalizing n with
  | zero => simp only [levF]; omega
  | succ r ih =>
    simp only [levF]
    split
    · omega
    · have := ih (n + 1); omega
theorem levW_range (i t : List UInt8) : -1 ≤ levW i t ∧ levW i t ≤ 255 := by
  have := levF_range (ofN i 4) (ofN t 4) 256 0
  unfold levW; omega

theorem work_Ok_ (i t : List UInt8) (hi : i.length = 32) (ht : t.length = 32) : Pure PP N_work_Ok #[ag (b8 i), ag (b8 t)] (.bool (okW i t)) := by
  refine enter0 f_work_Ok rfl n_work_Ok rfl fun w => ?_
  refine seq (region (box rfl rfl rfl fun b0 => box rfl rfl rfl fun b1 => det rfl (asg rfl) (nilS ?_)))   -- region 0
  refine seq (draw (m := 7) mix (by kernel_rfl) (take 0 rfl (by kernel_rfl) rfl (ldAll 1 rfl rfl g_api_Hash (by rw [b8_length]; exact hi)) (take 2 rfl (by kernel_rfl) rfl (ldAll 0 rfl rfl g_api_Hash (by rw [b8_length]; exact ht)) (only 1 rfl (by kernel_rfl) rfl k_wide_Of rfl rfl (fun w _ => wide_Of_ i hi w) (only 3 rfl (by kernel_rfl) rfl k_wide_Of rfl rfl (fun w _ => wide_Of_ t ht w) (only 4 rfl (by kernel_rfl) rfl k_wide_Cmp rfl rfl (fun w _ => wide_Cmp_ _ _ (ofN_length _ _) (ofN_length _ _) w) (take 5 rfl (by kernel_rfl) rfl (leq rfl rfl) (take 6 rfl (by kernel_rfl) rfl (asg rfl) ((tail (by kernel_rfl) rfl (nilS ?_)))))))))))   -- region 1
  exact ret (retT rfl rfl pr)
theorem work_Level_ (i t : List UInt8) (hi : i.length = 32) (ht : t.length = 32) : Pure PP N_work_Level #[ag (b8 i), ag (b8 t)] (.int .i64 (levW i t)) := by
  refine enter0 f_work_Level rfl n_work_Level rfl fun w => ?_
  refine seq (region (box rfl rfl rfl fun b0 => box rfl rfl rfl fun b1 => det rfl (asg rfl) (nilS ?_)))   -- region 0
  refine cutV (ι := Nat × Nat) (fun _ => True) (fun p => [(5, .pointer (some ⟨p.1, 0, none⟩)), (6, .pointer (some ⟨p.2, 0, none⟩))]) (fun p => [.blk p.2 (ob (w64 (ofN t 4)) T_wide_N), .blk p.1 (ob (w64 (ofN i 4)) T_wide_N)]) (fun _ => []) ?_ ?_
  ·
    refine draw (m := 6) mix (by kernel_rfl) ?_
    refine take 0 rfl (by kernel_rfl) rfl (ldAll 1 rfl rfl g_api_Hash (by rw [b8_length]; exact hi)) ?_
    refine take 2 rfl (by kernel_rfl) rfl (ldAll 0 rfl rfl g_api_Hash (by rw [b8_length]; exact ht)) ?_
    refine fork3 1 4 5 (by kernel_rfl) ?_ ?_ ?_
    · refine canP 1 rfl rfl k_wide_Of rfl rfl (fun w _ => wide_Of_ i hi w) ?_
      refine fork3 3 4 5 (by kernel_rfl) ?_ ?_ ?_
      · refine canP 3 rfl rfl k_wide_Of rfl rfl (fun w _ => wide_Of_ t ht w) ?_
        refine fork2 4 5 (by kernel_rfl) ?_ ?_
        · refine canA 4 rfl rfl z_wide_N rfl rfl fun b2 => ?_
          refine only1 5 (by kernel_rfl) (canA 5 rfl rfl z_wide_N rfl rfl fun b3 => ?_)
          exact tail (by kernel_rfl) rfl (stoA 1 rfl rfl rfl s_wide_N (by rw [w64_length, ofN_length]) (w64_one _) rfl (stoA 0 rfl rfl rfl s_wide_N (by rw [w64_length, ofN_length]) (w64_one _) rfl (nil (meets (b2, b3) trivial ⟨rfl, rfl, trivial⟩ (fun w hm => pA hm)))))
        · refine canA 5 rfl rfl z_wide_N rfl rfl fun b4 => ?_
          refine only1 4 (by kernel_rfl) (canA 4 rfl rfl z_wide_N rfl rfl fun b5 => ?_)
          exact tail (by kernel_rfl) rfl (stoA 0 rfl rfl rfl s_wide_N (by rw [w64_length, ofN_length]) (w64_one _) rfl (stoA 1 rfl rfl rfl s_wide_N (by rw [w64_length, ofN_length]) (w64_one _) rfl (nil (meets (b5, b4) trivial ⟨rfl, rfl, trivial⟩ (fun w hm => pB hm)))))
      · refine canA 4 rfl rfl z_wide_N rfl rfl fun b6 => ?_
        refine fork2 3 5 (by kernel_rfl) ?_ ?_
        · refine canP 3 rfl rfl k_wide_Of rfl rfl (fun w _ => wide_Of_ t ht w) ?_
          refine only1 5 (by kernel_rfl) (canA 5 rfl rfl z_wide_N rfl rfl fun b7 => ?_)
          exact tail (by kernel_rfl) rfl (stoA 1 rfl rfl rfl s_wide_N (by rw [w64_length, ofN_length]) (w64_one _) rfl (stoA 0 rfl rfl rfl s_wide_N (by rw [w64_length, ofN_length]) (w64_one _) rfl (nil (meets (b6, b7) trivial ⟨rfl, rfl, trivial⟩ (fun w hm => pA hm)))))
        · refine canA 5 rfl rfl z_wide_N rfl rfl fun b8 => ?_
          refine only1 3 (by kernel_rfl) (canP 3 rfl rfl k_wide_Of rfl rfl (fun w _ => wide_Of_ t ht w) ?_)
          exact tail (by kernel_rfl) rfl (stoA 1 rfl rfl rfl s_wide_N (by rw [w64_length, ofN_length]) (w64_one _) rfl (stoA 0 rfl rfl rfl s_wide_N (by rw [w64_length, ofN_length]) (w64_one _) rfl (nil (meets (b6, b8) trivial ⟨rfl, rfl, trivial⟩ (fun w hm => pA hm)))))
      · refine canA 5 rfl rfl z_wide_N rfl rfl fun b9 => ?_
        refine fork2 3 4 (by kernel_rfl) ?_ ?_
        · refine canP 3 rfl rfl k_wide_Of rfl rfl (fun w _ => wide_Of_ t ht w) ?_
          refine only1 4 (by kernel_rfl) (canA 4 rfl rfl z_wide_N rfl rfl fun b10 => ?_)
          exact tail (by kernel_rfl) rfl (stoA 0 rfl rfl rfl s_wide_N (by rw [w64_length, ofN_length]) (w64_one _) rfl (stoA 1 rfl rfl rfl s_wide_N (by rw [w64_length, ofN_length]) (w64_one _) rfl (nil (meets (b10, b9) trivial ⟨rfl, rfl, trivial⟩ (fun w hm => pB hm)))))
        · refine canA 4 rfl rfl z_wide_N rfl rfl fun b11 => ?_
          refine only1 3 (by kernel_rfl) (canP 3 rfl rfl k_wide_Of rfl rfl (fun w _ => wide_Of_ t ht w) ?_)
          exact tail (by kernel_rfl) rfl (stoA 0 rfl rfl rfl s_wide_N (by rw [w64_length, ofN_length]) (w64_one _) rfl (stoA 1 rfl rfl rfl s_wide_N (by rw [w64_length, ofN_length]) (w64_one _) rfl (nil (meets (b11, b9) trivial ⟨rfl, rfl, trivial⟩ (fun w hm => pB hm)))))
    · refine canA 4 rfl rfl z_wide_N rfl rfl fun b12 => ?_
      refine fork2 1 5 (by kernel_rfl) ?_ ?_
      · refine canP 1 rfl rfl k_wide_Of rfl rfl (fun w _ => wide_Of_ i hi w) ?_
        refine fork2 3 5 (by kernel_rfl) ?_ ?_
        · refine canP 3 rfl rfl k_wide_Of rfl rfl (fun w _ => wide_Of_ t ht w) ?_
          refine only1 5 (by kernel_rfl) (canA 5 rfl rfl z_wide_N rfl rfl fun b13 => ?_)
          exact tail (by kernel_rfl) rfl (stoA 1 rfl rfl rfl s_wide_N (by rw [w64_length, ofN_length]) (w64_one _) rfl (stoA 0 rfl rfl rfl s_wide_N (by rw [w64_length, ofN_length]) (w64_one _) rfl (nil (meets (b12, b13) trivial ⟨rfl, rfl, trivial⟩ (fun w hm => pA hm)))))
        · refine canA 5 rfl rfl z_wide_N rfl rfl fun b14 => ?_
          refine only1 3 (by kernel_rfl) (canP 3 rfl rfl k_wide_Of rfl rfl (fun w _ => wide_Of_ t ht w) ?_)
          exact tail (by kernel_rfl) rfl (stoA 1 rfl rfl rfl s_wide_N (by rw [w64_length, ofN_length]) (w64_one _) rfl (stoA 0 rfl rfl rfl s_wide_N (by rw [w64_length, ofN_length]) (w64_one _) rfl (nil (meets (b12, b14) trivial ⟨rfl, rfl, trivial⟩ (fun w hm => pA hm)))))
      · refine canA 5 rfl rfl z_wide_N rfl rfl fun b15 => ?_
        refine only1 1 (by kernel_rfl) (canP 1 rfl rfl k_wide_Of rfl rfl (fun w _ => wide_Of_ i hi w) ?_)
        refine only1 3 (by kernel_rfl) (canP 3 rfl rfl k_wide_Of rfl rfl (fun w _ => wide_Of_ t ht w) ?_)
        exact tail (by kernel_rfl) rfl (stoA 1 rfl rfl rfl s_wide_N (by rw [w64_length, ofN_length]) (w64_one _) rfl (stoA 0 rfl rfl rfl s_wide_N (by rw [w64_length, ofN_length]) (w64_one _) rfl (nil (meets (b12, b15) trivial ⟨rfl, rfl, trivial⟩ (fun w hm => pA hm)))))
    · refine canA 5 rfl rfl z_wide_N rfl rfl fun b16 => ?_
      refine fork2 1 4 (by kernel_rfl) ?_ ?_
      · refine canP 1 rfl rfl k_wide_Of rfl rfl (fun w _ => wide_Of_ i hi w) ?_
        refine fork2 3 4 (by kernel_rfl) ?_ ?_
        · refine canP 3 rfl rfl k_wide_Of rfl rfl (fun w _ => wide_Of_ t ht w) ?_
          refine only1 4 (by kernel_rfl) (canA 4 rfl rfl z_wide_N rfl rfl fun b17 => ?_)
          exact tail (by kernel_rfl) rfl (stoA 0 rfl rfl rfl s_wide_N (by rw [w64_length, ofN_length]) (w64_one _) rfl (stoA 1 rfl rfl rfl s_wide_N (by rw [w64_length, ofN_length]) (w64_one _) rfl (nil (meets (b17, b16) trivial ⟨rfl, rfl, trivial⟩ (fun w hm => pB hm)))))
        · refine canA 4 rfl rfl z_wide_N rfl rfl fun b18 => ?_
          refine only1 3 (by kernel_rfl) (canP 3 rfl rfl k_wide_Of rfl rfl (fun w _ => wide_Of_ t ht w) ?_)
          exact tail (by kernel_rfl) rfl (stoA 0 rfl rfl rfl s_wide_N (by rw [w64_length, ofN_length]) (w64_one _) rfl (stoA 1 rfl rfl rfl s_wide_N (by rw [w64_length, ofN_length]) (w64_one _) rfl (nil (meets (b18, b16) trivial ⟨rfl, rfl, trivial⟩ (fun w hm => pB hm)))))
      · refine canA 4 rfl rfl z_wide_N rfl rfl fun b19 => ?_
        refine only1 1 (by kernel_rfl) (canP 1 rfl rfl k_wide_Of rfl rfl (fun w _ => wide_Of_ i hi w) ?_)
        refine only1 3 (by kernel_rfl) (canP 3 rfl rfl k_wide_Of rfl rfl (fun w _ => wide_Of_ t ht w) ?_)
        exact tail (by kernel_rfl) rfl (stoA 0 rfl rfl rfl s_wide_N (by rw [w64_length, ofN_length]) (w64_one _) rfl (stoA 1 rfl rfl rfl s_wide_N (by rw [w64_length, ofN_length]) (w64_one _) rfl (nil (meets (b19, b16) trivial ⟨rfl, rfl, trivial⟩ (fun w hm => pB hm)))))
  · rintro ⟨b5, b6⟩ σ _
    dsimp only
    refine seq (region (det rfl (asg rfl) (nilS ?_)))   -- region 2
    refine seq ?_
    refine seq (region (det rfl (mv rfl) (nilS ?_)))   -- region 3
    refine block ?_   -- block 0
    refine loopV (ι := Nat) (fun k => k ≤ 256 ∧ levF (ofN i 4) (ofN t 4) (256 - k) k = levW i t) (fun k => [(5, .pointer (some ⟨b5, 0, none⟩)), (6, .pointer (some ⟨b6, 0, none⟩)), (7, .int .i64 ((k : Int) - 1)), (13, .int .i64 k)]) (fun k => [.blk b6 (ob (w64 (ofN t 4)) T_wide_N), .blk b5 (ob (w64 (ofN i 4)) T_wide_N)]) (fun _ => []) (fun k => 256 - k) 0 ⟨by omega, rfl⟩ ⟨rfl, rfl, rfl, rfl, trivial⟩ (fun w hm => hm) ?_
    intro k σ ⟨hk, hc⟩
    refine seq (region (det rfl (lss rfl rfl) (nilS ?_)))   -- region 4
    refine seq ?_
    refine cond rfl (fun h => ?_) (fun h => ?_)   -- on t14
    · have h := of_decide_eq_true h
      refine skipS ?_
      refine seq ?_
      refine block ?_   -- block 1
      refine seq (region (det rfl (mv rfl) (det rfl (asg rfl) (nilS ?_))))   -- region 5
      refine seq ?_
      rw [show 256 - k = (255 - k) + 1 by omega, levF] at hc
      refine seq (draw (m := 6) mix (by kernel_rfl) (take 0 rfl (by kernel_rfl) rfl (ldAll 1 rfl rfl g_wide_N (by rw [w64_length, ofN_length])) (take 1 rfl (by kernel_rfl) rfl (ldAll 0 rfl rfl g_wide_N (by rw [w64_length, ofN_length])) (take 2 rfl (by kernel_rfl) rfl (mv rfl) (only 3 rfl (by kernel_rfl) rfl k_wide_Shr rfl rfl (fun w _ => wide_Shr_ _ (ofN_length _ _) k (by omega) w) (only 4 rfl (by kernel_rfl) rfl k_wide_Cmp rfl rfl (fun w _ => wide_Cmp_ _ _ (ofN_length _ _) (shrN_length _ _ (ofN_length _ _)) w) (take 5 rfl (by kernel_rfl) rfl (gtr rfl rfl) ((tail (by kernel_rfl) rfl (nilS ?_))))))))))   -- region 6
      refine cond rfl (fun h => ?_) (fun h => ?_)   -- on t21
      · have h := of_decide_eq_true h
        refine exit ?_   -- 0
        show Tr _ _ _ _ _ _ _
        refine seq (region (det rfl (mv rfl) (det rfl (asg rfl) (nilS ?_))))   -- region 9
        exact ret (retT rfl rfl (pr' (vi (by rw [← hc, if_pos h]))))
      · have h := of_decide_eq_false h
        refine skipS ?_
        refine region (det rfl (mv rfl) (det rfl (asg rfl) (nil ?_)))   -- region 7
        show Tr _ _ _ _ _ _ _
        refine region (det rfl (addI rfl rfl (by omega) (by omega)) (det rfl (mv rfl) (nil ?_)))   -- region 8
        exact again (k + 1) ⟨by omega, by rw [← hc, if_neg h, show 256 - (k + 1) = 255 - k by omega]⟩ ⟨rfl, rfl, vi (by omega), rfl, trivial⟩ (fun w hm => hm) (by (first | omega | (dsimp only; omega)))
    · have h := of_decide_eq_false h
      refine exit ?_   -- 0
      show Tr _ _ _ _ _ _ _
      refine seq (region (det rfl (mv rfl) (det rfl (asg rfl) (nilS ?_))))   -- region 9
      exact ret (retT rfl rfl (pr' (vi (by rw [show 256 - k = 0 by omega, levF] at hc; exact hc))))
end Go.Proofs.YtmcapgjdflohfaaGreat.L

namespace Go.Proofs.YtmcapgjdflohfaaGreat.L
open Go Go.RowKit

/-- A call that hands back a slice of its own. -/
abbrev RS (w : World) (sz : Nat) (ls : List (List Value)) : Ending → World → Prop := fun e w' =>
  ∃ A cap, e = .returned (.slice A ls.length cap) ∧ Below w.heap.size w w' ∧ Sl sz A ls.length cap ls (fun k => w.heap.size ≤ k ∧ k < w'.heap.size) w'

theorem Sl.mono {sz : Nat} {A : Option Addr} {n cap : Nat} {ls : List (List Value)} {D D' : Nat → Prop} {w : World} (h : Sl sz A n cap ls D w) (hD : ∀ k, D k → D' k) : Sl sz A n cap ls D' w :=
  Sl.stable D D' w w hD (fun _ _ _ => rfl) h
theorem Sl.nil {sz : Nat} {D : Nat → Prop} {w : World} : Sl sz none 0 0 [] D w := ⟨rfl, Nat.le_refl _, by simp [maxLen], fun _ h => (by cases h), fun h => (by omega)⟩

/-- Parts of a slice. -/
theorem Sl.take {sz n cap m : Nat} {A : Option Addr} {ls : List (List Value)} {D : Nat → Prop} {w : World} (h : Sl sz A n cap ls D w) (hm : m ≤ n) : Sl sz A m cap (ls.take m) D w := by
  obtain ⟨h1, h2, h3, h4, h5⟩ := h
  refine ⟨by rw [List.length_take]; omega, by omega, h3, fun l hl => h4 l (List.mem_of_mem_take hl), fun h0 => ?_⟩
  obtain ⟨b, off, hA, hb, hc⟩ := h5 (by omega)
  refine ⟨b, off, hA, hb, fun i l hl j u hu => hc i l ?_ j u hu⟩
  rw [List.getElem?_take] at hl
  split at hl
  · exact hl
  · cases hl
theorem Sl.cut {sz n cap cap' m : Nat} {A : Option Addr} {ls : List (List Value)} {D : Nat → Prop} {w : World} (h : Sl sz A n cap ls D w) (hm : m ≤ n) (hc1 : n - m ≤ cap') (hc2 : cap' ≤ cap) : Sl sz (if cap = m then A else A.map fun a => a.add (m * sz)) (n - m) cap' (ls.drop m) D w := by
  obtain ⟨h1, h2, h3, h4, h5⟩ := h
  refine ⟨by rw [List.length_drop]; omega, by omega, by omega, fun l hl => h4 l (List.mem_of_mem_drop hl), fun h0 => ?_⟩
  obtain ⟨b, off, hA, hb, hc⟩ := h5 (by omega)
  subst hA
  rw [if_neg (by omega)]
  refine ⟨b, off + m * sz, by simp [add0], hb, fun i l hl j u hu => ?_⟩
  rw [List.getElem?_drop] at hl
  have := hc (m + i) l hl j u hu
  rw [Nat.add_mul] at this
  rw [show off + m * sz + i * sz + j = off + (m * sz + i * sz) + j by omega]
  exact this

section
variable {c : Cx} {n : Nat} {Q : Exit → Env → World → Prop} {σ : Env} {H : List Res} {K : List Fact}
variable {d : Option Tmp} {t : TypeId} {p : String} {af : Array Edge} {g : Option (Nat × Bool)}

/-- A slice in a world where it is known. -/
theorem M.sl {w : World} (hm : M c H K w) {k sz m cap : Nat} {A : Option Addr} {ls : List (List Value)} (hk : K[k]? = some (Sl sz A m cap ls)) : ∃ D, (∀ k, D k → k < w.heap.size) ∧ Sl sz A m cap ls D w := by
  obtain ⟨D, d1, d2, d3, d4, d5⟩ := hm.data
  exact ⟨D, d3, d5.at hk⟩
theorem M.slLen {w : World} (hm : M c H K w) {k sz m cap : Nat} {A : Option Addr} {ls : List (List Value)} (hk : K[k]? = some (Sl sz A m cap ls)) : ls.length = m := by
  obtain ⟨D, _, h⟩ := hm.sl hk
  exact h.1

/-- The beginning of a call with slices. -/
theorem M.init1 (P : Program) (w : World) {D : Nat → Prop} {f : Fact} (hf : Stable f) (hD : ∀ k, D k → k < w.heap.size) (h : f D w) : M ⟨P, w, D, []⟩ [] [f] w :=
  M.init P w D [] [f] ⟨hf, trivial⟩ hD ⟨h, trivial⟩

/-- 'xs[:h]', 'xs[l:]' of a slice that is known. -/
theorem slTake {x z : Operand} {tx e : TypeId} {A : Option Addr} {m cap : Nat} {k : IntKind} {h q : Nat} (hu : c.P.underlying tx = some (.slice e)) (hz : (c.P.info? e).map (·.size) = some q) (hx : ev σ x = .slice A m cap) (hh : ev σ z = .int k h) (h1 : h ≤ cap) :
    Det c σ H K ⟨d, .slice tx x none (some z) none, t, p, af, g⟩ (.slice A h cap) := fun w _ => by
  have : (h : Int) ≤ (cap : Int) := by omega
  have e2 : A.map (fun a => a.add 0) = A := by
    cases A with
    | none => rfl
    | some a => simp [Addr.add]
  simp [execOp, hx, hh, Instr.sliceAt, Instr.slice, run_und hu, Instr.sliceBounds, Instr.sliceBound, asIntOf, this, run_size hz, e2]
  intro hc; omega
theorem slDrop {x y : Operand} {tx e : TypeId} {A : Option Addr} {m cap : Nat} {k : IntKind} {l q : Nat} (hu : c.P.underlying tx = some (.slice e)) (hz : (c.P.info? e).map (·.size) = some q) (hx : ev σ x = .slice A m cap) (hl : ev σ y = .int k l) (h1 : l ≤ m) (h2 : m ≤ cap) :
    Det c σ H K ⟨d, .slice tx x (some y) none none, t, p, af, g⟩ (.slice (if cap = l then A else A.map fun a => a.add (l * q)) (m - l) (cap - l)) := fun w _ => by
  have : (l : Int) ≤ (m : Int) := by omega
  simp [execOp, hx, hl, Instr.sliceAt, Instr.slice, run_und hu, Instr.sliceBounds, Instr.sliceBound, asIntOf, this, run_size hz]
  intro hc; omega

/-- A call that hands back a slice of its own. -/
theorem callS {ops : Array Oper} {d : Nat} {f : FuncId} {args : Array Operand} {ats : Array TypeId} {vs : List Value} {l : List Oper} {sz : Nat} {ls : List (List Value)} (hf : Fn c.P f) (ha : args.toList.map (ev σ) = vs) (hd : Nat.blt d n = true)
    (spec : ∀ w, M c H K w → Calls c.P f vs.toArray w (RS w sz ls)) (h : ∀ A cap, TL c n ops l Q (upd σ d (.slice A ls.length cap)) H (Sl sz A ls.length cap ls :: K)) :
    TL c n ops (⟨some d, .call { callee := .value (.func f), args := args, argTypes := ats }, t, p, af, none⟩ :: l) Q σ H K := by
  intro w hm a hr
  refine wpList_run rfl ?_
  rw [hr.eval, hf.run, map_args ha]
  refine (spec w hm).mono ?_
  rintro e w' ⟨A, cap, rfl, hb, hs⟩
  exact h A cap w' (hm.learn Sl.stable (grown_below hb) (fun D _ => hs.mono fun k hk => .inr hk)) _ (hr.put d _ (by simp [Nat.blt] at hd; omega))

/-- A fact that follows from the others. -/
theorem also {x : Code} {f : Fact} (hs : Stable f) (hf : ∀ D w, KAll K D w → f D w) (h : Tr c n x Q σ H (f :: K)) : Tr c n x Q σ H K :=
  fun w hm => h w (hm.also hs fun D hD => hf D w hD)
/-- A fact on blocks that are new since a mark. -/
def Fr (b : Nat) (f : Fact) : Fact := fun D w => f (fun k => D k ∧ b ≤ k) w
theorem Fr.stable {b : Nat} {f : Fact} (hf : Stable f) : Stable (Fr b f) := fun D D' w w' hD hw h => hf _ _ w w' (fun k hk => ⟨hD k hk.1, hk.2⟩) (fun k hk => hw k hk.1) h
theorem callSN {ops : Array Oper} {d : Nat} {f : FuncId} {args : Array Operand} {ats : Array TypeId} {vs : List Value} {l : List Oper} {sz : Nat} {ls : List (List Value)} (hf : Fn c.P f) (ha : args.toList.map (ev σ) = vs) (hd : Nat.blt d n = true)
    (spec : ∀ w, M c H K w → Calls c.P f vs.toArray w (RS w sz ls)) (h : ∀ A cap, TL c n ops l Q (upd σ d (.slice A ls.length cap)) H (Fr c.w0.heap.size (Sl sz A ls.length cap ls) :: K)) :
    TL c n ops (⟨some d, .call { callee := .value (.func f), args := args, argTypes := ats }, t, p, af, none⟩ :: l) Q σ H K := by
  intro w hm a hr
  refine wpList_run rfl ?_
  rw [hr.eval, hf.run, map_args ha]
  refine (spec w hm).mono ?_
  rintro e w' ⟨A, cap, rfl, hb, hs⟩
  exact h A cap w' (hm.learn (Fr.stable Sl.stable) (grown_below hb) (fun D _ => hs.mono fun k hk => ⟨.inr hk, Nat.le_trans hm.size hk.1⟩)) _ (hr.put d _ (by simp [Nat.blt] at hd; omega))
theorem retFr {fn : Func} {s sz m cap : Nat} {A : Option Addr} {ls : List (List Value)} (hr : fn.results = #[.tmp s]) (hS : c.S = []) (hv : σ s = .slice A m cap) (j : Nat) (hk : K[j]? = some (Fr c.w0.heap.size (Sl sz A m cap ls))) :
    ∀ w, M c H K w → post c.P fn n (RS c.w0 sz ls) .ret σ w := fun w hm => by
  obtain ⟨D, d1, d2, d3, d4, d5⟩ := hm.data
  have hs : Sl sz A m cap ls (fun k => D k ∧ c.w0.heap.size ≤ k) w := d5.at hk
  refine ⟨.slice A m cap, fun a ha => by rw [results_tmp hr, ha.val, hv], A, cap, by rw [hs.1], hm.below hS, ?_⟩
  rw [hs.1]
  exact hs.mono fun k hk => ⟨hk.2, d3 k hk.1⟩

/-- The end of such a call: a row of its own is handed back. -/
theorem retRow {fn : Func} {s i sz m : Nat} {v : Value} {e : TypeId} {ls : List (List Value)} (hr : fn.results = #[.tmp s]) (hS : c.S = []) (hv : σ s = v) (hi : H[i]? = some (.row v e sz m ls.flatten)) (hn : ls.length = m) (hl : ∀ l ∈ ls, l.length = sz ∧ one l = true) :
    ∀ w, M c H K w → post c.P fn n (RS c.w0 sz ls) .ret σ w := fun w hm => by
  obtain ⟨A, cap, rfl, hsl⟩ := row_sl (hm.get hi) hl hn
  refine ⟨.slice A m cap, fun a ha => by rw [results_tmp hr, ha.val, hv], A, cap, by rw [hn], hm.below hS, ?_⟩
  rw [hn]
  refine hsl _ fun b hb => ?_
  have := hm.mine b (mem_places.2 ⟨_, List.mem_of_getElem? hi, hb⟩)
  rw [hS] at this
  exact ⟨by simpa using this.1, this.2⟩
/-- A slice that is known, handed back as one's own: its blocks are new. -/
theorem retNil {fn : Func} {s sz : Nat} (hr : fn.results = #[.tmp s]) (hS : c.S = []) (hv : σ s = .slice none 0 0) : ∀ w, M c H K w → post c.P fn n (RS c.w0 sz []) .ret σ w := fun w hm =>
  ⟨.slice none 0 0, fun a ha => by rw [results_tmp hr, ha.val, hv], none, 0, rfl, hm.below hS, Sl.nil⟩

/-- The only one in a drawn region: a call that hands back a slice of its own. -/
theorem onlySN [NoP Q] {ops : Array Oper} {m f : Nat} {listed : Array Bool} (i : Nat) {d : Nat} {fid : FuncId} {args : Array Operand} {ats : Array TypeId} {vs : List Value} {t : TypeId} {p : String} {af : Array Edge} {sz : Nat} {ls : List (List Value)}
    (hi : ops[i]? = some ⟨some d, .call { callee := .value (.func fid), args := args, argTypes := ats }, t, p, af, none⟩)
    (hr1 : Region.ready .any ops listed = [i]) (him : Nat.blt i m = true) (hf : Fn c.P fid) (ha : args.toList.map (ev σ) = vs) (hd : Nat.blt d n = true)
    (spec : ∀ w, M c H K w → Calls c.P fid vs.toArray w (RS w sz ls))
    (h : ∀ A cap, HD c n ops Q m f (listed.setIfInBounds i true) (upd σ d (.slice A ls.length cap)) H (Fr c.w0.heap.size (Sl sz A ls.length cap ls) :: K)) : HD c n ops Q m (f + 1) listed σ H K :=
  onlyC (β := Option Addr × Nat) (fun p => .slice p.1 ls.length p.2) (fun _ => H) (fun p => Fr c.w0.heap.size (Sl sz p.1 ls.length p.2 ls) :: K) i hi hr1 him hf ha hd
    (fun w hm => (spec w hm).mono fun e w' ⟨A, cap, he, hb, hs⟩ => ⟨(A, cap), he, hm.learn (Fr.stable Sl.stable) (grown_below hb) (fun D _ => hs.mono fun k hk => ⟨.inr hk, Nat.le_trans hm.size hk.1⟩)⟩)
    (fun _ _ hm => hm.more) (fun p => h p.1 p.2)
/-- A literal's block is a row of one's own. -/
theorem M.asRow {w : World} (hm : M c H K w) (i : Nat) {b m sz : Nat} {cs : List Value} {e : TypeId} (hi : H[i]? = some (.blk b (ob cs e))) (hS : c.S = []) (hl : cs.length = m * sz) (hmx : m ≤ maxLen) :
    M c (H.set i (.row (.slice (some ⟨b, 0, none⟩) m m) e sz m cs)) K w := by
  refine hm.change i hi ⟨rfl, rfl, rfl, Nat.le_refl _, fun _ _ _ => rfl⟩ ?_ (.inl rfl)
  refine ⟨hl, .inr ⟨b, m, cs.toArray, rfl, ?_, hm.blk i hi, Nat.le_refl _, hmx, by simp [hl], by simp [← hl]⟩⟩
  have := (hm.mine b (mem_places.2 ⟨_, List.mem_of_getElem? hi, rfl⟩)).1
  rw [hS] at this
  simpa using this
/-- A call of a function value. -/
theorem callF {ops : Array Oper} {d s : Nat} {f : FuncId} {args : Array Operand} {ats : Array TypeId} {vs : List Value} {l : List Oper} {v : Value} (hf : Fn c.P f) (hs : σ s = .func (.func f) #[] #[]) (ha : args.toList.map (ev σ) = vs) (hd : Nat.blt d n = true)
    (spec : ∀ w, M c H K w → Calls c.P f vs.toArray w fun e w' => e = .returned v ∧ Below w.heap.size w w') (h : TL c n ops l Q (upd σ d v) H K) :
    TL c n ops (⟨some d, .call { callee := .value (.tmp s), args := args, argTypes := ats }, t, p, af, none⟩ :: l) Q σ H K := by
  intro w hm a hr
  have e : (execOp (ev σ) ⟨some d, .call { callee := .value (.tmp s), args := args, argTypes := ats }, t, p, af, none⟩) = execOp (ev σ) ⟨some d, .call { callee := .value (.func f), args := args, argTypes := ats }, t, p, af, none⟩ := by
    simp only [execOp, resolve, ev, hs]
  refine wpList_run rfl ?_
  rw [hr.eval, e, hf.run, map_args ha]
  refine (spec w hm).mono ?_
  rintro e w' ⟨rfl, hbel⟩
  exact h w' (hm.pure (grown_below hbel)) _ (hr.put d _ (by simp [Nat.blt] at hd; omega))
end

/-- A call that hands back a row of its own. -/
abbrev RO (w : World) (e : TypeId) (sz n : Nat) (xs : List Value) : Ending → World → Prop := fun x w' =>
  ∃ v, x = .returned v ∧ Below w.heap.size w w' ∧ w'.ownsRow w.heap.size e sz v n xs
section
variable {c : Cx} {n : Nat} {Q : Exit → Env → World → Prop} {σ : Env} {H : List Res} {K : List Fact} {t : TypeId} {p : String} {af : Array Edge}
theorem retOwn {fn : Func} {s i sz m : Nat} {v : Value} {e : TypeId} {xs : List Value} (hr : fn.results = #[.tmp s]) (hS : c.S = []) (hv : σ s = v) (hi : H[i]? = some (.row v e sz m xs)) :
    ∀ w, M c H K w → post c.P fn n (RO c.w0 e sz m xs) .ret σ w := fun w hm =>
  ⟨v, fun a ha => by rw [results_tmp hr, ha.val, hv], v, rfl, hm.below hS, hm.get hi⟩
theorem retOwn0 {fn : Func} {s sz : Nat} {e : TypeId} (hr : fn.results = #[.tmp s]) (hS : c.S = []) (hv : σ s = .slice none 0 0) : ∀ w, M c H K w → post c.P fn n (RO c.w0 e sz 0 []) .ret σ w := fun w hm =>
  ⟨.slice none 0 0, fun a ha => by rw [results_tmp hr, ha.val, hv], _, rfl, hm.below hS, World.ownsRow_nil w _ e sz⟩
/-- A row reads as a slice. -/
theorem RO.rs {w : World} {e : TypeId} {sz m : Nat} {ls : List (List Value)} (hn : ls.length = m) (hl : ∀ l ∈ ls, l.length = sz ∧ one l = true) (x : Ending) (w' : World) (h : RO w e sz m ls.flatten x w') : RS w sz ls x w' := by
  obtain ⟨v, rfl, hb, ho⟩ := h
  obtain ⟨A, cap, rfl, hsl⟩ := row_sl ho hl hn
  refine ⟨A, cap, by rw [hn], hb, ?_⟩
  rw [hn]
  refine hsl _ fun b hb' => ?_
  have hlt := (World.ownsRow.lt ho b hb')
  exact hlt
/-- A call that hands back a row of its own: the caller has it. -/
theorem callO {ops : Array Oper} {d : Nat} {f : FuncId} {args : Array Operand} {ats : Array TypeId} {vs : List Value} {l : List Oper} {sz m : Nat} {e : TypeId} {xs : List Value} (hf : Fn c.P f) (ha : args.toList.map (ev σ) = vs) (hd : Nat.blt d n = true)
    (spec : ∀ w, M c H K w → Calls c.P f vs.toArray w (RO w e sz m xs)) (h : ∀ A cap, TL c n ops l Q (upd σ d (.slice A m cap)) (.row (.slice A m cap) e sz m xs :: H) K) :
    TL c n ops (⟨some d, .call { callee := .value (.func f), args := args, argTypes := ats }, t, p, af, none⟩ :: l) Q σ H K := by
  intro w hm a hr
  refine wpList_run rfl ?_
  rw [hr.eval, hf.run, map_args ha]
  refine (spec w hm).mono ?_
  rintro x w' ⟨v, rfl, hb, ho⟩
  have hown : w'.ownsRow c.w0.heap.size e sz v m xs := by
    refine ⟨ho.1, ?_⟩
    rcases ho.2 with h2 | ⟨gg, cap, cur, h2, hge, hrest⟩
    · exact .inl h2
    · exact .inr ⟨gg, cap, cur, h2, Nat.le_trans hm.size hge, hrest⟩
  obtain ⟨A, cap, rfl⟩ : ∃ A cap, v = .slice A m cap := by
    rcases ho.2 with ⟨rfl, h0⟩ | ⟨gg, cap, cur, rfl, _⟩
    · exact ⟨none, 0, by rw [h0]⟩
    · exact ⟨_, cap, rfl⟩
  refine h A cap w' (hm.add (grown_below hb) hown ?_) _ (hr.put d _ (by simp [Nat.blt] at hd; omega))
  rcases ho.2 with ⟨h2, _⟩ | ⟨gg, cap', cur, h2, hge, _⟩
  · cases h2; exact .inl rfl
  · cases h2; exact .inr ⟨gg, rfl, hge⟩
end
end Go.Proofs.YtmcapgjdflohfaaGreat.L

namespace Mp

/-- How many leaves of a tree stand on its left side. -/
def left (n : Nat) : Nat := if n < 2 then 0 else 2 ^ Nat.log2 (n - 1)

theorem left_pos {n : Nat} (h : 2 ≤ n) : 0 < left n := by
  unfold left; rw [if_neg (by omega)]; exact Nat.pos_of_ne_zero (by simp)

theorem left_lt {n : Nat} (h : 2 ≤ n) : left n < n := by
  unfold left; rw [if_neg (by omega)]
  have := Nat.log2_self_le (n := n - 1) (by omega)
  omega

theorem left_half {n : Nat} (h : 2 ≤ n) : n - 1 < 2 * left n := by
  unfold left; rw [if_neg (by omega)]
  have := Nat.lt_log2_self (n := n - 1)
  rw [Nat.pow_succ] at this
  omega

/-- From a leaf up: whether it stands on the right. -/
def sides (n i : Nat) : List Bool :=
  if h : n < 2 then [] else
  have : left n < n := left_lt (by omega)
  have : 0 < left n := left_pos (by omega)
  if left n ≤ i then sides (n - left n) (i - left n) ++ [true] else sides (left n) i ++ [false]
  termination_by n

theorem sides_small (n i : Nat) (h : n < 2) : sides n i = [] := by rw [sides, dif_pos h]
theorem sides_step (n i : Nat) (h : ¬ n < 2) : sides n i = if left n ≤ i then sides (n - left n) (i - left n) ++ [true] else sides (left n) i ++ [false] := by rw [sides, dif_neg h]

section
variable {H : Type} (d : H) (N : H → H → H)

/-- The sum at the top. -/
def top (l : List H) : H :=
  if h : l.length < 2 then l.headD d else
  have : left l.length < l.length := left_lt (by omega)
  have : 0 < left l.length := left_pos (by omega)
  N (top (l.take (left l.length))) (top (l.drop (left l.length)))
  termination_by l.length
  decreasing_by
  · simp; omega
  · simp; omega

/-- The sums beside the way from a leaf up. -/
def path (l : List H) (i : Nat) : List H :=
  if h : l.length < 2 then [] else
  have : left l.length < l.length := left_lt (by omega)
  have : 0 < left l.length := left_pos (by omega)
  if i < left l.length then path (l.take (left l.length)) i ++ [top d N (l.drop (left l.length))]
  else path (l.drop (left l.length)) (i - left l.length) ++ [top d N (l.take (left l.length))]
  termination_by l.length
  decreasing_by
  · simp; omega
  · simp; omega

/-- The sum above one, with what stands beside it. -/
def above (at_ : H) (s : Bool × H) : H := if s.1 then N s.2 at_ else N at_ s.2

/-- All sums from a leaf's up. -/
def ups (at_ : H) : List (Bool × H) → List H
  | [] => [at_]
  | s :: r => at_ :: ups (above N at_ s) r

theorem top_small (l : List H) (h : l.length < 2) : top d N l = l.headD d := by rw [top, dif_pos h]
theorem top_step (l : List H) (h : ¬ l.length < 2) : top d N l = N (top d N (l.take (left l.length))) (top d N (l.drop (left l.length))) := by rw [top, dif_neg h]
theorem path_small (l : List H) (i : Nat) (h : l.length < 2) : path d N l i = [] := by rw [path, dif_pos h]
theorem path_step (l : List H) (i : Nat) (h : ¬ l.length < 2) : path d N l i =
    if i < left l.length then path d N (l.take (left l.length)) i ++ [top d N (l.drop (left l.length))]
    else path d N (l.drop (left l.length)) (i - left l.length) ++ [top d N (l.take (left l.length))] := by rw [path, dif_neg h]

theorem path_length (l : List H) (i : Nat) (hi : i < l.length) : (path d N l i).length = (sides l.length i).length := by
  induction hn : l.length using Nat.strongRecOn generalizing l i with
  | _ n ih =>
    subst hn
    by_cases h : l.length < 2
    · rw [path_small d N l i h, sides_small _ _ h]; rfl
    · rw [path_step d N l i h, sides_step _ _ h]
      have h1 := left_lt (n := l.length) (by omega)
      have h2 := left_pos (n := l.length) (by omega)
      by_cases e : i < left l.length
      · rw [if_pos e, if_neg (by omega)]
        have := ih (left l.length) h1 (l.take (left l.length)) i (by simp; omega) (by simp; omega)
        simp [this]
      · rw [if_neg e, if_pos (by omega)]
        have := ih (l.length - left l.length) (by omega) (l.drop (left l.length)) (i - left l.length) (by simp; omega) (by simp)
        simp [this]

/-- Folding a leaf's path up comes to the top. -/
theorem fold_path (l : List H) (i : Nat) (hi : i < l.length) : ((sides l.length i).zip (path d N l i)).foldl (above N) (l.getD i d) = top d N l := by
  induction hn : l.length using Nat.strongRecOn generalizing l i with
  | _ n ih =>
    subst hn
    have hpl := path_length d N l i hi
    by_cases h : l.length < 2
    · rw [path_small d N l i h, sides_small _ _ h, top_small d N l h]
      match l, hi, h with
      | [x], hi, _ => have : i = 0 := by simpa using hi
                      subst this; simp
    · rw [path_step d N l i h, sides_step _ _ h, top_step d N l h]
      rw [path_step d N l i h, sides_step _ _ h] at hpl
      have h1 := left_lt (n := l.length) (by omega)
      have h2 := left_pos (n := l.length) (by omega)
      by_cases e : i < left l.length
      · rw [if_pos e, if_neg (by omega)]
        rw [if_pos e, if_neg (by omega)] at hpl
        have hl : (l.take (left l.length)).length = left l.length := by simp; omega
        have ih := ih (left l.length) h1 (l.take (left l.length)) i (by omega) hl
        simp only [List.length_append, List.length_cons, List.length_nil] at hpl
        rw [List.zip_append (by omega), List.foldl_append]
        have hg : (l.take (left l.length)).getD i d = l.getD i d := by simp [List.getD, e]
        rw [hg] at ih
        rw [ih]; rfl
      · rw [if_neg e, if_pos (by omega)]
        rw [if_neg e, if_pos (by omega)] at hpl
        have hl : (l.drop (left l.length)).length = l.length - left l.length := by simp
        have ih := ih (l.length - left l.length) (by omega) (l.drop (left l.length)) (i - left l.length) (by omega) hl
        simp only [List.length_append, List.length_cons, List.length_nil] at hpl
        rw [List.zip_append (by omega), List.foldl_append]
        have hg : (l.drop (left l.length)).getD (i - left l.length) d = l.getD i d := by
          simp only [List.getD, List.getElem?_drop]; rw [show left l.length + (i - left l.length) = i from by omega]
        rw [hg] at ih
        rw [ih]; rfl

theorem ups_getLast (at_ : H) (s : List (Bool × H)) : (ups N at_ s).getLast? = some (s.foldl (above N) at_) := by
  induction s generalizing at_ with
  | nil => rfl
  | cons x r ih =>
    simp only [ups, List.foldl_cons]
    rw [List.getLast?_cons, ih]; rfl

theorem ups_length (at_ : H) (s : List (Bool × H)) : (ups N at_ s).length = s.length + 1 := by
  induction s generalizing at_ with
  | nil => rfl
  | cons x r ih => simp [ups, ih]
end

theorem left_le_pow {n k : Nat} (h : 2 ≤ n) (hk : n ≤ 2 ^ (k + 1)) : left n ≤ 2 ^ k := by
  unfold left; rw [if_neg (by omega)]
  have : Nat.log2 (n - 1) < k + 1 := (Nat.log2_lt (by omega)).2 (by omega)
  exact Nat.pow_le_pow_right (by omega) (by omega)

theorem sides_length_le (k n i : Nat) (h : n ≤ 2 ^ k) : (sides n i).length ≤ k := by
  induction k generalizing n i with
  | zero => rw [sides_small _ _ (by simp at h; omega)]; simp
  | succ k ih =>
    by_cases h2 : n < 2
    · rw [sides_small _ _ h2]; simp
    · rw [sides_step _ _ h2]
      have h1 := left_le_pow (n := n) (k := k) (by omega) h
      have h3 := left_half (n := n) (by omega)
      split
      · have := ih (n - left n) (i - left n) (by omega)
        simp only [List.length_append, List.length_cons, List.length_nil]; omega
      · have := ih (left n) i h1
        simp only [List.length_append, List.length_cons, List.length_nil]; omega
end Mp

namespace Go.Proofs.YtmcapgjdflohfaaGreat.L
open Go Go.RowKit
set_option linter.unusedVariables false

/-- Lists of texts, of hashes, as slices' elements. -/
def tl (xs : List (List UInt8)) : List (List Value) := xs.map fun x => [.string (bs x)]
def hl (xs : List (List UInt8)) : List (List Value) := xs.map b8
theorem tl_length (xs : List (List UInt8)) : (tl xs).length = xs.length := by simp [tl]
theorem hl_length (xs : List (List UInt8)) : (hl xs).length = xs.length := by simp [hl]
theorem tl_flat (xs : List (List UInt8)) : (tl xs).flatten = tx xs := by
  induction xs with
  | nil => rfl
  | cons x r ih => simp only [tl, tx, List.map_cons, List.flatten_cons] at *; rw [ih]; rfl
theorem tl_ok (xs : List (List UInt8)) : ∀ l ∈ tl xs, l.length = 1 ∧ one l = true := by
  intro l h; obtain ⟨x, _, rfl⟩ := List.mem_map.1 h; exact ⟨rfl, rfl⟩
theorem hl_ok {xs : List (List UInt8)} (hx : ∀ x ∈ xs, x.length = 32) : ∀ l ∈ hl xs, l.length = 32 ∧ one l = true := by
  intro l h; obtain ⟨x, hm, rfl⟩ := List.mem_map.1 h; exact ⟨by rw [b8_length]; exact hx x hm, b8_one _⟩
theorem tl_at {xs : List (List UInt8)} {o j : Nat} (ho : o = j) (h : j < xs.length) : (tl xs)[o]? = some [.string (bs (xs.getD j []))] := by
  subst ho; simp [tl, h]
theorem hl_at {xs : List (List UInt8)} {o j : Nat} (ho : o = j) (h : j < xs.length) : (hl xs)[o]? = some (b8 (xs.getD j [])) := by
  subst ho; simp [hl, h]
theorem take_map {α β : Type} {f : α → β} {xs : List α} {d : α} {k : Nat} (h : k < xs.length) : (xs.take (k + 1)).map f = (xs.take k).map f ++ [f (xs.getD k d)] := by
  rw [List.take_succ_eq_append_getElem h, List.map_append]
  congr 1; simp [h]
theorem tx_app (a : List (List UInt8)) (b : List UInt8) : tx (a ++ [b]) = tx a ++ [.string (bs b)] := by simp [tx]
theorem hl_app (a : List (List UInt8)) (b : List UInt8) : (hl (a ++ [b])).flatten = (hl a).flatten ++ b8 b := by simp [hl]
theorem getD_mem {xs : List (List UInt8)} {k : Nat} (h : k < xs.length) : xs.getD k [] ∈ xs := by
  simp [h]

theorem txs_texts_ (xs : List (List UInt8)) (hn : xs.length ≤ 100000) (hx : ∀ x ∈ xs, x.length ≤ 100000000) (A : Option Addr) (cap : Nat) (D : Nat → Prop) (w : World) (hD : ∀ k, D k → k < w.heap.size) (hs : Sl 1 A xs.length cap (tl xs) D w) :
    Calls PP N_txs_texts #[.slice A xs.length cap] w (RS w 1 (tl (xs.map (84 :: ·)))) := by
  refine enter f_txs_texts rfl n_txs_texts rfl (M.init1 PP w Sl.stable hD hs) ?_
  refine seq (region (det rfl (asg rfl) (nilS ?_)))   -- region 0
  refine seq (region (det rfl (asg rfl) (nilS ?_)))   -- region 1
  refine seq ?_
  refine seq (region (det rfl (mv rfl) (det rfl (lenS u_sl_string rfl) (det rfl (mv rfl) (nilS ?_)))))   -- region 2
  refine block ?_   -- block 0
  refine loopV (ι := Nat × Option Addr × Nat) (fun (k, _, _) => k ≤ xs.length) (fun (k, B, q) => [(3, .slice B k q), (6, .slice A xs.length cap), (7, .int .i64 xs.length), (8, .int .i64 k)]) (fun (k, B, q) => [.row (.slice B k q) T_string 1 k (tx ((xs.take k).map (84 :: ·)))]) (fun _ => [Sl 1 A xs.length cap (tl xs)]) (fun (k, _, _) => xs.length - k) (0, none, 0) (by omega) ⟨rfl, rfl, rfl, rfl, trivial⟩ (fun w hm => hm.nilRow _ _) ?_
  rintro ⟨k, B, q⟩ σ hk
  dsimp only at hk ⊢
  refine seq (region (det rfl (lss rfl rfl) (nilS ?_)))   -- region 3
  refine seq ?_
  refine cond rfl (fun h => ?_) (fun h => ?_)   -- on t9
  · have h := of_decide_eq_true h
    refine skipS ?_
    refine seq ?_
    refine block ?_   -- block 1
    refine seq (region (det rfl (ixS 0 rfl rfl u_sl_string s_string rfl (by omega) (by omega)) (det rfl (ldSO 0 rfl rfl o_string (tl_at (j := k) (by omega) (by omega))) (det rfl (asg rfl) (nilS ?_)))))   -- region 4
    refine region (det rfl (mv rfl) (det rfl (mv rfl) (call k_txs_Text rfl rfl (fun w _ => txs_Text_ _ (Nat.le_trans (hx _ (getD_mem (by omega))) (by omega)) w) (bsl rfl (bs1 u_sl_string z_string s_string (cs := [.string (bs (84 :: xs.getD k []))]) rfl rfl rfl (by decide) (by decide)) fun b0 => appB 1 0 u_sl_string i_string rfl (by decide) rfl rfl rfl rfl rfl rfl (by simp only [maxLen]; omega) (by omega) rfl fun A cap => det rfl (asg rfl) (nil ?_)))))   -- region 5
    show Tr _ _ _ _ _ _ _
    refine region (det rfl (addI rfl rfl (by omega) (by omega)) (det rfl (mv rfl) (nil ?_)))   -- region 6
    refine again (k + 1, _, _) (by (first | omega | (dsimp only; omega))) ⟨rfl, rfl, rfl, rfl, trivial⟩ (fun w hm => ?_) (by (first | omega | (dsimp only; omega)))
    dsimp only
    rw [take_map (d := []) (by omega), tx_app]
    exact drop1 hm
  · have h := of_decide_eq_false h
    have e : k = xs.length := by omega
    subst e
    refine exit ?_   -- 0
    show Tr _ _ _ _ _ _ _
    rw [List.take_length]
    refine seq (region (det rfl (mv rfl) (det rfl (asg rfl) (nilS ?_))))   -- region 7
    exact ret (retRow (i := 0) rfl rfl rfl (by rw [tl_flat]; rfl) (by rw [tl_length, List.length_map]) (tl_ok _))
theorem link_texts_ (xs : List (List UInt8)) (hn : xs.length ≤ 100000) (hx : ∀ x ∈ xs, x.length = 32) (A : Option Addr) (cap : Nat) (D : Nat → Prop) (w : World) (hD : ∀ k, D k → k < w.heap.size) (hs : Sl 32 A xs.length cap (hl xs) D w) :
    Calls PP N_link_texts #[.slice A xs.length cap] w (RS w 1 (tl (xs.map (76 :: ·)))) := by
  refine enter f_link_texts rfl n_link_texts rfl (M.init1 PP w Sl.stable hD hs) ?_
  refine seq (region (det rfl (asg rfl) (nilS ?_)))   -- region 0
  refine seq (region (det rfl (asg rfl) (nilS ?_)))   -- region 1
  refine seq ?_
  refine seq (region (det rfl (mv rfl) (det rfl (lenS u_sl_api_Hash rfl) (det rfl (mv rfl) (nilS ?_)))))   -- region 2
  refine block ?_   -- block 0
  refine loopV (ι := Nat × Option Addr × Nat) (fun (k, _, _) => k ≤ xs.length) (fun (k, B, q) => [(3, .slice B k q), (6, .slice A xs.length cap), (7, .int .i64 xs.length), (8, .int .i64 k)]) (fun (k, B, q) => [.row (.slice B k q) T_string 1 k (tx ((xs.take k).map (76 :: ·)))]) (fun _ => [Sl 32 A xs.length cap (hl xs)]) (fun (k, _, _) => xs.length - k) (0, none, 0) (by omega) ⟨rfl, rfl, rfl, rfl, trivial⟩ (fun w hm => hm.nilRow _ _) ?_
  rintro ⟨k, B, q⟩ σ hk
  dsimp only at hk ⊢
  refine seq (region (det rfl (lss rfl rfl) (nilS ?_)))   -- region 3
  refine seq ?_
  refine cond rfl (fun h => ?_) (fun h => ?_)   -- on t9
  · have h := of_decide_eq_true h
    refine skipS ?_
    refine seq ?_
    refine block ?_   -- block 1
    have e32 : (b8 (xs.getD k [])).length = 32 := by rw [b8_length]; exact hx _ (getD_mem (by omega))
    refine seq (region (det rfl (ixS 0 rfl rfl u_sl_api_Hash s_api_Hash rfl (by omega) (by omega)) (det rfl (ldSA 0 rfl rfl g_api_Hash (hl_at (j := k) (by omega) (by omega))) (alloc z_api_Hash rfl rfl fun b0 => stoA 0 rfl rfl rfl s_api_Hash e32 (b8_one _) rfl (nilS ?_)))))   -- region 4
    refine region (det rfl (mv rfl) (det rfl (ldAll 0 rfl rfl g_api_Hash e32) (call k_link_Text rfl rfl (fun w _ => link_Text_ _ (hx _ (getD_mem (by omega))) w) (bsl rfl (bs1 u_sl_string z_string s_string (cs := [.string (bs (76 :: xs.getD k []))]) rfl rfl rfl (by decide) (by decide)) fun b1 => appB 2 0 u_sl_string i_string rfl (by decide) rfl rfl rfl rfl rfl rfl (by simp only [maxLen]; omega) (by omega) rfl fun A cap => det rfl (asg rfl) (nil ?_)))))   -- region 5
    show Tr _ _ _ _ _ _ _
    refine region (det rfl (addI rfl rfl (by omega) (by omega)) (det rfl (mv rfl) (nil ?_)))   -- region 6
    refine again (k + 1, _, _) (by (first | omega | (dsimp only; omega))) ⟨rfl, rfl, rfl, rfl, trivial⟩ (fun w hm => ?_) (by (first | omega | (dsimp only; omega)))
    dsimp only
    rw [take_map (d := []) (by omega), tx_app]
    exact drop1 (drop1 hm)
  · have h := of_decide_eq_false h
    have e : k = xs.length := by omega
    subst e
    refine exit ?_   -- 0
    show Tr _ _ _ _ _ _ _
    rw [List.take_length]
    refine seq (region (det rfl (mv rfl) (det rfl (asg rfl) (nilS ?_))))   -- region 7
    exact ret (retRow (i := 0) rfl rfl rfl (by rw [tl_flat]; rfl) (by rw [tl_length, List.length_map]) (tl_ok _))

/-! ### shape, tree -/
theorem left_step (m p : Nat) (h2 : 2 ≤ m) (e : Nat) (hp : p = 2 ^ e) (hle : p ≤ m - 1) (hd : ¬ p ≤ (m - 1) / 2) : p = Mp.left m := by
  unfold Mp.left
  rw [if_neg (by omega)]
  have h1 : 2 ^ e ≤ m - 1 := hp ▸ hle
  have h3 : m - 1 < 2 ^ (e + 1) := by rw [Nat.pow_succ]; omega
  have : Nat.log2 (m - 1) = e := by
    have := (Nat.le_log2 (by omega : m - 1 ≠ 0)).2 h1
    have := (Nat.log2_lt (by omega : m - 1 ≠ 0)).2 h3
    omega
  rw [this, hp]
theorem shape_Left_ (m : Nat) (hm : m ≤ 1000000000) : Pure PP N_shape_Left #[.int .i64 m] (.int .i64 (Mp.left m : Nat)) := by
  refine enter0 f_shape_Left rfl n_shape_Left rfl fun w => ?_
  refine seq (region (det rfl (asg rfl) (nilS ?_)))   -- region 0
  refine seq ?_
  refine seq (region (det rfl (mv rfl) (det rfl (lss rfl rfl) (nilS ?_))))   -- region 1
  refine cond rfl (fun h => ?_) (fun h => ?_)   -- on t5
  · have h := of_decide_eq_true h
    refine seq (region (det rfl (asg rfl) (nilS ?_)))   -- region 2
    exact ret (retT rfl rfl (pr' (vi (by rw [Mp.left, if_pos (by omega)]; rfl))))
  · have h := of_decide_eq_false h
    refine skipS ?_
    refine seq (region (det rfl (asg rfl) (nilS ?_)))   -- region 3
    refine seq ?_
    refine block ?_   -- block 0
    refine loopV (ι := Nat × Nat) (fun (p, e) => p = 2 ^ e ∧ 1 ≤ p ∧ p ≤ m - 1) (fun (p, e) => [(0, .int .i64 m), (3, .int .i64 p)]) (fun _ => []) (fun _ => []) (fun (p, e) => m - p) (1, 0) ⟨rfl, by omega, by omega⟩ ⟨rfl, rfl, trivial⟩ (fun w hm => hm) ?_
    rintro ⟨p, e⟩ σ ⟨hp, hp1, hp2⟩
    dsimp only at hp hp1 hp2 ⊢
    refine seq ?_
    refine seq (region (det rfl (mv rfl) (det rfl (mv rfl) (det rfl (subI rfl rfl (by omega) (by omega)) (det rfl (Det.to (quo rfl rfl (by decide)) (vi (show _ = (((m - 1) / 2 : Nat) : Int) by rw [Int.tdiv_eq_ediv_of_nonneg (by omega), i64_in (by omega) (by omega)]; omega))) (det rfl (leq rfl rfl) (nilS ?_)))))))   -- region 4
    refine cond rfl (fun h => ?_) (fun h => ?_)   -- on t10
    · have h := of_decide_eq_true h
      refine skipS ?_
      refine block ?_   -- block 1
      refine region (det rfl (mv rfl) (det rfl (mulI rfl rfl (by omega) (by omega)) (det rfl (asg rfl) (nil ?_))))   -- region 5
      refine again (2 * p, e + 1) ⟨by dsimp only; rw [Nat.pow_succ, hp]; omega, by dsimp only; omega, by dsimp only; omega⟩ ⟨rfl, vi (by dsimp only; omega), trivial⟩ (fun w hm => hm) (by (first | omega | (dsimp only; omega)))
    · have h := of_decide_eq_false h
      refine exit ?_   -- 0
      show Tr _ _ _ _ _ _ _
      refine seq (region (det rfl (mv rfl) (det rfl (asg rfl) (nilS ?_))))   -- region 6
      exact ret (retT rfl rfl (pr' (vi (by rw [left_step m p (by omega) e hp hp2 (by omega)]))))

theorem leafS_length (x : List UInt8) : (leafS x).length = 32 := sha_length _
theorem tree_each_ (xs : List (List UInt8)) (hn : xs.length ≤ 100000) (hx : ∀ x ∈ xs, x.length ≤ 100000001) (A : Option Addr) (cap : Nat) (D : Nat → Prop) (w : World) (hD : ∀ k, D k → k < w.heap.size) (hs : Sl 1 A xs.length cap (tl xs) D w) :
    Calls PP N_tree_each_string_api_Hash #[.slice A xs.length cap, .func (.func N_tag_LeafSum) #[] #[]] w (RS w 32 (hl (xs.map leafS))) := by
  refine enter f_tree_each_string_api_Hash rfl n_tree_each_string_api_Hash rfl (M.init1 PP w Sl.stable hD hs) ?_
  refine seq (region (det rfl (asg rfl) (nilS ?_)))   -- region 0
  refine seq (region (det rfl (asg rfl) (nilS ?_)))   -- region 1
  refine seq ?_
  refine seq (region (det rfl (mv rfl) (det rfl (lenS u_sl_string rfl) (det rfl (mv rfl) (nilS ?_)))))   -- region 2
  refine block ?_   -- block 0
  refine loopV (ι := Nat × Option Addr × Nat) (fun (k, _, _) => k ≤ xs.length) (fun (k, B, q) => [(1, .func (.func N_tag_LeafSum) #[] #[]), (5, .slice B k q), (8, .slice A xs.length cap), (9, .int .i64 xs.length), (10, .int .i64 k)]) (fun (k, B, q) => [.row (.slice B k q) T_api_Hash 32 k (hl ((xs.take k).map leafS)).flatten]) (fun _ => [Sl 1 A xs.length cap (tl xs)]) (fun (k, _, _) => xs.length - k) (0, none, 0) (by omega) ⟨rfl, rfl, rfl, rfl, rfl, trivial⟩ (fun w hm => hm.nilRow _ _) ?_
  rintro ⟨k, B, q⟩ σ hk
  dsimp only at hk ⊢
  refine seq (region (det rfl (lss rfl rfl) (nilS ?_)))   -- region 3
  refine seq ?_
  refine cond rfl (fun h => ?_) (fun h => ?_)   -- on t11
  · have h := of_decide_eq_true h
    refine skipS ?_
    refine seq ?_
    refine block ?_   -- block 1
    refine seq (region (det rfl (ixS 0 rfl rfl u_sl_string s_string rfl (by omega) (by omega)) (det rfl (ldSO 0 rfl rfl o_string (tl_at (j := k) (by omega) (by omega))) (det rfl (asg rfl) (nilS ?_)))))   -- region 4
    refine region (det rfl (mv rfl) (det rfl (mv rfl) (det rfl (mv rfl) (callF k_tag_LeafSum rfl rfl rfl (fun w _ => tag_LeafSum_ _ (Nat.le_trans (hx _ (getD_mem (by omega))) (by omega)) w) (bsl rfl (bs1 u_sl_api_Hash z_api_Hash s_api_Hash (cs := b8 (leafS (xs.getD k []))) rfl rfl (by rw [b8_length, leafS_length]) (by decide) (by decide)) fun b0 => appB 1 0 u_sl_api_Hash i_api_Hash rfl (by decide) rfl rfl rfl rfl (by rw [b8_length, leafS_length]) (b8_one _) (by simp only [maxLen]; omega) (by omega) rfl fun A cap => det rfl (asg rfl) (nil ?_))))))   -- region 5
    show Tr _ _ _ _ _ _ _
    refine region (det rfl (addI rfl rfl (by omega) (by omega)) (det rfl (mv rfl) (nil ?_)))   -- region 6
    refine again (k + 1, _, _) (by (first | omega | (dsimp only; omega))) ⟨rfl, rfl, rfl, rfl, rfl, trivial⟩ (fun w hm => ?_) (by (first | omega | (dsimp only; omega)))
    dsimp only
    rw [take_map (d := []) (by omega), hl_app]
    exact drop1 hm
  · have h := of_decide_eq_false h
    have e : k = xs.length := by omega
    subst e
    refine exit ?_   -- 0
    show Tr _ _ _ _ _ _ _
    rw [List.take_length]
    refine seq (region (det rfl (mv rfl) (det rfl (asg rfl) (nilS ?_))))   -- region 7
    exact ret (retRow (i := 0) rfl rfl rfl rfl (by rw [hl_length, List.length_map]) (hl_ok (fun x hx => by obtain ⟨y, _, rfl⟩ := List.mem_map.1 hx; exact leafS_length y)))

theorem tree_Leaves_ (xs : List (List UInt8)) (hn : xs.length ≤ 100000) (hx : ∀ x ∈ xs, x.length ≤ 100000001) (A : Option Addr) (cap : Nat) (D : Nat → Prop) (w : World) (hD : ∀ k, D k → k < w.heap.size) (hs : Sl 1 A xs.length cap (tl xs) D w) :
    Calls PP N_tree_Leaves #[.slice A xs.length cap] w (RS w 32 (hl (xs.map leafS))) := by
  refine enter f_tree_Leaves rfl n_tree_Leaves rfl (M.init1 PP w Sl.stable hD hs) ?_
  refine seq (region (det rfl (asg rfl) (nilS ?_)))   -- region 0
  refine seq (region (det rfl (mv rfl) (callSN k_tree_each_string_api_Hash rfl rfl (fun w hm => by
    obtain ⟨D, hD, hs⟩ := hm.sl (k := 0) rfl
    exact tree_each_ xs hn hx A cap D w hD hs) fun B q => (det rfl (asg rfl) (nilS ?_)))))   -- region 1
  exact ret (retFr rfl rfl rfl 0 rfl)

/-- The latter part of a slice. -/
abbrev cutA (A : Option Addr) (cap m sz : Nat) : Option Addr := if cap = m then A else A.map fun a => a.add (m * sz)
theorem left_le (n : Nat) : Mp.left n ≤ n := by
  by_cases h2 : 2 ≤ n
  · have := Mp.left_lt h2; omega
  · rw [Mp.left, if_pos (by omega)]; omega
/-- parted: both parts of a slice. -/
theorem tree_parted_ (A : Option Addr) (n cap : Nat) (hn : n ≤ 1000000) (hc : n ≤ cap) : Pure PP N_tree_parted_api_Hash #[.slice A n cap] (.tuple #[.slice A (Mp.left n) cap, .slice (cutA A cap (Mp.left n) 32) (n - Mp.left n) (cap - Mp.left n)]) := by
  have hle := left_le n
  refine enter0 f_tree_parted_api_Hash rfl n_tree_parted_api_Hash rfl fun w => ?_
  refine seq (region (det rfl (asg rfl) (det rfl (asg rfl) (nilS ?_))))   -- region 0
  refine seq (region (det rfl (mv rfl) (det rfl (lenS u_sl_api_Hash rfl) (call k_shape_Left rfl rfl (fun w _ => shape_Left_ _ (by omega) w) (det rfl (asg rfl) (nilS ?_))))))   -- region 1
  refine seq (draw (m := 8) mix (by kernel_rfl) (take 0 rfl (by kernel_rfl) rfl (mv rfl) (take 1 rfl (by kernel_rfl) rfl (mv rfl) (take 2 rfl (by kernel_rfl) rfl (slTake u_sl_api_Hash s_api_Hash rfl rfl (Nat.le_trans hle hc)) (take 3 rfl (by kernel_rfl) rfl (mv rfl) (take 4 rfl (by kernel_rfl) rfl (mv rfl) (take 5 rfl (by kernel_rfl) rfl (slDrop u_sl_api_Hash s_api_Hash rfl rfl hle hc) (take 6 rfl (by kernel_rfl) rfl (asg rfl) (take 7 rfl (by kernel_rfl) rfl (asg rfl) ((tail (by kernel_rfl) rfl (nilS ?_))))))))))))   -- region 2
  exact ret (ret2 rfl rfl rfl pr)

def topS (xs : List (List UInt8)) : List UInt8 := Mp.top (List.replicate 32 0) nodeS xs
theorem nodeS_length (x y : List UInt8) : (nodeS x y).length = 32 := sha_length _
theorem topS_length (xs : List (List UInt8)) (hx : ∀ x ∈ xs, x.length = 32) : (topS xs).length = 32 := by
  unfold topS
  by_cases h : xs.length < 2
  · rw [Mp.top_small _ _ _ h]
    cases xs with
    | nil => rfl
    | cons x r => exact hx x (List.mem_cons_self ..)
  · rw [Mp.top_step _ _ _ h]; exact nodeS_length _ _

theorem tree_Top_ (N : Nat) : ∀ (xs : List (List UInt8)), xs.length ≤ N → xs.length ≤ 1000000 → (∀ x ∈ xs, x.length = 32) → ∀ (A : Option Addr) (cap : Nat) (D : Nat → Prop) (w : World), (∀ k, D k → k < w.heap.size) → Sl 32 A xs.length cap (hl xs) D w →
    Calls PP N_tree_Top #[.slice A xs.length cap] w (PR w (ag (b8 (topS xs)))) := by
  induction N using Nat.strongRecOn with
  | _ N ih =>
  intro xs hN hn hx A cap D w hD hs
  have ht := topS_length xs hx
  refine enter f_tree_Top rfl n_tree_Top rfl (M.init1 PP w Sl.stable hD hs) ?_
  refine seq (region (alloc z_api_Hash rfl rfl fun b0 => nilS ?_))   -- region 0
  refine seq ?_
  refine seq (region (det rfl (mv rfl) (det rfl (lenS u_sl_api_Hash rfl) (nilS ?_))))   -- region 1
  refine block ?_   -- block 0
  refine seq (region (det rfl (eql rfl rfl) (det rfl (asg rfl) (nilS ?_))))   -- region 2
  refine cond rfl (fun h => ?_) (fun h => ?_)   -- on t7
  · have h := of_decide_eq_true h
    refine seq (region (det rfl (bldE z_api_Hash u_api_Hash s_uint8) (stoA 0 (rs := b8 (List.replicate 32 0)) rfl rfl rfl s_api_Hash rfl rfl rfl (nilS ?_))))   -- region 3
    have e : topS xs = List.replicate 32 0 := by
      have : xs = [] := List.length_eq_zero_iff.1 (by omega)
      subst this; rw [topS, Mp.top_small _ _ _ (by decide)]; rfl
    rw [e]
    exact ret (retH rfl rfl 0 rfl rfl rfl pr)
  · have h0 := of_decide_eq_false h
    refine seq (region (det rfl (eql rfl rfl) (det rfl (asg rfl) (nilS ?_))))   -- region 4
    refine cond rfl (fun h => ?_) (fun h => ?_)   -- on t10
    · have h := of_decide_eq_true h
      have e : xs.getD 0 [] = topS xs := by
        rw [topS, Mp.top_small _ _ _ (by omega)]
        cases xs with
        | nil => simp at h
        | cons x r => rfl
      refine seq (region (det rfl (mv rfl) (det rfl (ixS 0 rfl rfl u_sl_api_Hash s_api_Hash rfl (by omega) (by omega)) (det rfl (ldSA 0 rfl rfl g_api_Hash (hl_at (j := 0) (by omega) (by omega))) (stoA 0 rfl rfl rfl s_api_Hash (by rw [e, b8_length, ht]) (b8_one _) rfl (nilS ?_))))))   -- region 5
      rw [e]
      exact ret (retH rfl ht 0 rfl rfl rfl pr)
    · have h1 := of_decide_eq_false h
      have h2 : 2 ≤ xs.length := by omega
      have hlt := Mp.left_lt h2
      have hpos := Mp.left_pos h2
      have hcap := hs.2.1
      obtain ⟨p, hp⟩ : ∃ p, Mp.left xs.length = p := ⟨_, rfl⟩
      rw [hp] at hlt hpos
      refine skip ?_
      show Tr _ _ _ _ _ _ _
      refine seq (region (det rfl (mv rfl) (call k_tree_parted_api_Hash rfl rfl (fun w _ => tree_parted_ A xs.length cap hn hcap w) (det rfl (mv rfl) (det rfl (extr rfl rfl) (det rfl (extr rfl rfl) (det rfl (asg rfl) (det rfl (asg rfl) (nilS ?_)))))))))   -- region 6
      rw [hp]
      refine also (f := Sl 32 A p cap (hl (xs.take p))) Sl.stable (fun D w hK => by
        have := (hK.1 : Sl 32 A xs.length cap (hl xs) D w).take (m := p) (by omega)
        rwa [hl, ← List.map_take] at this) ?_
      refine also (f := Sl 32 (cutA A cap p 32) (xs.length - p) (cap - p) (hl (xs.drop p))) Sl.stable (fun D w hK => by
        have := (hK.2.1 : Sl 32 A xs.length cap (hl xs) D w).cut (m := p) (cap' := cap - p) (by omega) (by omega) (by omega)
        rwa [hl, ← List.map_drop] at this) ?_
      have l1 : (xs.take p).length = p := by rw [List.length_take]; omega
      have l2 : (xs.drop p).length = xs.length - p := by rw [List.length_drop]
      have e : topS xs = nodeS (topS (xs.take p)) (topS (xs.drop p)) := by rw [topS, Mp.top_step _ _ _ (by omega), hp]; rfl
      have hx1 : ∀ x ∈ xs.take p, x.length = 32 := fun x h => hx x (List.mem_of_mem_take h)
      have hx2 : ∀ x ∈ xs.drop p, x.length = 32 := fun x h => hx x (List.mem_of_mem_drop h)
      refine seq (region (det rfl (mv rfl) (call k_tree_Top rfl rfl (fun w hm => by
        obtain ⟨D, hD, hs⟩ := hm.sl (k := 1) rfl
        have := ih p (by omega) (xs.take p) (by omega) (by omega) hx1 A cap D w hD (by rw [l1]; exact hs)
        rw [l1] at this; exact this) (det rfl (mv rfl) (call k_tree_Top rfl rfl (fun w hm => by
        obtain ⟨D, hD, hs⟩ := hm.sl (k := 0) rfl
        have := ih (xs.length - p) (by omega) (xs.drop p) (by omega) (by omega) hx2 (cutA A cap p 32) (cap - p) D w hD (by rw [l2]; exact hs)
        rw [l2] at this; exact this) (call k_tag_NodeSum rfl rfl (fun w _ => tag_NodeSum_ _ _ (topS_length _ hx1) (topS_length _ hx2) w) (stoA 0 rfl rfl rfl s_api_Hash (by rw [b8_length, nodeS_length]) (b8_one _) rfl (nilS ?_))))))))   -- region 7
      rw [e]
      exact ret (retH rfl (nodeS_length _ _) 0 rfl rfl rfl pr)
end Go.Proofs.YtmcapgjdflohfaaGreat.L

namespace Go.Proofs.YtmcapgjdflohfaaGreat.L
open Go Go.RowKit
set_option linter.unusedVariables false

def rootF (xs : List (List UInt8)) : List UInt8 := rootS xs.length (topS (xs.map leafS))
theorem rootF_length (xs : List (List UInt8)) : (rootF xs).length = 32 := sha_length _
theorem map_leaf_ok (xs : List (List UInt8)) : ∀ x ∈ xs.map leafS, x.length = 32 := fun x hx => by obtain ⟨y, _, rfl⟩ := List.mem_map.1 hx; exact leafS_length y

theorem tree_Root_ (xs : List (List UInt8)) (hn : xs.length ≤ 100000) (hx : ∀ x ∈ xs, x.length ≤ 100000001) (A : Option Addr) (cap : Nat) (D : Nat → Prop) (w : World) (hD : ∀ k, D k → k < w.heap.size) (hs : Sl 1 A xs.length cap (tl xs) D w) :
    Calls PP N_tree_Root #[.slice A xs.length cap] w (PR w (ag (b8 (rootF xs)))) := by
  have hm := map_leaf_ok xs
  have hml : (hl (xs.map leafS)).length = (xs.map leafS).length := hl_length _
  refine enter f_tree_Root rfl n_tree_Root rfl (M.init1 PP w Sl.stable hD hs) ?_
  refine seq (region (alloc z_api_Hash rfl rfl fun b0 => nilS ?_))   -- region 0
  refine seq (region (det rfl (mv rfl) (det rfl (lenS u_sl_string rfl) (det rfl (Det.to (conv u_int u_uint64 rfl) (vi (wrap_u64_nat (xs.length : Int) (by omega) (by omega)))) (det rfl (mv rfl) (callS k_tree_Leaves rfl rfl (fun w hm => by
    obtain ⟨D, hD, hs⟩ := hm.sl (k := 0) rfl
    exact tree_Leaves_ xs hn hx A cap D w hD hs) fun B q => call k_tree_Top rfl rfl (fun w hM => by
    obtain ⟨D, hD, hs⟩ := hM.sl (k := 0) rfl
    rw [hml] at hs ⊢
    exact tree_Top_ _ (xs.map leafS) (Nat.le_refl _) (by rw [List.length_map]; omega) hm B q D w hD hs) (call k_tag_RootSum rfl rfl (fun w _ => tag_RootSum_ _ _ (topS_length _ hm) w) (stoA 0 rfl rfl rfl s_api_Hash (by rw [b8_length]; exact sha_length _) (b8_one _) rfl (nilS ?_)))))))))   -- region 1
  exact ret (retH rfl (sha_length _) 0 rfl rfl rfl pr)

def linkR (xs : List (List UInt8)) : List UInt8 := rootF (xs.map (76 :: ·))
def txsR (xs : List (List UInt8)) : List UInt8 := rootF (xs.map (84 :: ·))
theorem link_Root_ (xs : List (List UInt8)) (hn : xs.length ≤ 100000) (hx : ∀ x ∈ xs, x.length = 32) (A : Option Addr) (cap : Nat) (D : Nat → Prop) (w : World) (hD : ∀ k, D k → k < w.heap.size) (hs : Sl 32 A xs.length cap (hl xs) D w) :
    Calls PP N_link_Root #[.slice A xs.length cap] w (PR w (ag (b8 (linkR xs)))) := by
  have hml : (tl (xs.map (76 :: ·))).length = (xs.map (76 :: ·)).length := tl_length _
  have hx' : ∀ x ∈ xs.map (76 :: ·), x.length ≤ 100000001 := fun x h => by obtain ⟨y, hy, rfl⟩ := List.mem_map.1 h; have := hx y hy; simp only [List.length_cons]; omega
  refine enter f_link_Root rfl n_link_Root rfl (M.init1 PP w Sl.stable hD hs) ?_
  refine seq (region (alloc z_api_Hash rfl rfl fun b0 => nilS ?_))   -- region 0
  refine seq (region (det rfl (mv rfl) (callS k_link_texts rfl rfl (fun w hm => by
    obtain ⟨D, hD, hs⟩ := hm.sl (k := 0) rfl
    exact link_texts_ xs hn hx A cap D w hD hs) fun B q => call k_tree_Root rfl rfl (fun w hM => by
    obtain ⟨D, hD, hs⟩ := hM.sl (k := 0) rfl
    rw [hml] at hs ⊢
    exact tree_Root_ (xs.map (76 :: ·)) (by rw [List.length_map]; omega) hx' B q D w hD hs) (stoA 0 rfl rfl rfl s_api_Hash (by rw [b8_length]; exact sha_length _) (b8_one _) rfl (nilS ?_)))))   -- region 1
  exact ret (retH rfl (rootF_length _) 0 rfl rfl rfl pr)
theorem txs_Root_ (xs : List (List UInt8)) (hn : xs.length ≤ 100000) (hx : ∀ x ∈ xs, x.length ≤ 100000000) (A : Option Addr) (cap : Nat) (D : Nat → Prop) (w : World) (hD : ∀ k, D k → k < w.heap.size) (hs : Sl 1 A xs.length cap (tl xs) D w) :
    Calls PP N_txs_Root #[.slice A xs.length cap] w (PR w (ag (b8 (txsR xs)))) := by
  have hml : (tl (xs.map (84 :: ·))).length = (xs.map (84 :: ·)).length := tl_length _
  have hx' : ∀ x ∈ xs.map (84 :: ·), x.length ≤ 100000001 := fun x h => by obtain ⟨y, hy, rfl⟩ := List.mem_map.1 h; have := hx y hy; simp only [List.length_cons]; omega
  refine enter f_txs_Root rfl n_txs_Root rfl (M.init1 PP w Sl.stable hD hs) ?_
  refine seq (region (alloc z_api_Hash rfl rfl fun b0 => nilS ?_))   -- region 0
  refine seq (region (det rfl (mv rfl) (callS k_txs_texts rfl rfl (fun w hm => by
    obtain ⟨D, hD, hs⟩ := hm.sl (k := 0) rfl
    exact txs_texts_ xs hn hx A cap D w hD hs) fun B q => call k_tree_Root rfl rfl (fun w hM => by
    obtain ⟨D, hD, hs⟩ := hM.sl (k := 0) rfl
    rw [hml] at hs ⊢
    exact tree_Root_ (xs.map (84 :: ·)) (by rw [List.length_map]; omega) hx' B q D w hD hs) (stoA 0 rfl rfl rfl s_api_Hash (by rw [b8_length]; exact sha_length _) (b8_one _) rfl (nilS ?_)))))   -- region 1
  exact ret (retH rfl (rootF_length _) 0 rfl rfl rfl pr)
end Go.Proofs.YtmcapgjdflohfaaGreat.L

namespace Go.Proofs.YtmcapgjdflohfaaGreat.L
open Go Go.RowKit
set_option linter.unusedVariables false

/-- A block: its header, and its transactions' slice. -/
structure Bl where
  h : Hd
  A : Option Addr
  cap : Nat
  t : List (List UInt8)
def Bl.s (b : Bl) : Value := .slice b.A b.t.length b.cap
def Bl.c (b : Bl) : List Value := b.h.c ++ [b.s]
theorem Bl.c_length {b : Bl} (hb : b.h.ok) : b.c.length = 67 := by rw [Bl.c, List.length_append, Hd.c_length hb]; rfl
theorem Bl.c_one (b : Bl) : one b.c = true := by rw [Bl.c, one_append, Hd.c_one]; rfl
theorem Bl.at_h {b : Bl} (hb : b.h.ok) : (b.c.drop (0 + 0)).take 66 = b.h.c := by
  rw [Nat.add_zero, List.drop_zero, Bl.c, List.take_append_of_le_length (by rw [Hd.c_length hb]; decide), List.take_of_length_le (by rw [Hd.c_length hb]; decide)]
theorem Bl.at_s {b : Bl} (hb : b.h.ok) : b.c[0 + 66]? = some b.s := by
  rw [Nat.zero_add, Bl.c, List.getElem?_append_right (by rw [Hd.c_length hb]; decide), Hd.c_length hb]; rfl
def bl (l : List Bl) : List (List Value) := l.map Bl.c
theorem bl_at {l : List Bl} {o j : Nat} (ho : o = j) (h : j < l.length) : (bl l)[o]? = some (l[j]).c := by
  subst ho; simp [bl, h]

theorem chain_id_ (b : Bl) (hb : b.h.ok) : Pure PP N_chain_id #[ag b.c] (ag (b8 (idL b.h))) := by
  refine enter0 f_chain_id rfl n_chain_id rfl fun w => ?_
  refine seq (region (box rfl rfl rfl fun b0 => alloc z_api_Hash rfl rfl fun b1 => nilS ?_))   -- region 0
  refine seq (region (det rfl (fadr rfl u_api_Block rfl s_api_Header) (det rfl (ldA 1 rfl rfl g_api_Header (Bl.at_h hb) (Hd.c_length hb)) (call k_ident_Id rfl rfl (fun w _ => ident_Id_ _ hb w) (stoA 0 rfl rfl rfl s_api_Hash (by rw [b8_length, idL_length]) (b8_one _) rfl (nilS ?_))))))   -- region 1
  exact ret (retH rfl (idL_length _) 0 rfl rfl rfl pr)

/-- Whole numbers as a slice's elements. -/
def il (xs : List Int) : List (List Value) := xs.map fun x => [.int .i64 x]
theorem il_length (xs : List Int) : (il xs).length = xs.length := by simp [il]
theorem il_ok (xs : List Int) : ∀ l ∈ il xs, l.length = 1 ∧ one l = true := by
  intro l h; obtain ⟨x, _, rfl⟩ := List.mem_map.1 h; exact ⟨rfl, rfl⟩
theorem il_at {xs : List Int} {o j : Nat} (ho : o = j) (h : j < xs.length) : (il xs)[o]? = some [.int .i64 (xs.getD j 0)] := by
  subst ho; simp [il, h]
theorem il_app (a : List Int) (b : Int) : (il (a ++ [b])).flatten = (il a).flatten ++ [.int .i64 b] := by simp [il]

def levF1 (t : List UInt8) (i : Nat) (b : Bl) : Int := if i = 0 then 256 else levW (idL b.h) t
def levs (t : List UInt8) (l : List Bl) : List Int := l.mapIdx (levF1 t)
theorem levs_length (t : List UInt8) (l : List Bl) : (levs t l).length = l.length := by simp [levs]
theorem levs_take (t : List UInt8) (l : List Bl) (k : Nat) (hk : k < l.length) : levs t (l.take (k + 1)) = levs t (l.take k) ++ [levF1 t k l[k]] := by
  rw [levs, List.take_succ_eq_append_getElem hk, List.mapIdx_append, levs]
  congr 1
  simp [show min k l.length = k by omega]

theorem chain_Levels_ (t : List UInt8) (ht : t.length = 32) (l : List Bl) (hn : l.length ≤ 100000) (hx : ∀ b ∈ l, b.h.ok) (A : Option Addr) (cap : Nat) (D : Nat → Prop) (w : World) (hD : ∀ k, D k → k < w.heap.size) (hs : Sl 67 A l.length cap (bl l) D w) :
    Calls PP N_chain_Levels #[ag (b8 t), .slice A l.length cap] w (RS w 1 (il (levs t l))) := by
  refine enter f_chain_Levels rfl n_chain_Levels rfl (M.init1 PP w Sl.stable hD hs) ?_
  refine seq (region (box rfl rfl rfl fun b0 => det rfl (asg rfl) (nilS ?_)))   -- region 0
  refine seq (region (det rfl (asg rfl) (nilS ?_)))   -- region 1
  refine seq ?_
  refine seq (region (det rfl (mv rfl) (det rfl (lenS u_sl_api_Block rfl) (det rfl (mv rfl) (nilS ?_)))))   -- region 2
  refine block ?_   -- block 0
  refine loopV (ι := Nat × Option Addr × Nat) (fun (k, _, _) => k ≤ l.length) (fun (k, B, q) => [(2, .pointer (some ⟨b0, 0, none⟩)), (5, .slice B k q), (9, .slice A l.length cap), (10, .int .i64 l.length), (11, .int .i64 k)]) (fun (k, B, q) => [.row (.slice B k q) T_int 1 k (il (levs t (l.take k))).flatten, .blk b0 (ob (b8 t) T_api_Hash)]) (fun _ => [Sl 67 A l.length cap (bl l)]) (fun (k, _, _) => l.length - k) (0, none, 0) (by omega) ⟨rfl, rfl, rfl, rfl, rfl, trivial⟩ (fun w hm => hm.nilRow _ _) ?_
  rintro ⟨k, B, q⟩ σ hk
  dsimp only at hk ⊢
  refine seq (region (det rfl (lss rfl rfl) (nilS ?_)))   -- region 3
  refine seq ?_
  refine cond rfl (fun h => ?_) (fun h => ?_)   -- on t12
  · have h := of_decide_eq_true h
    have hk2 : k < l.length := by omega
    have hok : (l[k]).h.ok := hx _ (List.getElem_mem hk2)
    refine skipS ?_
    refine seq ?_
    refine block ?_   -- block 1
    refine seq (region (det rfl (mv rfl) (det rfl (ixS 0 rfl rfl u_sl_api_Block s_api_Block rfl (by omega) (by omega)) (det rfl (ldSA 0 rfl rfl g_api_Block (bl_at (j := k) (by omega) hk2)) (alloc z_api_Block rfl rfl fun b1 => det rfl (asg rfl) (stoA 0 rfl rfl rfl s_api_Block (Bl.c_length hok) (Bl.c_one _) rfl (nilS ?_)))))))   -- region 4
    refine seq (draw (m := 5) mix (by kernel_rfl) (take 0 rfl (by kernel_rfl) rfl (ldAll 0 rfl rfl g_api_Block (Bl.c_length hok)) (take 2 rfl (by kernel_rfl) rfl (ldAll 2 rfl rfl g_api_Hash (by rw [b8_length, ht])) (only 1 rfl (by kernel_rfl) rfl k_chain_id rfl rfl (fun w _ => chain_id_ _ hok w) (only 3 rfl (by kernel_rfl) rfl k_work_Level rfl rfl (fun w _ => work_Level_ _ t (idL_length _) ht w) (take 4 rfl (by kernel_rfl) rfl (asg rfl) ((tail (by kernel_rfl) rfl (nilS ?_)))))))))   -- region 5
    refine cutV (ι := Unit) (fun _ => True) (fun _ => [(2, .pointer (some ⟨b0, 0, none⟩)), (5, .slice B k q), (8, .int .i64 (levF1 t k l[k])), (9, .slice A l.length cap), (10, .int .i64 l.length), (11, .int .i64 k)]) (fun _ => [.row (.slice B k q) T_int 1 k (il (levs t (l.take k))).flatten, .blk b0 (ob (b8 t) T_api_Hash)]) (fun _ => [Sl 67 A l.length cap (bl l)]) ?_ ?_
    · refine seq (region (det rfl (mv rfl) (det rfl (eql rfl rfl) (nilS ?_))))   -- region 6
      refine cond rfl (fun h => ?_) (fun h => ?_)   -- on t21
      · have h := of_decide_eq_true h
        refine region (det rfl (asg rfl) (nil ?_))   -- region 7
        exact meets () trivial ⟨rfl, rfl, vi (by rw [levF1, if_pos (by omega)]), rfl, rfl, rfl, trivial⟩ (fun w hm => drop1 hm)
      · have h := of_decide_eq_false h
        refine skip ?_
        exact meets () trivial ⟨rfl, rfl, vi (by rw [levF1, if_neg (by omega)]), rfl, rfl, rfl, trivial⟩ (fun w hm => drop1 hm)
    · intro _ σ _
      refine region (det rfl (mv rfl) (det rfl (mv rfl) (bsl rfl (bs1 u_sl_int z_int s_int (cs := [.int .i64 (levF1 t k l[k])]) rfl rfl rfl (by decide) (by decide)) fun b2 => appB 1 0 u_sl_int i_int rfl (by decide) rfl rfl rfl rfl rfl rfl (by simp only [maxLen]; omega) (by omega) rfl fun A cap => det rfl (asg rfl) (nil ?_))))   -- region 8
      show Tr _ _ _ _ _ _ _
      refine region (det rfl (addI rfl rfl (by omega) (by omega)) (det rfl (mv rfl) (nil ?_)))   -- region 9
      refine again (k + 1, _, _) (by (first | omega | (dsimp only; omega))) ⟨rfl, rfl, rfl, rfl, rfl, trivial⟩ (fun w hm => ?_) (by (first | omega | (dsimp only; omega)))
      dsimp only
      rw [levs_take t l k hk2, il_app]
      exact drop1 hm
  · have h := of_decide_eq_false h
    have e : k = l.length := by omega
    subst e
    refine exit ?_   -- 0
    show Tr _ _ _ _ _ _ _
    rw [List.take_length]
    refine seq (region (det rfl (mv rfl) (det rfl (asg rfl) (nilS ?_))))   -- region 10
    exact ret (retRow (i := 0) rfl rfl rfl rfl (by rw [il_length, levs_length]) (il_ok _))
end Go.Proofs.YtmcapgjdflohfaaGreat.L

namespace Go.Proofs.YtmcapgjdflohfaaGreat.L
open Go Go.RowKit Go.Shelf
attribute [local go_sem] Oper.semAt_some

/-- The places that have come when the first k are looked at. -/
def plN (l : List Int) (fr lv : Int) (k : Nat) : List Int := ((List.range k).map fun i : Nat => (i : Int)).filter fun i => decide (fr ≤ i ∧ lv ≤ l.getD i.toNat 0)
theorem plN_all (l : List Int) (fr lv : Int) : plN l fr lv l.length = Mp.places l fr lv := rfl
theorem plN_hit {l : List Int} {fr lv : Int} {k : Nat} (h1 : fr ≤ k) (h2 : lv ≤ l.getD k 0) : plN l fr lv (k + 1) = plN l fr lv k ++ [(k : Int)] := by
  simp only [plN, List.range_succ, List.map_append, List.filter_append, List.map_cons, List.map_nil, List.filter_cons, List.filter_nil]
  rw [if_pos (by simpa using ⟨h1, h2⟩)]
theorem plN_miss {l : List Int} {fr lv : Int} {k : Nat} (h2 : ¬ lv ≤ l.getD k 0) : plN l fr lv (k + 1) = plN l fr lv k := by
  simp only [plN, List.range_succ, List.map_append, List.filter_append, List.map_cons, List.map_nil, List.filter_cons, List.filter_nil]
  rw [if_neg (by simp; intro _; simpa using h2), List.append_nil]
theorem plN_low {l : List Int} {fr lv : Int} {k : Nat} (h : ∀ i : Nat, i < k → (i : Int) < fr) : plN l fr lv k = [] := by
  unfold plN
  rw [List.filter_eq_nil_iff]
  intro x hx
  simp only [List.mem_map, List.mem_range] at hx
  obtain ⟨i, hi, rfl⟩ := hx
  have := h i hi
  simp; intro h'; omega
theorem plN_len (l : List Int) (fr lv : Int) (k : Nat) : (plN l fr lv k).length ≤ k := by
  have := List.length_filter_le (fun i : Int => decide (fr ≤ i ∧ lv ≤ l.getD i.toNat 0)) ((List.range k).map fun i : Nat => (i : Int))
  simp at this
  simpa [plN] using this

/-- What a round keeps: what lay below, and three boxes. -/
def Kq (n₀ B1 B2 B3 : Nat) (W W' : World) : Prop := Below n₀ W W' ∧ W'.heap[B1]? = W.heap[B1]? ∧ W'.heap[B2]? = W.heap[B2]? ∧ W'.heap[B3]? = W.heap[B3]?
theorem Kq.trans {n₀ B1 B2 B3 : Nat} {A B C : World} (h : Kq n₀ B1 B2 B3 A B) (k : Kq n₀ B1 B2 B3 B C) : Kq n₀ B1 B2 B3 A C := ⟨h.1.trans k.1, k.2.1.trans h.2.1, k.2.2.1.trans h.2.2.1, k.2.2.2.trans h.2.2.2⟩
theorem Kq.drew (n₀ B1 B2 B3 : Nat) (W : World) : Kq n₀ B1 B2 B3 W W.drew := ⟨⟨rfl, rfl, rfl, Nat.le_refl _, fun _ _ => rfl⟩, rfl, rfl, rfl⟩
theorem cell_of {W W' : World} {b : Nat} {v : Value} (h : W'.heap[b]? = W.heap[b]?) (hc : W.cell? ⟨b, 0, none⟩ = some v) : W'.cell? ⟨b, 0, none⟩ = some v := by
  unfold World.cell? at *
  rw [h]; exact hc

set_option maxRecDepth 100000 in
set_option maxHeartbeats 40000000 in
theorem up_each_1_in (n : Nat) (hn : 1 ≤ n) (y B1 B2 B3 n₀ : Nat) (l : List Int) (hl : l.length ≤ 1000000) (A : Option Addr) (cap : Nat) (fr lv : Int)
    (J Jx : List Int → World → Prop) (hJ : ∀ s W, J s W → J s W.drew)
    (hY : ∀ pre x W, J pre W → pre.length < l.length → YieldAt Fence.wide (n - 1) Tryz.prog y #[.int .i64 x] W fun e W' =>
      (e = .returned (.bool true) ∧ J (pre ++ [x]) W' ∧ Kq n₀ B1 B2 B3 W W') ∨ (e = .returned (.bool false) ∧ Jx (pre ++ [x]) W'))
    (W : World) (h1 : W.cell? ⟨B1, 0, none⟩ = some (.int .i64 fr)) (h2 : W.cell? ⟨B2, 0, none⟩ = some (.slice A l.length cap)) (h3 : W.cell? ⟨B3, 0, none⟩ = some (.int .i64 lv))
    (hc : ∀ j, j < l.length → ∃ b off, A = some ⟨b, off, none⟩ ∧ b < n₀ ∧ W.cell? ⟨b, off + j, none⟩ = some (.int .i64 (l.getD j 0))) (h0 : J [] W) :
    CallsIn Fence.wide n Tryz.prog 122 #[.func (.yield y) #[] #[], .pointer (some ⟨B1, 0, none⟩), .pointer (some ⟨B2, 0, none⟩), .pointer (some ⟨B3, 0, none⟩)] W fun e W' => (∃ v, e = .returned v) ∧
      ((∃ ys, ys = Mp.places l fr lv ∧ J ys W') ∨ (∃ pre, True ∧ Jx pre W')) := by
  refine callsIn_of_wp Tryz.func122 rfl trivial ?_ rfl
  simp only [Tryz.ntmps122, List.size_toArray, List.length_cons, List.length_nil, Nat.reduceAdd, Nat.reduceSub, Array.replicate_succ, Array.replicate_zero, List.push_toArray, List.append_toArray, List.nil_append, List.cons_append]
  gi_wp2
  gi_loopw [5] (fun i wr => ∃ k : Nat, (max fr 0).toNat ≤ k ∧ (k ≤ l.length ∨ k = (max fr 0).toNat) ∧ i = .int .i64 k ∧ J (plN l fr lv k) wr ∧ Kq n₀ B1 B2 B3 W wr)
    (fun i _ => l.length - (intOf i).toNat)
  case atStart => exact ⟨(max fr 0).toNat, Nat.le_refl _, .inr rfl, by simp, by rw [plN_low (fun i hi => by omega)]; exact h0, ⟨Below.refl _ _, rfl, rfl, rfl⟩⟩
  case round =>
    obtain ⟨k, hk0, hk, rfl, hJs, hnx⟩ := hrel
    have g1 := cell_of hnx.2.1 h1
    have g2 := cell_of hnx.2.2.1 h2
    have g3 := cell_of hnx.2.2.2 h3
    by_cases hlt : k < l.length
    · obtain ⟨b, off, rfl, hb, hcell⟩ := hc k hlt
      have hcx := (hnx.1.cell (p := ⟨b, off + k, none⟩) hb).trans hcell
      obtain ⟨x, hx⟩ : ∃ x, l.getD k 0 = x := ⟨_, rfl⟩
      rw [hx] at hcx
      by_cases hv : lv ≤ x
      · obtain ⟨fn, tmps, assign, body, hy, hR0⟩ := hY _ (k : Int) wr.drew (hJ _ _ hJs) (Nat.lt_of_le_of_lt (plN_len _ _ _ _) hlt)
        have hR := hR0.mono (R' := fun e W' => ∃ b : Bool, e = .returned (.bool b) ∧ (b = true → J (plN l fr lv k ++ [(k : Int)]) W' ∧ Kq n₀ B1 B2 B3 wr.drew W') ∧ (b = false → Jx (plN l fr lv k ++ [(k : Int)]) W')) (by
          rintro e W3 (⟨rfl, hJ3, hk3⟩ | ⟨rfl, hJx3⟩)
          · exact ⟨true, rfl, fun _ => ⟨hJ3, hk3⟩, fun h => by cases h⟩
          · exact ⟨false, rfl, fun h => (by cases h), fun _ => hJx3⟩)
        have hm : Tryz.prog.follows .mixedOrders = true := mix
        gi_wp2
        refine wpIn_mono (Q := fun e a' w' => e = .normal ∧ ∃ bb : Bool, a' = { tmps := #[.func (.yield y) #[] #[], .pointer (some ⟨B1, 0, none⟩), .pointer (some ⟨B2, 0, none⟩), .pointer (some ⟨B3, 0, none⟩), undef, .int .i64 k, .int .i64 fr, .int .i64 (max fr 0), .int .i64 k, .slice (some ⟨b, off, none⟩) l.length cap, .int .i64 l.length, .bool true, u12, u13, .slice (some ⟨b, off, none⟩) l.length cap, .int .i64 k, .pointer (some ⟨b, off + k, none⟩), .int .i64 x, .int .i64 lv, .bool true, .bool true, .func (.yield y) #[] #[], .int .i64 k, .bool bb, .bool (!bb), .bool (!bb)], defers := [] } ∧ (bb = true → J (plN l fr lv k ++ [(k : Int)]) w' ∧ Kq n₀ B1 B2 B3 wr.drew w') ∧ (bb = false → Jx (plN l fr lv k ++ [(k : Int)]) w')) ?_ ?_
        · refine wpIn_region_any hm ?_
          change wpAnyIn _ _ _ _ _ _ _ _ _ (World.drew _)
          refine wpAnyIn_take (i := 1) (v := .int .i64 k) rfl rfl (by kernel_rfl) (by kernel_rfl) (by kernel_rfl) (fun _ _ _ h => nomatch h.1) ⟨.inl ⟨rfl, fun w => by go_simp⟩, fun _ => rfl⟩ ?_
          refine wpAnyIn_ready (rs := [0, 4]) (by kernel_rfl) (by simp) ((AllReadyIn.cons rfl (fun K hK => ?_) (AllReadyIn.cons rfl (fun K hK => ?_) AllReadyIn.nil)))
          · go_simp
            refine hK _ _ ?_
            clear hK K
            refine wpAnyIn_take (i := 2) (v := .pointer (some ⟨b, off + k, none⟩)) rfl rfl (by kernel_rfl) (by kernel_rfl) (by kernel_rfl) (fun _ _ _ h => nomatch h.1) ⟨.inl ⟨rfl, fun w => by go_simp⟩, fun _ => rfl⟩ ?_
            refine wpAnyIn_ready (rs := [3, 4]) (by kernel_rfl) (by simp) ((AllReadyIn.cons rfl (fun K hK => ?_) (AllReadyIn.cons rfl (fun K hK => ?_) AllReadyIn.nil)))
            · go_simp
              refine hK _ _ ?_
              clear hK K
              refine wpAnyIn_ready (rs := [4]) (by kernel_rfl) (by simp) ((AllReadyIn.cons rfl (fun K hK => ?_) AllReadyIn.nil))
              · go_simp
                refine hK _ _ ?_
                clear hK K
                refine wpAnyIn_take (i := 5) (v := .bool true) rfl rfl (by kernel_rfl) (by kernel_rfl) (by kernel_rfl) (fun _ _ _ h => nomatch h.1) ⟨.inl ⟨rfl, fun w => by go_simp⟩, fun _ => rfl⟩ ?_
                refine wpAnyIn_take (i := 6) (v := .bool true) rfl rfl (by kernel_rfl) (by kernel_rfl) (by kernel_rfl) (fun _ _ _ h => nomatch h.1) ⟨.inl ⟨rfl, fun w => by go_simp⟩, fun _ => rfl⟩ ?_
                refine wpAnyIn_take (i := 7) (v := .func (.yield y) #[] #[]) rfl rfl (by kernel_rfl) (by kernel_rfl) (by kernel_rfl) (fun _ _ _ h => nomatch h.1) ⟨.inl ⟨rfl, fun w => by go_simp⟩, fun _ => rfl⟩ ?_
                refine wpAnyIn_take (i := 8) (v := .int .i64 k) rfl rfl (by kernel_rfl) (by kernel_rfl) (by kernel_rfl) (fun _ _ _ h => nomatch h.1) ⟨.inl ⟨rfl, fun w => by go_simp⟩, fun _ => rfl⟩ ?_
                refine wpAnyIn_ready (rs := [9]) (by kernel_rfl) (by simp) (AllReadyIn.cons rfl (fun K hK => ?_) AllReadyIn.nil)
                go_simp
                refine hR.mono ?_
                rintro e W3 ⟨bb, rfl, hy1, hy2⟩
                refine hK _ _ ?_
                clear hK K
                refine wpAnyIn_take (i := 10) (v := .bool (!bb)) rfl rfl (by kernel_rfl) (by kernel_rfl) (by kernel_rfl) (fun _ _ _ h => nomatch h.1) ⟨.inl ⟨rfl, fun w => by go_simp⟩, fun _ => rfl⟩ ?_
                refine wpAnyIn_take (i := 11) (v := .bool (!bb)) rfl rfl (by kernel_rfl) (by kernel_rfl) (by kernel_rfl) (fun _ _ _ h => nomatch h.1) ⟨.inl ⟨rfl, fun w => by go_simp⟩, fun _ => rfl⟩ ?_
                exact wpAnyIn_done (by kernel_rfl) ⟨rfl, bb, rfl, hy1, hy2⟩ _
            · go_simp
              refine hK _ _ ?_
              clear hK K
              refine wpAnyIn_ready (rs := [3]) (by kernel_rfl) (by simp) ((AllReadyIn.cons rfl (fun K hK => ?_) AllReadyIn.nil))
              · go_simp
                refine hK _ _ ?_
                clear hK K
                refine wpAnyIn_take (i := 5) (v := .bool true) rfl rfl (by kernel_rfl) (by kernel_rfl) (by kernel_rfl) (fun _ _ _ h => nomatch h.1) ⟨.inl ⟨rfl, fun w => by go_simp⟩, fun _ => rfl⟩ ?_
                refine wpAnyIn_take (i := 6) (v := .bool true) rfl rfl (by kernel_rfl) (by kernel_rfl) (by kernel_rfl) (fun _ _ _ h => nomatch h.1) ⟨.inl ⟨rfl, fun w => by go_simp⟩, fun _ => rfl⟩ ?_
                refine wpAnyIn_take (i := 7) (v := .func (.yield y) #[] #[]) rfl rfl (by kernel_rfl) (by kernel_rfl) (by kernel_rfl) (fun _ _ _ h => nomatch h.1) ⟨.inl ⟨rfl, fun w => by go_simp⟩, fun _ => rfl⟩ ?_
                refine wpAnyIn_take (i := 8) (v := .int .i64 k) rfl rfl (by kernel_rfl) (by kernel_rfl) (by kernel_rfl) (fun _ _ _ h => nomatch h.1) ⟨.inl ⟨rfl, fun w => by go_simp⟩, fun _ => rfl⟩ ?_
                refine wpAnyIn_ready (rs := [9]) (by kernel_rfl) (by simp) (AllReadyIn.cons rfl (fun K hK => ?_) AllReadyIn.nil)
                go_simp
                refine hR.mono ?_
                rintro e W3 ⟨bb, rfl, hy1, hy2⟩
                refine hK _ _ ?_
                clear hK K
                refine wpAnyIn_take (i := 10) (v := .bool (!bb)) rfl rfl (by kernel_rfl) (by kernel_rfl) (by kernel_rfl) (fun _ _ _ h => nomatch h.1) ⟨.inl ⟨rfl, fun w => by go_simp⟩, fun _ => rfl⟩ ?_
                refine wpAnyIn_take (i := 11) (v := .bool (!bb)) rfl rfl (by kernel_rfl) (by kernel_rfl) (by kernel_rfl) (fun _ _ _ h => nomatch h.1) ⟨.inl ⟨rfl, fun w => by go_simp⟩, fun _ => rfl⟩ ?_
                exact wpAnyIn_done (by kernel_rfl) ⟨rfl, bb, rfl, hy1, hy2⟩ _
          · go_simp
            refine hK _ _ ?_
            clear hK K
            refine wpAnyIn_ready (rs := [0]) (by kernel_rfl) (by simp) ((AllReadyIn.cons rfl (fun K hK => ?_) AllReadyIn.nil))
            · go_simp
              refine hK _ _ ?_
              clear hK K
              refine wpAnyIn_take (i := 2) (v := .pointer (some ⟨b, off + k, none⟩)) rfl rfl (by kernel_rfl) (by kernel_rfl) (by kernel_rfl) (fun _ _ _ h => nomatch h.1) ⟨.inl ⟨rfl, fun w => by go_simp⟩, fun _ => rfl⟩ ?_
              refine wpAnyIn_ready (rs := [3]) (by kernel_rfl) (by simp) ((AllReadyIn.cons rfl (fun K hK => ?_) AllReadyIn.nil))
              · go_simp
                refine hK _ _ ?_
                clear hK K
                refine wpAnyIn_take (i := 5) (v := .bool true) rfl rfl (by kernel_rfl) (by kernel_rfl) (by kernel_rfl) (fun _ _ _ h => nomatch h.1) ⟨.inl ⟨rfl, fun w => by go_simp⟩, fun _ => rfl⟩ ?_
                refine wpAnyIn_take (i := 6) (v := .bool true) rfl rfl (by kernel_rfl) (by kernel_rfl) (by kernel_rfl) (fun _ _ _ h => nomatch h.1) ⟨.inl ⟨rfl, fun w => by go_simp⟩, fun _ => rfl⟩ ?_
                refine wpAnyIn_take (i := 7) (v := .func (.yield y) #[] #[]) rfl rfl (by kernel_rfl) (by kernel_rfl) (by kernel_rfl) (fun _ _ _ h => nomatch h.1) ⟨.inl ⟨rfl, fun w => by go_simp⟩, fun _ => rfl⟩ ?_
                refine wpAnyIn_take (i := 8) (v := .int .i64 k) rfl rfl (by kernel_rfl) (by kernel_rfl) (by kernel_rfl) (fun _ _ _ h => nomatch h.1) ⟨.inl ⟨rfl, fun w => by go_simp⟩, fun _ => rfl⟩ ?_
                refine wpAnyIn_ready (rs := [9]) (by kernel_rfl) (by simp) (AllReadyIn.cons rfl (fun K hK => ?_) AllReadyIn.nil)
                go_simp
                refine hR.mono ?_
                rintro e W3 ⟨bb, rfl, hy1, hy2⟩
                refine hK _ _ ?_
                clear hK K
                refine wpAnyIn_take (i := 10) (v := .bool (!bb)) rfl rfl (by kernel_rfl) (by kernel_rfl) (by kernel_rfl) (fun _ _ _ h => nomatch h.1) ⟨.inl ⟨rfl, fun w => by go_simp⟩, fun _ => rfl⟩ ?_
                refine wpAnyIn_take (i := 11) (v := .bool (!bb)) rfl rfl (by kernel_rfl) (by kernel_rfl) (by kernel_rfl) (fun _ _ _ h => nomatch h.1) ⟨.inl ⟨rfl, fun w => by go_simp⟩, fun _ => rfl⟩ ?_
                exact wpAnyIn_done (by kernel_rfl) ⟨rfl, bb, rfl, hy1, hy2⟩ _
        · rintro e a' W3 ⟨rfl, bb, rfl, hy1, hy2⟩
          cases bb
          · have hy3 := hy2 rfl
            gi_wp2
            refine bodyPost_ret (results_none rfl _ _ _) rfl ?_
            exact ⟨⟨_, rfl⟩, .inr ⟨_, hy3⟩⟩
          · obtain ⟨hy3, hy4⟩ := hy1 rfl
            gi_wp2
            go_roundw
            case rel => exact ⟨k + 1, by omega, by omega, by simp, by rw [plN_hit (by omega) (by rw [hx]; exact hv)]; exact hy3, hnx.trans ((Kq.drew _ _ _ _ _).trans hy4)⟩
            case measure => simp [intOf]; omega
      · have hm : Tryz.prog.follows .mixedOrders = true := mix
        gi_wp2
        refine wpIn_mono (Q := fun e a' w' => e = .normal ∧ a' = { tmps := #[.func (.yield y) #[] #[], .pointer (some ⟨B1, 0, none⟩), .pointer (some ⟨B2, 0, none⟩), .pointer (some ⟨B3, 0, none⟩), undef, .int .i64 k, .int .i64 fr, .int .i64 (max fr 0), .int .i64 k, .slice (some ⟨b, off, none⟩) l.length cap, .int .i64 l.length, .bool true, u12, u13, .slice (some ⟨b, off, none⟩) l.length cap, .int .i64 k, .pointer (some ⟨b, off + k, none⟩), .int .i64 x, .int .i64 lv, .bool false, .bool false, undef, undef, undef, undef, .bool false], defers := [] } ∧ w' = wr.drew) ?_ ?_
        · refine wpIn_region_any hm ?_
          change wpAnyIn _ _ _ _ _ _ _ _ _ (World.drew _)
          refine wpAnyIn_take (i := 1) (v := .int .i64 k) rfl rfl (by kernel_rfl) (by kernel_rfl) (by kernel_rfl) (fun _ _ _ h => nomatch h.1) ⟨.inl ⟨rfl, fun w => by go_simp⟩, fun _ => rfl⟩ ?_
          refine wpAnyIn_ready (rs := [0, 4]) (by kernel_rfl) (by simp) ((AllReadyIn.cons rfl (fun K hK => ?_) (AllReadyIn.cons rfl (fun K hK => ?_) AllReadyIn.nil)))
          · go_simp
            refine hK _ _ ?_
            clear hK K
            refine wpAnyIn_take (i := 2) (v := .pointer (some ⟨b, off + k, none⟩)) rfl rfl (by kernel_rfl) (by kernel_rfl) (by kernel_rfl) (fun _ _ _ h => nomatch h.1) ⟨.inl ⟨rfl, fun w => by go_simp⟩, fun _ => rfl⟩ ?_
            refine wpAnyIn_ready (rs := [3, 4]) (by kernel_rfl) (by simp) ((AllReadyIn.cons rfl (fun K hK => ?_) (AllReadyIn.cons rfl (fun K hK => ?_) AllReadyIn.nil)))
            · go_simp
              refine hK _ _ ?_
              clear hK K
              refine wpAnyIn_ready (rs := [4]) (by kernel_rfl) (by simp) ((AllReadyIn.cons rfl (fun K hK => ?_) AllReadyIn.nil))
              · go_simp
                refine hK _ _ ?_
                clear hK K
                refine wpAnyIn_take (i := 5) (v := .bool false) rfl rfl (by kernel_rfl) (by kernel_rfl) (by kernel_rfl) (fun _ _ _ h => nomatch h.1) ⟨.inl ⟨rfl, fun w => by go_simp⟩, fun _ => rfl⟩ ?_
                refine wpAnyIn_take (i := 6) (v := .bool false) rfl rfl (by kernel_rfl) (by kernel_rfl) (by kernel_rfl) (fun _ _ _ h => nomatch h.1) ⟨.inl ⟨rfl, fun w => by go_simp⟩, fun _ => rfl⟩ ?_
                refine wpAnyIn_take (i := 7) (v := undef) rfl rfl (by kernel_rfl) (by kernel_rfl) (by kernel_rfl) (fun _ _ _ h => nomatch h.1) ⟨.inr ⟨rfl, rfl⟩, fun _ => rfl⟩ ?_
                refine wpAnyIn_take (i := 8) (v := undef) rfl rfl (by kernel_rfl) (by kernel_rfl) (by kernel_rfl) (fun _ _ _ h => nomatch h.1) ⟨.inr ⟨rfl, rfl⟩, fun _ => rfl⟩ ?_
                refine wpAnyIn_take (i := 9) (v := undef) rfl rfl (by kernel_rfl) (by kernel_rfl) (by kernel_rfl) (fun _ _ _ h => nomatch h.1) ⟨.inr ⟨rfl, rfl⟩, fun _ => rfl⟩ ?_
                refine wpAnyIn_take (i := 10) (v := undef) rfl rfl (by kernel_rfl) (by kernel_rfl) (by kernel_rfl) (fun _ _ _ h => nomatch h.1) ⟨.inr ⟨rfl, rfl⟩, fun _ => rfl⟩ ?_
                refine wpAnyIn_take (i := 11) (v := .bool false) rfl rfl (by kernel_rfl) (by kernel_rfl) (by kernel_rfl) (fun _ _ _ h => nomatch h.1) ⟨.inl ⟨rfl, fun w => by go_simp⟩, fun _ => rfl⟩ ?_
                exact wpAnyIn_done (by kernel_rfl) ⟨rfl, rfl, rfl⟩ _
            · go_simp
              refine hK _ _ ?_
              clear hK K
              refine wpAnyIn_ready (rs := [3]) (by kernel_rfl) (by simp) ((AllReadyIn.cons rfl (fun K hK => ?_) AllReadyIn.nil))
              · go_simp
                refine hK _ _ ?_
                clear hK K
                refine wpAnyIn_take (i := 5) (v := .bool false) rfl rfl (by kernel_rfl) (by kernel_rfl) (by kernel_rfl) (fun _ _ _ h => nomatch h.1) ⟨.inl ⟨rfl, fun w => by go_simp⟩, fun _ => rfl⟩ ?_
                refine wpAnyIn_take (i := 6) (v := .bool false) rfl rfl (by kernel_rfl) (by kernel_rfl) (by kernel_rfl) (fun _ _ _ h => nomatch h.1) ⟨.inl ⟨rfl, fun w => by go_simp⟩, fun _ => rfl⟩ ?_
                refine wpAnyIn_take (i := 7) (v := undef) rfl rfl (by kernel_rfl) (by kernel_rfl) (by kernel_rfl) (fun _ _ _ h => nomatch h.1) ⟨.inr ⟨rfl, rfl⟩, fun _ => rfl⟩ ?_
                refine wpAnyIn_take (i := 8) (v := undef) rfl rfl (by kernel_rfl) (by kernel_rfl) (by kernel_rfl) (fun _ _ _ h => nomatch h.1) ⟨.inr ⟨rfl, rfl⟩, fun _ => rfl⟩ ?_
                refine wpAnyIn_take (i := 9) (v := undef) rfl rfl (by kernel_rfl) (by kernel_rfl) (by kernel_rfl) (fun _ _ _ h => nomatch h.1) ⟨.inr ⟨rfl, rfl⟩, fun _ => rfl⟩ ?_
                refine wpAnyIn_take (i := 10) (v := undef) rfl rfl (by kernel_rfl) (by kernel_rfl) (by kernel_rfl) (fun _ _ _ h => nomatch h.1) ⟨.inr ⟨rfl, rfl⟩, fun _ => rfl⟩ ?_
                refine wpAnyIn_take (i := 11) (v := .bool false) rfl rfl (by kernel_rfl) (by kernel_rfl) (by kernel_rfl) (fun _ _ _ h => nomatch h.1) ⟨.inl ⟨rfl, fun w => by go_simp⟩, fun _ => rfl⟩ ?_
                exact wpAnyIn_done (by kernel_rfl) ⟨rfl, rfl, rfl⟩ _
          · go_simp
            refine hK _ _ ?_
            clear hK K
            refine wpAnyIn_ready (rs := [0]) (by kernel_rfl) (by simp) ((AllReadyIn.cons rfl (fun K hK => ?_) AllReadyIn.nil))
            · go_simp
              refine hK _ _ ?_
              clear hK K
              refine wpAnyIn_take (i := 2) (v := .pointer (some ⟨b, off + k, none⟩)) rfl rfl (by kernel_rfl) (by kernel_rfl) (by kernel_rfl) (fun _ _ _ h => nomatch h.1) ⟨.inl ⟨rfl, fun w => by go_simp⟩, fun _ => rfl⟩ ?_
              refine wpAnyIn_ready (rs := [3]) (by kernel_rfl) (by simp) ((AllReadyIn.cons rfl (fun K hK => ?_) AllReadyIn.nil))
              · go_simp
                refine hK _ _ ?_
                clear hK K
                refine wpAnyIn_take (i := 5) (v := .bool false) rfl rfl (by kernel_rfl) (by kernel_rfl) (by kernel_rfl) (fun _ _ _ h => nomatch h.1) ⟨.inl ⟨rfl, fun w => by go_simp⟩, fun _ => rfl⟩ ?_
                refine wpAnyIn_take (i := 6) (v := .bool false) rfl rfl (by kernel_rfl) (by kernel_rfl) (by kernel_rfl) (fun _ _ _ h => nomatch h.1) ⟨.inl ⟨rfl, fun w => by go_simp⟩, fun _ => rfl⟩ ?_
                refine wpAnyIn_take (i := 7) (v := undef) rfl rfl (by kernel_rfl) (by kernel_rfl) (by kernel_rfl) (fun _ _ _ h => nomatch h.1) ⟨.inr ⟨rfl, rfl⟩, fun _ => rfl⟩ ?_
                refine wpAnyIn_take (i := 8) (v := undef) rfl rfl (by kernel_rfl) (by kernel_rfl) (by kernel_rfl) (fun _ _ _ h => nomatch h.1) ⟨.inr ⟨rfl, rfl⟩, fun _ => rfl⟩ ?_
                refine wpAnyIn_take (i := 9) (v := undef) rfl rfl (by kernel_rfl) (by kernel_rfl) (by kernel_rfl) (fun _ _ _ h => nomatch h.1) ⟨.inr ⟨rfl, rfl⟩, fun _ => rfl⟩ ?_
                refine wpAnyIn_take (i := 10) (v := undef) rfl rfl (by kernel_rfl) (by kernel_rfl) (by kernel_rfl) (fun _ _ _ h => nomatch h.1) ⟨.inr ⟨rfl, rfl⟩, fun _ => rfl⟩ ?_
                refine wpAnyIn_take (i := 11) (v := .bool false) rfl rfl (by kernel_rfl) (by kernel_rfl) (by kernel_rfl) (fun _ _ _ h => nomatch h.1) ⟨.inl ⟨rfl, fun w => by go_simp⟩, fun _ => rfl⟩ ?_
                exact wpAnyIn_done (by kernel_rfl) ⟨rfl, rfl, rfl⟩ _
        · rintro e a' W3 ⟨rfl, rfl, rfl⟩
          gi_wp2
          go_roundw
          case rel => exact ⟨k + 1, by omega, by omega, by simp, by rw [plN_miss (by rw [hx]; omega)]; exact hJ _ _ hJs, hnx.trans (Kq.drew _ _ _ _ _)⟩
          case measure => simp [intOf]; omega
    · gi_wp2
      go_end0
      refine ⟨⟨_, rfl⟩, .inl ⟨_, ?_, hJs⟩⟩
      rw [← plN_all]
      rcases hk with hk | hk
      · rw [show k = l.length by omega]
      · rw [plN_low (fun i hi => by omega), plN_low (fun i hi => by omega)]
end Go.Proofs.YtmcapgjdflohfaaGreat.L

namespace Go.Proofs.YtmcapgjdflohfaaGreat.L
open Go Go.RowKit

theorem flat_length {sz : Nat} {ls : List (List Value)} (h : ∀ l ∈ ls, l.length = sz) : ls.flatten.length = ls.length * sz := by
  induction ls with
  | nil => simp
  | cons x r ih =>
    rw [List.flatten_cons, List.length_append, h x (List.mem_cons_self ..), ih (fun l hl => h l (List.mem_cons_of_mem _ hl)), List.length_cons, Nat.succ_mul]; omega
theorem flat_take {sz : Nat} {ls : List (List Value)} (h : ∀ l ∈ ls, l.length = sz) (i : Nat) : ls.flatten.take (i * sz) = (ls.take i).flatten := by
  induction ls generalizing i with
  | nil => simp
  | cons x r ih =>
    cases i with
    | zero => simp
    | succ i =>
      have hx := h x (List.mem_cons_self ..)
      rw [List.take_succ_cons, List.flatten_cons, List.flatten_cons, List.take_append, List.take_of_length_le (by rw [hx, Nat.succ_mul]; omega), hx]
      rw [show (i + 1) * sz - sz = i * sz by rw [Nat.succ_mul]; omega, ih (fun l hl => h l (List.mem_cons_of_mem _ hl))]
theorem flat_drop {sz : Nat} {ls : List (List Value)} (h : ∀ l ∈ ls, l.length = sz) (i : Nat) : ls.flatten.drop (i * sz) = (ls.drop i).flatten := by
  induction ls generalizing i with
  | nil => simp
  | cons x r ih =>
    cases i with
    | zero => simp
    | succ i =>
      have hx := h x (List.mem_cons_self ..)
      rw [List.drop_succ_cons, List.flatten_cons, List.drop_append, List.drop_of_length_le (by rw [hx, Nat.succ_mul]; omega), hx, List.nil_append]
      rw [show (i + 1) * sz - sz = i * sz by rw [Nat.succ_mul]; omega, ih (fun l hl => h l (List.mem_cons_of_mem _ hl))]
theorem flat_set {sz i : Nat} {ls : List (List Value)} {x : List Value} (h : ∀ l ∈ ls, l.length = sz) (hx : x.length = sz) (hi : i < ls.length) : ls.flatten.take (i * sz) ++ x ++ ls.flatten.drop (i * sz + x.length) = (ls.set i x).flatten := by
  rw [hx, show i * sz + sz = (i + 1) * sz by rw [Nat.succ_mul], flat_take h, flat_drop h, List.set_eq_take_append_cons_drop, if_pos hi]
  simp
theorem flat_copy {sz m : Nat} {ls ks : List (List Value)} (h : ∀ l ∈ ls, l.length = sz) (hk : ∀ l ∈ ks, l.length = sz) (hm : ks.length = m) : ls.flatten.take 0 ++ ks.flatten ++ ls.flatten.drop (0 + ks.flatten.length) = (ks ++ ls.drop m).flatten := by
  rw [List.take_zero, List.nil_append, Nat.zero_add, flat_length hk, hm, flat_drop h, List.flatten_append]
theorem flat_one {ls : List (List Value)} (h : ∀ l ∈ ls, one l = true) : one ls.flatten = true := by
  induction ls with
  | nil => rfl
  | cons x r ih =>
    have : one (x ++ r.flatten) = (one x && one r.flatten) := by simp [one]
    rw [List.flatten_cons, this, h x (List.mem_cons_self ..), ih fun l hl => h l (List.mem_cons_of_mem _ hl)]; rfl

section
variable {c : Cx} {n : Nat} {Q : Exit → Env → World → Prop} {σ : Env} {H : List Res} {K : List Fact}
variable {d : Option Tmp} {t : TypeId} {p : String} {af : Array Edge} {g : Option (Nat × Bool)}

/-- 'make([]T, m)', T of so many cells: a block of the call's own. -/
theorem mksA {ops : Array Oper} {d : Nat} {x y : Operand} {tt e : TypeId} {k k' : IntKind} {m sz : Nat} {a b : Int} {z : List Value} {bytes : Nat} {l : List Oper} (ht : c.P.underlying tt = some (.slice e)) (hi : (c.P.info? e).map (fun i => (i.zero, i.size, i.bytes)) = some (some (ag z), sz, bytes)) (hz : z.length = sz) (hs0 : 0 < sz)
    (hx : ev σ x = .int k a) (hy : ev σ y = .int k' b) (ha : a = m) (hb : b = m) (hby : bytes * m ≤ 281474976710656) (hm : m ≤ 9223372036854775807) (hd : Nat.blt d n = true)
    (h : ∀ g, TL c n ops l Q (upd σ d (.slice (some ⟨g, 0, none⟩) m m)) (.blk g (ob (List.replicate m z).flatten e) :: H) K) : TL c n ops (⟨some d, .makeSlice tt x y, t, p, af, none⟩ :: l) Q σ H K := by
  intro w hM a' hr
  refine wpList_run rfl ?_
  obtain ⟨i0, hi0, hzz⟩ := Option.map_eq_some_iff.1 hi
  simp only [Prod.mk.injEq] at hzz
  obtain ⟨hz0, hz1, hz2⟩ := hzz
  have hbb : ((i0.bytes : Nat) : Int) * (m : Int) ≤ 281474976710656 := by
    rw [hz2, ← Int.natCast_mul]
    generalize bytes * m = q at hby ⊢
    omega
  have hall : ∀ l ∈ List.replicate m z, l.length = sz := fun l hl => by rw [(List.mem_replicate.1 hl).2, hz]
  have hcells : madeCells (ag z).cells ((m : Int).toNat * i0.size) = (List.replicate m z).flatten.toArray := by
    rw [hz1]
    apply Array.ext
    · simp [madeCells, hz]
    · intro i h1 h2
      simp only [madeCells, Int.toNat_natCast, Array.size_map, Array.size_range] at h1
      have hq : i / sz < m := (Nat.div_lt_iff_lt_mul hs0).2 h1
      have hr : i % sz < z.length := by rw [hz]; exact Nat.mod_lt _ hs0
      have e1 : (madeCells (ag z).cells ((m : Int).toNat * sz))[i] = z[i % sz] := by
        simp only [madeCells, Value.cells, Array.getElem_map, Array.getElem_range, List.size_toArray, hz]
        rw [getElem!_pos _ _ (by simpa using hr)]; simp
      have e2 : (List.replicate m z).flatten[i]? = z[i % sz]? := by
        have := flat_drop hall (i / sz)
        have h3 : i = i / sz * sz + i % sz := by rw [Nat.mul_comm]; exact (Nat.div_add_mod i sz).symm
        have h4 : ((List.replicate m z).flatten.drop (i / sz * sz))[i % sz]? = (List.replicate m z).flatten[i]? := by rw [List.getElem?_drop, ← h3]
        rw [← h4, this, List.drop_replicate]
        obtain ⟨q, hq2⟩ : ∃ q, m - i / sz = q + 1 := ⟨m - i / sz - 1, by omega⟩
        rw [hq2, List.replicate_succ, List.flatten_cons, List.getElem?_append_left hr]
      rw [e1]
      have h5 : i < (List.replicate m z).flatten.length := by simpa using h2
      rw [List.getElem?_eq_getElem h5, List.getElem?_eq_getElem hr] at e2
      simpa using (Option.some.inj e2).symm
  have hrun := run_make (P := c.P) w tt e i0 (ag z) ht hi0 hz0 k k' (m : Int) (m : Int) (by omega) (by omega) hbb (by omega)
  rw [hcells, Int.toNat_natCast] at hrun
  rw [hr.eval]
  simp only [execOp, hx, hy, ha, hb, hrun, Sem.run_bind, Result.andThen_ok, Sem.run_pure]
  exact h w.heap.size _ (hM.add (World.grownBy_alloc w _ none) (heap_alloc_new w _) (.inr ⟨_, rfl, Nat.le_refl _⟩)) _ (hr.put d _ (by simp [Nat.blt] at hd; omega))
/-- An element stored into such a block. -/
theorem stoE {ops : Array Oper} {tx e : TypeId} {x y : Operand} {l : List Oper} (i j : Nat) {b off sz : Nat} {ls : List (List Value)} {vs : List Value} (hx : ev σ x = .pointer (some ⟨b, off, none⟩)) (hy : ev σ y = ag vs) (ho : off = j * sz)
    (hi : H[i]? = some (.blk b (ob ls.flatten e))) (hs : (c.P.info? tx).map (·.size) = some sz) (hv : vs.length = sz) (h1 : one vs = true) (hls : ∀ l ∈ ls, l.length = sz) (hj : j < ls.length)
    (h : TL c n ops l Q σ (H.set i (.blk b (ob (ls.set j vs).flatten e))) K) : TL c n ops (⟨none, .store tx x y, t, p, af, none⟩ :: l) Q σ H K := by
  subst ho
  refine sto i (vs := vs) hx hy rfl hi (by rw [hs, hv]) h1 ?_ (flat_set hls hv hj) h
  rw [flat_length hls, hv]
  have := Nat.mul_le_mul_right sz (show j + 1 ≤ ls.length by omega)
  rw [Nat.succ_mul] at this
  exact this

theorem flat_at {sz : Nat} (hs0 : 0 < sz) {ls : List (List Value)} (h : ∀ l ∈ ls, l.length = sz) {j : Nat} {v : Value} (hj : ls.flatten[j]? = some v) : ∃ l, ls[j / sz]? = some l ∧ l[j % sz]? = some v := by
  have hlt : j < ls.flatten.length := (List.getElem?_eq_some_iff.1 hj).1
  rw [flat_length h] at hlt
  have hi : j / sz < ls.length := (Nat.div_lt_iff_lt_mul hs0).2 hlt
  have h3 : j = j / sz * sz + j % sz := by rw [Nat.mul_comm]; exact (Nat.div_add_mod j sz).symm
  have h4 : (ls.flatten.drop (j / sz * sz))[j % sz]? = ls.flatten[j]? := by rw [List.getElem?_drop, ← h3]
  rw [← h4, flat_drop h, List.drop_eq_getElem_cons hi, List.flatten_cons] at hj
  have hl : (ls[j / sz]).length = sz := h _ (List.getElem_mem hi)
  rw [List.getElem?_append_left (by rw [hl]; exact Nat.mod_lt _ hs0)] at hj
  exact ⟨_, List.getElem?_eq_getElem hi, hj⟩
theorem Sl.flatCells {sz m cap : Nat} {A : Option Addr} {ls : List (List Value)} {D : Nat → Prop} {w : World} (h : Sl sz A m cap ls D w) (hs0 : 0 < sz) (hm : 0 < m) : ∃ b off, A = some ⟨b, off, none⟩ ∧ ∀ (j : Nat) v, ls.flatten[j]? = some v → w.cell? ⟨b, off + j, none⟩ = some v := by
  obtain ⟨b, off, hA, _, hc⟩ := h.2.2.2.2 hm
  refine ⟨b, off, hA, fun j v hj => ?_⟩
  obtain ⟨l, hl, hv⟩ := flat_at hs0 (fun l hl => (h.2.2.2.1 l hl).1) hj
  have h3 : j = j / sz * sz + j % sz := by rw [Nat.mul_comm]; exact (Nat.div_add_mod j sz).symm
  have := hc _ l hl _ v hv
  rw [h3, ← Nat.add_assoc]
  exact this

/-- copy of a slice that is known onto the beginning of such a block. -/
theorem cpS {ops : Array Oper} {dd : Nat} {x y : Operand} {tx ty e e' : TypeId} {l : List Oper} (i k : Nat) {b m cap n' cap' sz : Nat} {A : Option Addr} {ls ks : List (List Value)} (hx : ev σ x = .slice (some ⟨b, 0, none⟩) m cap) (hy : ev σ y = .slice A n' cap') (hk : K[k]? = some (Sl sz A n' cap' ks))
    (hi : H[i]? = some (.blk b (ob ls.flatten e))) (hu : c.P.underlying tx = some (.slice e')) (hs : (c.P.info? e').map (·.size) = some sz) (hs0 : 0 < sz) (hn0 : 0 < n') (hnm : n' ≤ m) (hls : ∀ l ∈ ls, l.length = sz) (hlm : ls.length = m) (hd : Nat.blt dd n = true)
    (h : TL c n ops l Q (upd σ dd (.int .i64 n')) (H.set i (.blk b (ob (ks ++ ls.drop n').flatten e))) K) :
    TL c n ops (⟨some dd, .call { callee := .builtin .copy, args := #[x, y], argTypes := #[tx, ty] }, t, p, af, none⟩ :: l) Q σ H K := by
  intro w hm a hrep
  refine wpList_run rfl ?_
  have hb := hm.blk i hi
  obtain ⟨D, _, hsl⟩ := hm.sl hk
  obtain ⟨b2, off2, rfl, hcells⟩ := hsl.flatCells hs0 hn0
  have hks : ∀ l ∈ ks, l.length = sz := fun l hl => (hsl.2.2.2.1 l hl).1
  have hk1 : one ks.flatten = true := flat_one fun l hl => (hsl.2.2.2.1 l hl).2
  have hkl : ks.flatten.length = n' * sz := by rw [flat_length hks, hsl.1]
  have hfit : 0 + 0 + ks.flatten.length ≤ ls.flatten.toArray.size := by
    simp only [List.size_toArray]
    rw [hkl, flat_length hls, hlm]
    have := Nat.mul_le_mul_right sz hnm
    omega
  have hst := run_storeCells_at (P := c.P) b 0 e ks.flatten 0 ls.flatten.toArray w hb hfit (fun u hu => List.all_eq_true.1 hk1 u hu)
  have hfc := run_firstCells_some (P := c.P) (w := w) sz n' ⟨b2, off2, none⟩ n' cap' ks.flatten hkl (fun j v hj => by rw [add0]; exact hcells j v hj)
  have hrun : (execOp a.eval ⟨some dd, .call { callee := .builtin .copy, args := #[x, y], argTypes := #[tx, ty] }, t, p, af, none⟩).run c.P w = .ok (.value (.int .i64 n')) (w.setRow b (ks ++ ls.drop n').flatten.toArray) := by
    simp only [execOp, hrep.eval, resolve, invoke, builtin, List.map_toArray, List.map_cons, List.map_nil, hx, hy, Builtin.copy_, Sem.run_bind, Sem.run_pure, Result.andThen_ok, List.getElem?_toArray, List.getElem?_cons_zero, List.getElem?_cons_succ, run_und hu, Builtin.lenOf, run_size hs]
    rw [show Nat.min n' m = n' from Nat.min_eq_left hnm, hfc]
    simp only [Result.andThen_ok]
    rw [hst]
    simp only [Result.andThen_ok, goInt]
    have e := flat_copy (m := n') hls hks hsl.1
    simp only [Nat.zero_add, Nat.add_zero] at e ⊢
    rw [e]
  rw [hrun]
  exact h _ (hm.change i hi (grownBy_setRow w b _) (setRow_heap w b _ _ e _ hb) (.inl rfl)) _ (hrep.put dd _ (by simp [Nat.blt] at hd; omega))

/-- 'xs[:h:m]' of a slice, m not 0. -/
theorem slFull {x z u : Operand} {tx e : TypeId} {A : Option Addr} {m cap : Nat} {k k' : IntKind} {h q mx : Nat} (hu : c.P.underlying tx = some (.slice e)) (hz : (c.P.info? e).map (·.size) = some q) (hx : ev σ x = .slice A m cap) (hh : ev σ z = .int k h) (hm : ev σ u = .int k' mx) (h1 : h ≤ mx) (h2 : mx ≤ cap) :
    Det c σ H K ⟨d, .slice tx x none (some z) (some u), t, p, af, g⟩ (.slice A h mx) := fun w _ => by
  have e1 : (h : Int) ≤ (mx : Int) := by omega
  have e3 : (mx : Int) ≤ (cap : Int) := by omega
  have e2 : A.map (fun a => a.add 0) = A := by
    cases A with
    | none => rfl
    | some a => simp [Addr.add]
  simp [execOp, hx, hh, hm, Instr.sliceAt, Instr.slice, run_und hu, Instr.sliceBounds, Instr.sliceBound, asIntOf, h1, h2, run_size hz, e2]
theorem Sl.shrink {sz n cap cap' : Nat} {A : Option Addr} {ls : List (List Value)} {D : Nat → Prop} {w : World} (h : Sl sz A n cap ls D w) (h1 : n ≤ cap') (h2 : cap' ≤ cap) : Sl sz A n cap' ls D w := ⟨h.1, h1, Nat.le_trans h2 h.2.2.1, h.2.2.2.1, h.2.2.2.2⟩
end
end Go.Proofs.YtmcapgjdflohfaaGreat.L

namespace Go.Proofs.YtmcapgjdflohfaaGreat.L
open Go Go.RowKit
set_option linter.unusedVariables false

theorem inter_First_ (x : List UInt8) (hx : x.length = 32) (w : World) : Calls PP N_inter_First #[ag (b8 x)] w (RS w 32 (hl [x])) := by
  refine enter f_inter_First rfl n_inter_First rfl (M.init PP w (fun _ => False) [] [] trivial (fun _ h => h.elim) trivial) ?_
  refine seq (region (box rfl rfl rfl fun b0 => det rfl (asg rfl) (nilS ?_)))   -- region 0
  refine seq (region (det rfl (ldAll 0 rfl rfl g_api_Hash (by rw [b8_length, hx])) (bsl rfl (bs1 u_sl_api_Hash z_api_Hash s_api_Hash (cs := b8 x) rfl rfl (by rw [b8_length, hx]) (by decide) (by decide)) fun b1 => det rfl (asg rfl) (nilS ?_))))   -- region 1
  have e : (hl [x]).flatten = b8 x := by simp [hl]
  refine ret fun w hm => ?_
  exact retRow (i := 0) (ls := hl [x]) rfl rfl rfl (by rw [e]; rfl) rfl (hl_ok (by simp [hx])) w (hm.asRow 0 rfl rfl (m := 1) (sz := 32) (by rw [b8_length, hx]) (by simp [maxLen]))

/-- May: too many, or one too long: 4. -/
def mayF (xs : List (List UInt8)) : Int := if 1024 < xs.length then 4 else if xs.all (fun x => decide (x.length ≤ 4096)) = true then 0 else 4
theorem txs_May_ (xs : List (List UInt8)) (hn : xs.length ≤ 100000) (A : Option Addr) (cap : Nat) (D : Nat → Prop) (w : World) (hD : ∀ k, D k → k < w.heap.size) (hs : Sl 1 A xs.length cap (tl xs) D w) :
    Calls PP N_txs_May #[.slice A xs.length cap] w (PR w (.int .i64 (mayF xs))) := by
  refine enter f_txs_May rfl n_txs_May rfl (M.init1 PP w Sl.stable hD hs) ?_
  refine seq (region (det rfl (asg rfl) (nilS ?_)))   -- region 0
  refine seq ?_
  refine seq (region (det rfl (mv rfl) (det rfl (lenS u_sl_string rfl) (det rfl (gtr rfl rfl) (nilS ?_)))))   -- region 1
  refine cond rfl (fun h => ?_) (fun h => ?_)   -- on t7
  · have h := of_decide_eq_true h
    refine seq (region (det rfl (asg rfl) (nilS ?_)))   -- region 2
    exact ret (retT rfl rfl (pr' (vi (by rw [mayF, if_pos (by omega)]))))
  · have h0 := of_decide_eq_false h
    refine skipS ?_
    refine seq ?_
    refine seq (region (det rfl (mv rfl) (det rfl (lenS u_sl_string rfl) (det rfl (mv rfl) (nilS ?_)))))   -- region 3
    refine block ?_   -- block 0
    refine loopV (ι := Nat) (fun k => k ≤ xs.length ∧ (xs.take k).all (fun x => decide (x.length ≤ 4096)) = true) (fun k => [(8, .slice A xs.length cap), (9, .int .i64 xs.length), (10, .int .i64 k)]) (fun _ => []) (fun _ => [Sl 1 A xs.length cap (tl xs)]) (fun k => xs.length - k) 0 ⟨by omega, rfl⟩ ⟨rfl, rfl, rfl, trivial⟩ (fun w hm => hm) ?_
    intro k σ ⟨hk, hc⟩
    refine seq (region (det rfl (lss rfl rfl) (nilS ?_)))   -- region 4
    refine seq ?_
    refine cond rfl (fun h => ?_) (fun h => ?_)   -- on t11
    · have h := of_decide_eq_true h
      have hk2 : k < xs.length := by omega
      have eg : xs.getD k [] = xs[k] := by simp [hk2]
      refine skipS ?_
      refine seq ?_
      refine block ?_   -- block 1
      refine seq (region (det rfl (ixS 0 rfl rfl u_sl_string s_string rfl (by omega) (by omega)) (det rfl (ldSO 0 rfl rfl o_string (tl_at (j := k) (by omega) hk2)) (det rfl (asg rfl) (nilS ?_)))))   -- region 5
      rw [eg]
      refine seq (region (det rfl (mv rfl) (det rfl (lenT u_string rfl) (det rfl (gtr rfl rfl) (nilS ?_)))))   -- region 6
      refine cond rfl (fun h => ?_) (fun h => ?_)   -- on t16
      · have h := of_decide_eq_true h
        refine seq (region (det rfl (asg rfl) (nilS ?_)))   -- region 7
        refine ret (retT rfl rfl (pr' (vi ?_)))
        rw [mayF, if_neg (by omega), if_neg]
        intro hall
        have := List.all_eq_true.1 hall _ (List.getElem_mem hk2)
        have := of_decide_eq_true this
        omega
      · have h := of_decide_eq_false h
        refine skip ?_
        show Tr _ _ _ _ _ _ _
        refine region (det rfl (addI rfl rfl (by omega) (by omega)) (det rfl (mv rfl) (nil ?_)))   -- region 8
        refine again (k + 1) ⟨by omega, ?_⟩ ⟨rfl, rfl, rfl, trivial⟩ (fun w hm => hm) (by (first | omega | (dsimp only; omega)))
        rw [List.take_succ_eq_append_getElem hk2, List.all_append, hc]
        simp; omega
    · have h := of_decide_eq_false h
      refine exit ?_   -- 0
      show Tr _ _ _ _ _ _ _
      refine seq (region (det rfl (asg rfl) (nilS ?_)))   -- region 9
      have e : k = xs.length := by omega
      rw [e, List.take_length] at hc
      exact ret (retT rfl rfl (pr' (vi (by rw [mayF, if_neg (by omega), if_pos hc]))))

/-! ### inter.Next -/
def z32 : List UInt8 := List.replicate 32 0
def hset (o : List (List UInt8)) (x : List UInt8) : Nat → List (List UInt8)
  | 0 => o
  | k + 1 => (hset o x k).set k x
theorem hset_length (o : List (List UInt8)) (x : List UInt8) (k : Nat) : (hset o x k).length = o.length := by
  induction k with
  | zero => rfl
  | succ k ih => rw [hset, List.length_set, ih]
theorem hset_get (o : List (List UInt8)) (x : List UInt8) (k j : Nat) (hj : j < o.length) : (hset o x k)[j]? = some (if j < k then x else o.getD j []) := by
  induction k with
  | zero => simp [hset, hj]
  | succ k ih =>
    rw [hset, List.getElem?_set, hset_length]
    by_cases h : k = j
    · subst h; simp [hj]
    · rw [if_neg h, ih]
      congr 1
      by_cases h2 : j < k
      · rw [if_pos h2, if_pos (by omega)]
      · rw [if_neg h2, if_neg (by omega)]
theorem hset_ok {o : List (List UInt8)} {x : List UInt8} (ho : ∀ y ∈ o, y.length = 32) (hx : x.length = 32) (k : Nat) : ∀ y ∈ hset o x k, y.length = 32 := by
  induction k with
  | zero => exact ho
  | succ k ih =>
    intro y hy
    rcases List.mem_or_eq_of_mem_set hy with h | h
    · exact ih y h
    · rw [h]; exact hx
theorem hl_set (o : List (List UInt8)) (j : Nat) (x : List UInt8) : (hl o).set j (b8 x) = hl (o.set j x) := by simp [hl, List.map_set]
theorem hl_len {o : List (List UInt8)} (ho : ∀ y ∈ o, y.length = 32) : ∀ l ∈ hl o, l.length = 32 := fun l h => (hl_ok ho l h).1

/-- What Next makes, step by step. -/
def nextS (xs : List (List UInt8)) (x : List UInt8) (lv : Int) : List (List UInt8) :=
  let L := (min (max lv 0) 255).toNat
  let n := max xs.length (L + 2)
  let last := xs.getD (xs.length - 1) []
  (hset (xs ++ (hset (List.replicate n z32) last n).drop xs.length) x (L + 1)).set (n - 1) last
theorem nextS_eq (xs : List (List UInt8)) (hne : xs ≠ []) (x : List UInt8) (lv : Int) : nextS xs x lv = Mp.next [] xs x lv := by
  have hpos : 0 < xs.length := List.length_pos_iff.2 hne
  unfold nextS Mp.next
  rw [if_neg hne]
  dsimp only
  obtain ⟨L, hL⟩ : ∃ L, (min (max lv 0) 255).toNat = L := ⟨_, rfl⟩
  rw [hL]
  obtain ⟨n, hn⟩ : ∃ n, max xs.length (L + 2) = n := ⟨_, rfl⟩
  rw [hn]
  have hn1 : xs.length ≤ n := by omega
  have hn2 : L + 2 ≤ n := by omega
  have hlen : (xs ++ (hset (List.replicate n z32) (xs.getD (xs.length - 1) []) n).drop xs.length).length = n := by rw [List.length_append, List.length_drop, hset_length, List.length_replicate]; omega
  apply List.ext_getElem?
  intro j
  rw [List.getElem?_set, hset_length, hlen, List.getElem?_map]
  by_cases hj : j < n
  · rw [List.getElem?_range hj, Option.map_some]
    by_cases h1 : j + 1 = n
    · rw [if_pos (by omega), if_pos (by omega), if_pos h1]
    · rw [if_neg (by omega), if_neg h1, hset_get _ _ _ _ (by rw [hlen]; exact hj)]
      congr 1
      by_cases h2 : j ≤ L
      · rw [if_pos (by omega), if_pos h2]
      · rw [if_neg (by omega), if_neg h2]
        by_cases h3 : j < xs.length
        · rw [if_pos h3]
          simp [List.getD_eq_getElem?_getD, List.getElem?_append_left h3]
        · rw [if_neg h3]
          rw [List.getD_eq_getElem?_getD, List.getElem?_append_right (by omega), List.getElem?_drop, hset_get _ _ _ _ (by rw [List.length_replicate]; omega), if_pos (by omega)]
          rfl
  · rw [if_neg (by omega), List.getElem?_eq_none (by rw [hset_length, hlen]; omega), List.getElem?_eq_none (by simp; omega)]; rfl

theorem hl_rep (n : Nat) : hl (List.replicate n z32) = List.replicate n (List.replicate 32 (.int .u8 0)) := by simp only [hl, List.map_replicate]; rfl
theorem rep_ok (n : Nat) : ∀ y ∈ List.replicate n z32, y.length = 32 := fun y h => by rw [(List.mem_replicate.1 h).2]; rfl

theorem inter_Next_ (xs : List (List UInt8)) (hn : xs.length ≤ 100000) (hx : ∀ y ∈ xs, y.length = 32) (x : List UInt8) (hx2 : x.length = 32) (lv : Int) (A : Option Addr) (cap : Nat) (D : Nat → Prop) (w : World) (hD : ∀ k, D k → k < w.heap.size) (hs : Sl 32 A xs.length cap (hl xs) D w) :
    Calls PP N_inter_Next #[.slice A xs.length cap, ag (b8 x), .int .i64 lv] w (RS w 32 (hl (Mp.next [] xs x lv))) := by
  refine enter f_inter_Next rfl n_inter_Next rfl (M.init1 PP w Sl.stable hD hs) ?_
  refine seq (region (box rfl rfl rfl fun b0 => det rfl (asg rfl) (nilS ?_)))   -- region 0
  refine seq ?_
  refine seq (region (det rfl (mv rfl) (det rfl (lenS u_sl_api_Hash rfl) (det rfl (eql rfl rfl) (nilS ?_)))))   -- region 1
  refine cond rfl (fun h => ?_) (fun h => ?_)   -- on t13
  · have h := of_decide_eq_true h
    refine seq (region (det rfl (asg rfl) (nilS ?_)))   -- region 2
    have e : Mp.next [] xs x lv = [] := by rw [Mp.next, if_pos (List.length_eq_zero_iff.1 (by omega))]
    rw [e]; exact ret (retNil rfl rfl rfl)
  · have h0 := of_decide_eq_false h
    have hne : xs ≠ [] := fun h => h0 (by rw [h]; rfl)
    have hpos : 0 < xs.length := List.length_pos_iff.2 hne
    rw [← nextS_eq xs hne x lv]
    obtain ⟨L, hL⟩ : ∃ L, (min (max lv 0) 255).toNat = L := ⟨_, rfl⟩
    obtain ⟨n, hnn⟩ : ∃ n, max xs.length (L + 2) = n := ⟨_, rfl⟩
    obtain ⟨la, hla⟩ : ∃ la, xs.getD (xs.length - 1) [] = la := ⟨_, rfl⟩
    have hla32 : la.length = 32 := by rw [← hla]; exact hx _ (getD_mem (by omega))
    rw [show nextS xs x lv = (hset (xs ++ (hset (List.replicate n z32) la n).drop xs.length) x (L + 1)).set (n - 1) la by rw [nextS, hL, hnn, hla]]
    refine skipS ?_
    refine seq (region (det rfl (mv rfl) (det rfl (maxI rfl rfl) (det rfl (Det.to (minI rfl rfl) (vi (show _ = (L : Int) by omega))) (det rfl (asg rfl) (nilS ?_))))))   -- region 3
    refine seq (region (det rfl (mv rfl) (det rfl (lenS u_sl_api_Hash rfl) (det rfl (mv rfl) (det rfl (addI rfl rfl (by omega) (by omega)) (det rfl (Det.to (maxI rfl rfl) (vi (show _ = (n : Int) by omega))) (mksA u_sl_api_Hash i_api_Hash rfl (by decide) rfl rfl rfl rfl (by omega) (by omega) rfl fun b1 => det rfl (asg rfl) (nilS ?_))))))))   -- region 4
    refine seq (region (det rfl (mv rfl) (det rfl (mv rfl) (det rfl (lenS u_sl_api_Hash rfl) (det rfl (subI rfl rfl (by omega) (by omega)) (det rfl (ixS 0 rfl rfl u_sl_api_Hash s_api_Hash rfl (by omega) (by omega)) (det rfl (ldSA 0 rfl rfl g_api_Hash (hl_at (j := xs.length - 1) (by omega) (by omega))) (alloc z_api_Hash rfl rfl fun b2 => stoA 0 rfl rfl rfl s_api_Hash (by rw [hla, b8_length, hla32]) (b8_one _) rfl (nilS ?_)))))))))   -- region 5
    rw [hla]
    have hrl := rep_ok n
    refine seq ?_
    refine seq (region (det rfl (mv rfl) (det rfl (lenS u_sl_api_Hash rfl) (det rfl (mv rfl) (nilS ?_)))))   -- region 6
    refine block ?_   -- block 0
    refine loopV (ι := Nat) (fun k => k ≤ n) (fun k => [(0, .slice A xs.length cap), (2, .int .i64 L), (4, .pointer (some ⟨b0, 0, none⟩)), (7, .slice (some ⟨b1, 0, none⟩) n n), (8, .pointer (some ⟨b2, 0, none⟩)), (30, .int .i64 n), (31, .int .i64 k)]) (fun k => [.blk b2 (ob (b8 la) T_api_Hash), .blk b1 (ob (hl (hset (List.replicate n z32) la k)).flatten T_api_Hash), .blk b0 (ob (b8 x) T_api_Hash)]) (fun _ => [Sl 32 A xs.length cap (hl xs)]) (fun k => n - k) 0 (by omega) ⟨rfl, rfl, rfl, rfl, rfl, rfl, rfl, trivial⟩ (fun w hm => by
      have e : (hl (hset (List.replicate n z32) la 0)) = List.replicate n (List.replicate 32 (.int .u8 0)) := hl_rep n
      rw [e]; exact hm) ?_
    intro k σ hk
    have hok := hset_ok hrl hla32 k
    have hlen : (hl (hset (List.replicate n z32) la k)).length = n := by rw [hl_length, hset_length, List.length_replicate]
    refine seq (region (det rfl (lss rfl rfl) (nilS ?_)))   -- region 7
    refine seq ?_
    refine cond rfl (fun h => ?_) (fun h => ?_)   -- on t32
    · have h := of_decide_eq_true h
      refine skipS ?_
      refine seq ?_
      refine block ?_   -- block 1
      refine seq (region (det rfl (mv rfl) (det rfl (asg rfl) (nilS ?_))))   -- region 8
      refine region (det rfl (mv rfl) (det rfl (mv rfl) (det rfl (ldAll 0 rfl rfl g_api_Hash (by rw [b8_length, hla32])) (det rfl (ixB rfl rfl u_sl_api_Hash s_api_Hash (by omega) (by omega)) (stoE 1 k rfl rfl (by omega) rfl s_api_Hash (by rw [b8_length, hla32]) (b8_one _) (hl_len hok) (by rw [hlen]; omega) (nil ?_))))))   -- region 9
      show Tr _ _ _ _ _ _ _
      refine region (det rfl (addI rfl rfl (by omega) (by omega)) (det rfl (mv rfl) (nil ?_)))   -- region 10
      refine again (k + 1) (by omega) ⟨rfl, rfl, rfl, rfl, rfl, rfl, rfl, trivial⟩ (fun w hm => ?_) (by (first | omega | (dsimp only; omega)))
      have e : hl (hset (List.replicate n z32) la (k + 1)) = (hl (hset (List.replicate n z32) la k)).set k (b8 la) := (hl_set _ _ _).symm
      show M _ [.blk b2 (ob (b8 la) T_api_Hash), .blk b1 (ob (hl (hset (List.replicate n z32) la (k + 1))).flatten T_api_Hash), .blk b0 (ob (b8 x) T_api_Hash)] _ w
      rw [e]; exact hm
    · have h := of_decide_eq_false h
      have e : k = n := by omega
      subst e
      refine exit ?_   -- 0
      show Tr _ _ _ _ _ _ _
      refine also (f := Sl 32 A xs.length xs.length (hl xs)) Sl.stable (fun D w hK => Sl.shrink hK.1 (Nat.le_refl _) hs.2.1) ?_
      refine seq (region (det rfl (mv rfl) (det rfl (mv rfl) (det rfl (mv rfl) (det rfl (lenS u_sl_api_Hash rfl) (det rfl (mv rfl) (det rfl (lenS u_sl_api_Hash rfl) (det rfl (slFull u_sl_api_Hash s_api_Hash rfl rfl rfl (Nat.le_refl _) hs.2.1) (cpS 1 0 rfl rfl rfl rfl u_sl_api_Hash s_api_Hash (by decide) hpos (by omega) (hl_len hok) hlen rfl (nilS ?_))))))))))   -- region 11
      obtain ⟨o, ho⟩ : ∃ o, xs ++ (hset (List.replicate k z32) la k).drop xs.length = o := ⟨_, rfl⟩
      have eo : hl xs ++ (hl (hset (List.replicate k z32) la k)).drop xs.length = hl o := by rw [← ho, hl, hl, hl, List.map_append, List.map_drop]
      rw [ho, eo]
      have ho32 : ∀ y ∈ o, y.length = 32 := by
        intro y hy
        rw [← ho] at hy
        rcases List.mem_append.1 hy with h | h
        · exact hx y h
        · exact hok y (List.mem_of_mem_drop h)
      have hol : o.length = k := by rw [← ho, List.length_append, List.length_drop, hset_length, List.length_replicate]; omega
      refine seq ?_
      refine seq (region (det rfl (mv rfl) (det rfl (addI rfl rfl (by omega) (by omega)) (det rfl (mv rfl) (nilS ?_)))))   -- region 12
      refine block ?_   -- block 2
      refine loopV (ι := Nat) (fun j => j ≤ L + 1) (fun j => [(4, .pointer (some ⟨b0, 0, none⟩)), (7, .slice (some ⟨b1, 0, none⟩) k k), (8, .pointer (some ⟨b2, 0, none⟩)), (48, .int .i64 ((L : Int) + 1)), (49, .int .i64 j)]) (fun j => [.blk b2 (ob (b8 la) T_api_Hash), .blk b1 (ob (hl (hset o x j)).flatten T_api_Hash), .blk b0 (ob (b8 x) T_api_Hash)]) (fun _ => []) (fun j => L + 1 - j) 0 (by omega) ⟨rfl, rfl, rfl, rfl, rfl, trivial⟩ (fun w hm => hm.more.more) ?_
      intro j σ hj
      have hok2 := hset_ok ho32 hx2 j
      have hlen2 : (hl (hset o x j)).length = k := by rw [hl_length, hset_length, hol]
      refine seq (region (det rfl (lss rfl rfl) (nilS ?_)))   -- region 13
      refine seq ?_
      refine cond rfl (fun h => ?_) (fun h => ?_)   -- on t50
      · have h := of_decide_eq_true h
        refine skipS ?_
        refine seq ?_
        refine block ?_   -- block 3
        refine seq (region (det rfl (mv rfl) (det rfl (asg rfl) (nilS ?_))))   -- region 14
        refine region (det rfl (mv rfl) (det rfl (mv rfl) (det rfl (ldAll 2 rfl rfl g_api_Hash (by rw [b8_length, hx2])) (det rfl (ixB rfl rfl u_sl_api_Hash s_api_Hash (by omega) (by omega)) (stoE 1 j rfl rfl (by omega) rfl s_api_Hash (by rw [b8_length, hx2]) (b8_one _) (hl_len hok2) (by rw [hlen2]; omega) (nil ?_))))))   -- region 15
        show Tr _ _ _ _ _ _ _
        refine region (det rfl (addI rfl rfl (by omega) (by omega)) (det rfl (mv rfl) (nil ?_)))   -- region 16
        refine again (j + 1) (by omega) ⟨rfl, rfl, rfl, rfl, rfl, trivial⟩ (fun w hm => ?_) (by (first | omega | (dsimp only; omega)))
        have e : hl (hset o x (j + 1)) = (hl (hset o x j)).set j (b8 x) := (hl_set _ _ _).symm
        show M _ [.blk b2 (ob (b8 la) T_api_Hash), .blk b1 (ob (hl (hset o x (j + 1))).flatten T_api_Hash), .blk b0 (ob (b8 x) T_api_Hash)] _ w
        rw [e]; exact hm
      · have h := of_decide_eq_false h
        have e : j = L + 1 := by omega
        subst e
        refine exit ?_   -- 2
        show Tr _ _ _ _ _ _ _
        refine seq (region (det rfl (mv rfl) (det rfl (mv rfl) (det rfl (lenS u_sl_api_Hash rfl) (det rfl (subI rfl rfl (by omega) (by omega)) (det rfl (ldAll 0 rfl rfl g_api_Hash (by rw [b8_length, hla32])) (det rfl (ixB rfl rfl u_sl_api_Hash s_api_Hash (by omega) (by omega)) (stoE 1 (k - 1) rfl rfl (by omega) rfl s_api_Hash (by rw [b8_length, hla32]) (b8_one _) (hl_len hok2) (by rw [hlen2]; omega) (nilS ?_)))))))))   -- region 17
        refine seq (region (det rfl (mv rfl) (det rfl (asg rfl) (nilS ?_))))   -- region 18
        rw [hl_set]
        have hf : ∀ y ∈ (hset o x (L + 1)).set (k - 1) la, y.length = 32 := fun y hy => by
          rcases List.mem_or_eq_of_mem_set hy with h | h
          · exact hok2 y h
          · rw [h]; exact hla32
        have hfl : ((hset o x (L + 1)).set (k - 1) la).length = k := by rw [List.length_set, hset_length, hol]
        refine ret fun w hm => ?_
        exact retRow (i := 1) (ls := hl ((hset o x (L + 1)).set (k - 1) la)) rfl rfl rfl rfl (by rw [hl_length, hfl]) (hl_ok hf) w (hm.asRow 1 rfl rfl (m := k) (sz := 32) (by rw [flat_length (hl_len hf), hl_length, hfl]) (by simp only [maxLen]; omega))
end Go.Proofs.YtmcapgjdflohfaaGreat.L

namespace Go.Proofs.YtmcapgjdflohfaaGreat.L
open Go Go.RowKit
set_option linter.unusedVariables false

def behindS (t : List UInt8) (v : List (List UInt8)) (b : Bl) (i : Nat) : List (List UInt8) := if i = 0 then [idL b.h] else Mp.next [] v (idL b.h) (levW (idL b.h) t)
theorem chain_behind_ (t : List UInt8) (ht : t.length = 32) (v : List (List UInt8)) (hn : v.length ≤ 100000) (hv : ∀ y ∈ v, y.length = 32) (b : Bl) (hb : b.h.ok) (i : Nat) (A : Option Addr) (cap : Nat) (D : Nat → Prop) (w : World) (hD : ∀ k, D k → k < w.heap.size) (hs : Sl 32 A v.length cap (hl v) D w) :
    Calls PP N_chain_behind #[ag (b8 t), .slice A v.length cap, ag b.c, .int .i64 i] w (RS w 32 (hl (behindS t v b i))) := by
  refine enter f_chain_behind rfl n_chain_behind rfl (M.init1 PP w Sl.stable hD hs) ?_
  refine seq (region (box rfl rfl rfl fun b0 => box rfl rfl rfl fun b1 => det rfl (asg rfl) (nilS ?_)))   -- region 0
  refine seq (region (det rfl (ldAll 0 rfl rfl g_api_Block (Bl.c_length hb)) (call k_chain_id rfl rfl (fun w _ => chain_id_ b hb w) (alloc z_api_Hash rfl rfl fun b2 => stoA 0 rfl rfl rfl s_api_Hash (by rw [b8_length, idL_length]) (b8_one _) rfl (nilS ?_)))))   -- region 1
  refine seq ?_
  refine seq (region (det rfl (mv rfl) (det rfl (eql rfl rfl) (nilS ?_))))   -- region 2
  refine cond rfl (fun h => ?_) (fun h => ?_)   -- on t13
  · have h := of_decide_eq_true h
    refine seq (region (det rfl (ldAll 0 rfl rfl g_api_Hash (by rw [b8_length, idL_length])) (callSN k_inter_First rfl rfl (fun w _ => inter_First_ _ (idL_length _) w) fun B q => (det rfl (asg rfl) (nilS ?_)))))   -- region 3
    rw [behindS, if_pos (by omega)]
    exact ret (retFr rfl rfl rfl 0 rfl)
  · have h := of_decide_eq_false h
    refine skipS ?_
    refine seq (draw (m := 7) mix (by kernel_rfl) (take 0 rfl (by kernel_rfl) rfl (mv rfl) (take 1 rfl (by kernel_rfl) rfl (ldAll 0 rfl rfl g_api_Hash (by rw [b8_length, idL_length])) (take 2 rfl (by kernel_rfl) rfl (ldAll 0 rfl rfl g_api_Hash (by rw [b8_length, idL_length])) (take 3 rfl (by kernel_rfl) rfl (ldAll 2 rfl rfl g_api_Hash (by rw [b8_length, ht])) (only 4 rfl (by kernel_rfl) rfl k_work_Level rfl rfl (fun w _ => work_Level_ _ t (idL_length _) ht w) (onlySN 5 rfl (by kernel_rfl) rfl k_inter_Next rfl rfl (fun w hm => by
      obtain ⟨D, hD, hs⟩ := hm.sl (k := 0) rfl
      exact inter_Next_ v hn hv _ (idL_length _) _ A cap D w hD hs) fun B q => (take 6 rfl (by kernel_rfl) rfl (asg rfl) (tail (by kernel_rfl) rfl (nilS ?_))))))))))   -- region 4
    rw [behindS, if_neg (by omega)]
    exact ret (retFr rfl rfl rfl 0 rfl)
end Go.Proofs.YtmcapgjdflohfaaGreat.L

namespace Go.Proofs.YtmcapgjdflohfaaGreat.L
open Go Go.RowKit

theorem run_part1 {P : Program} {e : TypeId} (he : isOne P e) {l : List Value} {o : Nat} {v : Value} (hv : l[o]? = some v) (w : World) : (part e l.toArray o).run P w = .ok v w := by
  simp [part, Sem.run_bind, he.run, hv]
theorem run_partA {P : Program} {e : TypeId} {m : Nat} (he : isAg P e m) (l : List Value) (o : Nat) (w : World) : (part e l.toArray o).run P w = .ok (ag ((l.drop o).take m)) w := by
  obtain ⟨d, _, _, h3⟩ := id he
  simp [part, Sem.run_bind, he.run, run_size h3]

theorem eqItems8 {P : Program} {e : TypeId} (hu : P.underlying e = some (.int .u8)) (d : Nat) (a b : List UInt8) (w : World) (hl : a.length = b.length) : ∀ (r j : Nat), j + r = a.length →
    (Op.eqItems (d + 1) e 1 (b8 a).toArray (b8 b).toArray (List.range' j r)).run P w = .ok (decide (a.drop j = b.drop j)) w := by
  have he : isOne P e := ⟨_, hu, rfl⟩
  intro r
  induction r with
  | zero =>
    intro j hj
    rw [List.drop_of_length_le (by omega), List.drop_of_length_le (by omega)]
    simp [Op.eqItems]
  | succ r ih =>
    intro j hj
    have ha : j < a.length := by omega
    have hb : j < b.length := by omega
    rw [List.range'_succ]
    simp only [Op.eqItems, Sem.run_bind, Nat.mul_one]
    rw [run_part1 he (v := .int .u8 (a[j]).toNat) (by simp [b8, ha]) w]
    simp only [Result.andThen_ok]
    rw [run_part1 he (v := .int .u8 (b[j]).toNat) (by simp [b8, hb]) w]
    simp only [Result.andThen_ok]
    rw [run_equalIn_int w d e .u8 .u8 _ _ hu]
    simp only [Result.andThen_ok]
    have e1 : (a.drop j = b.drop j) ↔ (a[j] = b[j] ∧ a.drop (j + 1) = b.drop (j + 1)) := by
      rw [List.drop_eq_getElem_cons ha, List.drop_eq_getElem_cons hb, List.cons.injEq]
    rw [show decide (a.drop j = b.drop j) = decide (a[j] = b[j] ∧ a.drop (j + 1) = b.drop (j + 1)) from decide_eq_decide.2 e1]
    by_cases hc : a[j] = b[j]
    · rw [hc]
      simp only [beq_self_eq_true, Bool.not_true, Bool.false_eq_true, if_false, ih (j + 1) (by omega), true_and]
    · have hne : (((a[j]).toNat : Int) == ((b[j]).toNat : Int)) = false := by
        rw [beq_eq_false_iff_ne]
        intro h
        apply hc
        apply UInt8.toNat_inj.1
        omega
      rw [hne]
      simp only [hc, false_and, decide_false, Bool.not_false, if_true, Sem.run_pure]
/-- Arrays of bytes. -/
theorem eqHash {P : Program} {t e : TypeId} {n : Nat} (hu : P.underlying t = some (.array n e)) (he : P.underlying e = some (.int .u8)) (hs : (P.info? e).map (·.size) = some 1) (d : Nat) (a b : List UInt8) (ha : a.length = n) (hb : b.length = n) (w : World) :
    (Op.equalIn (d + 2) t (ag (b8 a)) (ag (b8 b))).run P w = .ok (decide (a = b)) w := by
  obtain ⟨i, hi, hi1⟩ := Option.map_eq_some_iff.1 hs
  have hc : P.cellsOf e = 1 := by simp [Program.cellsOf, hi, hi1]
  rw [run_equalIn_array w (d + 1) _ _ hu hi, hc, List.range_eq_range']
  have := eqItems8 he d a b w (by omega) n 0 (by omega)
  simpa using this

theorem eqF {P : Program} {d : Nat} {xs ys : Array Value} {f : Field} {fs : List Field} {a b : Value} {r s : Bool} {w : World} (hn : (f.name == "_") = false) (ha : (part f.type xs f.offset).run P w = .ok a w) (hb : (part f.type ys f.offset).run P w = .ok b w)
    (he : (Op.equalIn d f.type a b).run P w = .ok r w) (hr : (Op.eqFields d xs ys fs).run P w = .ok s w) : (Op.eqFields d xs ys (f :: fs)).run P w = .ok (r && s) w := by
  have hn' : f.name ≠ "_" := by simpa using hn
  rw [Op.eqFields]
  simp only [if_pos hn', Sem.run_bind, ha, hb, he, Result.andThen_ok]
  cases r
  · simp
  · simpa using hr
theorem eqF0 {P : Program} {d : Nat} {xs ys : Array Value} {w : World} : (Op.eqFields d xs ys []).run P w = .ok true w := by simp [Op.eqFields]
theorem eqStruct {P : Program} {d : Nat} {xs ys : Array Value} {r : Bool} {w : World} {t : TypeId} {fs : Array Field} (hu : P.underlying t = some (.struct fs)) (hp : P.stoodInHeld t = false) (h : (Op.eqFields d xs ys fs.toList).run P w = .ok r w) : (Op.equalIn (d + 1) t (.agg xs) (.agg ys)).run P w = .ok r w := by
  have hf : P.fieldsOf t = fs := by simp [Program.fieldsOf, hu]
  rw [run_equalIn_struct (P := P) w d t xs ys (by rw [hf]; exact hu) hp, hf]
  exact h
theorem eqInt {P : Program} {d : Nat} {t : TypeId} {k : IntKind} {a b : Int} {w : World} (h : P.underlying t = some (.int k)) : (Op.equalIn (d + 1) t (.int k a) (.int k b)).run P w = .ok (decide (a = b)) w := by
  rw [run_equalIn_int w d t k k a b h]
  rfl

section
variable {c : Cx} {σ : Env} {H : List Res} {K : List Fact} {d : Option Tmp} {t : TypeId} {p : String} {af : Array Edge} {g : Option (Nat × Bool)}
theorem eqlA {x y : Operand} {tx ty : TypeId} {xs ys : List Value} {r : Bool} (hx : ev σ x = ag xs) (hy : ev σ y = ag ys) (hg : c.P.eqGuardType c.P.depth tx = false) (h : ∀ w, (Op.equalIn 10000 tx (ag xs) (ag ys)).run c.P w = .ok r w) :
    Det c σ H K ⟨d, .binOp .eql tx x y ty, t, p, af, g⟩ (.bool r) := fun w _ => by
  simp only [execOp, hx, hy, Sem.run_bind, run_eqGuard_agg w .eql tx x y _ _ hg, Result.andThen_ok, run_eql_struct, h w, Sem.run_pure]
theorem neqA {x y : Operand} {tx ty : TypeId} {xs ys : List Value} {r : Bool} (hx : ev σ x = ag xs) (hy : ev σ y = ag ys) (hg : c.P.eqGuardType c.P.depth tx = false) (h : ∀ w, (Op.equalIn 10000 tx (ag xs) (ag ys)).run c.P w = .ok r w) :
    Det c σ H K ⟨d, .binOp .neq tx x y ty, t, p, af, g⟩ (.bool (!r)) := fun w _ => by
  simp only [execOp, hx, hy, Sem.run_bind, run_eqGuard_agg w .neq tx x y _ _ hg, Result.andThen_ok, run_neq_struct, h w, Sem.run_pure]
end
end Go.Proofs.YtmcapgjdflohfaaGreat.L

namespace Go.Proofs.YtmcapgjdflohfaaGreat.L
open Go Go.RowKit
set_option linter.unusedVariables false

section
variable {c : Cx} {n : Nat} {Q : Exit → Env → World → Prop} {σ : Env} {H : List Res} {K : List Fact}
variable {d : Option Tmp} {t : TypeId} {p : String} {af : Array Edge} {g : Option (Nat × Bool)}
theorem run_append_nothing {P : Program} {w : World} {base size : Nat} {t ty e : TypeId} {i : TypeInfo} (ht : P.underlying t = some (.slice e)) (hi : P.info? e = some i) {v : Value} {n cp : Nat} {xs : List Value} (hown : w.ownsRow base e size v n xs) :
    (Builtin.append_ #[t, t] ty #[v, .slice none 0 cp]).run P w = .ok v w := by
  rcases hown.2 with ⟨rfl, rfl⟩ | ⟨g, cap, cur, rfl, _, _, hnc, _⟩
  · simp [Builtin.append_, run_underlying ht, sizeOf, typeInfo, hi, Builtin.lenOf, Builtin.firstCells]
  · simp [Builtin.append_, run_underlying ht, sizeOf, typeInfo, hi, Builtin.lenOf, Builtin.firstCells, hnc, storeCells]
/-- append of a slice that is known onto a row of the call's own. -/
theorem appS {ops : Array Oper} {d : Nat} {s x : Operand} {tt e : TypeId} {l : List Oper} {z v : Value} {sz bytes n' m cp : Nat} {A : Option Addr} {xs : List Value} {ls : List (List Value)} (i k : Nat)
    (ht : c.P.underlying tt = some (.slice e)) (hinfo : (c.P.info? e).map (fun i => (i.zero, i.size, i.bytes)) = some (some z, sz, bytes)) (hz : z.cells.size = sz) (hsz : 0 < sz)
    (hs : ev σ s = v) (hx : ev σ x = .slice A m cp) (hi : H[i]? = some (.row v e sz n' xs)) (hk : K[k]? = some (Sl sz A m cp ls))
    (hlen : n' + m ≤ maxLen) (hby : (n' + m) * bytes ≤ 140737488355328) (hd : Nat.blt d n = true)
    (h : ∀ A' cap, TL c n ops l Q (upd σ d (.slice A' (n' + m) cap)) (H.set i (.row (.slice A' (n' + m) cap) e sz (n' + m) (xs ++ ls.flatten))) K) :
    TL c n ops (⟨some d, .call { callee := .builtin .append, args := #[s, x], argTypes := #[tt, tt] }, t, p, af, none⟩ :: l) Q σ H K := by
  intro w hM a hr
  obtain ⟨i0, hi0, hzz⟩ := Option.map_eq_some_iff.1 hinfo
  simp only [Prod.mk.injEq] at hzz
  obtain ⟨hz0, hz1, hz2⟩ := hzz
  have hown : w.ownsRow c.w0.heap.size e sz v n' xs := hM.get hi
  obtain ⟨D, _, hsl⟩ := hM.sl hk
  have hls : ∀ l ∈ ls, l.length = sz := fun l hl => (hsl.2.2.2.1 l hl).1
  have h1 : one ls.flatten = true := flat_one fun l hl => (hsl.2.2.2.1 l hl).2
  have hm : ls.flatten.length = m * sz := by rw [flat_length hls, hsl.1]
  have key : ∃ v' w', (Builtin.append_ #[tt, tt] t #[v, .slice A m cp]).run c.P w = .ok v' w' ∧ w'.ownsRow c.w0.heap.size e sz v' (n' + m) (xs ++ ls.flatten) ∧ w.grownBy w' v.ownBlock ∧ (v'.ownBlock = v.ownBlock ∨ v'.ownBlock = some w.heap.size) := by
    cases A with
    | none =>
      have h0 : m = 0 := by
        rcases Nat.eq_zero_or_pos m with h0 | h0
        · exact h0
        · obtain ⟨b, off, hA, _⟩ := hsl.flatCells hsz h0
          cases hA
      subst h0
      have : ls.flatten = [] := List.length_eq_zero_iff.1 (by rw [hm, Nat.zero_mul])
      refine ⟨v, w, run_append_nothing ht hi0 hown, ?_, ⟨rfl, rfl, rfl, Nat.le_refl _, fun _ _ _ => rfl⟩, .inl rfl⟩
      rw [this, List.append_nil]; exact hown
    | some A0 =>
      have hcell : ∀ j u, ls.flatten[j]? = some u → w.cell? (A0.add j) = some u := by
        intro j u hj
        rcases Nat.eq_zero_or_pos m with h0 | h0
        · have := (List.getElem?_eq_some_iff.1 hj).1
          rw [hm, h0, Nat.zero_mul] at this; omega
        · obtain ⟨b, off, hA, hc⟩ := hsl.flatCells hsz h0
          obtain rfl := Option.some.inj hA
          rw [add0]; exact hc j u hj
      obtain ⟨v', w', hrun, hown', hg, _, hat⟩ := run_append_own_at (P := c.P) w c.w0.heap.size tt t e i0 z sz bytes ht hi0 hz0 hz1 hz2 hz hsz v n' xs hown A0 m cp ls.flatten hm hcell (fun u hu => List.all_eq_true.1 h1 u hu) hlen hby hM.size
      exact ⟨v', w', hrun, hown', hg, hat⟩
  obtain ⟨v', w', hrun, hown', hg, hat⟩ := key
  refine wpList_run rfl ?_
  rw [hr.eval]
  simp only [execOp, resolve, invoke, builtin, Sem.run_bind, Sem.run_pure, Result.andThen_ok, List.map_toArray, List.map_cons, List.map_nil, hs, hx, hrun]
  obtain ⟨A', cap, rfl⟩ : ∃ A cap, v' = .slice A (n' + m) cap := by
    rcases hown'.2 with ⟨rfl, h0⟩ | ⟨gg, cap, cur, rfl, _⟩
    · exact ⟨none, 0, by rw [h0]⟩
    · exact ⟨_, cap, rfl⟩
  exact h A' cap w' (hM.change i hi hg hown' (by rcases hat with hat | hat; exact .inl hat; exact .inr (.inr ⟨_, hat, Nat.le_refl _⟩))) _ (hr.put d _ (by simp [Nat.blt] at hd; omega))
/-- append of a slice that is known onto nothing: what it makes. -/
theorem run_appNil {s x : Operand} {tt e : TypeId} {z : Value} {sz bytes m cp : Nat} {A : Option Addr} {ls : List (List Value)} (k : Nat)
    (ht : c.P.underlying tt = some (.slice e)) (hinfo : (c.P.info? e).map (fun i => (i.zero, i.size, i.bytes)) = some (some z, sz, bytes)) (hz : z.cells.size = sz) (hsz : 0 < sz)
    (hs : ev σ s = .slice none 0 0) (hx : ev σ x = .slice A m cp) (hk : K[k]? = some (Sl sz A m cp ls))
    (hlen : m ≤ maxLen) (hby : m * bytes ≤ 140737488355328) :
    ∀ w, M c H K w → ∃ (b : Option Addr × Nat) (w' : World), (execOp (ev σ) ⟨d, .call { callee := .builtin .append, args := #[s, x], argTypes := #[tt, tt] }, t, p, af, g⟩).run c.P w = .ok (.value (.slice b.1 m b.2)) w' ∧ M c (.row (.slice b.1 m b.2) e sz m ls.flatten :: H) K w' := by
  intro w hM
  have hM1 := hM.nilRow e sz
  obtain ⟨D, _, hsl⟩ := hM.sl hk
  have hls : ∀ l ∈ ls, l.length = sz := fun l hl => (hsl.2.2.2.1 l hl).1
  have h1 : one ls.flatten = true := flat_one fun l hl => (hsl.2.2.2.1 l hl).2
  have hm : ls.flatten.length = m * sz := by rw [flat_length hls, hsl.1]
  obtain ⟨i0, hi0, hzz⟩ := Option.map_eq_some_iff.1 hinfo
  simp only [Prod.mk.injEq] at hzz
  obtain ⟨hz0, hz1, hz2⟩ := hzz
  have hown : w.ownsRow c.w0.heap.size e sz (.slice none 0 0) 0 [] := hM1.get (i := 0) rfl
  have hexec : ∀ v' w', (Builtin.append_ #[tt, tt] t #[.slice none 0 0, .slice A m cp]).run c.P w = .ok v' w' → (execOp (ev σ) ⟨d, .call { callee := .builtin .append, args := #[s, x], argTypes := #[tt, tt] }, t, p, af, g⟩).run c.P w = .ok (.value v') w' := by
    intro v' w' hrun
    simp only [execOp, resolve, invoke, builtin, Sem.run_bind, Sem.run_pure, Result.andThen_ok, List.map_toArray, List.map_cons, List.map_nil, hs, hx, hrun]
  cases A with
  | none =>
    have h0 : m = 0 := by
      rcases Nat.eq_zero_or_pos m with h0 | h0
      · exact h0
      · obtain ⟨b, off, hA, _⟩ := hsl.flatCells hsz h0
        cases hA
    subst h0
    have : ls.flatten = [] := List.length_eq_zero_iff.1 (by rw [hm, Nat.zero_mul])
    exact ⟨(none, 0), w, hexec _ _ (run_append_nothing ht hi0 hown), by rw [this]; exact hM1⟩
  | some A0 =>
    have hcell : ∀ j u, ls.flatten[j]? = some u → w.cell? (A0.add j) = some u := by
      intro j u hj
      rcases Nat.eq_zero_or_pos m with h0 | h0
      · have := (List.getElem?_eq_some_iff.1 hj).1
        rw [hm, h0, Nat.zero_mul] at this; omega
      · obtain ⟨b, off, hA, hc⟩ := hsl.flatCells hsz h0
        obtain rfl := Option.some.inj hA
        rw [add0]; exact hc j u hj
    obtain ⟨v', w', hrun, hown', hg, _, hat⟩ := run_append_own_at (P := c.P) w c.w0.heap.size tt t e i0 z sz bytes ht hi0 hz0 hz1 hz2 hz hsz _ 0 [] hown A0 m cp ls.flatten hm hcell (fun u hu => List.all_eq_true.1 h1 u hu) (by omega) (by rw [Nat.zero_add]; exact hby) hM.size
    rw [Nat.zero_add, List.nil_append] at hown'
    obtain ⟨A', cap, rfl⟩ : ∃ A cap, v' = .slice A m cap := by
      rcases hown'.2 with ⟨rfl, h0⟩ | ⟨gg, cap, cur, rfl, _⟩
      · exact ⟨none, 0, by rw [h0]⟩
      · exact ⟨_, cap, rfl⟩
    refine ⟨(A', cap), w', hexec _ _ hrun, ?_⟩
    exact hM1.change 0 rfl hg hown' (by rcases hat with hat | hat; exact .inl hat; exact .inr (.inr ⟨_, hat, Nat.le_refl _⟩))
/-- Facts that follow, in place of those that are known. -/
theorem M.refact {w : World} {K' : List Fact} (hm : M c H K w) (hs : KStable K') (hf : ∀ D : Nat → Prop, KAll K D w → KAll K' D w) : M c H K' w := by
  obtain ⟨D, d1, d2, d3, d4, d5⟩ := hm.data
  exact ⟨hm.os, hm.tape, hm.output, hm.size, hm.frame, hm.holds, hm.mine, hm.nodup, hs, D, d1, d2, d3, d4, hf D d5⟩
end

/-! ### Structs' literals, part behind part -/
theorem fill_cat {place : Nat → Option (Nat × Nat)} {pre z vs : List Value} {i o s : Nat} {v : Value} {rest : List (Nat × Value)} {out : Option (Array Value)} (hp : place i = some (o, s)) (ho : pre.length = o) (hv : v.cells = vs.toArray) (hs : vs.length = s) (hz : s ≤ z.length)
    (h : Instr.fill place ((pre ++ vs) ++ z.drop s).toArray rest = out) : Instr.fill place (pre ++ z).toArray ((i, v) :: rest) = out := by
  subst ho hs
  refine fill_step hp hv rfl (by rw [List.length_append]; omega) ?_ h
  rw [List.take_left, List.drop_append, List.drop_of_length_le (by omega), List.nil_append]
  congr 2; omega
theorem fill_end {place : Nat → Option (Nat × Nat)} {pre z cs : List Value} (hz : z.length = 0) (hc : pre = cs) : Instr.fill place (pre ++ z).toArray [] = some cs.toArray := by
  rw [List.length_eq_zero_iff.1 hz, List.append_nil, hc]; rfl
theorem bldT {c : Cx} {σ : Env} {H : List Res} {K : List Fact} {d : Option Tmp} {t : TypeId} {p : String} {af : Array Edge} {g : Option (Nat × Bool)} {tt : TypeId} {parts : Array (Nat × Operand)} {ps : List (Nat × Value)} {fs : Array Field} {pl : Array (Nat × Nat)} {z cs : List Value} (hz : (c.P.info? tt).map (·.zero) = some (some (ag z))) (ht : c.P.underlying tt = some (.struct fs))
    (hpl : ∀ w, (fs.mapM (fun f => do Pure.pure (f.offset, ← sizeOf f.type) : Field → Sem (Nat × Nat))).run c.P w = .ok pl w) (hps : (parts.toList.map fun (i, x) => (i, ev σ x)) = ps) (hf : Instr.fill (pl[·]?) ([] ++ z).toArray ps = some cs.toArray) :
    Det c σ H K ⟨d, .build tt parts, t, p, af, g⟩ (ag cs) :=
  bldS hz ht hpl (by rw [← hps]; simp) hf

/-! ### Headers -/
set_option maxRecDepth 20000 in
theorem eqHd (x y : Hd) (hx : x.ok) (hy : y.ok) (w : World) : (Op.equalIn 10000 T_api_Header (ag x.c) (ag y.c)).run PP w = .ok (decide (x = y)) w := by
  have ex1 := run_partA g_api_Hash x.c 1 w
  have ey1 := run_partA g_api_Hash y.c 1 w
  have ex2 := run_partA g_api_Hash x.c 33 w
  have ey2 := run_partA g_api_Hash y.c 33 w
  rw [show (x.c.drop 1).take 32 = b8 x.l from Hd.at_l hx] at ex1
  rw [show (y.c.drop 1).take 32 = b8 y.l from Hd.at_l hy] at ey1
  rw [show (x.c.drop 33).take 32 = b8 x.t from Hd.at_t hx] at ex2
  rw [show (y.c.drop 33).take 32 = b8 y.t from Hd.at_t hy] at ey2
  have e := eqStruct (d := 9999) (xs := x.c.toArray) (ys := y.c.toArray) u_api_Header (by kernel_rfl) (eqF (d := 9999) rfl (run_part1 o_uint32 (v := .int .u32 x.h) rfl w) (run_part1 o_uint32 (v := .int .u32 y.h) rfl w) (eqInt u_uint32)
    (eqF rfl ex1 ey1 (eqHash u_api_Hash u_uint8 s_uint8 9997 x.l y.l hx.1 hy.1 w)
    (eqF rfl ex2 ey2 (eqHash u_api_Hash u_uint8 s_uint8 9997 x.t y.t hx.2 hy.2 w)
    (eqF rfl (run_part1 o_uint64 (v := .int .u64 x.n) (show x.c[65]? = _ by have := Hd.at_n hx; simpa using this) w) (run_part1 o_uint64 (v := .int .u64 y.n) (show y.c[65]? = _ by have := Hd.at_n hy; simpa using this) w) (eqInt u_uint64) eqF0))))
  rw [e]
  congr 1
  cases x; cases y
  simp only [Hd.mk.injEq, Bool.and_true, Bool.decide_and]

/-! ### Make, Check -/
theorem bldHd {c : Cx} {σ : Env} {H : List Res} {K : List Fact} {d : Option Tmp} {t : TypeId} {p : String} {af : Array Edge} {g : Option (Nat × Bool)} {parts : Array (Nat × Operand)} (hc : c.P = PP) (x : Hd) (hx : x.ok)
    (hps : (parts.toList.map fun (i, x) => (i, ev σ x)) = [(0, .int .u32 x.h), (1, ag (b8 x.l)), (2, ag (b8 x.t)), (3, .int .u64 x.n)]) :
    Det c σ H K ⟨d, .build T_api_Header parts, t, p, af, g⟩ (ag x.c) := by
  refine bldT (pl := _) (by rw [hc]; exact z_api_Header) (by rw [hc]; exact u_api_Header) (fun w => by rw [hc]; exact run_placesS PP w (by kernel_rfl)) hps ?_
  refine fill_cat (o := 0) (s := 1) (vs := [.int .u32 x.h]) (by kernel_rfl) rfl rfl rfl (by simp) ?_
  refine fill_cat (o := 1) (s := 32) (vs := b8 x.l) (by kernel_rfl) rfl rfl (by rw [b8_length, hx.1]) (by simp) ?_
  refine fill_cat (o := 33) (s := 32) (vs := b8 x.t) (by kernel_rfl) (by simp [b8_length, hx.1]) rfl (by rw [b8_length, hx.2]) (by simp) ?_
  refine fill_cat (o := 65) (s := 1) (vs := [.int .u64 x.n]) (by kernel_rfl) (by simp [b8_length, hx.1, hx.2]) rfl rfl (by simp) ?_
  exact fill_end (by simp) (by simp [Hd.c])

def mkH (h n : Int) (v t : List (List UInt8)) : Hd := ⟨h, linkR v, txsR t, n⟩
theorem mkH_ok (h n : Int) (v t : List (List UInt8)) : (mkH h n v t).ok := ⟨rootF_length _, rootF_length _⟩
theorem block_Make_ (h nn : Int) (v t : List (List UInt8)) (hn : v.length ≤ 100000) (hv : ∀ y ∈ v, y.length = 32) (htn : t.length ≤ 100000) (htx : ∀ x ∈ t, x.length ≤ 100000000) (A B : Option Addr) (cap q : Nat) (D : Nat → Prop) (w : World) (hD : ∀ k, D k → k < w.heap.size) (hs : Sl 32 A v.length cap (hl v) D w) (hs2 : Sl 1 B t.length q (tl t) D w) :
    Calls PP N_block_Make #[.int .u32 h, .slice A v.length cap, .slice B t.length q, .int .u64 nn] w (fun e w' => ∃ s, e = .returned (ag ((mkH h nn v t).c ++ [s])) ∧ Below w.heap.size w w') := by
  have hok := mkH_ok h nn v t
  refine enter f_block_Make rfl n_block_Make rfl (M.init PP w D [] [Sl 32 A v.length cap (hl v), Sl 1 B t.length q (tl t)] ⟨Sl.stable, Sl.stable, trivial⟩ hD ⟨hs, hs2, trivial⟩) ?_
  refine seq (region (alloc z_api_Block rfl rfl fun b0 => nilS ?_))   -- region 0
  refine seq (region (det rfl (mv rfl) (det rfl (mv rfl) (call k_link_Root rfl rfl (fun w hm => by
    obtain ⟨D, hD, hs⟩ := hm.sl (k := 0) rfl
    exact link_Root_ v hn hv A cap D w hD hs) (det rfl (mv rfl) (call k_txs_Root rfl rfl (fun w hm => by
    obtain ⟨D, hD, hs⟩ := hm.sl (k := 1) rfl
    exact txs_Root_ t htn htx B q D w hD hs) (det rfl (mv rfl) (det rfl (bldHd rfl (mkH h nn v t) hok rfl) (alloc z_api_Header rfl rfl fun b1 => stoA 0 rfl rfl rfl s_api_Header (Hd.c_length hok) (Hd.c_one _) rfl (nilS ?_))))))))))   -- region 1
  refine seq (draw (m := 3) mix (by kernel_rfl) (take 0 rfl (by kernel_rfl) rfl (ldAll 0 rfl rfl g_api_Header (Hd.c_length hok)) (take 1 rfl (by kernel_rfl) rfl (mv rfl) (onlyE (β := Option Addr × Nat) (fun b => .slice b.1 t.length b.2) (fun b => .row (.slice b.1 t.length b.2) T_string 1 t.length (tl t).flatten :: _) (fun _ => _) 2 rfl (by kernel_rfl) rfl rfl (run_appNil 1 u_sl_string i_string rfl (by decide) rfl rfl rfl (by simp only [maxLen]; omega) (by omega)) (fun _ _ => drop1) fun b => (tail (by kernel_rfl) rfl (det rfl (bldT z_api_Block u_api_Block (fun w => run_placesS PP w (by kernel_rfl)) rfl (fill_cat (o := 0) (s := 66) (vs := (mkH h nn v t).c) (by kernel_rfl) rfl rfl (Hd.c_length hok) (by simp) (fill_cat (o := 66) (s := 1) (by kernel_rfl) (Hd.c_length hok) rfl rfl (by simp) (fill_end (by simp) rfl)))) (stoA 2 rfl rfl rfl s_api_Block (by rw [List.nil_append, List.length_append, Hd.c_length hok]; rfl) (by rw [List.nil_append, one_append, Hd.c_one]; rfl) rfl (nilS ?_))))))))   -- region 2
  refine ret (retC 2 rfl rfl rfl ?_ fun w hm => ⟨_, rfl, hm.below rfl⟩)
  rw [List.nil_append, List.length_append, Hd.c_length hok]; exact g_api_Block

/-- What is wrong with a block of a height and a vector. -/
def checkB (b : Bl) (h : Int) (v : List (List UInt8)) : Int := if b.h.h ≠ h then 8 else if mayF b.t ≠ 0 then mayF b.t else if mkH h b.h.n v b.t ≠ b.h then 12 else 0
theorem Bl.at_height {b : Bl} : b.c[0 + 0 + 0]? = some (.int .u32 b.h.h) := rfl
theorem Bl.at_nonce {b : Bl} (hb : b.h.ok) : b.c[0 + 0 + 65]? = some (.int .u64 b.h.n) := by
  rw [Bl.c, List.getElem?_append_left (by rw [Hd.c_length hb]; decide)]
  exact Hd.at_n hb
theorem Bl.hd {b : Bl} (hb : b.h.ok) (s : Value) (x : Hd) (hx : x.ok) : ((x.c ++ [s]).drop 0).take 66 = x.c := by
  rw [List.drop_zero, List.take_append_of_le_length (by rw [Hd.c_length hx]; decide), List.take_of_length_le (by rw [Hd.c_length hx]; decide)]
theorem block_Check_ (b : Bl) (hb : b.h.ok) (z : Int) (v : List (List UInt8)) (hn : v.length ≤ 100000) (hv : ∀ y ∈ v, y.length = 32) (htn : b.t.length ≤ 100000) (htx : ∀ x ∈ b.t, x.length ≤ 100000000) (A : Option Addr) (cap : Nat) (D : Nat → Prop) (w : World) (hD : ∀ k, D k → k < w.heap.size) (hs : Sl 32 A v.length cap (hl v) D w) (hs2 : Sl 1 b.A b.t.length b.cap (tl b.t) D w) :
    Calls PP N_block_Check #[ag b.c, .int .u32 z, .slice A v.length cap] w (PR w (.int .i64 (checkB b z v))) := by
  have hok := mkH_ok z b.h.n v b.t
  have hg : PP.eqGuardType PP.depth T_api_Header = false := by kernel_rfl
  refine enter f_block_Check rfl n_block_Check rfl (M.init PP w D [] [Sl 32 A v.length cap (hl v), Sl 1 b.A b.t.length b.cap (tl b.t)] ⟨Sl.stable, Sl.stable, trivial⟩ hD ⟨hs, hs2, trivial⟩) ?_
  refine seq (region (box rfl rfl rfl fun b0 => det rfl (asg rfl) (nilS ?_)))   -- region 0
  refine seq ?_
  refine seq (region (det rfl (fadr rfl u_api_Block rfl s_api_Header) (det rfl (fadr rfl u_api_Header rfl s_uint32) (det rfl (ldB 0 rfl rfl o_uint32 Bl.at_height) (det rfl (mv rfl) (det rfl (neq rfl rfl) (nilS ?_)))))))   -- region 1
  refine cond rfl (fun h => ?_) (fun h => ?_)   -- on t12
  · have h : b.h.h ≠ z := by simpa using h
    refine seq (region (det rfl (asg rfl) (nilS ?_)))   -- region 2
    exact ret (retT rfl rfl (pr' (vi (by rw [checkB, if_pos (by omega)]))))
  · have h1 : b.h.h = z := by simpa using h
    refine skipS ?_
    refine seq ?_
    refine seq (region (det rfl (fadr rfl u_api_Block rfl s_sl_string) (det rfl (Det.to (ldB 0 rfl rfl o_sl_string (Bl.at_s hb)) (v' := .slice b.A b.t.length b.cap) rfl) (call k_txs_May rfl rfl (fun w hm => by
      obtain ⟨D, hD, hs⟩ := hm.sl (k := 1) rfl
      exact txs_May_ b.t htn b.A b.cap D w hD hs) (det rfl (asg rfl) (nilS ?_))))))   -- region 3
    refine seq (region (det rfl (mv rfl) (det rfl (neq rfl rfl) (nilS ?_))))   -- region 4
    refine cond rfl (fun h => ?_) (fun h => ?_)   -- on t17
    · have h : mayF b.t ≠ 0 := by simpa using h
      refine seq (region (det rfl (mv rfl) (det rfl (asg rfl) (nilS ?_))))   -- region 5
      exact ret (retT rfl rfl (pr' (vi (by rw [checkB, if_neg (by omega), if_pos (by omega)]))))
    · have h2 : mayF b.t = 0 := by simpa using h
      refine skipS ?_
      refine seq ?_
      refine seq (draw (m := 12) mix (by kernel_rfl) (take 0 rfl (by kernel_rfl) rfl (mv rfl) (take 1 rfl (by kernel_rfl) rfl (mv rfl) (take 2 rfl (by kernel_rfl) rfl (fadr rfl u_api_Block rfl s_sl_string) (take 3 rfl (by kernel_rfl) rfl (Det.to (ldB 0 rfl rfl o_sl_string (Bl.at_s hb)) (v' := .slice b.A b.t.length b.cap) rfl) (take 4 rfl (by kernel_rfl) rfl (fadr rfl u_api_Block rfl s_api_Header) (take 5 rfl (by kernel_rfl) rfl (fadr rfl u_api_Header rfl s_uint64) (take 6 rfl (by kernel_rfl) rfl (ldB 0 rfl rfl o_uint64 (Bl.at_nonce hb)) (take 9 rfl (by kernel_rfl) rfl (fadr rfl u_api_Block rfl s_api_Header) (take 10 rfl (by kernel_rfl) rfl (ldA 0 rfl rfl g_api_Header (Bl.at_h hb) (Hd.c_length hb)) (onlyC (β := Value) (fun s => ag ((mkH z b.h.n v b.t).c ++ [s])) (fun _ => _) (fun _ => _) 7 rfl (by kernel_rfl) rfl k_block_Make rfl rfl (fun w hm => by
        obtain ⟨D, d1, d2, hD, d4, d5⟩ := hm.data
        exact (block_Make_ z b.h.n v b.t hn hv htn htx A b.A cap b.cap D w hD d5.1 d5.2.1).mono fun e w' ⟨s, he, hb⟩ => ⟨s, he, hm.pure (grown_below hb)⟩) (fun _ _ hm => hm) fun s => (take 8 rfl (by kernel_rfl) rfl (fldA rfl u_api_Block rfl g_api_Header (Bl.hd hb s _ hok)) (take 11 rfl (by kernel_rfl) rfl (neqA rfl rfl hg (eqHd _ _ hok hb)) ((tail (by kernel_rfl) rfl (nilS ?_))))))))))))))))   -- region 6
      refine cond rfl (fun h => ?_) (fun h => ?_)   -- on t30
      · have h : mkH z b.h.n v b.t ≠ b.h := by simpa using h
        refine seq (region (det rfl (asg rfl) (nilS ?_)))   -- region 7
        exact ret (retT rfl rfl (pr' (vi (by rw [checkB, if_neg (by omega), if_neg (by omega), if_pos h]))))
      · have h : mkH z b.h.n v b.t = b.h := by simpa using h
        refine skipS ?_
        refine seq (region (det rfl (asg rfl) (nilS ?_)))   -- region 8
        exact ret (retT rfl rfl (pr' (vi (by rw [checkB, if_neg (by omega), if_neg (by omega), if_neg (fun hc => hc h)]))))
end Go.Proofs.YtmcapgjdflohfaaGreat.L

namespace Go.Proofs.YtmcapgjdflohfaaGreat.L
open Go Go.RowKit
set_option linter.unusedVariables false

/-- A configuration. -/
structure Cf where
  g : Hd
  t : List UInt8
  m : Int
  k : Int
  a : Int
  b : Int
  mb : Int
  mp : Int
def Cf.ok (c : Cf) : Prop := c.g.ok ∧ c.t.length = 32
def Cf.tail (c : Cf) : List Value := [.int .i64 c.m, .int .i64 c.k, .int .i64 c.a, .int .i64 c.b, .int .i64 c.mb, .int .i64 c.mp]
def Cf.c (c : Cf) : List Value := c.g.c ++ (b8 c.t ++ c.tail)
theorem Cf.c_length {c : Cf} (h : c.ok) : c.c.length = 104 := by rw [Cf.c, List.length_append, Hd.c_length h.1, List.length_append, b8_length, h.2]; rfl
theorem Cf.c_one (c : Cf) : one c.c = true := by rw [Cf.c, one_append, one_append, Hd.c_one, b8_one]; rfl
/-- A part at a place. -/
theorem part_at {pre vs post : List Value} {o m : Nat} (ho : pre.length = o) (hm : vs.length = m) : ((pre ++ (vs ++ post)).drop o).take m = vs := by
  rw [← ho, List.drop_left, List.take_append_of_le_length (by omega), List.take_of_length_le (by omega)]
theorem cell_at {pre post : List Value} {v : Value} {o : Nat} (ho : pre.length = o) : (pre ++ (v :: post))[o]? = some v := by
  rw [← ho, List.getElem?_append_right (by omega), Nat.sub_self]; rfl
theorem Cf.at_g {c : Cf} (h : c.ok) (r : List Value) : ((c.c ++ r).drop 0).take 66 = c.g.c := by
  have := part_at (pre := []) (vs := c.g.c) (post := (b8 c.t ++ c.tail) ++ r) rfl (Hd.c_length h.1)
  rw [Cf.c, List.append_assoc]; exact this
theorem Cf.at_t {c : Cf} (h : c.ok) (r : List Value) : ((c.c ++ r).drop 66).take 32 = b8 c.t := by
  have := part_at (pre := c.g.c) (vs := b8 c.t) (post := c.tail ++ r) (m := 32) (Hd.c_length h.1) (by rw [b8_length]; exact h.2)
  rw [Cf.c, List.append_assoc, List.append_assoc]; exact this

/-- What a look holds. -/
def lkC (c : Cf) (i : Nat) (b : Bl) (v : Value) : List Value := c.c ++ (.int .i64 i :: (b.c ++ [v]))
section
variable {c : Cf} {i : Nat} {b : Bl} {v : Value}
theorem lkC_length (h : c.ok) (hb : b.h.ok) : (lkC c i b v).length = 173 := by simp [lkC, Cf.c_length h, Bl.c_length hb]
theorem lkC_one : one (lkC c i b v) = (one [v]) := by
  rw [lkC, one_append, Cf.c_one, show ∀ (v : Value) l, one (v :: l) = (v.oneCell' && one l) from fun _ _ => rfl, one_append, Bl.c_one]; rfl
theorem lkC_i (h : c.ok) : (lkC c i b v)[104]? = some (.int .i64 i) := cell_at (Cf.c_length h)
theorem lkC_g (h : c.ok) : ((lkC c i b v).drop 0).take 66 = c.g.c := Cf.at_g h _
theorem lkC_t (h : c.ok) : ((lkC c i b v).drop 66).take 32 = b8 c.t := Cf.at_t h _
theorem lkC_b (h : c.ok) (hb : b.h.ok) : ((lkC c i b v).drop 105).take 67 = b.c := by
  have := part_at (pre := c.c ++ [.int .i64 i]) (vs := b.c) (post := [v]) (o := 105) (by simp [Cf.c_length h]) (Bl.c_length hb)
  rw [lkC]; simpa using this
theorem lkC_h (h : c.ok) (hb : b.h.ok) : ((lkC c i b v).drop 105).take 66 = b.h.c := by
  have := part_at (pre := c.c ++ [.int .i64 i]) (vs := b.h.c) (post := [b.s] ++ [v]) (o := 105) (by simp [Cf.c_length h]) (Hd.c_length hb)
  rw [lkC, Bl.c]; simpa using this
theorem lkC_v (h : c.ok) (hb : b.h.ok) : (lkC c i b v)[172]? = some v := by
  have := cell_at (pre := c.c ++ ([.int .i64 i] ++ b.c)) (v := v) (post := []) (o := 172) (by simp [Cf.c_length h, Bl.c_length hb])
  rw [lkC]; simpa using this
end

def anchorF (c : Cf) (i : Nat) (b : Bl) : Int := if i = 0 ∧ b.h ≠ c.g then 7 else 0
def workF (c : Cf) (b : Bl) : Int := if okW (idL b.h) c.t = true then 0 else 9

theorem look_anchor_ (c : Cf) (hc : c.ok) (i : Nat) (b : Bl) (hb : b.h.ok) (v : Value) : Pure PP N_chain_look_anchor #[ag (lkC c i b v)] (.int .i64 (anchorF c i b)) := by
  have hg : PP.eqGuardType PP.depth T_api_Header = false := by kernel_rfl
  refine enter0 f_chain_look_anchor rfl n_chain_look_anchor rfl fun w => ?_
  refine seq (region (box rfl rfl rfl fun b0 => det rfl (asg rfl) (nilS ?_)))   -- region 0
  refine seq ?_
  refine seq (region ?_)
  refine det rfl (fadr rfl u_chain_look rfl s_int) ?_
  refine det rfl (ldB 0 rfl rfl o_int (lkC_i hc)) ?_
  refine det rfl (eql rfl rfl) ?_
  refine det rfl (mv rfl) ?_
  by_cases h0 : i = 0
  · refine guardT rfl (vb (decide_eq_true (by omega))) (det rfl (fadr rfl u_chain_look rfl s_api_Block) ?_)
    refine guardT rfl (vb (decide_eq_true (by omega))) (det rfl (fadr rfl u_api_Block rfl s_api_Header) ?_)
    refine guardT rfl (vb (decide_eq_true (by omega))) (det rfl (ldA 0 rfl rfl g_api_Header (lkC_h hc hb) (Hd.c_length hb)) ?_)
    refine guardT rfl (vb (decide_eq_true (by omega))) (det rfl (fadr rfl u_chain_look rfl s_api_Config) ?_)
    refine guardT rfl (vb (decide_eq_true (by omega))) (det rfl (fadr rfl u_api_Config rfl s_api_Header) ?_)
    refine guardT rfl (vb (decide_eq_true (by omega))) (det rfl (ldA 0 rfl rfl g_api_Header (lkC_g hc) (Hd.c_length hc.1)) ?_)
    refine guardT rfl (vb (decide_eq_true (by omega))) (det rfl (neqA rfl rfl hg (eqHd _ _ hb hc.1)) ?_)
    refine det rfl (pick (v := .bool (!decide (b.h = c.g))) (vb (decide_eq_true (by omega))) rfl) ?_
    refine nilS ?_
    refine cond rfl (fun h => ?_) (fun h => ?_)   -- on t14
    · have h : b.h ≠ c.g := by simpa using h
      refine seq (region (det rfl (asg rfl) (nilS ?_)))   -- region 2
      exact ret (retT rfl rfl (pr' (vi (by rw [anchorF, if_pos ⟨h0, h⟩]))))
    · have h : b.h = c.g := by simpa using h
      refine skipS ?_
      refine seq (region (det rfl (asg rfl) (nilS ?_)))   -- region 3
      exact ret (retT rfl rfl (pr' (vi (by rw [anchorF, if_neg (fun x => x.2 h)]))))
  · repeat (first | refine guardF rfl (vb (decide_eq_false (by omega))) rfl ?_ | refine guardU rfl rfl rfl ?_)
    refine det rfl (pick (v := .bool false) (vb (decide_eq_false (by omega))) rfl) ?_
    refine nilS ?_
    refine condF rfl ?_
    refine skipS ?_
    refine seq (region (det rfl (asg rfl) (nilS ?_)))   -- region 3
    exact ret (retT rfl rfl (pr' (vi (by rw [anchorF, if_neg (fun x => h0 x.1)]))))

theorem look_form_ (c : Cf) (hc : c.ok) (i : Nat) (hi : i ≤ 1000000) (b : Bl) (hb : b.h.ok) (v : List (List UInt8)) (hn : v.length ≤ 100000) (hv : ∀ y ∈ v, y.length = 32) (htn : b.t.length ≤ 100000) (htx : ∀ x ∈ b.t, x.length ≤ 100000000) (A : Option Addr) (cap : Nat) (D : Nat → Prop) (w : World) (hD : ∀ k, D k → k < w.heap.size) (hs : Sl 32 A v.length cap (hl v) D w) (hs2 : Sl 1 b.A b.t.length b.cap (tl b.t) D w) :
    Calls PP N_chain_look_form #[ag (lkC c i b (.slice A v.length cap))] w (PR w (.int .i64 (checkB b i v))) := by
  refine enter f_chain_look_form rfl n_chain_look_form rfl (M.init PP w D [] [Sl 32 A v.length cap (hl v), Sl 1 b.A b.t.length b.cap (tl b.t)] ⟨Sl.stable, Sl.stable, trivial⟩ hD ⟨hs, hs2, trivial⟩) ?_
  refine seq (region (box rfl rfl rfl fun b0 => det rfl (asg rfl) (nilS ?_)))   -- region 0
  refine seq (region (det rfl (fadr rfl u_chain_look rfl s_api_Block) (det rfl (ldA 0 rfl rfl g_api_Block (lkC_b hc hb) (Bl.c_length hb)) (det rfl (fadr rfl u_chain_look rfl s_int) (det rfl (ldB 0 rfl rfl o_int (lkC_i hc)) (det rfl (Det.to (conv u_int u_uint32 rfl) (vi (show _ = (i : Int) by rw [IntKind.wrap]; simp [IntKind.bits, IntKind.signed]; omega))) (det rfl (fadr rfl u_chain_look rfl s_sl_api_Hash) (det rfl (ldB 0 rfl rfl o_sl_api_Hash (lkC_v hc hb)) (call k_block_Check rfl rfl (fun w hm => by
    obtain ⟨D, d1, d2, hD, d4, d5⟩ := hm.data
    exact block_Check_ b hb i v hn hv htn htx A cap D w hD d5.1 d5.2.1) (det rfl (asg rfl) (nilS ?_)))))))))))   -- region 1
  exact ret (retT rfl rfl pr)
theorem look_work_ (c : Cf) (hc : c.ok) (i : Nat) (b : Bl) (hb : b.h.ok) (v : Value) : Pure PP N_chain_look_work #[ag (lkC c i b v)] (.int .i64 (workF c b)) := by
  refine enter0 f_chain_look_work rfl n_chain_look_work rfl fun w => ?_
  refine seq (region (box rfl rfl rfl fun b0 => det rfl (asg rfl) (nilS ?_)))   -- region 0
  refine seq ?_
  refine seq (draw (m := 8) mix (by kernel_rfl) (take 0 rfl (by kernel_rfl) rfl (fadr rfl u_chain_look rfl s_api_Block) (take 1 rfl (by kernel_rfl) rfl (ldA 0 rfl rfl g_api_Block (lkC_b hc hb) (Bl.c_length hb)) (take 3 rfl (by kernel_rfl) rfl (fadr rfl u_chain_look rfl s_api_Config) (take 4 rfl (by kernel_rfl) rfl (fadr rfl u_api_Config rfl s_api_Hash) (take 5 rfl (by kernel_rfl) rfl (ldA 0 rfl rfl g_api_Hash (lkC_t hc) (by rw [b8_length]; exact hc.2)) (only 2 rfl (by kernel_rfl) rfl k_chain_id rfl rfl (fun w _ => chain_id_ b hb w) (only 6 rfl (by kernel_rfl) rfl k_work_Ok rfl rfl (fun w _ => work_Ok_ _ _ (idL_length _) hc.2 w) (take 7 rfl (by kernel_rfl) rfl (notB rfl) ((tail (by kernel_rfl) rfl (nilS ?_))))))))))))   -- region 1
  refine cond rfl (fun h => ?_) (fun h => ?_)   -- on t10
  · have h : okW (idL b.h) c.t = false := by simpa using h
    refine seq (region (det rfl (asg rfl) (nilS ?_)))   -- region 2
    exact ret (retT rfl rfl (pr' (vi (by rw [workF, h]; rfl))))
  · have h : okW (idL b.h) c.t = true := by simpa using h
    refine skipS ?_
    refine seq (region (det rfl (asg rfl) (nilS ?_)))   -- region 3
    exact ret (retT rfl rfl (pr' (vi (by rw [workF, if_pos h]))))

/-! ### The asks -/
def asks : List FuncId := [N_chain_look_anchor, N_chain_look_form, N_chain_look_work]
def askF (c : Cf) (i : Nat) (b : Bl) (v : List (List UInt8)) (j : Nat) : Int := if j = 0 then anchorF c i b else if j = 1 then checkB b i v else workF c b
theorem ask_fn (j : Nat) (hj : j < 3) : Fn PP (asks.getD j 0) := by
  match j, hj with
  | 0, _ => exact k_chain_look_anchor
  | 1, _ => exact k_chain_look_form
  | 2, _ => exact k_chain_look_work
theorem ask_ (j : Nat) (hj : j < 3) (c : Cf) (hc : c.ok) (i : Nat) (hi : i ≤ 1000000) (b : Bl) (hb : b.h.ok) (v : List (List UInt8)) (hn : v.length ≤ 100000) (hv : ∀ y ∈ v, y.length = 32) (htn : b.t.length ≤ 100000) (htx : ∀ x ∈ b.t, x.length ≤ 100000000) (A : Option Addr) (cap : Nat) (D : Nat → Prop) (w : World) (hD : ∀ k, D k → k < w.heap.size) (hs : Sl 32 A v.length cap (hl v) D w) (hs2 : Sl 1 b.A b.t.length b.cap (tl b.t) D w) :
    Calls PP (asks.getD j 0) #[ag (lkC c i b (.slice A v.length cap))] w (PR w (.int .i64 (askF c i b v j))) := by
  match j, hj with
  | 0, _ => exact look_anchor_ c hc i b hb _ w
  | 1, _ => exact look_form_ c hc i hi b hb v hn hv htn htx A cap D w hD hs hs2
  | 2, _ => exact look_work_ c hc i b hb _ w

section
variable {c : Cx} {n : Nat} {Q : Exit → Env → World → Prop} {σ : Env} {H : List Res} {K : List Fact}
variable {d : Option Tmp} {t : TypeId} {p : String} {af : Array Edge} {g : Option (Nat × Bool)}
/-- A method's value. -/
theorem mkF {f : FuncId} {first caps : Array Operand} {vs : List Value} (hv : first.toList.map (ev σ) = vs) (hc : caps.toList.map (ev σ) = []) : Det c σ H K ⟨d, .makeFunc (.func f) first caps, t, p, af, g⟩ (.func (.func f) vs.toArray #[]) := fun w _ => by
  simp only [execOp, Instr.makeFunc, map_args hv, map_args hc, Sem.run_bind, Sem.run_pure, Result.andThen_ok]
/-- A call of a method's value. -/
theorem callM {ops : Array Oper} {d s : Nat} {f : FuncId} {args : Array Operand} {ats : Array TypeId} {fs vs : List Value} {l : List Oper} {v : Value} (hf : Fn c.P f) (hs : σ s = .func (.func f) fs.toArray #[]) (ha : args.toList.map (ev σ) = vs) (hd : Nat.blt d n = true)
    (spec : ∀ w, M c H K w → Calls c.P f (fs ++ vs).toArray w fun e w' => e = .returned v ∧ Below w.heap.size w w') (h : TL c n ops l Q (upd σ d v) H K) :
    TL c n ops (⟨some d, .call { callee := .value (.tmp s), args := args, argTypes := ats }, t, p, af, none⟩ :: l) Q σ H K := by
  intro w hm a hr
  obtain ⟨fn, code, hf1, hf2, hf3⟩ := hf
  have hn' : ¬ fn.name = "runtime.NumGoroutine" := by simpa using hf3
  have e : (execOp (ev σ) ⟨some d, .call { callee := .value (.tmp s), args := args, argTypes := ats }, t, p, af, none⟩).run c.P w = .ok (.enter f (fs ++ vs).toArray) w := by
    simp only [execOp, resolve, ev, hs, map_args ha, Deferred.ofValue, Sem.run_bind, Sem.run_pure, Result.andThen_ok, invoke, callFunc]
    simp [hf1, hn', hf2]
  refine wpList_run rfl ?_
  rw [hr.eval, e]
  refine (spec w hm).mono ?_
  rintro e w' ⟨rfl, hbel⟩
  exact h w' (hm.pure (grown_below hbel)) _ (hr.put d _ (by simp [Nat.blt] at hd; omega))
end
end Go.Proofs.YtmcapgjdflohfaaGreat.L
