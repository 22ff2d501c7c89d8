/- strings.Repeat and strings.Join: the shelf's contracts, laid at this seat. -/
import Derived.Shelf.Strings.Repeat
import Derived.Room.Shelf.Join48
import Derived.Test.YtmcapgjdflohfaaGreatLay
import Derived.Test.YtmcapgjdflohfaaGreatTypes
import Derived.Test.YtmcapgjdflohfaaGreatMore
set_option linter.all false
namespace Go.Proofs
open Go.Shelf
theorem YtmcapgjdflohfaaGreat.extra105 : Builder.Extra Tryz.prog YtmcapgjdflohfaaGreat.lays105_ren := {
  sizeBuilder := by kernel_rfl
  liesBuilder := by kernel_rfl
  t5 := Tryz.underlying5
  a5 := Tryz.isAgg5
  z5 := Tryz.sizeOf5
  v5 := Tryz.zeroValue5
  infoByte := by kernel_rfl
  cellsByte := by kernel_rfl
  sizeByte := by kernel_rfl
  neB5 := by decide }
theorem YtmcapgjdflohfaaGreat.extra156 : Builder.Extra Tryz.prog YtmcapgjdflohfaaGreat.lays156_ren := {
  sizeBuilder := by kernel_rfl
  liesBuilder := by kernel_rfl
  t5 := Tryz.underlying5
  a5 := Tryz.isAgg5
  z5 := Tryz.sizeOf5
  v5 := Tryz.zeroValue5
  infoByte := by kernel_rfl
  cellsByte := by kernel_rfl
  sizeByte := by kernel_rfl
  neB5 := by decide }
namespace YtmcapgjdflohfaaGreat.L
open Go Go.RowKit

theorem bs_list (l : List UInt8) : (bs l).data.toList = l := rfl
theorem strings_Repeat_ (l : List UInt8) (k : Nat) (hk : l.length * k ≤ 140737488355328) (h2 : k ≤ 9223372036854775807) : Pure PP N_strings_Repeat #[.string (bs l), .int .i64 k] (.string (bs (Lib.repeatL l k))) := fun w =>
  Any.strings_Repeat YtmcapgjdflohfaaGreat.lays105 YtmcapgjdflohfaaGreat.extra105 (bs l) k w h2 (by rw [bs_size]; exact hk)

theorem flat_join (xs : List (List UInt8)) : Lib.join xs [] = xs.flatten := by
  cases xs with
  | nil => rfl
  | cons x r =>
    rw [Lib.join_cons]
    simp [Lib.joinTail]
/-- strings.Join with no separator, of a block of texts. -/
theorem strings_Join_ (b cap : Nat) (xs : List (List UInt8)) (e : TypeId) (w : World) (hb : w.heap[b]? = some (ob (xs.map fun x => .string (bs x)) e)) (hc : xs.length ≤ cap) (hn : xs.length ≤ 140737488355328) (hl : xs.flatten.length ≤ 281474976710656) :
    Calls PP N_strings_Join #[.slice (some ⟨b, 0, none⟩) xs.length cap, .string ⟨#[]⟩] w (PR w (.string (bs xs.flatten))) := by
  have e1 : (xs.map bs).map (·.data.toList) = xs := by
    rw [List.map_map]
    conv => rhs; rw [← List.map_id xs]
    rfl
  have hj : Lib.join ((xs.map bs).map (·.data.toList)) (⟨#[]⟩ : ByteArray).data.toList = xs.flatten := by rw [e1]; exact flat_join xs
  have := Any.strings_Join_48 YtmcapgjdflohfaaGreat.lays156 YtmcapgjdflohfaaGreat.extra156 b 0 cap (xs.map bs) ⟨#[]⟩ w (fun j x hx => by
    rw [cell_ob hb, Nat.zero_add]
    rw [List.getElem?_map] at hx ⊢
    obtain ⟨y, hy, rfl⟩ := Option.map_eq_some_iff.1 hx
    rw [hy]; rfl) (by
      rcases Nat.lt_or_ge b w.heap.size with h | h
      · exact h
      · rw [Array.getElem?_eq_none h] at hb; cases hb) (by simpa using hn) (by simpa using hc) (by rw [hj]; exact hl)
  rw [hj, List.length_map] at this
  exact this
end YtmcapgjdflohfaaGreat.L
end Go.Proofs
