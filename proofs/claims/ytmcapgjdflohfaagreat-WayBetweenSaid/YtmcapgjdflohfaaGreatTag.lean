/- Package tag. -/
import Derived.Test.YtmcapgjdflohfaaGreatShaS
import Derived.Test.YtmcapgjdflohfaaGreatFork
set_option linter.all false
namespace Go.Proofs.YtmcapgjdflohfaaGreat.L
open Go Go.RowKit
set_option linter.unusedVariables false

theorem sha_Sum' (b : List UInt8) (hb : b.length ≤ 10000000000) : Pure PP N_sha_Sum #[.string (bs b)] (ag (b8 (sha b))) := sha_Sum_ b hb

/-- Texts as cells. -/
def tx (xs : List (List UInt8)) : List Value := xs.map fun x => .string (bs x)
theorem tx_one (xs : List (List UInt8)) : one (tx xs) = true := by
  rw [one, List.all_eq_true]; intro v hv
  obtain ⟨x, _, rfl⟩ := List.mem_map.1 hv; rfl

/-- A block that is data. -/
def Bk (bk : Nat) (o : Obj) : Fact := fun D w => D bk ∧ w.heap[bk]? = some o
theorem Bk.stable {bk : Nat} {o : Obj} : Stable (Bk bk o) := by
  rintro D D' w w' hD hw ⟨h1, h2⟩
  have hlt : bk < w.heap.size := by
    rcases Nat.lt_or_ge bk w.heap.size with h | h
    · exact h
    · rw [Array.getElem?_eq_none h] at h2; cases h2
  exact ⟨hD _ h1, by rw [hw _ h1 hlt]; exact h2⟩
theorem lt_heap {w : World} {b : Nat} {o : Obj} (h : w.heap[b]? = some o) : b < w.heap.size := by
  rcases Nat.lt_or_ge b w.heap.size with h' | h'
  · exact h'
  · rw [Array.getElem?_eq_none h'] at h; cases h
theorem M.bk {c : Cx} {H : List Res} {K : List Fact} {w : World} (hm : M c H K w) {k bk : Nat} {o : Obj} (hk : K[k]? = some (Bk bk o)) : w.heap[bk]? = some o := by
  obtain ⟨D, _, _, h⟩ := hm.fact hk
  exact h.2

/-- tag.Text, called with a block of texts of the caller's. -/
theorem tag_Text_ (g : UInt8) (bk cap : Nat) (xs : List (List UInt8)) (e : TypeId) (hc : xs.length ≤ cap) (hn : xs.length ≤ 1000) (hl : xs.flatten.length ≤ 10000000000) (w : World) (hb : w.heap[bk]? = some (ob (tx xs) e)) :
    Calls PP N_tag_Text #[.int .u8 g.toNat, .slice (some ⟨bk, 0, none⟩) xs.length cap] w (PR w (.string (bs (g :: xs.flatten)))) := by
  refine enter f_tag_Text rfl n_tag_Text rfl (M.init PP w (fun k => k = bk) [] [Bk bk (ob (tx xs) e)] ⟨Bk.stable, trivial⟩ (fun k hk => by rw [hk]; exact lt_heap hb) ⟨⟨rfl, hb⟩, trivial⟩) ?_
  refine seq (region (det rfl (asg rfl) (nilS ?_)))   -- region 0
  refine seq (draw (m := 7) mix (by kernel_rfl) (take 0 rfl (by kernel_rfl) rfl (mv rfl) (take 3 rfl (by kernel_rfl) rfl (mv rfl) (fork2 1 4 (by kernel_rfl) ?_ ?_))))
  · refine canL 1 rfl rfl rfl (bs1 u_sl_uint8 z_uint8 s_uint8 (cs := [.int .u8 g.toNat]) rfl rfl rfl (by decide) (by decide)) fun b => ?_
    refine take 2 rfl (by kernel_rfl) rfl (strB 0 (r := [g]) u_sl_uint8 u_uint8 u_string rfl rfl rfl rfl) ?_
    refine only 4 rfl (by kernel_rfl) rfl k_strings_Join rfl rfl (fun w hm => strings_Join_ bk cap xs e w (hm.bk (k := 0) rfl) hc (by omega) (by omega)) ?_
    refine take 5 rfl (by kernel_rfl) rfl (tadd rfl rfl (by simp only [List.length_singleton]; omega)) ?_
    refine take 6 rfl (by kernel_rfl) rfl (asg rfl) (tail (by kernel_rfl) rfl (nilS ?_))
    exact ret (retT rfl rfl pr)
  · refine canP 4 rfl rfl k_strings_Join rfl rfl (fun w hm => strings_Join_ bk cap xs e w (hm.bk (k := 0) rfl) hc (by omega) (by omega)) ?_
    refine only1 1 (by kernel_rfl) (canL 1 rfl rfl rfl (bs1 u_sl_uint8 z_uint8 s_uint8 (cs := [.int .u8 g.toNat]) rfl rfl rfl (by decide) (by decide)) fun b => ?_)
    refine take 2 rfl (by kernel_rfl) rfl (strB 0 (r := [g]) u_sl_uint8 u_uint8 u_string rfl rfl rfl rfl) ?_
    refine take 5 rfl (by kernel_rfl) rfl (tadd rfl rfl (by simp only [List.length_singleton]; omega)) ?_
    refine take 6 rfl (by kernel_rfl) rfl (asg rfl) (tail (by kernel_rfl) rfl (nilS ?_))
    exact ret (retT rfl rfl pr)
end Go.Proofs.YtmcapgjdflohfaaGreat.L
