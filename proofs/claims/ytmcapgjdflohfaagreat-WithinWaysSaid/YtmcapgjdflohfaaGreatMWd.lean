/- Arguments opened: what a reading tells of headers, blocks, configurations. -/
import Derived.Test.YtmcapgjdflohfaaGreatMWc
import Derived.SizedLaws
import Derived.Deep.Slices
import Derived.OpenShut
import Derived.RangeFuncBox
import Derived.RangeFuncLeaves
import Derived.Shelf.Abstract
import Derived.Shelf.RegionOpen
import Derived.WalkKit
import Derived.OwnWalkIn
import Derived.TacticsInMore
import Derived.LoopNIn
import Derived.LoopIn
import Derived.Maps.AppendAt
import Derived.Laws.ResultCell
set_option linter.all false
namespace Go.Proofs.YtmcapgjdflohfaaGreat.L
open Go Go.RowKit
set_option linter.unusedVariables false
set_option linter.constructorNameAsVariable false

section
variable {H : Type} {enc : TypeId × Value → H} {W : World} {base : Nat} {spare : Nat → Bool} {held : Bool}

/-- Each weight of a datum is no more than a size may be. -/
def Wt {H : Type} (t : TypeId) (d : DataW H) : Prop := ∀ n ∈ d.weights PP t, n ≤ 140737488355328
theorem wt_all {e : TypeId} {l : List (DataW H)} {d : DataW H} (hd : d ∈ l) : ∀ n ∈ d.weights PP e, n ∈ DataW.weightsAll PP e l := by
  induction l with
  | nil => cases hd
  | cons x r ih =>
    intro n hn
    simp only [DataW.weightsAll, List.mem_append]
    rcases List.mem_cons.1 hd with rfl | hd
    · exact .inl hn
    · exact .inr (ih hd n hn)
theorem wt_each {ts : List TypeId} {ds : List (DataW H)} {j : Nat} {t : TypeId} {d : DataW H} (ht : ts[j]? = some t) (hd : ds[j]? = some d) (hw : ∀ n ∈ DataW.weightsEach PP ts ds, n ≤ 140737488355328) : Wt t d :=
  fun n hn => hw n (DataW.weights_mem_each ht hd n hn)

theorem exists_list {α : Type} (n : Nat) (p : Nat → α → Prop) (h : ∀ i < n, ∃ a, p i a) : ∃ l : List α, l.length = n ∧ ∀ i a, l[i]? = some a → p i a := by
  induction n with
  | zero => exact ⟨[], rfl, fun i a h => by simp at h⟩
  | succ n ih =>
    obtain ⟨l, hl, hp⟩ := ih fun i hi => h i (by omega)
    obtain ⟨a, ha⟩ := h n (by omega)
    refine ⟨l ++ [a], by simp [hl], fun i b hb => ?_⟩
    by_cases hi : i < n
    · rw [List.getElem?_append_left (by omega)] at hb; exact hp i b hb
    · have := (List.getElem?_eq_some_iff.1 hb).1
      simp only [List.length_append, List.length_singleton] at this
      have e : i = n := by omega
      subst e
      rw [List.getElem?_append_right (by omega), hl, Nat.sub_self] at hb
      simp only [List.getElem?_cons_zero, Option.some.injEq] at hb
      rw [← hb]; exact ha

theorem dec_slice {α : Type} {t e : TypeId} {sz fuel : Nat} {cs : List Value} {x : DataW H × List MemPlace} (C : α → List Value) (R : α → Prop) (ht : PP.underlying t = some (.slice e)) (hc : PP.cellsOf e = sz) (hsz : 0 < sz)
    (h : DataW.trod enc PP W base spare held fuel t cs = some x) (hw : Wt t x.1)
    (el : ∀ f cs y, DataW.trod enc PP W base spare held f e cs = some y → Wt e y.1 → ∃ a, cs = C a ∧ R a) (hR : ∀ a, R a → (C a).length = sz ∧ one (C a) = true) :
    ∃ A cap, ∃ l : List α, cs = [.slice A l.length cap] ∧ (∀ a ∈ l, R a) ∧ Sl sz A l.length cap (l.map C) (fun k => k < W.heap.size) W := by
  rcases Go.Deep.open_slice ht h with ⟨rfl, _⟩ | ⟨a, len, cap, m, n, D, Pl, rfl, _, hl, hm, hmm, rfl, hx⟩
  · exact ⟨none, 0, [], rfl, (fun a h => nomatch h), Sl.nil⟩
  · have hle : len ≤ m := by rw [hmm]; split <;> omega
    obtain ⟨l, hll, hlp⟩ := exists_list len (fun i b => W.cells? base (a.add (i * sz)) sz = some (C b) ∧ R b) (fun i hi => by
      obtain ⟨cs', h1, h2⟩ := hx i (by omega)
      obtain ⟨b, rfl, hb⟩ := el n cs' _ h2 (fun n hn => hw n (by
        simp only [DataW.weights, ht, List.mem_cons, List.mem_append]
        exact .inr (.inl (wt_all (List.mem_map.2 ⟨i, List.mem_range.2 hi, rfl⟩) n hn))))
      exact ⟨b, by rw [hc] at h1; exact h1, hb⟩)
    have hRl : ∀ b ∈ l, R b := fun b hb => by
      obtain ⟨i, hi, rfl⟩ := List.getElem_of_mem hb
      exact (hlp i _ (List.getElem?_eq_getElem hi)).2
    refine ⟨some a, cap, l, by rw [hll], hRl, ?_⟩
    refine ⟨by simp, by rw [hll]; exact hl, hm, fun c hc => ?_, fun h0 => ?_⟩
    · obtain ⟨b, hb, rfl⟩ := List.mem_map.1 hc
      exact hR b (hRl b hb)
    · have hcell : ∀ i b, l[i]? = some b → ∀ j u, (C b)[j]? = some u → W.cell? (a.add (i * sz + j)) = some u := fun i b hb j u hu => by
        obtain ⟨h1, h2⟩ := hlp i b hb
        obtain ⟨_, h3, h4⟩ := World.cells?_some h1
        have hj := (List.getElem?_eq_some_iff.1 hu).1
        rw [← Go.Deep.add_add, h4 j (by omega), hu]
      have hsp : a.spot = none := by
        have hg : l[0]? = some l[0] := List.getElem?_eq_getElem h0
        have hb := hR _ (hRl _ (List.getElem_mem h0))
        have := hcell 0 _ hg 0 _ (List.getElem?_eq_getElem (by omega))
        simp only [Nat.zero_mul, Nat.add_zero, Addr.add, if_true] at this
        cases hs : a.spot with
        | none => rfl
        | some s =>
          simp only [World.cell?, hs, Option.isSome_some, if_true] at this
          split at this <;> cases this
      obtain ⟨b, off, sp⟩ := a
      simp only at hsp
      subst hsp
      refine ⟨b, off, rfl, ?_, fun i c hi j u hu => ?_⟩
      · have hb := hR _ (hRl _ (List.getElem_mem h0))
        have := hcell 0 _ (List.getElem?_eq_getElem h0) 0 _ (List.getElem?_eq_getElem (by omega))
        rw [add0] at this
        exact World.block_lt_of_cell? W _ this
      · rw [List.getElem?_map] at hi
        obtain ⟨b', hb', rfl⟩ := Option.map_eq_some_iff.1 hi
        have := hcell i b' hb' j u hu
        rw [add0] at this
        rw [Nat.add_assoc]; exact this

/-! ### Values -/
theorem dec_u8 {fuel : Nat} {cs : List Value} {x : DataW H × List MemPlace} (h : DataW.trod enc PP W base spare held fuel T_uint8 cs = some x) : ∃ b : UInt8, cs = [.int .u8 b.toNat] := by
  obtain ⟨n, rfl, _, hw⟩ := DataW.trod_int u_uint8 h
  have := bounds_u8 hw
  refine ⟨UInt8.ofNat n.toNat, ?_⟩
  have e : ((UInt8.ofNat n.toNat).toNat : Int) = n := by
    rw [UInt8.toNat_ofNat']; omega
  rw [e]
theorem dec_hash {fuel : Nat} {cs : List Value} {x : DataW H × List MemPlace} (h : DataW.trod enc PP W base spare held fuel T_api_Hash cs = some x) : ∃ l : List UInt8, l.length = 32 ∧ cs = b8 l := by
  obtain ⟨xs, m, _, _, hlen, hxl, hi⟩ := DataW.trod_array u_api_Hash h
  have h32 : PP.cellsOf T_api_Hash = 32 := by kernel_rfl
  have h1 : PP.cellsOf T_uint8 = 1 := by kernel_rfl
  have h1' : PP.cellsOf 5 = 1 := h1
  rw [h32] at hlen
  obtain ⟨l, hl, hp⟩ := exists_list 32 (fun i (b : UInt8) => cs[i]? = some (.int .u8 b.toNat)) (fun i hi32 => by
    have := hi i hi32
    rw [h1, List.getElem?_eq_getElem (by omega), Nat.mul_one] at this
    obtain ⟨b, hb⟩ := dec_u8 this
    refine ⟨b, ?_⟩
    have e : ((cs.drop i).take 1)[0]? = some (.int .u8 b.toNat) := by rw [hb]; rfl
    rw [List.getElem?_take, if_pos (by decide), List.getElem?_drop, Nat.add_zero] at e
    exact e)
  refine ⟨l, hl, ?_⟩
  apply List.ext_getElem?
  intro i
  by_cases hi : i < 32
  · have hg : l[i]? = some l[i] := List.getElem?_eq_getElem (by omega)
    rw [hp i _ hg, b8, List.getElem?_map, hg]; rfl
  · rw [List.getElem?_eq_none (by omega), List.getElem?_eq_none (by rw [b8_length]; omega)]
theorem cut_eq {cs : List Value} (a b : Nat) : cs.drop a = (cs.drop a).take b ++ cs.drop (a + b) := by
  rw [← List.drop_drop]; exact (List.take_append_drop b (cs.drop a)).symm
theorem fld {m : Nat} {cs : List Value} {fs : Array Field} {xs : List (DataW H × List MemPlace)} (hf : ∀ (i : Nat) (f : Field), fs[i]? = some f → DataW.trod enc PP W base spare held m f.type ((cs.drop f.offset).take (PP.cellsOf f.type)) = xs[i]?)
    (i : Nat) {f : Field} (h : fs[i]? = some f) {ty : TypeId} {o k : Nat} (h1 : f.type = ty) (h2 : f.offset = o) (h3 : PP.cellsOf ty = k) (hi : i < xs.length) : DataW.trod enc PP W base spare held m ty ((cs.drop o).take k) = some xs[i] := by
  have := hf i f h
  rw [h1, h2, h3, List.getElem?_eq_getElem hi] at this
  exact this
theorem dec_head {fuel : Nat} {cs : List Value} {x : DataW H × List MemPlace} (h : DataW.trod enc PP W base spare held fuel T_api_Header cs = some x) : ∃ y : Hd, y.ok ∧ cs = y.c := by
  obtain ⟨xs, m, _, _, hlen, hxl, hf⟩ := DataW.trod_struct u_api_Header h
  have e66 : PP.cellsOf T_api_Header = 66 := by kernel_rfl
  rw [e66] at hlen
  have hxl : xs.length = 4 := hxl
  have f0 := fld hf 0 rfl (ty := T_uint32) (o := 0) rfl rfl (k := 1) (by kernel_rfl) (by omega)
  have f1 := fld hf 1 rfl (ty := T_api_Hash) (o := 1) rfl rfl (k := 32) (by kernel_rfl) (by omega)
  have f2 := fld hf 2 rfl (ty := T_api_Hash) (o := 33) rfl rfl (k := 32) (by kernel_rfl) (by omega)
  have f3 := fld hf 3 rfl (ty := T_uint64) (o := 65) rfl rfl (k := 1) (by kernel_rfl) (by omega)
  obtain ⟨hh, e0, _, _⟩ := DataW.trod_int u_uint32 f0
  obtain ⟨l, hl, e1⟩ := dec_hash f1
  obtain ⟨t, ht, e2⟩ := dec_hash f2
  obtain ⟨n, e3, _, _⟩ := DataW.trod_int u_uint64 f3
  refine ⟨⟨hh, l, t, n⟩, ⟨hl, ht⟩, ?_⟩
  have c0 := cut_eq (cs := cs) 0 1
  have c1 := cut_eq (cs := cs) 1 32
  have c2 := cut_eq (cs := cs) 33 32
  have c3 := cut_eq (cs := cs) 65 1
  rw [List.drop_of_length_le (show cs.length ≤ 65 + 1 by omega), e3] at c3
  rw [e2, show 33 + 32 = 65 from rfl, c3] at c2
  rw [e1, show 1 + 32 = 33 from rfl, c2] at c1
  rw [e0, show 0 + 1 = 1 from rfl, c1, List.drop_zero] at c0
  rw [c0]; rfl
theorem dec_texts {fuel : Nat} {cs : List Value} {x : DataW H × List MemPlace} (h : DataW.trod enc PP W base spare held fuel T_sl_string cs = some x) (hw : Wt T_sl_string x.1) :
    ∃ A cap, ∃ l : List (List UInt8), cs = [.slice A l.length cap] ∧ (∀ s ∈ l, s.length ≤ 140737488355328) ∧ Sl 1 A l.length cap (tl l) (fun k => k < W.heap.size) W :=
  dec_slice (fun s => [.string (bs s)]) (fun s => s.length ≤ 140737488355328) u_sl_string (by kernel_rfl) (by decide) h hw (fun f cs y hy hwy => by
    obtain ⟨s, rfl, hd, _⟩ := DataW.trod_string u_string hy
    refine ⟨s.data.toList, rfl, ?_⟩
    exact hwy _ (by rw [hd]; simp [DataW.weights])) (fun _ _ => ⟨rfl, rfl⟩)
/-- What is known of a block that was handed in. -/
def Bin (W : World) (b : Bl) : Prop := b.h.ok ∧ (∀ x ∈ b.t, x.length ≤ 140737488355328) ∧ Sl 1 b.A b.t.length b.cap (tl b.t) (fun k => k < W.heap.size) W
theorem dec_block {fuel : Nat} {cs : List Value} {x : DataW H × List MemPlace} (h : DataW.trod enc PP W base spare held fuel T_api_Block cs = some x) (hw : Wt T_api_Block x.1) : ∃ b : Bl, cs = b.c ∧ Bin W b := by
  obtain ⟨xs, m, _, hx, hlen, hxl, hf⟩ := DataW.trod_struct u_api_Block h
  have e67 : PP.cellsOf T_api_Block = 67 := by kernel_rfl
  rw [e67] at hlen
  have hxl : xs.length = 2 := hxl
  have f0 := fld hf 0 rfl (ty := T_api_Header) (o := 0) rfl rfl (k := 66) (by kernel_rfl) (by omega)
  have f1 := fld hf 1 rfl (ty := T_sl_string) (o := 66) rfl rfl (k := 1) (by kernel_rfl) (by omega)
  obtain ⟨y, hy, e0⟩ := dec_head f0
  obtain ⟨A, cap, l, e1, hl, hsl⟩ := dec_texts f1 (fun n hn => hw n (by
    rw [hx]
    simp only [DataW.weights, u_api_Block]
    refine DataW.weights_mem_each (j := 1) rfl ?_ n hn
    rw [List.getElem?_map, List.getElem?_eq_getElem (by omega)]; rfl))
  refine ⟨⟨y, A, cap, l⟩, ?_, hy, hl, hsl⟩
  have c0 := cut_eq (cs := cs) 0 66
  have c1 := cut_eq (cs := cs) 66 1
  rw [List.drop_of_length_le (show cs.length ≤ 66 + 1 by omega), e1] at c1
  rw [e0, show 0 + 66 = 66 from rfl, c1, List.drop_zero] at c0
  rw [c0]; rfl
theorem Bin.one {b : Bl} (h : Bin W b) : b.c.length = 67 ∧ one b.c = true := ⟨Bl.c_length h.1, Bl.c_one b⟩
theorem dec_blocks {fuel : Nat} {cs : List Value} {x : DataW H × List MemPlace} (h : DataW.trod enc PP W base spare held fuel T_sl_api_Block cs = some x) (hw : Wt T_sl_api_Block x.1) :
    ∃ A cap, ∃ l : List Bl, cs = [.slice A l.length cap] ∧ (∀ b ∈ l, Bin W b) ∧ Sl 67 A l.length cap (bl l) (fun k => k < W.heap.size) W :=
  dec_slice Bl.c (Bin W) u_sl_api_Block (by kernel_rfl) (by decide) h hw (fun f cs y hy hwy => dec_block hy hwy) (fun _ h => h.one)
theorem dec_int {fuel : Nat} {cs : List Value} {x : DataW H × List MemPlace} (h : DataW.trod enc PP W base spare held fuel T_int cs = some x) : ∃ n : Int, cs = [.int .i64 n] ∧ -9223372036854775808 ≤ n ∧ n ≤ 9223372036854775807 := by
  obtain ⟨n, rfl, _, hw⟩ := DataW.trod_int u_int h
  exact ⟨n, rfl, bounds_i64 hw⟩
/-- A whole number's bounds. -/
def I64 (n : Int) : Prop := -9223372036854775808 ≤ n ∧ n ≤ 9223372036854775807
def Cf.fit (c : Cf) : Prop := I64 c.m ∧ I64 c.k ∧ I64 c.a ∧ I64 c.b ∧ I64 c.mb ∧ I64 c.mp
theorem dec_cfg {fuel : Nat} {cs : List Value} {x : DataW H × List MemPlace} (h : DataW.trod enc PP W base spare held fuel T_api_Config cs = some x) : ∃ c : Cf, cs = c.c ∧ c.ok ∧ c.fit := by
  obtain ⟨xs, m, _, hx, hlen, hxl, hf⟩ := DataW.trod_struct u_api_Config h
  have e104 : PP.cellsOf T_api_Config = 104 := by kernel_rfl
  rw [e104] at hlen
  have hxl : xs.length = 8 := hxl
  have f0 := fld hf 0 rfl (ty := T_api_Header) (o := 0) rfl rfl (k := 66) (by kernel_rfl) (by omega)
  have f1 := fld hf 1 rfl (ty := T_api_Hash) (o := 66) rfl rfl (k := 32) (by kernel_rfl) (by omega)
  have f2 := fld hf 2 rfl (ty := T_int) (o := 98) rfl rfl (k := 1) (by kernel_rfl) (by omega)
  have f3 := fld hf 3 rfl (ty := T_int) (o := 99) rfl rfl (k := 1) (by kernel_rfl) (by omega)
  have f4 := fld hf 4 rfl (ty := T_int) (o := 100) rfl rfl (k := 1) (by kernel_rfl) (by omega)
  have f5 := fld hf 5 rfl (ty := T_int) (o := 101) rfl rfl (k := 1) (by kernel_rfl) (by omega)
  have f6 := fld hf 6 rfl (ty := T_int) (o := 102) rfl rfl (k := 1) (by kernel_rfl) (by omega)
  have f7 := fld hf 7 rfl (ty := T_int) (o := 103) rfl rfl (k := 1) (by kernel_rfl) (by omega)
  obtain ⟨g, hg, e0⟩ := dec_head f0
  obtain ⟨t, ht, e1⟩ := dec_hash f1
  obtain ⟨n2, e2, b2⟩ := dec_int f2
  obtain ⟨n3, e3, b3⟩ := dec_int f3
  obtain ⟨n4, e4, b4⟩ := dec_int f4
  obtain ⟨n5, e5, b5⟩ := dec_int f5
  obtain ⟨n6, e6, b6⟩ := dec_int f6
  obtain ⟨n7, e7, b7⟩ := dec_int f7
  refine ⟨⟨g, t, n2, n3, n4, n5, n6, n7⟩, ?_, ⟨hg, ht⟩, b2, b3, b4, b5, b6, b7⟩
  have c0 := cut_eq (cs := cs) 0 66
  have c1 := cut_eq (cs := cs) 66 32
  have c2 := cut_eq (cs := cs) 98 1
  have c3 := cut_eq (cs := cs) 99 1
  have c4 := cut_eq (cs := cs) 100 1
  have c5 := cut_eq (cs := cs) 101 1
  have c6 := cut_eq (cs := cs) 102 1
  have c7 := cut_eq (cs := cs) 103 1
  rw [List.drop_of_length_le (show cs.length ≤ 103 + 1 by omega), e7] at c7
  rw [e6, show 102 + 1 = 103 from rfl, c7] at c6
  rw [e5, show 101 + 1 = 102 from rfl, c6] at c5
  rw [e4, show 100 + 1 = 101 from rfl, c5] at c4
  rw [e3, show 99 + 1 = 100 from rfl, c4] at c3
  rw [e2, show 98 + 1 = 99 from rfl, c3] at c2
  rw [e1, show 66 + 32 = 98 from rfl, c2] at c1
  rw [e0, show 0 + 66 = 66 from rfl, c1, List.drop_zero] at c0
  rw [c0]; rfl
end
/-- The zero configuration's cells. -/
def cf0 : List Value := ([.int .u32 0] ++ (List.replicate 32 (.int .u8 0) ++ (List.replicate 32 (.int .u8 0) ++ [.int .u64 0]))) ++ (List.replicate 32 (.int .u8 0) ++ [.int .i64 0, .int .i64 0, .int .i64 0, .int .i64 0, .int .i64 0, .int .i64 0])
theorem wt_of {H : Type} {ts : List TypeId} {ds : List (DataW H)} (h : (DataW.weightsEach PP ts ds).all (· ≤ reachBytes) = true) {j : Nat} {t : TypeId} {d : DataW H} (ht : ts[j]? = some t) (hd : ds[j]? = some d) : Wt t d := fun n hn => by
  have := List.all_eq_true.1 h _ (DataW.weights_mem_each ht hd n hn)
  have := of_decide_eq_true this
  have := reachBytes_lt
  omega
theorem okAgg {W : World} {r : Reach} {base : Nat} {t : TypeId} {v : Value} {fs : Array Field} (ht : PP.underlying t = some (.struct fs)) (h : Value.okWide PP W r base t v) : ∃ cs : Array Value, v = .agg cs := by
  unfold Value.okWide at h
  rw [ht] at h
  obtain ⟨cs, rfl, _⟩ := h
  exact ⟨cs, rfl⟩
end Go.Proofs.YtmcapgjdflohfaaGreat.L

namespace Go.Proofs.YtmcapgjdflohfaaGreat.L
open Go Go.RowKit Mp
set_option linter.unusedVariables false

theorem getD_mem' {l : List Int} {i : Nat} (h : i < l.length) : l.getD i 0 ∈ l := by
  rw [List.getD_eq_getElem?_getD, List.getElem?_eq_getElem h]; exact List.getElem_mem h
/-- An end with so many has enough of them. -/
def supN (l : List Int) (lv a b : Int) (n : Nat) : Bool := aboveR n (l.length - ((Mp.places l 0 lv).getD ((Mp.places l 0 lv).length - n) 0).toNat) lv a b
def superR (l : List Int) (lv m a b : Int) : Bool := (List.range ((Mp.places l 0 lv).length + 1)).all fun n => decide ((n : Int) < max m 1) || supN l lv a b n
theorem super_no {l : List Int} {lv m a b : Int} {n : Nat} (h1 : max m 1 ≤ n) (h2 : n ≤ (Mp.places l 0 lv).length) (h : supN l lv a b n = false) : superR l lv m a b = false := by
  rw [Bool.eq_false_iff]
  intro h'
  have := List.all_eq_true.1 h' n (List.mem_range.2 (by omega))
  rw [h, decide_eq_false (by omega)] at this
  cases this
theorem super_yes {l : List Int} {lv m a b : Int} (h : ∀ n : Nat, max m 1 ≤ n → n ≤ (Mp.places l 0 lv).length → supN l lv a b n = true) : superR l lv m a b = true := by
  refine List.all_eq_true.2 fun n hn => ?_
  have hn := List.mem_range.1 hn
  by_cases e : (n : Int) < max m 1
  · rw [decide_eq_true e]; rfl
  · rw [h n (by omega) (by omega), Bool.or_true]
theorem places_len (l : List Int) (fr lv : Int) : (Mp.places l fr lv).length ≤ l.length := by rw [← plN_all]; exact plN_len _ _ _ _

set_option maxRecDepth 8000 in
theorem good_Super_ (l : List Int) (hn : l.length ≤ 1024) (lv m a b : Int) (A : Option Addr) (cap : Nat) (D : Nat → Prop) (w : World) (hD : ∀ k, D k → k < w.heap.size) (hs : Sl 1 A l.length cap (il l) D w) :
    Calls PP N_good_Super #[.slice A l.length cap, .int .i64 lv, .int .i64 m, .int .i64 a, .int .i64 b] w (PR w (.bool (superR l lv m a b))) := by
  refine enter f_good_Super rfl n_good_Super rfl (M.init1 PP w Sl.stable hD hs) ?_
  obtain ⟨R, hR⟩ : ∃ R, Mp.places l 0 lv = R := ⟨_, rfl⟩
  have hRl : R.length ≤ l.length := by rw [← hR]; exact places_len _ _ _
  refine seq (region (det rfl (asg rfl) (nilS ?_)))   -- region 0
  refine seq (region (det rfl (mv rfl) (det rfl (mv rfl) (callS' (m := R.length) (sz := 1) (ls := il R) (il_length R) k_up_Places rfl rfl (fun w hm => by
    obtain ⟨D, hD, hs⟩ := hm.sl (k := 0) rfl
    have := up_Places_ l (by omega) 0 lv A cap D w hD hs
    rw [hR] at this; exact this) fun B q => det rfl (asg rfl) (nilS ?_)))))   -- region 1
  refine seq ?_
  refine seq (region (det rfl (mv rfl) (det rfl (lenS u_sl_int rfl) (det rfl (gtr rfl rfl) (nilS ?_)))))   -- region 2
  refine condF (by show Value.bool _ = _; exact vb (decide_eq_false (by omega))) ?_
  refine skipS ?_
  refine seq ?_
  refine seq (region (det rfl (mv rfl) (det rfl (maxI rfl rfl) (det rfl (asg rfl) (nilS ?_)))))   -- region 4
  refine block ?_   -- block 0
  refine loopV (ι := Nat) (fun k => max m 1 ≤ k ∧ ∀ j : Nat, max m 1 ≤ j → j < k → j ≤ R.length → supN l lv a b j = true) (fun k => [(0, .slice A l.length cap), (1, .int .i64 lv), (3, .int .i64 a), (4, .int .i64 b), (11, .slice B R.length q), (12, .int .i64 k)]) (fun _ => []) (fun _ => [Sl 1 B R.length q (il R), Sl 1 A l.length cap (il l)]) (fun k => R.length + 1 - k) (max m 1).toNat ⟨by omega, fun j h1 h2 _ => by omega⟩ ⟨rfl, rfl, rfl, rfl, rfl, vi (by omega), trivial⟩ (fun w hm => hm) ?_
  intro k σ ⟨hk, hall⟩
  refine seq ?_
  refine seq (region (det rfl (mv rfl) (det rfl (mv rfl) (det rfl (lenS u_sl_int rfl) (det rfl (leq rfl rfl) (nilS ?_))))))   -- region 5
  refine cond rfl (fun h => ?_) (fun h => ?_)   -- on t24
  · have h := of_decide_eq_true h
    have hkl : k ≤ R.length := by omega
    obtain ⟨x, hx⟩ : ∃ x, R.getD (R.length - k) 0 = x := ⟨_, rfl⟩
    have hxm : x ∈ Mp.places l 0 lv := by rw [hR, ← hx]; exact getD_mem' (by omega)
    have hxb := Mp.mem_places.1 hxm
    obtain ⟨v, ev⟩ : ∃ v, supN l lv a b k = v := ⟨_, rfl⟩
    have ev' := ev
    unfold supN at ev'
    rw [hR, hx] at ev'
    refine skipS ?_
    refine seq ?_
    refine block ?_   -- block 1
    refine seq (region (det rfl (mv rfl) (det rfl (mv rfl) (det rfl (lenS u_sl_int rfl) (det rfl (mv rfl) (det rfl (mv rfl) (det rfl (lenS u_sl_int rfl) (det rfl (mv rfl) (det rfl (subI rfl rfl (by omega) (by omega)) (det rfl (ixS 0 rfl rfl u_sl_int s_int rfl (by omega) (by omega)) (det rfl (ldSO 0 (v := .int .i64 x) rfl rfl o_int (by rw [← hx]; exact il_at (by omega) (by omega))) (det rfl (Det.to (subI rfl rfl (by omega) (by omega)) (v' := .int .i64 ((l.length - x.toNat : Nat) : Int)) (vi (by omega))) (det rfl (mv rfl) (det rfl (mv rfl) (det rfl (mv rfl) (call k_good_Local rfl rfl (fun w _ => ev' ▸ good_Local_ k (l.length - x.toNat) (by omega) (by omega) lv a b w) (det rfl (notB rfl) (nilS ?_))))))))))))))))))   -- region 7
    cases v
    · refine condT rfl ?_
      refine seq (region (det rfl (asg rfl) (nilS ?_)))   -- region 8
      exact ret (retT rfl rfl (pr' (vb (super_no (n := k) (by omega) (by rw [hR]; exact hkl) ev).symm)))
    · refine condF rfl ?_
      refine skip ?_
      show Tr _ _ _ _ _ _ _
      refine region (det rfl (mv rfl) (det rfl (addI rfl rfl (by omega) (by omega)) (det rfl (asg rfl) (nil ?_))))   -- region 6
      exact again (k + 1) ⟨by omega, fun j h1 h2 h3 => by
        rcases Nat.lt_or_ge j k with h' | h'
        · exact hall j h1 h' h3
        · rw [show j = k by omega]; exact ev⟩ ⟨rfl, rfl, rfl, rfl, rfl, rfl, trivial⟩ (fun w hm => hm) (by (first | omega | (dsimp only; omega)))
  · have h := of_decide_eq_false h
    refine exit ?_   -- 0
    show Tr _ _ _ _ _ _ _
    refine seq (region (det rfl (asg rfl) (nilS ?_)))   -- region 9
    exact ret (retT rfl rfl (pr' (vb (super_yes fun n h1 h2 => hall n h1 (by rw [hR] at h2; omega) (by rw [hR] at h2; exact h2)).symm)))

/-! ### Multi -/
def multN (l : List Int) (lv m a b : Int) (n : Nat) : Bool := stretchR (cntsL l lv l.length) (cntsL l n l.length) (lv - n) (max m 1) a b
def multiR (l : List Int) (lv m a b : Int) : Bool := decide (lv ≤ 255) && (List.range (max lv 0).toNat).all (multN l lv m a b)
set_option maxRecDepth 8000 in
theorem good_Multi_ (l : List Int) (hn : l.length ≤ 1024) (lv m a b : Int) (hlv : I64 lv) (A : Option Addr) (cap : Nat) (D : Nat → Prop) (w : World) (hD : ∀ k, D k → k < w.heap.size) (hs : Sl 1 A l.length cap (il l) D w) :
    Calls PP N_good_Multi #[.slice A l.length cap, .int .i64 lv, .int .i64 m, .int .i64 a, .int .i64 b] w (PR w (.bool (multiR l lv m a b))) := by
  refine enter f_good_Multi rfl n_good_Multi rfl (M.init1 PP w Sl.stable hD hs) ?_
  unfold I64 at hlv
  refine seq (region (det rfl (asg rfl) (nilS ?_)))   -- region 0
  refine seq ?_
  by_cases hb : 255 < lv
  · refine seq (region (det rfl (mv rfl) (det rfl (lenS u_sl_int rfl) (det rfl (Det.to (gtr rfl rfl) (v' := .bool false) (vb (decide_eq_false (by omega)))) (det rfl (mv rfl) (guardT rfl rfl (det rfl (mv rfl) (guardT rfl rfl (det rfl (Det.to (gtr rfl rfl) (v' := .bool true) (vb (decide_eq_true hb))) (det rfl (pick (b := false) rfl rfl) (nilS ?_)))))))))))   -- region 1
    refine condT rfl ?_
    refine seq (region (det rfl (asg rfl) (nilS ?_)))   -- region 2
    exact ret (retT rfl rfl (pr' (vb (by simp [multiR]; omega))))
  · refine seq (region (det rfl (mv rfl) (det rfl (lenS u_sl_int rfl) (det rfl (Det.to (gtr rfl rfl) (v' := .bool false) (vb (decide_eq_false (by omega)))) (det rfl (mv rfl) (guardT rfl rfl (det rfl (mv rfl) (guardT rfl rfl (det rfl (Det.to (gtr rfl rfl) (v' := .bool false) (vb (decide_eq_false hb))) (det rfl (pick (b := false) rfl rfl) (nilS ?_)))))))))))   -- region 1
    refine condF rfl ?_
    refine skipS ?_
    refine seq (region (det rfl (mv rfl) (det rfl (mv rfl) (callS' (m := l.length + 1) (sz := 1) (ls := il (cntsL l lv l.length)) (by rw [il_length, cntsL_length]) k_good_counts rfl rfl (fun w hm => by
      obtain ⟨D, hD, hs⟩ := hm.sl (k := 0) rfl
      exact good_counts_ l (by omega) lv A cap D w hD hs) fun B q => det rfl (asg rfl) (nilS ?_)))))   -- region 3
    refine seq ?_
    refine seq (region (det rfl (mv rfl) (det rfl (maxI rfl rfl) (det rfl (mv rfl) (nilS ?_)))))   -- region 4
    refine block ?_   -- block 0
    refine loopV (ι := Nat) (fun k => (k : Int) ≤ max lv 0 ∧ ∀ j : Nat, j < k → multN l lv m a b j = true) (fun k => [(0, .slice A l.length cap), (1, .int .i64 lv), (2, .int .i64 m), (3, .int .i64 a), (4, .int .i64 b), (11, .slice B (l.length + 1) q), (24, .int .i64 (max lv 0)), (25, .int .i64 k)]) (fun _ => []) (fun _ => [Sl 1 B (l.length + 1) q (il (cntsL l lv l.length)), Sl 1 A l.length cap (il l)]) (fun k => (max lv 0).toNat - k) 0 ⟨by omega, fun j h => by omega⟩ ⟨rfl, rfl, rfl, rfl, rfl, rfl, rfl, rfl, trivial⟩ (fun w hm => hm) ?_
    intro k σ ⟨hk, hall⟩
    refine seq (region (det rfl (lss rfl rfl) (nilS ?_)))   -- region 5
    refine seq ?_
    refine cond rfl (fun h => ?_) (fun h => ?_)   -- on t26
    · have h := of_decide_eq_true h
      obtain ⟨v, ev⟩ : ∃ v, multN l lv m a b k = v := ⟨_, rfl⟩
      have ev' := ev
      unfold multN at ev'
      refine skipS ?_
      refine seq ?_
      refine block ?_   -- block 1
      refine seq (region (det rfl (mv rfl) (det rfl (asg rfl) (nilS ?_))))   -- region 6
      refine seq (region (det rfl (mv rfl) (det rfl (mv rfl) (det rfl (mv rfl) (callS' (m := l.length + 1) (sz := 1) (ls := il (cntsL l k l.length)) (by rw [il_length, cntsL_length]) k_good_counts rfl rfl (fun w hm => by
        obtain ⟨D, hD, hs⟩ := hm.sl (k := 1) rfl
        exact good_counts_ l (by omega) k A cap D w hD hs) fun C r => det rfl (mv rfl) (det rfl (mv rfl) (det rfl (subI rfl rfl (by omega) (by omega)) (det rfl (mv rfl) (det rfl (maxI rfl rfl) (det rfl (mv rfl) (det rfl (mv rfl) (call (v := .bool v) k_good_stretches rfl rfl (fun w hm => by
        obtain ⟨D, d1, d2, hD, d4, d5⟩ := hm.data
        have hc1 := cntsL_length l lv l.length
        have hc2 := cntsL_length l (k : Int) l.length
        have h0 : Sl 1 C (l.length + 1) r (il (cntsL l k l.length)) D w := d5.1
        have h1 : Sl 1 B (l.length + 1) q (il (cntsL l lv l.length)) D w := d5.2.1
        have := good_stretches_ (cntsL l lv l.length) (cntsL l k l.length) (cnts_rise hn lv) (cnts_rise hn k) (by omega) (by omega) (lv - k) (max m 1) a b B C q r D w hD (by rw [hc1]; exact h1) (by rw [hc2]; exact h0)
        rw [hc1, hc2, ev'] at this
        exact this) (det rfl (notB rfl) (nilS ?_))))))))))))))   -- region 7
      cases v
      · refine condT rfl ?_
        refine seq (region (det rfl (asg rfl) (nilS ?_)))   -- region 8
        exact ret (retT rfl rfl (pr' (vb (by
          unfold multiR
          symm
          rw [Bool.and_eq_false_iff]
          right
          rw [Bool.eq_false_iff]
          intro h'
          have := List.all_eq_true.1 h' k (List.mem_range.2 (by omega))
          rw [ev] at this; cases this))))
      · refine condF rfl ?_
        refine skip ?_
        show Tr _ _ _ _ _ _ _
        refine region (det rfl (addI rfl rfl (by omega) (by omega)) (det rfl (mv rfl) (nil ?_)))   -- region 9
        exact again (k + 1) ⟨by omega, fun j h2 => by
          rcases Nat.lt_or_ge j k with h' | h'
          · exact hall j h'
          · rw [show j = k by omega]; exact ev⟩ ⟨rfl, rfl, rfl, rfl, rfl, rfl, rfl, rfl, trivial⟩ (fun w hm => hm.more) (by (first | omega | (dsimp only; omega)))
    · have h := of_decide_eq_false h
      refine exit ?_   -- 0
      show Tr _ _ _ _ _ _ _
      refine seq (region (det rfl (asg rfl) (nilS ?_)))   -- region 10
      exact ret (retT rfl rfl (pr' (vb (by
        unfold multiR
        rw [decide_eq_true (by omega), Bool.true_and]
        symm
        exact List.all_eq_true.2 fun n hn => hall n (by have := List.mem_range.1 hn; omega)))))

def goodR (l : List Int) (lv m a b : Int) : Bool := superR l lv m a b && multiR l lv m a b
set_option maxRecDepth 8000 in
theorem good_Good_ (l : List Int) (hn : l.length ≤ 1024) (lv m a b : Int) (hlv : I64 lv) (A : Option Addr) (cap : Nat) (D : Nat → Prop) (w : World) (hD : ∀ k, D k → k < w.heap.size) (hs : Sl 1 A l.length cap (il l) D w) :
    Calls PP N_good_Good #[.slice A l.length cap, .int .i64 lv, .int .i64 m, .int .i64 a, .int .i64 b] w (PR w (.bool (goodR l lv m a b))) := by
  refine enter f_good_Good rfl n_good_Good rfl (M.init1 PP w Sl.stable hD hs) ?_
  obtain ⟨x, hx⟩ : ∃ x, superR l lv m a b = x := ⟨_, rfl⟩
  refine seq (region (det rfl (asg rfl) (nilS ?_)))   -- region 0
  cases x
  · refine seq (region (det rfl (mv rfl) (det rfl (mv rfl) (det rfl (mv rfl) (det rfl (mv rfl) (det rfl (mv rfl) (call (v := .bool false) k_good_Super rfl rfl (fun w hm => by
      obtain ⟨D, hD, hs⟩ := hm.sl (k := 0) rfl
      have := good_Super_ l hn lv m a b A cap D w hD hs
      rw [hx] at this; exact this) (det rfl (mv rfl) (guardF rfl rfl rfl (guardF rfl rfl rfl (guardF rfl rfl rfl (guardF rfl rfl rfl (guardF rfl rfl rfl (guardF rfl rfl rfl (det rfl (pick (b := false) rfl rfl) (det rfl (asg rfl) (nilS ?_)))))))))))))))))   -- region 1
    exact ret (retT rfl rfl (pr' (vb (by rw [goodR, hx]; rfl))))
  · refine seq (region (det rfl (mv rfl) (det rfl (mv rfl) (det rfl (mv rfl) (det rfl (mv rfl) (det rfl (mv rfl) (call (v := .bool true) k_good_Super rfl rfl (fun w hm => by
      obtain ⟨D, hD, hs⟩ := hm.sl (k := 0) rfl
      have := good_Super_ l hn lv m a b A cap D w hD hs
      rw [hx] at this; exact this) (det rfl (mv rfl) (guardT rfl rfl (det rfl (mv rfl) (guardT rfl rfl (det rfl (mv rfl) (guardT rfl rfl (det rfl (mv rfl) (guardT rfl rfl (det rfl (mv rfl) (guardT rfl rfl (det rfl (mv rfl) (guardT rfl rfl (call k_good_Multi rfl rfl (fun w hm => by
      obtain ⟨D, hD, hs⟩ := hm.sl (k := 0) rfl
      exact good_Multi_ l hn lv m a b hlv A cap D w hD hs) (det rfl (pick (b := true) rfl rfl) (det rfl (asg rfl) (nilS ?_)))))))))))))))))))))))   -- region 1
    exact ret (retT rfl rfl (pr' (vb (by rw [goodR, hx]; rfl))))
end Go.Proofs.YtmcapgjdflohfaaGreat.L

namespace Go.Proofs.YtmcapgjdflohfaaGreat.L
open Go Go.RowKit

theorem lc {α : Type} {a a' : α} {l l' : List α} (h : a = a') (k : l = l') : a :: l = a' :: l' := by rw [h, k]
section
variable {c : Cx} {n : Nat} {Q : Exit → Env → World → Prop} {σ : Env} {H : List Res} {K : List Fact}
variable {t : TypeId} {p : String} {af : Array Edge}
/-- A guarded call, whether it runs or not. -/
theorem guardC {ops : Array Oper} {d : Nat} {f : FuncId} {args : Array Operand} {ats : Array TypeId} {vs : List Value} {l : List Oper} {v : Value} {j s : Nat} {b g : Bool}
    (hj : (ops[j]?).bind (·.dst) = some s) (hs : σ s = .bool b) (hf : Fn c.P f) (ha : b = g → args.toList.map (ev σ) = vs) (hd : Nat.blt d n = true)
    (spec : b = g → ∀ w, M c H K w → Calls c.P f vs.toArray w fun e w' => e = .returned v ∧ Below w.heap.size w w') (h : TL c n ops l Q (upd σ d (bif (b == g) then v else undef)) H K) :
    TL c n ops (⟨some d, .call { callee := .value (.func f), args := args, argTypes := ats }, t, p, af, some (j, g)⟩ :: l) Q σ H K := by
  by_cases e : b = g
  · refine guardT hj (by rw [hs, e]) (call hf (ha e) hd (spec e) ?_)
    rw [show (b == g) = true by simp [e]] at h
    exact h
  · refine guardF hj (by rw [hs]; congr 1; cases b <;> cases g <;> simp_all) hd ?_
    rw [show (b == g) = false by simpa using e] at h
    exact h
/-- The slots that are still needed, written out anew. -/
theorem forget {x : Code} (V : List (Nat × Value)) (h : At V σ) (k : ∀ σ', Tr c n x Q (fix V σ') H K) : Tr c n x Q σ H K := by
  have := k σ
  rwa [fix_at h] at this
theorem ro_add {w w' : World} {x : Ending} {e : TypeId} {sz m : Nat} {xs : List Value} (hm : M c H K w) (h : RO w e sz m xs x w') : ∃ p : Option Addr × Nat, x = .returned (.slice p.1 m p.2) ∧ M c (.row (.slice p.1 m p.2) e sz m xs :: H) K w' := by
  obtain ⟨v, rfl, hb, ho⟩ := h
  have hown : w'.ownsRow c.w0.heap.size e sz v m xs := by
    refine ⟨ho.1, ?_⟩
    rcases ho.2 with h2 | ⟨gg, cap, cur, h2, hge, hrest⟩
    · exact .inl h2
    · exact .inr ⟨gg, cap, cur, h2, Nat.le_trans hm.size hge, hrest⟩
  obtain ⟨A, cap, rfl⟩ : ∃ A cap, v = .slice A m cap := by
    rcases ho.2 with ⟨rfl, h0⟩ | ⟨gg, cap, cur, rfl, _⟩
    · exact ⟨none, 0, by rw [h0]⟩
    · exact ⟨_, cap, rfl⟩
  refine ⟨(A, cap), rfl, hm.add (grown_below hb) hown ?_⟩
  rcases ho.2 with ⟨h2, _⟩ | ⟨gg, cap', cur, h2, hge, _⟩
  · cases h2; exact .inl rfl
  · cases h2; exact .inr ⟨gg, rfl, hge⟩
section
variable {ops : Array Oper} {m i : Nat} {calls : List Nat} {l : List Oper}
/-- In a drawn region: a call that hands back a row of its own; a literal of a slice; an allocation. -/
theorem oI [NoP Q] {d : Nat} {fid : FuncId} {args : Array Operand} {ats : Array TypeId} {vs : List Value} {sz k : Nat} {e : TypeId} {xs : List Value}
    (him : Nat.blt i m = true) (hc : calls.contains i = true) (hf : Fn c.P fid) (ha : args.toList.map (ev σ) = vs) (hd : Nat.blt d n = true)
    (spec : ∀ w, M c H K w → Calls c.P fid vs.toArray w (RO w e sz k xs))
    (h : ∀ A cap, HI c n ops Q m calls (i + 1) l (upd σ d (.slice A k cap)) (.row (.slice A k cap) e sz k xs :: H) K) : HI c n ops Q m calls i (⟨some d, .call { callee := .value (.func fid), args := args, argTypes := ats }, t, p, af, none⟩ :: l) σ H K :=
  cI (β := Option Addr × Nat) (fun p => .slice p.1 k p.2) (fun p => .row (.slice p.1 k p.2) e sz k xs :: H) (fun _ => K) him hc hf ha hd
    (fun w hm => (spec w hm).mono fun _ _ h => ro_add hm h) (fun _ _ hm => drop1 hm) (fun p => h p.1 p.2)
theorem bI [NoP Q] {d : Nat} {tt e : TypeId} {k : Nat} {parts : Array (Nat × Operand)} {cs : List Value} (him : Nat.blt i m = true) (hc : calls.contains i = true) (hd : Nat.blt d n = true)
    (hrun : ∀ w, (Instr.buildSlice tt k (parts.map fun (i, x) => (i, ev σ x))).run c.P w = .ok (.slice (some ⟨w.heap.size, 0, none⟩) k k) (w.alloc (ob cs e)))
    (h : ∀ b, HI c n ops Q m calls (i + 1) l (upd σ d (.slice (some ⟨b, 0, none⟩) k k)) (.blk b (ob cs e) :: H) K) : HI c n ops Q m calls i (⟨some d, .buildSlice tt k parts, t, p, af, none⟩ :: l) σ H K :=
  mI (β := Nat) (fun b => .slice (some ⟨b, 0, none⟩) k k) (fun b => .blk b (ob cs e) :: H) (fun _ => K) him hc hd (run_bsl hrun) (fun _ _ hm => drop1 hm) h
theorem aI [NoP Q] {d : Nat} {e : TypeId} {z : Value} {cs : List Value} (him : Nat.blt i m = true) (hc : calls.contains i = true) (hz : (c.P.info? e).map (·.zero) = some (some z)) (hcs : z.cells = cs.toArray) (hd : Nat.blt d n = true)
    (h : ∀ b, HI c n ops Q m calls (i + 1) l (upd σ d (.pointer (some ⟨b, 0, none⟩))) (.blk b (ob cs e) :: H) K) : HI c n ops Q m calls i (⟨some d, .alloc e, t, p, af, none⟩ :: l) σ H K :=
  mI (β := Nat) (fun b => .pointer (some ⟨b, 0, none⟩)) (fun b => .blk b (ob cs e) :: H) (fun _ => K) him hc hd (run_alloc hz hcs) (fun _ _ hm => drop1 hm) h
end
end
end Go.Proofs.YtmcapgjdflohfaaGreat.L

namespace Go.Proofs.YtmcapgjdflohfaaGreat.L
open Go Go.RowKit Mp
set_option linter.unusedVariables false

def mayP (m k a b : Int) : Bool := decide (1 ≤ m) && decide (m ≤ 1024) && decide (1 ≤ k) && decide (k ≤ 1024) && mayR a b
set_option maxRecDepth 8000 in
theorem pick_May_ (m k a b : Int) : Pure PP N_pick_May #[.int .i64 m, .int .i64 k, .int .i64 a, .int .i64 b] (.bool (mayP m k a b)) := by
  refine enter0 f_pick_May rfl n_pick_May rfl fun w => ?_
  refine seq (region (det rfl (asg rfl) (nilS ?_)))   -- region 0
  refine seq (region (det rfl (mv rfl) (det rfl (geq rfl rfl) (det rfl (mv rfl) (guardI rfl rfl rfl (fun hb => mv rfl) (guardI rfl rfl rfl (fun hb => leq (bift hb rfl) rfl) (det rfl (pick rfl (pickA rfl)) (det rfl (mv rfl) (guardI rfl rfl rfl (fun hb => mv rfl) (guardI rfl rfl rfl (fun hb => geq (bift hb rfl) rfl) (det rfl (pick rfl (pickA rfl)) (det rfl (mv rfl) (guardI rfl rfl rfl (fun hb => mv rfl) (guardI rfl rfl rfl (fun hb => leq (bift hb rfl) rfl) (det rfl (pick rfl (pickA rfl)) (det rfl (mv rfl) (guardI rfl rfl rfl (fun hb => mv rfl) (guardI rfl rfl rfl (fun hb => mv rfl) (guardC rfl rfl k_ratio_May (fun hb => lc (bift hb rfl) (lc (bift hb rfl) rfl)) rfl (fun hb w _ => ratio_May_ a b w) (det rfl (pick rfl (pickA rfl)) (det rfl (asg rfl) (nilS ?_))))))))))))))))))))))   -- region 1
  exact ret (retT rfl rfl (pr' rfl))

theorem fold_max (l : List Int) (x y : Int) : l.foldl max (max x y) = max x (l.foldl max y) := by
  induction l generalizing y with
  | nil => rfl
  | cons a r ih => simp only [List.foldl_cons]; rw [show max (max x y) a = max x (max y a) by omega]; exact ih _
theorem pick_top_ (l : List Int) (hn : l.length ≤ 1000000) (A : Option Addr) (cap : Nat) (D : Nat → Prop) (w : World) (hD : ∀ k, D k → k < w.heap.size) (hs : Sl 1 A l.length cap (il l) D w) :
    Calls PP N_pick_top #[.slice A l.length cap] w (PR w (.int .i64 (Mp.topN l))) := by
  refine enter f_pick_top rfl n_pick_top rfl (M.init1 PP w Sl.stable hD hs) ?_
  refine seq (region (det rfl (asg rfl) (nilS ?_)))   -- region 0
  refine seq (region (det rfl (asg rfl) (nilS ?_)))   -- region 1
  refine seq ?_
  refine seq (region (det rfl (mv rfl) (det rfl (lenS u_sl_int rfl) (det rfl (mv rfl) (nilS ?_)))))   -- region 2
  refine block ?_   -- block 0
  refine loopV (ι := Nat) (fun k => k ≤ l.length) (fun k => [(3, .int .i64 (((l.take k).drop 1).foldl max 0)), (6, .slice A l.length cap), (7, .int .i64 l.length), (8, .int .i64 k)]) (fun _ => []) (fun _ => [Sl 1 A l.length cap (il l)]) (fun k => l.length - k) 0 (by omega) ⟨rfl, rfl, rfl, rfl, trivial⟩ (fun w hm => hm) ?_
  intro k σ hk
  refine seq (region (det rfl (lss rfl rfl) (nilS ?_)))   -- region 3
  refine seq ?_
  refine cond rfl (fun h => ?_) (fun h => ?_)   -- on t9
  · have h := of_decide_eq_true h
    have hkl : k < l.length := by omega
    obtain ⟨x, hx⟩ : ∃ x, l.getD k 0 = x := ⟨_, rfl⟩
    have ht : l.take (k + 1) = l.take k ++ [x] := by
      rw [List.take_succ, List.getElem?_eq_getElem hkl, ← hx, List.getD_eq_getElem?_getD, List.getElem?_eq_getElem hkl]; rfl
    refine skipS ?_
    refine seq ?_
    refine block ?_   -- block 1
    refine seq (region (det rfl (mv rfl) (det rfl (ixS 0 rfl rfl u_sl_int s_int rfl (by omega) (by omega)) (det rfl (ldSO 0 (v := .int .i64 x) rfl rfl o_int (by rw [← hx]; exact il_at (by omega) hkl)) (det rfl (asg rfl) (det rfl (asg rfl) (nilS ?_)))))))   -- region 4
    refine seq (region (det rfl (mv rfl) (det rfl (gtr rfl rfl) (nilS ?_))))   -- region 5
    refine cond rfl (fun h => ?_) (fun h => ?_)   -- on t14
    · have h := of_decide_eq_true h
      refine region (det rfl (mv rfl) (det rfl (mv rfl) (det rfl (maxI rfl rfl) (det rfl (asg rfl) (nil ?_)))))   -- region 6
      show Tr _ _ _ _ _ _ _
      refine region (det rfl (addI rfl rfl (by omega) (by omega)) (det rfl (mv rfl) (nil ?_)))   -- region 7
      exact again (k + 1) (by omega) ⟨vi (by rw [ht, List.drop_append_of_le_length (by rw [List.length_take]; omega), List.foldl_append]; rfl), rfl, rfl, rfl, trivial⟩ (fun w hm => hm) (by (first | omega | (dsimp only; omega)))
    · have h := of_decide_eq_false h
      obtain rfl : k = 0 := by omega
      refine skip ?_
      show Tr _ _ _ _ _ _ _
      refine region (det rfl (addI rfl rfl (by omega) (by omega)) (det rfl (mv rfl) (nil ?_)))   -- region 7
      exact again 1 (by omega) ⟨vi (by rw [show (1 : Nat) = 0 + 1 from rfl, ht]; rfl), rfl, rfl, rfl, trivial⟩ (fun w hm => hm) (by (first | omega | (dsimp only; omega)))
  · have h := of_decide_eq_false h
    obtain rfl : k = l.length := by omega
    refine exit ?_   -- 0
    show Tr _ _ _ _ _ _ _
    refine seq (region (det rfl (mv rfl) (det rfl (minI rfl rfl) (det rfl (asg rfl) (nilS ?_)))))   -- region 8
    exact ret (retT rfl rfl (pr' (vi (by rw [List.take_length]; rfl))))

/-- Begin, at the good levels of so many in m and delta. -/
def gR (m a b : Int) (l : List Int) (lv : Int) : Bool := goodR l lv m a b
set_option maxRecDepth 8000 in
theorem pick_Begin_ (l : List Int) (hn : l.length ≤ 1024) (fr lv m a b : Int) (hfr : 0 ≤ fr ∧ fr ≤ l.length) (hlv : I64 lv) (hm : 1 ≤ m) (A : Option Addr) (cap : Nat) (D : Nat → Prop) (w : World) (hD : ∀ k, D k → k < w.heap.size) (hs : Sl 1 A l.length cap (il l) D w) :
    Calls PP N_pick_Begin #[.slice A l.length cap, .int .i64 fr, .int .i64 lv, .int .i64 m, .int .i64 a, .int .i64 b] w (PR w (.int .i64 (Mp.begin_ (gR m a b) l fr lv m))) := by
  refine enter f_pick_Begin rfl n_pick_Begin rfl (M.init1 PP w Sl.stable hD hs) ?_
  obtain ⟨R, hR⟩ : ∃ R, Mp.places l fr lv = R := ⟨_, rfl⟩
  have hRl : R.length ≤ l.length := by rw [← hR]; exact places_len _ _ _
  obtain ⟨fn, rfl⟩ : ∃ n : Nat, fr = (n : Int) := ⟨fr.toNat, by omega⟩
  have hcap : l.length ≤ cap := hs.2.1
  refine seq (region (det rfl (asg rfl) (nilS ?_)))   -- region 0
  refine seq (region (det rfl (mv rfl) (det rfl (mv rfl) (det rfl (mv rfl) (callS' (m := R.length) (sz := 1) (ls := il R) (il_length R) k_up_Places rfl rfl (fun w hm => by
    obtain ⟨D, hD, hs⟩ := hm.sl (k := 0) rfl
    have := up_Places_ l (by omega) fn lv A cap D w hD hs
    rw [hR] at this; exact this) fun B q => det rfl (asg rfl) (nilS ?_))))))   -- region 1
  refine seq ?_
  by_cases hlen : (R.length : Int) ≤ m
  · refine seq (region (det rfl (mv rfl) (det rfl (Det.to (lss rfl rfl) (v' := .bool false) (vb (decide_eq_false (by omega)))) (det rfl (mv rfl) (guardT rfl rfl (det rfl (mv rfl) (guardT rfl rfl (det rfl (lenS u_sl_int rfl) (guardT rfl rfl (det rfl (mv rfl) (guardT rfl rfl (det rfl (Det.to (leq rfl rfl) (v' := .bool true) (vb (decide_eq_true hlen))) (det rfl (pick (b := false) rfl rfl) (det rfl (mv rfl) (guardF rfl rfl rfl (guardF rfl rfl rfl (det rfl (pick (b := true) rfl rfl) (det rfl (mv rfl) (guardF rfl rfl rfl (guardF rfl rfl rfl (guardF rfl rfl rfl (guardF rfl rfl rfl (guardF rfl rfl rfl (guardF rfl rfl rfl (guardF rfl rfl rfl (guardF rfl rfl rfl (guardF rfl rfl rfl (det rfl (pick (b := true) rfl rfl) (nilS ?_)))))))))))))))))))))))))))))   -- region 2
    refine condT rfl ?_
    refine seq (region (det rfl (mv rfl) (det rfl (asg rfl) (nilS ?_))))   -- region 3
    exact ret (retT rfl rfl (pr' (vi (by rw [begin_, if_pos (by rw [hR]; exact .inr (.inl hlen))]))))
  · obtain ⟨g, hg⟩ : ∃ g, goodR (l.drop fn) lv m a b = g := ⟨_, rfl⟩
    refine also (f := Sl 1 (if cap = fn then A else A.map fun a => a.add (fn * 1)) (l.length - fn) (cap - fn) (il (l.drop fn))) Sl.stable (fun D w h => by
      have := Sl.cut (m := fn) (cap' := cap - fn) (h.2.1 : Sl 1 A l.length cap (il l) D w) (by omega) (by omega) (by omega)
      rw [show (il l).drop fn = il (l.drop fn) by simp [il]] at this
      exact this) ?_
    refine seq (region (det rfl (mv rfl) (det rfl (Det.to (lss rfl rfl) (v' := .bool false) (vb (decide_eq_false (by omega)))) (det rfl (mv rfl) (guardT rfl rfl (det rfl (mv rfl) (guardT rfl rfl (det rfl (lenS u_sl_int rfl) (guardT rfl rfl (det rfl (mv rfl) (guardT rfl rfl (det rfl (Det.to (leq rfl rfl) (v' := .bool false) (vb (decide_eq_false hlen))) (det rfl (pick (b := false) rfl rfl) (det rfl (mv rfl) (guardT rfl rfl (det rfl (mv rfl) (guardT rfl rfl (det rfl (Det.to (lss rfl rfl) (v' := .bool false) (vb (decide_eq_false (by omega)))) (det rfl (pick (b := false) rfl rfl) (det rfl (mv rfl) (guardT rfl rfl (det rfl (mv rfl) (guardT rfl rfl (det rfl (mv rfl) (guardT rfl rfl (det rfl (slDrop u_sl_int s_int rfl rfl (by omega) hcap) (guardT rfl rfl (det rfl (mv rfl) (guardT rfl rfl (det rfl (mv rfl) (guardT rfl rfl (det rfl (mv rfl) (guardT rfl rfl (det rfl (mv rfl) (guardT rfl rfl (call (v := .bool g) k_good_Good (show _ = [Value.slice (if cap = fn then A else A.map fun a => a.add (fn * 1)) (l.length - fn) (cap - fn), .int .i64 lv, .int .i64 m, .int .i64 a, .int .i64 b] from rfl) rfl (fun w hm => by
      obtain ⟨D, hD, hs⟩ := hm.sl (k := 0) rfl
      have hl : (l.drop fn).length = l.length - fn := by simp
      have := good_Good_ (l.drop fn) (by omega) lv m a b hlv (if cap = fn then A else A.map fun a => a.add (fn * 1)) (cap - fn) D w hD (by rw [hl]; exact hs)
      rw [hg, hl] at this; exact this) (guardT rfl rfl (det rfl (notB rfl) (det rfl (pick (b := false) rfl rfl) (nilS ?_))))))))))))))))))))))))))))))))))))))))   -- region 2
    have hb : begin_ (gR m a b) l fn lv m = if g = false then (fn : Int) else R.getD (R.length - m.toNat) 0 := by
      rw [begin_, hR, gR, Int.toNat_natCast, hg]
      cases g
      · rw [if_pos (.inr (.inr (.inr rfl))), if_pos rfl]
      · rw [if_neg (by simp; omega), if_neg (by simp)]
    cases g
    · refine condT rfl ?_
      refine seq (region (det rfl (mv rfl) (det rfl (asg rfl) (nilS ?_))))   -- region 3
      exact ret (retT rfl rfl (pr' (vi (by rw [hb, if_pos rfl]))))
    · refine condF rfl ?_
      refine skipS ?_
      refine seq (region (det rfl (mv rfl) (det rfl (mv rfl) (det rfl (lenS u_sl_int rfl) (det rfl (mv rfl) (det rfl (subI rfl rfl (by omega) (by omega)) (det rfl (ixS 1 rfl rfl u_sl_int s_int rfl (by omega) (by omega)) (det rfl (ldSO 1 (v := .int .i64 (R.getD (R.length - m.toNat) 0)) rfl rfl o_int (il_at (by omega) (by omega))) (det rfl (asg rfl) (nilS ?_))))))))))   -- region 4
      exact ret (retT rfl rfl (pr' (vi (by rw [hb, if_neg (by simp)]))))
end Go.Proofs.YtmcapgjdflohfaaGreat.L

namespace Go.Proofs.YtmcapgjdflohfaaGreat.L
open Go Go.RowKit Mp
set_option linter.unusedVariables false

def pickR (l : List Int) (m k a b : Int) : List Int := if mayP m k a b = true ∧ k < l.length ∧ l.length ≤ 1024 then Mp.pickBody (gR m a b) (l.take (l.length - k.toNat)) m else []
/-- Cells of bools. -/
def bls (t : Int → Bool) (n : Nat) : List Value := (List.range n).map fun i : Nat => .bool (t i)
theorem bls_false (n : Nat) : bls (fun _ => false) n = List.replicate n (.bool false) := by
  unfold bls
  exact List.map_const' .. |>.trans (by simp)
theorem bls_length (t : Int → Bool) (n : Nat) : (bls t n).length = n := by simp [bls]
theorem bls_at {t : Int → Bool} {n i o : Nat} (ho : o = i) (hi : i < n) : (bls t n)[o]? = some (.bool (t i)) := by subst ho; simp [bls, hi]
theorem bls_set {t t' : Int → Bool} {n i : Nat} (h1 : t' i = true) (h2 : ∀ j : Nat, j ≠ i → t' j = t j) : (bls t n).set i (.bool true) = bls t' n := by
  apply List.ext_getElem
  · simp [bls]
  · intro j h3 h4
    rw [List.getElem_set]
    simp only [bls, List.getElem_map, List.getElem_range]
    by_cases e : i = j
    · subst e; rw [if_pos rfl, h1]
    · rw [if_neg e, h2 j (fun x => e x.symm)]
theorem bls_congr {t t' : Int → Bool} {n : Nat} (h : ∀ j : Nat, j < n → t' j = t j) : bls t n = bls t' n := by
  apply List.ext_getElem
  · simp [bls]
  · intro j h3 h4
    simp only [bls, List.getElem_map, List.getElem_range]
    rw [h j (by simpa [bls] using h3)]
/-- Those that are true, of the first k. -/
def trues (t : Int → Bool) (k : Nat) : List Int := ((List.range k).map fun i : Nat => (i : Int)).filter t
theorem trues_hit {t : Int → Bool} {k : Nat} (h : t k = true) : trues t (k + 1) = trues t k ++ [(k : Int)] := by
  simp [trues, List.range_succ, h]
theorem trues_miss {t : Int → Bool} {k : Nat} (h : t k = false) : trues t (k + 1) = trues t k := by
  simp [trues, List.range_succ, h]
theorem trues_len (t : Int → Bool) (k : Nat) : (trues t k).length ≤ k := by
  have := List.length_filter_le t ((List.range k).map fun i : Nat => (i : Int))
  simp at this
  simpa [trues] using this
theorem topN_range (l : List Int) : 0 ≤ topN l ∧ topN l ≤ 255 := by
  have : ∀ (l : List Int) (x : Int), 0 ≤ x → 0 ≤ l.foldl max x := by
    intro l
    induction l with
    | nil => intro x h; exact h
    | cons a r ih => intro x h; exact ih _ (by omega)
  have := this (l.drop 1) 0 (by omega)
  unfold topN
  omega
theorem begin_range {g : List Int → Int → Bool} {l : List Int} {f lv m : Int} (h : 0 ≤ f ∧ f ≤ l.length) : 0 ≤ begin_ g l f lv m ∧ begin_ g l f lv m ≤ l.length := by
  rcases begin_mem g l f lv m with e | e
  · rw [e]; exact h
  · have := Mp.mem_places.1 e; omega

set_option maxRecDepth 8000 in
set_option maxHeartbeats 800000 in
theorem pick_Pick_ (l : List Int) (hn : l.length ≤ 100000) (m k a b : Int) (A : Option Addr) (cap : Nat) (D : Nat → Prop) (w : World) (hD : ∀ k, D k → k < w.heap.size) (hs : Sl 1 A l.length cap (il l) D w) :
    Calls PP N_pick_Pick #[.slice A l.length cap, .int .i64 m, .int .i64 k, .int .i64 a, .int .i64 b] w (RO w T_int 1 (pickR l m k a b).length (il (pickR l m k a b)).flatten) := by
  refine enter f_pick_Pick rfl n_pick_Pick rfl (M.init1 PP w Sl.stable hD hs) ?_
  have hcap : l.length ≤ cap := hs.2.1
  obtain ⟨P, hP⟩ : ∃ P, mayP m k a b = P := ⟨_, rfl⟩
  refine seq (region (det rfl (asg rfl) (nilS ?_)))   -- region 0
  refine seq ?_
  refine seq (region (det rfl (mv rfl) (det rfl (mv rfl) (det rfl (mv rfl) (det rfl (mv rfl) (call (v := .bool P) k_pick_May rfl rfl (fun w _ => hP ▸ pick_May_ m k a b w) (det rfl (notB rfl) (det rfl (mv rfl) (guardI rfl rfl rfl (fun hb => mv rfl) (guardI rfl rfl rfl (fun hb => lenS u_sl_int (bift hb rfl)) (guardI rfl rfl rfl (fun hb => mv rfl) (guardI rfl rfl rfl (fun hb => leq (bift hb rfl) (bift hb rfl)) (det rfl (pick rfl (pickO rfl)) (det rfl (mv rfl) (guardI rfl rfl rfl (fun hb => mv rfl) (guardI rfl rfl rfl (fun hb => lenS u_sl_int (bift hb rfl)) (guardI rfl rfl rfl (fun hb => gtr (bift hb rfl) rfl) (det rfl (pick rfl (pickO rfl)) (nilS ?_)))))))))))))))))))   -- region 1
  refine cond rfl (fun h => ?_) (fun h => ?_)   -- on t36
  · have h : (!P || decide ((l.length : Int) ≤ k) || decide (1024 < (l.length : Int))) = true := h
    have e : pickR l m k a b = [] := by
      rw [pickR, if_neg]
      rintro ⟨h1, h2, h3⟩
      rw [hP] at h1
      rw [h1, decide_eq_false (by omega), decide_eq_false (by omega)] at h
      cases h
    rw [e]
    refine seq (region (det rfl (asg rfl) (nilS ?_)))   -- region 2
    exact ret (retOwn0 rfl rfl rfl)
  · have h : (!P || decide ((l.length : Int) ≤ k) || decide (1024 < (l.length : Int))) = false := h
    simp only [Bool.or_eq_false_iff, Bool.not_eq_false', decide_eq_false_iff_not] at h
    obtain ⟨⟨h1, h2⟩, h3⟩ := h
    subst h1
    have hm1 : 1 ≤ m ∧ 1 ≤ k := by
      simp only [mayP, Bool.and_eq_true, decide_eq_true_eq] at hP
      omega
    obtain ⟨kn, rfl⟩ : ∃ n : Nat, k = (n : Int) := ⟨k.toNat, by omega⟩
    obtain ⟨body, hbody⟩ : ∃ b, l.take (l.length - kn) = b := ⟨_, rfl⟩
    have hbl : body.length = l.length - kn := by rw [← hbody, List.length_take]; omega
    have e : pickR l m kn a b = Mp.pickBody (gR m a b) body m := by
      rw [pickR, if_pos ⟨hP, by omega, by omega⟩, Int.toNat_natCast, hbody]
    rw [e]
    refine skipS ?_
    refine seq (region (det rfl (mv rfl) (det rfl (mv rfl) (det rfl (lenS u_sl_int rfl) (det rfl (mv rfl) (det rfl (Det.to (subI rfl rfl (by omega) (by omega)) (v' := .int .i64 ((body.length : Nat) : Int)) (vi (by omega))) (det rfl (slTake u_sl_int s_int rfl rfl (by omega)) (det rfl (asg rfl) (nilS ?_)))))))))   -- region 3
    refine seq (region (det rfl (mv rfl) (det rfl (lenS u_sl_int rfl) (mks (m := body.length) u_sl_bool i_bool rfl rfl rfl rfl rfl (by omega) (by omega) rfl fun b0 => det rfl (asg rfl) (nilS ?_)))))   -- region 4
    refine refactT (K' := [Sl 1 A body.length cap (il body)]) ⟨Sl.stable, trivial⟩ (fun D w h => ⟨by
      have := Sl.take (m := body.length) (h.1 : Sl 1 A l.length cap (il l) D w) (by omega)
      rw [show (il l).take body.length = il body by rw [hbl, ← hbody]; simp [il]] at this
      exact this, trivial⟩) ?_
    refine seq (region (det rfl (asg rfl) (nilS ?_)))   -- region 5
    refine seq ?_
    obtain ⟨T, hT⟩ : ∃ T, takenN (gR m a b) body m ((topN body).toNat + 1) 0 (fun _ => false) = T := ⟨_, rfl⟩
    have htop := topN_range body
    have hpb : pickBody (gR m a b) body m = trues T body.length := by rw [pickBody, hT]; rfl
    rw [hpb]
    refine seq (region (det rfl (mv rfl) (call (v := .int .i64 (topN body)) k_pick_top rfl rfl (fun w hm => by
      obtain ⟨D, hD, hs⟩ := hm.sl (k := 0) rfl
      exact pick_top_ body (by omega) A cap D w hD hs) (det rfl (asg rfl) (nilS ?_)))))   -- region 6
    refine block ?_   -- block 0
    refine loopV (ι := Nat × Int × (Int → Bool)) (fun (j, fr, t) => j ≤ 256 ∧ (0 ≤ fr ∧ fr ≤ body.length) ∧ takenN (gR m a b) body m j fr t = T) (fun (j, fr, t) => [(1, .int .i64 m), (3, .int .i64 a), (4, .int .i64 b), (11, .slice A body.length cap), (12, .slice (some ⟨b0, 0, none⟩) body.length body.length), (13, .int .i64 fr), (14, .int .i64 ((j : Int) - 1))]) (fun (_, _, t) => [.blk b0 (ob (bls t body.length) T_bool)]) (fun _ => [Sl 1 A body.length cap (il body)]) (fun (j, _, _) => j) ((topN body).toNat + 1, 0, fun _ => false) ⟨by omega, by omega, hT⟩ ⟨rfl, rfl, rfl, rfl, rfl, rfl, vi (by omega), trivial⟩ (fun w hm => by dsimp only; rw [bls_false]; exact hm) ?_
    rintro ⟨j, fr, t⟩ σ ⟨hj, hfr, htk⟩
    dsimp only at hj hfr htk ⊢
    refine seq ?_
    refine seq (region (det rfl (mv rfl) (det rfl (geq rfl rfl) (nilS ?_))))   -- region 7
    refine cond rfl (fun h => ?_) (fun h => ?_)   -- on t49
    · have h := of_decide_eq_true h
      obtain ⟨lv, rfl⟩ : ∃ lv, j = lv + 1 := ⟨j - 1, by omega⟩
      rw [takenN] at htk
      obtain ⟨R, hR⟩ : ∃ R, Mp.places body fr lv = R := ⟨_, rfl⟩
      have hRl : R.length ≤ body.length := by rw [← hR]; exact places_len _ _ _
      rw [hR] at htk
      refine skipS ?_
      refine seq ?_
      refine block ?_   -- block 1
      refine seq ?_
      refine seq (region (det rfl (mv rfl) (det rfl (mv rfl) (det rfl (Det.to (mv rfl) (v' := .int .i64 (lv : Int)) (vi (by omega))) (callS' (m := R.length) (sz := 1) (ls := il R) (il_length R) k_up_Places (show _ = [Value.slice A body.length cap, .int .i64 fr, .int .i64 (lv : Int)] from rfl) rfl (fun w hm => by
        obtain ⟨D, hD, hs⟩ := hm.sl (k := 0) rfl
        have := up_Places_ body (by omega) fr lv A cap D w hD hs
        rw [hR] at this; exact this) fun B q => det rfl (lenS u_sl_int rfl) (det rfl (mv rfl) (nilS ?_)))))))   -- region 9
      refine block ?_   -- block 2
      refine loopV (ι := Nat) (fun k => k ≤ R.length) (fun k => [(1, .int .i64 m), (3, .int .i64 a), (4, .int .i64 b), (11, .slice A body.length cap), (12, .slice (some ⟨b0, 0, none⟩) body.length body.length), (13, .int .i64 fr), (14, .int .i64 (((lv + 1 : Nat) : Int) - 1)), (55, .slice B R.length q), (56, .int .i64 R.length), (57, .int .i64 k)]) (fun k => [.blk b0 (ob (bls (fun i => t i || decide (i ∈ R.take k)) body.length) T_bool)]) (fun _ => [Sl 1 B R.length q (il R), Sl 1 A body.length cap (il body)]) (fun k => R.length - k) 0 (by omega) ⟨rfl, rfl, rfl, rfl, rfl, rfl, rfl, rfl, rfl, rfl, trivial⟩ (fun w hm => by rw [bls_congr (t := fun i => t i || decide (i ∈ R.take 0)) (t' := t) (fun j _ => by simp)]; exact hm) ?_
      intro k σ hk
      refine seq (region (det rfl (lss rfl rfl) (nilS ?_)))   -- region 10
      refine seq ?_
      refine cond rfl (fun h => ?_) (fun h => ?_)   -- on t58
      · have h := of_decide_eq_true h
        have hkl : k < R.length := by omega
        have hxm := Mp.mem_places.1 (show R.getD k 0 ∈ Mp.places body fr lv by rw [hR]; exact getD_mem' hkl)
        obtain ⟨x, hx⟩ : ∃ x : Nat, R.getD k 0 = (x : Int) := ⟨(R.getD k 0).toNat, by omega⟩
        rw [hx] at hxm
        have htake : ∀ i : Int, i ∈ R.take (k + 1) ↔ i ∈ R.take k ∨ i = (x : Int) := fun i => by
          rw [List.take_succ, List.getElem?_eq_getElem hkl, List.mem_append]
          rw [List.getD_eq_getElem?_getD, List.getElem?_eq_getElem hkl] at hx
          simp only [Option.getD_some] at hx
          simp [hx]
        refine skipS ?_
        refine seq ?_
        refine block ?_   -- block 3
        refine seq (region (det rfl (ixS 0 rfl rfl u_sl_int s_int rfl (by omega) (by omega)) (det rfl (ldSO 0 (v := .int .i64 x) rfl rfl o_int (by rw [← hx]; exact il_at (by omega) hkl)) (det rfl (asg rfl) (nilS ?_)))))   -- region 11
        refine region (det rfl (mv rfl) (det rfl (mv rfl) (det rfl (ixB rfl rfl u_sl_bool s_bool (by omega) (by omega)) (sto1 0 x rfl rfl rfl s_bool rfl (by omega) (by rw [bls_length]; omega) (bls_set (t' := fun i => t i || decide (i ∈ R.take (k + 1))) (by simp [(htake x).2 (.inr rfl)]) (fun j hj => by
          have : ((j : Int) ∈ R.take (k + 1)) ↔ ((j : Int) ∈ R.take k) := by rw [htake]; constructor; rintro (h | h); exact h; omega; exact .inl
          simp only [this])) (nil ?_)))))   -- region 12
        show Tr _ _ _ _ _ _ _
        refine region (det rfl (addI rfl rfl (by omega) (by omega)) (det rfl (mv rfl) (nil ?_)))   -- region 13
        exact again (k + 1) (by omega) ⟨rfl, rfl, rfl, rfl, rfl, rfl, rfl, rfl, rfl, rfl, trivial⟩ (fun w hm => hm) (by (first | omega | (dsimp only; omega)))
      · have h := of_decide_eq_false h
        obtain rfl : k = R.length := by omega
        refine exit ?_   -- 2
        show Tr _ _ _ _ _ _ _
        have hbr := begin_range (g := gR m a b) (lv := lv) (m := m) hfr
        refine region (det rfl (mv rfl) (det rfl (mv rfl) (det rfl (Det.to (mv rfl) (v' := .int .i64 (lv : Int)) (vi (by omega))) (det rfl (mv rfl) (det rfl (mv rfl) (det rfl (mv rfl) (call (v := .int .i64 (begin_ (gR m a b) body fr lv m)) k_pick_Begin (show _ = [Value.slice A body.length cap, .int .i64 fr, .int .i64 (lv : Int), .int .i64 m, .int .i64 a, .int .i64 b] from rfl) rfl (fun w hm => by
          obtain ⟨D, hD, hs⟩ := hm.sl (k := 1) rfl
          exact pick_Begin_ body (by omega) fr lv m a b hfr ⟨by omega, by omega⟩ hm1.1 A cap D w hD hs) (det rfl (asg rfl) (nil ?_)))))))))   -- region 14
        show Tr _ _ _ _ _ _ _
        refine region (det rfl (mv rfl) (det rfl (subI rfl rfl (by omega) (by omega)) (det rfl (asg rfl) (nil ?_))))   -- region 8
        exact again (lv, begin_ (gR m a b) body fr lv m, fun i => t i || decide (i ∈ R)) ⟨by omega, hbr, htk⟩ ⟨rfl, rfl, rfl, rfl, rfl, rfl, vi (by omega), trivial⟩ (fun w hm => by dsimp only; rw [List.take_length] at hm; exact hm.more) (by (first | omega | (dsimp only; omega)))
    · have h := of_decide_eq_false h
      obtain rfl : j = 0 := by omega
      rw [takenN] at htk
      subst htk
      refine exit ?_   -- 0
      show Tr _ _ _ _ _ _ _
      refine seq (region (det rfl (asg rfl) (nilS ?_)))   -- region 15
      refine seq ?_
      refine seq (region (det rfl (mv rfl) (det rfl (lenS u_sl_bool rfl) (det rfl (mv rfl) (nilS ?_)))))   -- region 16
      refine block ?_   -- block 4
      refine loopV (ι := Nat × Option Addr × Nat) (fun (k, _, _) => k ≤ body.length) (fun (k, B, q) => [(17, .slice B (trues t k).length q), (72, .slice (some ⟨b0, 0, none⟩) body.length body.length), (73, .int .i64 body.length), (74, .int .i64 k)]) (fun (k, B, q) => [.row (.slice B (trues t k).length q) T_int 1 (trues t k).length (il (trues t k)).flatten, .blk b0 (ob (bls t body.length) T_bool)]) (fun _ => []) (fun (k, _, _) => body.length - k) (0, none, 0) (Nat.zero_le _) ⟨rfl, rfl, rfl, rfl, trivial⟩ (fun w hm => (hm.sub (List.Sublist.refl _) |>.more).nilRow _ _) ?_
      rintro ⟨k, B, q⟩ σ hk
      dsimp only at hk ⊢
      have htl := trues_len t k
      refine seq (region (det rfl (lss rfl rfl) (nilS ?_)))   -- region 17
      refine seq ?_
      refine cond rfl (fun h => ?_) (fun h => ?_)   -- on t75
      · have h := of_decide_eq_true h
        have hkl : k < body.length := by omega
        obtain ⟨x, hx⟩ : ∃ x, t k = x := ⟨_, rfl⟩
        refine skipS ?_
        refine seq ?_
        refine block ?_   -- block 5
        refine seq (region (det rfl (mv rfl) (det rfl (ixB rfl rfl u_sl_bool s_bool (by omega) (by omega)) (det rfl (ldB 1 (v := .bool x) rfl rfl o_bool (by rw [← hx]; exact bls_at (by omega) hkl)) (det rfl (asg rfl) (det rfl (asg rfl) (nilS ?_)))))))   -- region 18
        refine seq (region (det rfl (mv rfl) (nilS ?_)))   -- region 19
        refine cond rfl (fun h => ?_) (fun h => ?_)   -- on t79
        · subst h
          refine region (det rfl (mv rfl) (det rfl (mv rfl) (bsl rfl (bs1 u_sl_int z_int s_int (cs := [.int .i64 (k : Nat)]) rfl rfl rfl (by decide) (by decide)) fun b1 => appB 1 0 u_sl_int i_int rfl (by decide) rfl rfl rfl rfl rfl rfl (by simp only [maxLen]; omega) (by omega) rfl fun A cap => det rfl (asg rfl) (nil ?_))))   -- region 20
          show Tr _ _ _ _ _ _ _
          refine region (det rfl (addI rfl rfl (by omega) (by omega)) (det rfl (mv rfl) (nil ?_)))   -- region 21
          refine again (k + 1, _, _) (by (first | omega | (dsimp only; omega))) ⟨by dsimp only; rw [trues_hit hx, List.length_append]; rfl, rfl, rfl, rfl, trivial⟩ (fun w hm => ?_) (by (first | omega | (dsimp only; omega)))
          dsimp only
          rw [trues_hit hx, il_app, List.length_append]; exact drop1 hm
        · subst h
          refine skip ?_
          show Tr _ _ _ _ _ _ _
          refine region (det rfl (addI rfl rfl (by omega) (by omega)) (det rfl (mv rfl) (nil ?_)))   -- region 21
          exact again (k + 1, B, q) (by (first | omega | (dsimp only; omega))) ⟨by dsimp only; rw [trues_miss hx]; rfl, rfl, rfl, rfl, trivial⟩ (fun w hm => by dsimp only; rw [trues_miss hx]; exact hm) (by (first | omega | (dsimp only; omega)))
      · have h := of_decide_eq_false h
        obtain rfl : k = body.length := by omega
        refine exit ?_   -- 4
        show Tr _ _ _ _ _ _ _
        refine seq (region (det rfl (mv rfl) (det rfl (asg rfl) (nilS ?_))))   -- region 22
        exact ret (retOwn (i := 0) rfl rfl rfl rfl)

theorem pick_PickS_ (l : List Int) (hn : l.length ≤ 100000) (m k a b : Int) (A : Option Addr) (cap : Nat) (D : Nat → Prop) (w : World) (hD : ∀ k, D k → k < w.heap.size) (hs : Sl 1 A l.length cap (il l) D w) :
    Calls PP N_pick_Pick #[.slice A l.length cap, .int .i64 m, .int .i64 k, .int .i64 a, .int .i64 b] w (RS w 1 (il (pickR l m k a b))) :=
  (pick_Pick_ l hn m k a b A cap D w hD hs).mono fun e w' h => RO.rs (il_length _) (il_ok _) e w' h
end Go.Proofs.YtmcapgjdflohfaaGreat.L

namespace Go.Proofs.YtmcapgjdflohfaaGreat.L
open Go Go.RowKit
set_option linter.unusedVariables false

theorem ref22_Index_ (l : List Int) (hn : l.length ≤ 1000000) (a x : Int) (A : Option Addr) (cap : Nat) (D : Nat → Prop) (w : World) (hD : ∀ k, D k → k < w.heap.size) (hs : Sl 1 A l.length cap (il l) D w) (hl : (Mp.all l a).length ≤ 1000) :
    Calls PP N_milepostref22_Index #[.slice A l.length cap, .int .i64 a, .int .i64 x] w (PR w (.int .i64 (Mp.index l a x))) := by
  obtain ⟨y, hy⟩ : ∃ y, Mp.all l a = y := ⟨_, rfl⟩
  refine enter f_milepostref22_Index rfl n_milepostref22_Index rfl (M.init1 PP w Sl.stable hD hs) ?_
  refine seq (region (det rfl (asg rfl) (nilS ?_)))   -- region 0
  refine seq (region (det rfl (mv rfl) (det rfl (mv rfl) (callS k_milepostref22_All rfl rfl (fun w hm => by
    obtain ⟨D, hD, hs⟩ := hm.sl (k := 0) rfl
    exact ref22_All_ l hn a A cap D w hD hs) fun B q => det rfl (asg rfl) (nilS ?_)))))   -- region 1
  rw [il_length, Mp.index, hy]
  rw [hy] at hl
  refine seq ?_
  refine seq (region (det rfl (asg rfl) (nilS ?_)))   -- region 2
  refine block ?_   -- block 0
  refine loopV (ι := Nat) (fun k => k ≤ y.length ∧ Mp.indexFrom x (y.drop k) k = Mp.indexFrom x y 0) (fun k => [(2, .int .i64 x), (7, .slice B y.length q), (8, .int .i64 k)]) (fun _ => []) (fun _ => [Sl 1 B y.length q (il y)]) (fun k => y.length - k) 0 ⟨by omega, rfl⟩ ⟨rfl, rfl, rfl, trivial⟩ (fun w hm => by
    obtain ⟨D, d1, d2, d3, d4, d5⟩ := hm.data
    exact ⟨hm.os, hm.tape, hm.output, hm.size, hm.frame, hm.holds, hm.mine, hm.nodup, ⟨Sl.stable, trivial⟩, D, d1, d2, d3, d4, d5.1, trivial⟩) ?_
  intro k σ ⟨hk, hc⟩
  refine seq ?_
  refine seq (region (det rfl (mv rfl) (det rfl (mv rfl) (det rfl (lenS u_sl_int rfl) (det rfl (lss rfl rfl) (nilS ?_))))))   -- region 3
  refine cond rfl (fun h => ?_) (fun h => ?_)   -- on t15
  · have h := of_decide_eq_true h
    have hk2 : k < y.length := by omega
    rw [List.drop_eq_getElem_cons hk2, Mp.indexFrom] at hc
    have e : y.getD k 0 = y[k] := by simp [hk2]
    refine skipS ?_
    refine seq ?_
    refine block ?_   -- block 1
    refine seq (region (det rfl (mv rfl) (det rfl (mv rfl) (det rfl (ixS 0 rfl rfl u_sl_int s_int rfl (by omega) (by omega)) (det rfl (ldSO 0 (v := .int .i64 y[k]) rfl rfl o_int (by rw [← e]; exact il_at (j := k) (by omega) hk2)) (det rfl (mv rfl) (det rfl (eql rfl rfl) (nilS ?_))))))))   -- region 5
    refine cond rfl (fun h => ?_) (fun h => ?_)   -- on t23
    · have h := of_decide_eq_true h
      refine seq (region (det rfl (mv rfl) (det rfl (asg rfl) (nilS ?_))))   -- region 6
      exact ret (retT rfl rfl (pr' (vi (by rw [← hc, if_pos h]))))
    · have h := of_decide_eq_false h
      refine skip ?_
      show Tr _ _ _ _ _ _ _
      refine region (det rfl (mv rfl) (det rfl (addI rfl rfl (by omega) (by omega)) (det rfl (asg rfl) (nil ?_))))   -- region 4
      exact again (k + 1) ⟨by omega, by rw [← hc, if_neg h]; rfl⟩ ⟨rfl, rfl, rfl, trivial⟩ (fun w hm => hm) (by (first | omega | (dsimp only; omega)))
  · have h := of_decide_eq_false h
    refine exit ?_   -- 0
    show Tr _ _ _ _ _ _ _
    refine seq (region (det rfl (asg rfl) (nilS ?_)))   -- region 7
    have e : k = y.length := by omega
    rw [e, List.drop_length] at hc
    exact ret (retT rfl rfl (pr' (vi (by rw [← hc]; rfl))))

theorem lit_slS {w : World} {b : Nat} {e : TypeId} {xs : List Int} {n : Nat} (h : w.heap[b]? = some (ob (xs.map fun x => .int .i64 x) e)) (hn : xs.length = n) (hm : n ≤ maxLen) (D : Nat → Prop) (hb : D b) : Sl 1 (some ⟨b, 0, none⟩) n n (il xs) D w :=
  (lit_sl h hn hm).mono fun k hk => hk ▸ hb

set_option maxRecDepth 20000 in
theorem awake47_ : Pure PP N_milepostlaw47_awake #[] (.bool true) := by
  refine enter0 f_milepostlaw47_awake rfl n_milepostlaw47_awake rfl fun w => ?_
  have e1 : pickR [256, 0, 0] 1 1 1 2 = [0, 1] := by decide +kernel
  have e2 : mayP 1 1 1 2 = true := by decide +kernel
  have e3 : mayP 0 1 1 2 = false := by decide +kernel
  refine seq (region (det rfl (asg rfl) (nilS ?_)))   -- region 0
  refine seq (region (bsl rfl (bsm u_sl_int z_int s_int (xs := [256, 0, 0].map fun x => .int .i64 x) rfl rfl rfl (by decide) (by decide)) fun b0 => callS' (m := 2) (sz := 1) (ls := il [0, 1]) rfl k_pick_Pick rfl rfl (fun w hm => by
    have := pick_PickS_ [256, 0, 0] (by decide) 1 1 1 2 (some ⟨b0, 0, none⟩) 3 (fun k => k = b0) w (fun k hk => by rw [hk]; exact lt_heap (hm.blk 0 rfl)) (lit_sl (hm.blk 0 rfl) rfl (by simp [maxLen]))
    rw [e1] at this
    exact this) fun B q => (bsl rfl (bsm u_sl_int z_int s_int (xs := [0, 1].map fun x => .int .i64 x) rfl rfl rfl (by decide) (by decide)) fun b1 => call (v := .bool true) k_milepostref22_Same rfl rfl (fun w hm => by
    obtain ⟨D, hD, hs⟩ := hm.sl (k := 0) rfl
    have := same22_ [0, 1] [0, 1] (by decide) B (some ⟨b1, 0, none⟩) q 2 (fun k => D k ∨ k = b1) w (fun k hk => by rcases hk with hk | hk; exact hD k hk; rw [hk]; exact lt_heap (hm.blk 0 rfl)) (hs.mono fun k hk => .inl hk) ((lit_sl (hm.blk 0 rfl) rfl (by simp [maxLen])).mono fun k hk => .inr hk)
    rw [decide_eq_true (show ([0, 1] : List Int) = [0, 1] from rfl)] at this
    exact this) (det rfl (mv rfl) (guardT rfl rfl (call (v := .bool true) k_pick_May rfl rfl (fun w _ => e2 ▸ pick_May_ 1 1 1 2 w) (det rfl (pick (b := true) rfl rfl) (det rfl (mv rfl) (guardT rfl rfl (call (v := .bool false) k_pick_May rfl rfl (fun w _ => e3 ▸ pick_May_ 0 1 1 2 w) (guardT rfl rfl (det rfl (notB rfl) (det rfl (pick (b := true) rfl rfl) (det rfl (asg rfl) (nilS ?_)))))))))))))))   -- region 1
  exact ret (retT rfl rfl pr)

/-- What the laws' guard lets pass. -/
theorem guard4 {mu P : Bool} {n : Nat} {k E : Int} (h : (mu || decide ((n : Int) ≤ k) || !P || !decide (E = 0)) = false) : mu = false ∧ k < n ∧ P = true ∧ E = 0 := by
  simp only [Bool.or_eq_false_iff, Bool.not_eq_false', decide_eq_false_iff_not, decide_eq_true_eq] at h
  exact ⟨h.1.1.1, by omega, h.1.2, h.2⟩
/-! ### The law -/
theorem Cf.at_n {c : Cf} (h : c.ok) (j : Nat) : c.c[98 + j]? = c.tail[j]? := by
  have e : (c.g.c ++ b8 c.t).length = 98 := by rw [List.length_append, Hd.c_length h.1, b8_length, h.2]
  rw [Cf.c, ← List.append_assoc, List.getElem?_append_right (by omega), e, Nat.add_sub_cancel_left]
theorem Cf.at_m {c : Cf} (h : c.ok) : c.c[0 + 98]? = some (.int .i64 c.m) := Cf.at_n h 0
theorem Cf.at_k {c : Cf} (h : c.ok) : c.c[0 + 99]? = some (.int .i64 c.k) := Cf.at_n h 1
theorem Cf.at_a {c : Cf} (h : c.ok) : c.c[0 + 100]? = some (.int .i64 c.a) := Cf.at_n h 2
theorem Cf.at_b {c : Cf} (h : c.ok) : c.c[0 + 101]? = some (.int .i64 c.b) := Cf.at_n h 3
theorem pickR_len (l : List Int) (m k a b : Int) : (pickR l m k a b).length ≤ l.length := by
  unfold pickR
  split
  · have := List.length_filter_le (Mp.takenN (gR m a b) (l.take (l.length - k.toNat)) m ((Mp.topN (l.take (l.length - k.toNat))).toNat + 1) 0 fun _ => false) ((List.range (l.take (l.length - k.toNat)).length).map fun i : Nat => (i : Int))
    simp only [List.length_map, List.length_range, List.length_take] at this
    unfold Mp.pickBody
    simp only [List.length_take]
    omega
  · simp
/-- What is picked of a chain. -/
theorem pick_joined (L : List Int) (h : Mp.ChainLevels L) (m k a b : Int) (kn : Nat) (hk : k = kn) (hP : mayP m k a b = true) (h1 : k < L.length) (h2 : L.length ≤ 1024) (R : List Int) (hR : pickR L m k a b = R) :
    0 < R.length ∧ R.getD 0 0 = 0 ∧ R.getD (R.length - 1) 0 = (L.length : Int) - k - 1 ∧ ∀ i, i + 1 < R.length → R.getD i 0 < R.getD (i + 1) 0 ∧ R.getD i 0 ∈ Mp.all L (R.getD (i + 1) 0) := by
  rw [pickR, if_pos ⟨hP, h1, h2⟩] at hR
  subst hk
  have hk1 : 1 ≤ (kn : Int) := by
    simp only [mayP, Bool.and_eq_true, decide_eq_true_eq] at hP
    omega
  obtain ⟨a1, a2, a3, a4⟩ := Mp.pickBody_joined (gR m a b) L h (L.length - kn) (by omega) (by omega) m
  rw [Int.toNat_natCast] at hR
  subst hR
  have e : ∀ (R : List Int) i (hi : i < R.length), R.getD i 0 = R[i] := fun R i hi => by simp [hi]
  refine ⟨a1, by rw [e _ 0 a1]; exact a2, by rw [e _ _ (by omega), a3]; omega, fun i hi => ?_⟩
  rw [e _ i (by omega), e _ (i + 1) hi]
  exact a4 i hi

set_option maxRecDepth 20000 in
set_option maxHeartbeats 1600000 in
theorem pickJoined_ (c : Cf) (hc : c.ok) (hfit : c.fit) (l : List Bl) (hl1 : ∀ b ∈ l, b.h.ok) (hl2 : ∀ b ∈ l, ∀ x ∈ b.t, x.length ≤ 140737488355328) (A : Option Addr) (cap : Nat) (D : Nat → Prop) (w : World) (hD : ∀ k, D k → k < w.heap.size) (hs : Sl 67 A l.length cap (bl l) D w) (ht : Txs l D w) :
    Calls PP N_milepostlaw47_PickJoined #[ag c.c, .slice A l.length cap] w (PR w (.bool true)) := by
  refine enter f_milepostlaw47_PickJoined rfl n_milepostlaw47_PickJoined rfl (M.init PP w D [] [Sl 67 A l.length cap (bl l), Txs l] ⟨Sl.stable, Txs.stable, trivial⟩ hD ⟨hs, ht, trivial⟩) ?_
  obtain ⟨mu, hmu⟩ : ∃ mu, much24 l = mu := ⟨_, rfl⟩
  obtain ⟨P, hP⟩ : ∃ P, mayP c.m c.k c.a c.b = P := ⟨_, rfl⟩
  obtain ⟨E, hE⟩ : ∃ E, chkF c l = E := ⟨_, rfl⟩
  have lb : mu = false → l.length ≤ 24 ∧ ∀ b ∈ l, Bok b := fun h => ⟨(much24_false (hmu.trans h)).1, Bok_of_much (hmu.trans h) hl1⟩
  refine seq (region (box rfl rfl rfl fun b0 => det rfl (asg rfl) (nilS ?_)))   -- region 0
  refine seq ?_
  refine seq (region (det rfl (mv rfl) (call (v := .bool mu) k_milepostlaw24_Much rfl rfl (fun w hm => by
    obtain ⟨D, d1, d2, hD, d4, d5⟩ := hm.data
    exact hmu ▸ much24_ l hl1 hl2 A cap D w hD d5.1 d5.2.1) (det rfl (mv rfl) (guardI rfl rfl rfl (fun hb => mv rfl) (guardI rfl rfl rfl (fun hb => lenS u_sl_api_Block (bift hb rfl)) (guardI rfl rfl rfl (fun hb => fadr rfl u_api_Config rfl s_int) (guardI rfl rfl rfl (fun hb => ldB 0 (v := .int .i64 c.k) (bift hb rfl) rfl o_int (Cf.at_k hc)) (guardI rfl rfl rfl (fun hb => leq (bift hb rfl) (bift hb rfl)) (det rfl (pick rfl (pickO rfl)) (det rfl (mv rfl) (guardI rfl rfl rfl (fun hb => fadr rfl u_api_Config rfl s_int) (guardI rfl rfl rfl (fun hb => ldB 0 (v := .int .i64 c.m) (bift hb rfl) rfl o_int (Cf.at_m hc)) (guardI rfl rfl rfl (fun hb => fadr rfl u_api_Config rfl s_int) (guardI rfl rfl rfl (fun hb => ldB 0 (v := .int .i64 c.k) (bift hb rfl) rfl o_int (Cf.at_k hc)) (guardI rfl rfl rfl (fun hb => fadr rfl u_api_Config rfl s_int) (guardI rfl rfl rfl (fun hb => ldB 0 (v := .int .i64 c.a) (bift hb rfl) rfl o_int (Cf.at_a hc)) (guardI rfl rfl rfl (fun hb => fadr rfl u_api_Config rfl s_int) (guardI rfl rfl rfl (fun hb => ldB 0 (v := .int .i64 c.b) (bift hb rfl) rfl o_int (Cf.at_b hc)) ((guardC (v := .bool P) rfl rfl k_pick_May (fun hb => lc (bift hb rfl) (lc (bift hb rfl) (lc (bift hb rfl) (lc (bift hb rfl) rfl)))) rfl (fun hb w _ => hP ▸ pick_May_ c.m c.k c.a c.b w) (guardI rfl rfl rfl (fun hb => notB (bift hb rfl)) (det rfl (pick rfl (pickO rfl)) (det rfl (mv rfl) (guardI rfl rfl rfl (fun hb => ldAll 0 rfl rfl g_api_Config (Cf.c_length hc)) (guardI rfl rfl rfl (fun hb => mv rfl) ((guardC (v := ag (fltC E)) rfl rfl k_chain_Check (fun hb => lc (bift hb rfl) (lc (bift hb rfl) rfl)) rfl (fun hb w hm => by
    obtain ⟨D, d1, d2, hD, d4, d5⟩ := hm.data
    have hmf : mu = false := by simp only [Bool.or_eq_false_iff] at hb; exact hb.1.1
    have := chain_Check_ c hc l (lb hmf).2 (by have := (lb hmf).1; omega) A cap D w hD d5.1 d5.2.1
    rw [hE] at this; exact this) (guardI rfl rfl rfl (fun hb => fldO (bift hb rfl) u_api_Fault rfl o_api_Errno rfl) (guardI rfl rfl rfl (fun hb => neq (bift hb rfl) rfl) (det rfl (pick rfl (pickO rfl)) (nilS ?_))))))))))))))))))))))))))))))))   -- region 1
  refine cond rfl (fun h => ?_) (fun h => ?_)   -- on t35
  · refine seq (region (call k_milepostlaw47_awake rfl rfl (fun w _ => awake47_ w) (det rfl (asg rfl) (nilS ?_))))   -- region 2
    exact ret (retT rfl rfl pr)
  · obtain ⟨h1, h2, h3, h4⟩ := guard4 h
    obtain ⟨hl24, hlb⟩ := lb h1
    refine forget [(1, .slice A l.length cap), (2, .pointer (some ⟨b0, 0, none⟩))] ⟨rfl, rfl, trivial⟩ fun σ => ?_
    have hch : Chn c l := chk_chn (by rw [hE]; exact h4)
    subst h3
    have hmk : 1 ≤ c.m ∧ 1 ≤ c.k := by
      have := hP
      simp only [mayP, Bool.and_eq_true, decide_eq_true_eq] at this
      omega
    obtain ⟨kn, hkn⟩ : ∃ n : Nat, c.k = (n : Int) := ⟨c.k.toNat, by omega⟩
    obtain ⟨Lv, hLv⟩ : ∃ x, levs c.t l = x := ⟨_, rfl⟩
    have hLl : Lv.length = l.length := by rw [← hLv, levs_length]
    obtain ⟨R, hR⟩ : ∃ x, pickR Lv c.m c.k c.a c.b = x := ⟨_, rfl⟩
    obtain ⟨j1, j2, j3, j4⟩ := pick_joined Lv (hLv ▸ hch.levels) c.m c.k c.a c.b kn hkn hP (by omega) (by omega) R hR
    have hRl : R.length ≤ 1000000 := by
      have := pickR_len Lv c.m c.k c.a c.b
      rw [hR] at this; omega
    have b1 : (il R)[0]? = some [.int .i64 0] := by have := il_at (xs := R) (o := 0) (j := 0) rfl j1; rwa [j2] at this
    have b2 : (il R)[R.length - 1]? = some [.int .i64 ((l.length : Int) - c.k - 1)] := by have := il_at (xs := R) (o := R.length - 1) rfl (by omega); rwa [j3, hLl] at this
    refine skipS ?_
    refine seq (region (det rfl (fadr rfl u_api_Config rfl s_api_Hash) (det rfl (ldA 0 rfl rfl g_api_Hash (r := b8 c.t) (Cf.at_t' hc) (by rw [b8_length]; exact hc.2)) (det rfl (mv rfl) (callS' (m := Lv.length) (sz := 1) (ls := il Lv) (il_length _) k_chain_Levels rfl rfl (fun w hm => by
      obtain ⟨D, d1, d2, hD, d4, d5⟩ := hm.data
      have := chain_Levels_ c.t hc.2 l (by omega) (fun b hb => (hlb b hb).1) A cap D w hD d5.1
      rw [hLv] at this; exact this) fun B q => det rfl (asg rfl) (nilS ?_))))))   -- region 3
    refine seq (region (det rfl (mv rfl) (det rfl (fadr rfl u_api_Config rfl s_int) (det rfl (ldB 0 (v := .int .i64 c.m) rfl rfl o_int (Cf.at_m hc)) (det rfl (fadr rfl u_api_Config rfl s_int) (det rfl (ldB 0 (v := .int .i64 c.k) rfl rfl o_int (Cf.at_k hc)) (det rfl (fadr rfl u_api_Config rfl s_int) (det rfl (ldB 0 (v := .int .i64 c.a) rfl rfl o_int (Cf.at_a hc)) (det rfl (fadr rfl u_api_Config rfl s_int) (det rfl (ldB 0 (v := .int .i64 c.b) rfl rfl o_int (Cf.at_b hc)) (callS' (m := R.length) (sz := 1) (ls := il R) (il_length _) k_pick_Pick (show _ = [Value.slice B Lv.length q, .int .i64 c.m, .int .i64 c.k, .int .i64 c.a, .int .i64 c.b] from rfl) rfl (fun w hm => by
      obtain ⟨D, hD, hs⟩ := hm.sl (k := 0) rfl
      have := pick_PickS_ Lv (by omega) c.m c.k c.a c.b B q D w hD hs
      rw [hR] at this; exact this) fun C r => det rfl (asg rfl) (nilS ?_))))))))))))   -- region 4
    refine seq ?_
    refine seq (drawI 24 [] mix (by kernel_rfl) (by kernel_rfl) ?_)   -- drawn 5
    refine nI rfl rfl rfl (mv rfl) ?_
    refine nI rfl rfl rfl (lenS u_sl_int rfl) ?_
    refine nI rfl rfl rfl (Det.to (eql rfl rfl) (v' := .bool false) (vb (decide_eq_false (by omega)))) ?_
    refine nI rfl rfl rfl (mv rfl) ?_
    refine gI rfl rfl rfl rfl rfl (mv rfl) ?_
    refine gI rfl rfl rfl rfl rfl (ixS 0 rfl rfl u_sl_int s_int rfl (by omega) (by omega)) ?_
    refine gI rfl rfl rfl rfl rfl (ldSO 0 (v := .int .i64 0) rfl rfl o_int b1) ?_
    refine gI rfl rfl rfl rfl rfl (Det.to (neq rfl rfl) (v' := .bool false) rfl) ?_
    refine nI rfl rfl rfl (pick (b := false) rfl rfl) ?_
    refine nI rfl rfl rfl (mv rfl) ?_
    refine gI rfl rfl rfl rfl rfl (mv rfl) ?_
    refine gI rfl rfl rfl rfl rfl (mv rfl) ?_
    refine gI rfl rfl rfl rfl rfl (lenS u_sl_int rfl) ?_
    refine gI rfl rfl rfl rfl rfl (subI rfl rfl (by omega) (by omega)) ?_
    refine gI rfl rfl rfl rfl rfl (ixS 0 rfl rfl u_sl_int s_int rfl (by omega) (by omega)) ?_
    refine gI rfl rfl rfl rfl rfl (ldSO 0 (v := .int .i64 ((l.length : Int) - c.k - 1)) rfl rfl o_int (by rw [show ((R.length : Int) - 1).toNat = R.length - 1 by omega]; exact b2)) ?_
    refine gI rfl rfl rfl rfl rfl (mv rfl) ?_
    refine gI rfl rfl rfl rfl rfl (lenS u_sl_api_Block rfl) ?_
    refine gI rfl rfl rfl rfl rfl (fadr rfl u_api_Config rfl s_int) ?_
    refine gI rfl rfl rfl rfl rfl (ldB 0 (v := .int .i64 c.k) rfl rfl o_int (Cf.at_k hc)) ?_
    refine gI rfl rfl rfl rfl rfl (subI rfl rfl (by omega) (by omega)) ?_
    refine gI rfl rfl rfl rfl rfl (subI rfl rfl (by omega) (by omega)) ?_
    refine gI rfl rfl rfl rfl rfl (Det.to (neq rfl rfl) (v' := .bool false) (vb (by simp))) ?_
    refine nI rfl rfl rfl (pick (b := false) rfl rfl) ?_
    refine endI rfl (nilS ?_)
    refine condF rfl ?_
    refine skipS ?_
    refine seq ?_
    refine seq (region (det rfl (asg rfl) (nilS ?_)))   -- region 7
    refine block ?_   -- block 0
    refine loopV (ι := Nat) (fun k => 1 ≤ k ∧ k ≤ R.length) (fun k => [(5, .slice B Lv.length q), (6, .slice C R.length r), (7, .int .i64 k)]) (fun _ => []) (fun _ => [Sl 1 C R.length r (il R), Sl 1 B Lv.length q (il Lv)]) (fun k => R.length - k) 1 ⟨by omega, by omega⟩ ⟨rfl, rfl, rfl, trivial⟩ (fun w hm => (drop1 hm).refact ⟨Sl.stable, Sl.stable, trivial⟩ fun D h => ⟨h.1, h.2.1, trivial⟩) ?_
    intro k σ ⟨hk1, hk⟩
    refine seq ?_
    refine seq (region (det rfl (mv rfl) (det rfl (mv rfl) (det rfl (lenS u_sl_int rfl) (det rfl (lss rfl rfl) (nilS ?_))))))   -- region 8
    refine cond rfl (fun h => ?_) (fun h => ?_)   -- on t78
    · have h := of_decide_eq_true h
      have hkl : k < R.length := by omega
      obtain ⟨s1, s2⟩ := j4 (k - 1) (by omega)
      rw [show k - 1 + 1 = k by omega] at s1 s2
      obtain ⟨x, hx⟩ : ∃ x, R.getD k 0 = x := ⟨_, rfl⟩
      obtain ⟨y, hy⟩ : ∃ y, R.getD (k - 1) 0 = y := ⟨_, rfl⟩
      rw [hx, hy] at s1 s2
      have hall := Mp.all_len Lv x
      obtain ⟨Y, hY⟩ : ∃ Y, Mp.all Lv x = Y := ⟨_, rfl⟩
      obtain ⟨z, hz⟩ : ∃ z, Mp.index Lv x y = z := ⟨_, rfl⟩
      have hz0 : 0 ≤ z := by
        obtain ⟨i, hi, _⟩ := Mp.indexFrom_mem y (Mp.all Lv x) 0 s2
        rw [← hz, Mp.index, hi]; omega
      have hY0 : 0 < Y.length := by rw [← hY]; exact List.length_pos_of_mem s2
      have a1 : (il R)[k]? = some [.int .i64 x] := by rw [← hx]; exact il_at rfl hkl
      have a2 : (il R)[k - 1]? = some [.int .i64 y] := by rw [← hy]; exact il_at rfl (by omega)
      refine skipS ?_
      refine seq ?_
      refine block ?_   -- block 1
      refine seq (drawI 34 [21, 30] mix (by kernel_rfl) (by kernel_rfl) ?_)   -- drawn 10
      refine nI rfl rfl rfl (mv rfl) ?_
      refine nI rfl rfl rfl (mv rfl) ?_
      refine nI rfl rfl rfl (ixS 0 rfl rfl u_sl_int s_int rfl (by omega) (by omega)) ?_
      refine nI rfl rfl rfl (ldSO 0 (i := k) (v := .int .i64 x) (by first | rfl | (show at_ _ _ = at_ _ _; congr 1; omega)) rfl o_int a1) ?_
      refine nI rfl rfl rfl (mv rfl) ?_
      refine nI rfl rfl rfl (mv rfl) ?_
      refine nI rfl rfl rfl (subI rfl rfl (by omega) (by omega)) ?_
      refine nI rfl rfl rfl (ixS 0 rfl rfl u_sl_int s_int rfl (by omega) (by omega)) ?_
      refine nI rfl rfl rfl (ldSO 0 (i := k - 1) (v := .int .i64 y) (by first | rfl | (show at_ _ _ = at_ _ _; congr 1; omega)) rfl o_int a2) ?_
      refine nI rfl rfl rfl (Det.to (leq rfl rfl) (v' := .bool false) (vb (decide_eq_false (by omega)))) ?_
      refine nI rfl rfl rfl (mv rfl) ?_
      refine gI rfl rfl rfl rfl rfl (mv rfl) ?_
      refine gI rfl rfl rfl rfl rfl (mv rfl) ?_
      refine gI rfl rfl rfl rfl rfl (mv rfl) ?_
      refine gI rfl rfl rfl rfl rfl (ixS 0 rfl rfl u_sl_int s_int rfl (by omega) (by omega)) ?_
      refine gI rfl rfl rfl rfl rfl (ldSO 0 (i := k) (v := .int .i64 x) (by first | rfl | (show at_ _ _ = at_ _ _; congr 1; omega)) rfl o_int a1) ?_
      refine gI rfl rfl rfl rfl rfl (mv rfl) ?_
      refine gI rfl rfl rfl rfl rfl (mv rfl) ?_
      refine gI rfl rfl rfl rfl rfl (subI rfl rfl (by omega) (by omega)) ?_
      refine gI rfl rfl rfl rfl rfl (ixS 0 rfl rfl u_sl_int s_int rfl (by omega) (by omega)) ?_
      refine gI rfl rfl rfl rfl rfl (ldSO 0 (i := k - 1) (v := .int .i64 y) (by first | rfl | (show at_ _ _ = at_ _ _; congr 1; omega)) rfl o_int a2) ?_
      refine pgI (v := .int .i64 z) rfl rfl rfl rfl k_milepostref22_Index (show _ = [Value.slice B Lv.length q, .int .i64 x, .int .i64 y] from rfl) rfl (fun w hm => by
        obtain ⟨D, hD, hs⟩ := hm.sl (k := 1) rfl
        have := ref22_Index_ Lv (by omega) x y B q D w hD hs (by omega)
        rw [hz] at this; exact this) ?_
      refine gI rfl rfl rfl rfl rfl (Det.to (lss rfl rfl) (v' := .bool false) (vb (decide_eq_false (by omega)))) ?_
      refine nI rfl rfl rfl (pick (b := false) rfl rfl) ?_
      refine nI rfl rfl rfl (mv rfl) ?_
      refine gI rfl rfl rfl rfl rfl (mv rfl) ?_
      refine gI rfl rfl rfl rfl rfl (mv rfl) ?_
      refine gI rfl rfl rfl rfl rfl (mv rfl) ?_
      refine gI rfl rfl rfl rfl rfl (ixS 0 rfl rfl u_sl_int s_int rfl (by omega) (by omega)) ?_
      refine gI rfl rfl rfl rfl rfl (ldSO 0 (i := k) (v := .int .i64 x) (by first | rfl | (show at_ _ _ = at_ _ _; congr 1; omega)) rfl o_int a1) ?_
      refine sgI (k := Y.length) (sz := 1) (ls := il Y) (il_length _) rfl rfl rfl rfl k_near_All (show _ = [Value.slice B Lv.length q, .int .i64 x] from rfl) rfl (fun w hm => by
        obtain ⟨D, hD, hs⟩ := hm.sl (k := 1) rfl
        have := near_All_ Lv (by omega) x B q D w hD hs
        rw [hY] at this; exact this) fun E1 q1 => ?_
      refine gI rfl rfl rfl rfl rfl (lenS u_sl_int rfl) ?_
      refine gI rfl rfl rfl rfl rfl (Det.to (eql rfl rfl) (v' := .bool false) (vb (decide_eq_false (by omega)))) ?_
      refine nI rfl rfl rfl (pick (b := false) rfl rfl) ?_
      refine endI rfl (nilS ?_)
      refine condF rfl ?_
      refine skip ?_
      show Tr _ _ _ _ _ _ _
      refine region (det rfl (mv rfl) (det rfl (addI rfl rfl (by omega) (by omega)) (det rfl (asg rfl) (nil ?_))))   -- region 9
      exact again (k + 1) ⟨by omega, by omega⟩ ⟨rfl, rfl, rfl, trivial⟩ (fun w hm => hm.more) (by (first | omega | (dsimp only; omega)))
    · have h := of_decide_eq_false h
      refine exit ?_   -- 0
      show Tr _ _ _ _ _ _ _
      refine seq (region (call k_milepostlaw47_awake rfl rfl (fun w _ => awake47_ w) (det rfl (asg rfl) (nilS ?_))))   -- region 12
      exact ret (retT rfl rfl pr)
end Go.Proofs.YtmcapgjdflohfaaGreat.L

namespace Go.Proofs.YtmcapgjdflohfaaGreat.L
open Go Go.RowKit Go.Shelf
attribute [local go_sem] Oper.semAt_some

theorem room_of_none {F : Fence} (hd : F.depth = none) (k : Nat) : F.room k := fun d h => by rw [hd] at h; cases h
theorem round_any {F : Fence} (hd : F.depth = none) {m m' : Nat} {P : Program} {l : Nat} {f : FuncId} {tmps : Array Value} {assign body : Code} {w : World} {R : Ending → World → Prop}
    (h : RoundIn F m P l f tmps assign body w R) : RoundIn F m' P l f tmps assign body w R := ⟨h.1, fun c cs _ => h.2 c cs (room_of_none hd _)⟩
theorem yield_any {F : Fence} (hd : F.depth = none) {m : Nat} (m' : Nat) {P : Program} {l : Nat} {args : Array Value} {W : World} {R : Ending → World → Prop} (h : YieldAt F m P l args W R) : YieldAt F m' P l args W R := by
  obtain ⟨fn, tmps, assign, body, hy, hR⟩ := h
  exact ⟨fn, tmps, assign, body, hy, round_any hd hR⟩

/-- From the top down: whether the way goes to the right. -/
def dn (n i : Nat) : List Bool := (Mp.sides n i).reverse
theorem dn_small {n i : Nat} (h : n < 2) : dn n i = [] := by rw [dn, Mp.sides_small _ _ h]; rfl
theorem dn_right {n i : Nat} (h : ¬ n < 2) (hi : Mp.left n ≤ i) : dn n i = true :: dn (n - Mp.left n) (i - Mp.left n) := by rw [dn, Mp.sides_step _ _ h, if_pos hi, List.reverse_append]; rfl
theorem dn_left {n i : Nat} (h : ¬ n < 2) (hi : ¬ Mp.left n ≤ i) : dn n i = false :: dn (Mp.left n) i := by rw [dn, Mp.sides_step _ _ h, if_neg hi, List.reverse_append]; rfl

set_option maxRecDepth 100000 in
set_option maxHeartbeats 8000000 in
theorem shape_down_in (n y : Nat) (N I : Nat) (hN : N ≤ 1000000000) (hI : I < N) (J Jx : List Bool → World → Prop) (hJ : ∀ s W W', J s W → W.grownBy W' none → J s W')
    (hY : ∀ (m : Nat) pre x W, J pre W → pre.length < (dn N I).length → YieldAt Fence.wide m Tryz.prog y #[.bool x] W fun e W' =>
      (e = .returned (.bool true) ∧ J (pre ++ [x]) W') ∨ (e = .returned (.bool false) ∧ Jx (pre ++ [x]) W'))
    (W : World) (h0 : J [] W) :
    CallsIn Fence.wide n Tryz.prog 208 #[.int .i64 N, .int .i64 I, .func (.yield y) #[] #[]] W fun e W' => (∃ v, e = .returned v) ∧
      ((∃ ys, ys = dn N I ∧ J ys W') ∨ (∃ pre, Jx pre W')) := by
  refine callsIn_of_wp Tryz.func208 rfl trivial ?_ rfl
  simp only [Tryz.ntmps208, List.size_toArray, List.length_cons, List.length_nil, Nat.reduceAdd, Nat.reduceSub, Array.replicate_succ, Array.replicate_zero, List.push_toArray, List.append_toArray, List.nil_append, List.cons_append]
  gi_wp2
  gi_loopw [0, 1] (fun a b wr => ∃ (pre : List Bool) (p q : Nat), a = .int .i64 p ∧ b = .int .i64 q ∧ p ≤ N ∧ q < p ∧ pre ++ dn p q = dn N I ∧ J pre wr)
    (fun a _ _ => (intOf a).toNat)
  case atStart => exact ⟨[], N, I, rfl, rfl, Nat.le_refl _, hI, rfl, h0⟩
  case round =>
    obtain ⟨pre, p, q, rfl, rfl, hp, hq, hd, hJs⟩ := hrel
    by_cases h2 : 2 ≤ p
    · have l1 := Mp.left_pos h2
      have l2 := Mp.left_lt h2
      by_cases hr : Mp.left p ≤ q
      · rw [dn_right (by omega) hr] at hd
        gi_wp2
        refine ⟨trivial, (fun h => nomatch h), ?_⟩
        refine (callsIn_wide.2 (shape_Left_ p (by omega) _)).mono ?_
        rintro e w' ⟨rfl, hb⟩
        have hJ' := hJ _ _ _ hJs (grown_below hb)
        obtain ⟨fn, tmps, assign, body, hy, hR⟩ := hY (n - 1) pre true w' hJ' (by rw [← hd]; simp)
        gi_wp2
        refine ⟨(fun h => nomatch h), ?_⟩
        refine hR.mono ?_
        rintro e W3 (⟨rfl, hJ3⟩ | ⟨rfl, hJx3⟩)
        · gi_wp2
          go_roundw
          case rel => exact ⟨pre ++ [true], p - Mp.left p, q - Mp.left p, by simp; omega, by simp; omega, by omega, by omega, by rw [← hd]; simp, hJ3⟩
          case measure => simp [intOf]; omega
        · gi_wp2
          refine bodyPost_ret (results_none rfl _ _ _) rfl ?_
          exact ⟨⟨_, rfl⟩, .inr ⟨_, hJx3⟩⟩
      · rw [dn_left (by omega) hr] at hd
        gi_wp2
        refine ⟨trivial, (fun h => nomatch h), ?_⟩
        refine (callsIn_wide.2 (shape_Left_ p (by omega) _)).mono ?_
        rintro e w' ⟨rfl, hb⟩
        have hJ' := hJ _ _ _ hJs (grown_below hb)
        obtain ⟨fn, tmps, assign, body, hy, hR⟩ := hY (n - 1) pre false w' hJ' (by rw [← hd]; simp)
        gi_wp2
        refine ⟨(fun h => nomatch h), ?_⟩
        refine hR.mono ?_
        rintro e W3 (⟨rfl, hJ3⟩ | ⟨rfl, hJx3⟩)
        · gi_wp2
          go_roundw
          case rel => exact ⟨pre ++ [false], Mp.left p, q, rfl, rfl, by omega, by omega, by rw [← hd]; simp, hJ3⟩
          case measure => simp [intOf]; omega
        · gi_wp2
          refine bodyPost_ret (results_none rfl _ _ _) rfl ?_
          exact ⟨⟨_, rfl⟩, .inr ⟨_, hJx3⟩⟩
    · rw [dn_small (by omega), List.append_nil] at hd
      gi_wp2
      go_end0
      exact ⟨⟨_, rfl⟩, .inl ⟨_, hd, hJs⟩⟩

/-- The closure reads its two boxes and goes down. -/
theorem shape_Sides_1_in (n y : Nat) (B1 B2 : Nat) (N I : Nat) (hN : N ≤ 1000000000) (hI : I < N) (J Jx : List Bool → World → Prop) (hJ : ∀ s W W', J s W → W.grownBy W' none → J s W')
    (hY : ∀ (m : Nat) pre x W, J pre W → pre.length < (dn N I).length → YieldAt Fence.wide m Tryz.prog y #[.bool x] W fun e W' =>
      (e = .returned (.bool true) ∧ J (pre ++ [x]) W') ∨ (e = .returned (.bool false) ∧ Jx (pre ++ [x]) W'))
    (W : World) (h1 : W.cell? ⟨B1, 0, none⟩ = some (.int .i64 N)) (h2 : W.cell? ⟨B2, 0, none⟩ = some (.int .i64 I)) (h0 : J [] W) :
    CallsIn Fence.wide n Tryz.prog 207 #[.func (.yield y) #[] #[], .pointer (some ⟨B1, 0, none⟩), .pointer (some ⟨B2, 0, none⟩)] W fun e W' => (∃ v, e = .returned v) ∧
      ((∃ ys, ys = dn N I ∧ J ys W') ∨ (∃ pre, True ∧ Jx pre W')) := by
  refine callsIn_of_wp Tryz.func207 rfl trivial ?_ rfl
  simp only [Tryz.ntmps207, List.size_toArray, List.length_cons, List.length_nil, Nat.reduceAdd, Nat.reduceSub, Array.replicate_succ, Array.replicate_zero, List.push_toArray, List.append_toArray, List.nil_append, List.cons_append]
  gi_wp2
  refine ⟨trivial, (fun h => nomatch h), ?_⟩
  refine (shape_down_in (n - 1) y N I hN hI J Jx hJ hY W h0).mono ?_
  rintro e W' ⟨⟨v, rfl⟩, h⟩
  gi_wp2
  go_end0
  refine ⟨⟨_, rfl⟩, ?_⟩
  rcases h with h | ⟨p, h⟩
  · exact .inl h
  · exact .inr ⟨p, trivial, h⟩

theorem shape_Sides_stops (n : Nat) (B1 B2 : Nat) (N I : Nat) (hN : N ≤ 1000000000) (hI : I < N) (w : World) (hb1 : B1 < w.heap.size) (hb2 : B2 < w.heap.size) (h1 : w.cell? ⟨B1, 0, none⟩ = some (.int .i64 N)) (h2 : w.cell? ⟨B2, 0, none⟩ = some (.int .i64 I)) :
    SeqStopsK Fence.wide n Tryz.prog 207 #[.pointer (some ⟨B1, 0, none⟩), .pointer (some ⟨B2, 0, none⟩)] (fun x : Bool => #[Value.bool x]) (fun _ _ => True) (fun ys => ys = dn N I) (fun _ => True) (dn N I).length w := fun y J Jx W hW hJ _ hY h0 =>
  shape_Sides_1_in n y B1 B2 N I hN hI J Jx (fun s X X' h hg => hJ s X X' none h hg (fun r e => by cases e)) (fun m pre x X hx hl => by
    refine yield_any (m := n - 1) rfl m ?_
    obtain ⟨fn, tmps, assign, body, hy, hR⟩ := hY pre x X hx hl
    exact ⟨fn, tmps, assign, body, hy, hR.mono fun e W' h => h.imp (fun h => ⟨h.1, h.2.1⟩) id⟩) W ((hW.cell (p := ⟨B1, 0, none⟩) hb1).trans h1) ((hW.cell (p := ⟨B2, 0, none⟩) hb2).trans h2) h0

/-- append of a row of one's own onto another one, inside a fence; elements of one cell. -/
theorem wpListIn_append_row {F : Fence} {n : Nat} {P : Program} (w : World) {ops : Array Oper} {rest : List Oper} {o : Oper} {a : Act} {Q : Exit → Act → World → Prop}
    (hg : o.guard = none) (s x : Operand) (t : TypeId) (hop : o.op = Op.call { callee := Callee.builtin Builtin.append, args := #[s, x], argTypes := #[t, t] })
    (base : Nat) (e : TypeId) (i : TypeInfo) (z : Value) (bytes : Nat) (h1 : P.underlying t = some (.slice e)) (h2 : P.info? e = some i) (h3 : i.zero = some z) (h4 : i.size = 1) (h5 : i.bytes = bytes) (h6 : z.cells.size = 1)
    (v : Value) (k : Nat) (xs : List Value) (hs : a.eval s = v) (hown : w.ownsRow base e 1 v k xs) (v0 : Value) (base0 m : Nat) (ys : List Value) (hx : a.eval x = v0) (hown0 : w.ownsRow base0 e 1 v0 m ys)
    (h1c : ∀ u ∈ ys, u.oneCell' = true) (b1 : k + m ≤ maxLen) (b2 : (k + m) * bytes ≤ 140737488355328) (b3 : base ≤ w.heap.size)
    (hK : ∀ v' w', w'.ownsRow base e 1 v' (k + m) (xs ++ ys) → w.grownBy w' v.ownBlock → wpListIn F n P ops Q rest (a.put o.dst v') w') :
    wpListIn F n P ops Q (o :: rest) a w := by
  rcases hown0.2 with ⟨rfl, rfl⟩ | ⟨g, cap, cur, rfl, hb, hgb, hc1, hc2, hc3, hc4⟩
  · have hy : ys = [] := List.length_eq_zero_iff.1 (by have := hown0.1; omega)
    subst hy
    refine wpListIn_plain hg fun K hK' => ?_
    have hrun := run_append_nothing (P := P) (w := w) (t := t) (ty := o.type) (cp := 0) h1 h2 hown
    unfold Oper.wpIn
    refine ⟨?_, ?_⟩
    · simp [Oper.about, hop, resolve, Target.leads, Sem.run_pure]
    · rw [Oper.semAt_plain F _ _ (by rw [hop]; intro c hc'; cases hc')]
      simp [execOp, hop, resolve, invoke, builtin, hs, hx, hrun, Result.andThen]
      exact hK' _ _ (hK v w (by simpa using hown) ⟨rfl, rfl, rfl, Nat.le_refl _, fun _ _ _ => rfl⟩)
  · refine wpListIn_append_own w hg s x t hop base e i z 1 bytes h1 h2 h3 h4 h5 h6 (by decide) v k xs hs hown ⟨g, 0, none⟩ m cap ys hx hown0.1 (fun j u hj => ?_) h1c b1 b2 b3 (fun v' w' r1 r2 _ => hK v' w' r1 r2)
    rw [add0]
    have : w.cell? ⟨g, 0 + j, none⟩ = cur.toList[j]? := by simp [World.cell?, hgb]
    rw [this]
    rw [← hc4, List.getElem?_take] at hj
    split at hj
    · exact hj
    · cases hj

structure Stop (p : Prop) : Prop where
  out : p
def bll (xs : List Bool) : List (List Value) := xs.map fun b => [.bool b]
theorem bll_length (xs : List Bool) : (bll xs).length = xs.length := by simp [bll]
theorem bll_ok (xs : List Bool) : ∀ l ∈ bll xs, l.length = 1 ∧ one l = true := by
  intro l hl
  obtain ⟨b, _, rfl⟩ := List.mem_map.1 hl
  exact ⟨rfl, rfl⟩
theorem bll_flat (xs : List Bool) : (bll xs).flatten = xs.map .bool := by
  induction xs with
  | nil => rfl
  | cons x r ih => simp only [bll, List.map_cons, List.flatten_cons] at *; rw [ih]; rfl
theorem bll_at {xs : List Bool} {o j : Nat} (ho : o = j) (h : j < xs.length) : (bll xs)[o]? = some [.bool (xs.getD j false)] := by subst ho; simp [bll, h]

theorem info_bool : (Tryz.prog.info? T_bool).map (fun i => (i.zero, i.size, i.bytes)) = some (some (.bool false), 1, 1) := i_bool
theorem dn_len (N I : Nat) (hN : N ≤ 1000000000) : (dn N I).length ≤ 30 := by
  rw [dn, List.length_reverse]
  exact Mp.sides_length_le 30 N I (by omega)
theorem cells_lit (w : World) (e : TypeId) (x : Value) (base : Nat) (hb : base ≤ w.heap.size) : (w.alloc (.cells #[x] e)).ownsRow base e 1 (.slice (some ⟨w.heap.size, 0, none⟩) 1 1) 1 [x] :=
  ⟨rfl, .inr ⟨w.heap.size, 1, #[x], rfl, hb, World.alloc_heap_new w _, Nat.le_refl _, by simp [maxLen], rfl, rfl⟩⟩

set_option maxRecDepth 100000 in
set_option maxHeartbeats 8000000 in
theorem shape_SidesO_ (N I : Nat) (hN : N ≤ 1000000000) (hI : I < N) (w : World) :
    Calls PP N_shape_Sides #[.int .i64 N, .int .i64 I] w (RO w T_bool 1 (Mp.sides N I).length (bll (Mp.sides N I)).flatten) := by
  obtain ⟨i0, hi, hz0, hz1, hz2⟩ := info_parts info_bool
  refine (callsIn_wide (n := 5)).1 ?_
  refine callsIn_of_wp_marks Tryz.func192 rfl trivial ?_ rfl
  simp only [Tryz.ntmps192, List.size_toArray, List.length_cons, List.length_nil, Nat.reduceAdd, Nat.reduceSub, Array.replicate_succ, Array.replicate_zero, List.push_toArray, List.append_toArray, List.nil_append, List.cons_append]
  gi_wp2
  obtain ⟨w1, hw1⟩ : ∃ w1, w.alloc (.cells #[.int .i64 N] T_int) = w1 := ⟨_, rfl⟩
  obtain ⟨w2, hw2⟩ : ∃ w2, w1.alloc (.cells #[.int .i64 I] T_int) = w2 := ⟨_, rfl⟩
  obtain ⟨w3, hw3⟩ : ∃ w3, w2.alloc (.cells #[.slice none 0 0] T_sl_bool) = w3 := ⟨_, rfl⟩
  have b1 := Boxed.new w T_int (.int .i64 N)
  have b2 := Boxed.new w1 T_int (.int .i64 I)
  have b3 := Boxed.new w2 T_sl_bool (.slice none 0 0)
  have s1 : w1.heap.size = w.heap.size + 1 := by rw [← hw1]; simp
  have s2 : w2.heap.size = w.heap.size + 2 := by rw [← hw2]; simp [s1]
  have s3 : w3.heap.size = w.heap.size + 3 := by rw [← hw3]; simp [s2]
  have g1 : Below w.heap.size w w1 := by rw [← hw1]; exact (Below.refl _ w).alloc (Nat.le_refl _) _
  have g2 : Below w.heap.size w w2 := by rw [← hw2]; exact g1.alloc (by omega) _
  have g3 : Below w.heap.size w w3 := by rw [← hw3]; exact g2.alloc (by omega) _
  rw [hw1] at b1
  rw [hw2, s1] at b2
  rw [hw3, s2] at b3
  have b13 : Boxed w3 w.heap.size T_int (.int .i64 N) := by rw [← hw3, ← hw2]; exact (b1.alloc _).alloc _
  have b23 : Boxed w3 (w.heap.size + 1) T_int (.int .i64 I) := by rw [← hw3]; exact b2.alloc _
  rw [hw1, hw2, hw3]
  clear hw1 hw2 hw3
  simp only [show decide (N ≤ I) = false from decide_eq_false (by omega), show decide ((I : Int) < 0) = false from decide_eq_false (by omega), Bool.or_self]
  refine wpIn_rangeFunc_ownG rfl (by omega) (gf := 207) (lb := #[.pointer (some ⟨w.heap.size, 0, none⟩), .pointer (some ⟨w.heap.size + 1, 0, none⟩)]) rfl trivial (enters_of Tryz.func207 (by kernel_rfl) rfl)
    (shape_Sides_stops 4 w.heap.size (w.heap.size + 1) N I hN hI w3 (by omega) (by omega) b13.cell b23.cell)
    (fun _ _ => trivial) (fun _ _ _ _ _ _ _ _ => trivial) (Below.refl _ _) (fun _ => rfl)
    (fun pre W => (∃ v, Boxed W (w.heap.size + 2) T_sl_bool v ∧ W.ownsRow w.heap.size T_bool 1 v pre.length (pre.reverse.map .bool) ∧ True) ∧ Below w.heap.size w W)
    (fun _ _ _ => False)
    (OwnFrom.and (Own.from (holdsRow_own w.heap.size (w.heap.size + 2) T_sl_bool T_bool 1 (fun pre : List Bool => pre.length) (fun pre => pre.reverse.map .bool) (fun _ _ => True)) _) (ownFrom_below (Nat.le_refl _) (by omega)))
    (fun _ _ _ _ _ hs _ _ => hs)
    ⟨⟨_, b3, World.ownsRow_nil _ _ _ _, trivial⟩, g3⟩
    (fun x => { tmps := #[.int .i64 N, .int .i64 I, .pointer (some ⟨w.heap.size, 0, none⟩), .pointer (some ⟨w.heap.size + 1, 0, none⟩), .slice none 0 0, .pointer (some ⟨w.heap.size + 1 + 1, 0, none⟩), .bool x, .int .i64 I, .bool false, .bool false, .int .i64 I, .int .i64 N, .bool false, .bool false, undef, .func (.func 207) #[] #[.pointer (some ⟨w.heap.size, 0, none⟩), .pointer (some ⟨w.heap.size + 1, 0, none⟩)], .bool x, undef, undef, undef, undef, undef], defers := [] }) ?assign ?body ?done ?stop
  case assign =>
    intro q x W K hK
    gi_wp2
    exact hK
  case body =>
    rintro q pre x W ⟨⟨v, hv, hrow, _⟩, hB⟩ hlt
    have hc := hv.cell
    have hf0 := hv.frozen
    have hlen := dn_len N I hN
    have hlt2 := hv.lt
    rcases hrow.2 with ⟨rfl, hz⟩ | ⟨g, cp, cur, rfl, _⟩
    · obtain rfl : pre = [] := List.length_eq_zero_iff.1 hz
      have hsz : (W.setCell ⟨w.heap.size + 2, 0, none⟩ (.slice (some ⟨W.heap.size, 0, none⟩) 1 1)).heap.size = W.heap.size := by simp
      have hv2 := (hv.set (.slice (some ⟨W.heap.size, 0, none⟩) 1 1)).alloc (.cells #[.bool x] T_bool)
      have hr2 := cells_lit (W.setCell ⟨w.heap.size + 2, 0, none⟩ (.slice (some ⟨W.heap.size, 0, none⟩) 1 1)) T_bool (.bool x) w.heap.size (by rw [hsz]; have := hB.size; omega)
      rw [hsz] at hr2
      have hb2 : Below w.heap.size W ((W.setCell ⟨w.heap.size + 2, 0, none⟩ (.slice (some ⟨W.heap.size, 0, none⟩) 1 1)).alloc (.cells #[.bool x] T_bool)) :=
        ((Below.refl w.heap.size W).setCell (p := ⟨w.heap.size + 2, 0, none⟩) (by simp) _).alloc (by rw [hsz]; have := hB.size; omega) _
      gi_wp2
      exact ⟨((KeepsOthers.setCell W _ _).trans (KeepsOthers.alloc _ _)).from _, trivial, ⟨_, hv2, hr2, trivial⟩, hB.trans hb2⟩
    · gi_wp2_with (gi_at_builtin; refine Stop.out ?_)
      constructor
      refine wpListIn_append_row (W.alloc (.cells #[.bool x] T_bool)) rfl _ _ T_sl_bool rfl w.heap.size T_bool i0 (.bool false) 1 u_sl_bool hi hz0 hz1 hz2 rfl (.slice (some ⟨W.heap.size, 0, none⟩) 1 1) 1 [.bool x] rfl (cells_lit W T_bool _ _ (by have := hB.size; omega)) (.slice (some ⟨g, 0, none⟩) pre.length cp) w.heap.size pre.length (pre.reverse.map .bool) rfl (hrow.alloc _) (by intro u hu; obtain ⟨b, _, rfl⟩ := List.mem_map.1 hu; rfl) (by simp only [maxLen]; omega) (by omega) (by have := hB.size; have : (W.alloc (.cells #[.bool x] T_bool)).heap.size = W.heap.size + 1 := World.size_alloc _ _; omega) ?_
      intro v' w5 hown' hgrow
      have hv1 := (hv.alloc (.cells #[.bool x] T_bool)).kept hgrow (by simp [Value.ownBlock]; omega)
      obtain ⟨g', cap', rfl⟩ := ownsRow_succ (k := pre.length) (by rw [Nat.add_comm] at hown'; exact hown')
      have hc1 := hv1.cell
      have hf1 := hv1.frozen
      have hv2 := hv1.set (.slice (some ⟨g', 0, none⟩) (pre.length + 1) cap')
      have hr2 := hown'.kept (grownBy_setCell' w5 (w.heap.size + 2) (.slice (some ⟨g', 0, none⟩) (pre.length + 1) cap')) (.inr (hv1.not_row (by decide) hown').symm)
      have hk2 : KeepsOthers W (w5.setCell ⟨w.heap.size + 2, 0, none⟩ (.slice (some ⟨g', 0, none⟩) (pre.length + 1) cap')) := by
        refine ((KeepsOthers.alloc W _).trans (KeepsOthers.of_grownBy hgrow fun j o ej hj => ?_)).trans (KeepsOthers.setCell _ _ _)
        simp only [Value.ownBlock, Option.some.injEq] at ej
        subst ej
        rw [World.alloc_heap_new] at hj
        cases hj; rfl
      have hb2 : Below w.heap.size W (w5.setCell ⟨w.heap.size + 2, 0, none⟩ (.slice (some ⟨g', 0, none⟩) (pre.length + 1) cap')) := by
        refine (((Below.refl w.heap.size W).alloc (by have := hB.size; omega) _).grown hgrow (by have := hB.size; simp; omega) fun j ej => ?_).setCell (p := ⟨w.heap.size + 2, 0, none⟩) (by simp) _
        simp only [Value.ownBlock, Option.some.injEq] at ej
        have := hB.size; omega
      gi_wp2
      exact ⟨hk2.from _, trivial, ⟨_, hv2, by rw [show 1 + pre.length = pre.length + 1 by omega] at hr2; simpa using hr2, trivial⟩, hB.trans hb2⟩
  case done =>
    rintro D ys W hD rfl ⟨⟨v, hv, hrow, _⟩, hB⟩ hK
    have hc := hv.cell
    gi_wp2
    refine ⟨by simp, .inl ⟨_, _, rfl, run_takeDeferred hK, ?_⟩⟩
    refine ⟨_, results_tmp rfl _ _ _, v, rfl, hB.trans (belowK_b (w := w) (Nat.le_refl _) W D _ _ (by omega) hK rfl rfl), ?_⟩
    rw [bll_flat]
    have h2 := ownsRow_putObj hrow (.deferred none) hK rfl
    rw [dn, List.length_reverse, List.reverse_reverse] at h2
    exact h2
  case stop =>
    rintro D c pre W _ _ h _
    exact h.elim

theorem shape_Sides_ (N I : Nat) (hN : N ≤ 1000000000) (hI : I < N) (w : World) :
    Calls PP N_shape_Sides #[.int .i64 N, .int .i64 I] w (RS w 1 (bll (Mp.sides N I))) :=
  (shape_SidesO_ N I hN hI w).mono fun e w' h => RO.rs (bll_length _) (bll_ok _) e w' h

def depthR (n i : Int) : Int := if 0 ≤ i ∧ i < n then ((Mp.sides n.toNat i.toNat).length : Int) else -1
theorem shape_Depth_ (n i : Int) (hn : n ≤ 1000000000) : Pure PP N_shape_Depth #[.int .i64 n, .int .i64 i] (.int .i64 (depthR n i)) := by
  refine enter0 f_shape_Depth rfl n_shape_Depth rfl fun w => ?_
  refine seq (region (det rfl (asg rfl) (nilS ?_)))   -- region 0
  refine seq ?_
  refine seq (region (det rfl (mv rfl) (det rfl (lss rfl rfl) (det rfl (mv rfl) (guardI rfl rfl rfl (fun hb => mv rfl) (guardI rfl rfl rfl (fun hb => mv rfl) (guardI rfl rfl rfl (fun hb => geq (bift hb rfl) (bift hb rfl)) (det rfl (pick rfl (pickO rfl)) (nilS ?_)))))))))   -- region 1
  refine cond rfl (fun h => ?_) (fun h => ?_)   -- on t11
  · have h : (decide (i < 0) || decide (n ≤ i)) = true := h
    refine seq (region (det rfl (asg rfl) (nilS ?_)))   -- region 2
    exact ret (retT rfl rfl (pr' (vi (by
      simp only [Bool.or_eq_true, decide_eq_true_eq] at h
      rw [depthR, if_neg (by omega)]))))
  · have h : (decide (i < 0) || decide (n ≤ i)) = false := h
    simp only [Bool.or_eq_false_iff, decide_eq_false_iff_not] at h
    obtain ⟨N, rfl⟩ : ∃ N : Nat, n = (N : Int) := ⟨n.toNat, by omega⟩
    obtain ⟨I, rfl⟩ : ∃ N : Nat, i = (N : Int) := ⟨i.toNat, by omega⟩
    obtain ⟨S, hS⟩ : ∃ S, Mp.sides N I = S := ⟨_, rfl⟩
    refine forget [(0, .int .i64 (N : Int)), (1, .int .i64 (I : Int))] ⟨rfl, rfl, trivial⟩ fun σ => ?_
    refine skipS ?_
    refine seq (region (det rfl (mv rfl) (det rfl (mv rfl) (callS' (m := S.length) (sz := 1) (ls := bll S) (bll_length _) k_shape_Sides rfl rfl (fun w _ => hS ▸ shape_Sides_ N I (by omega) (by omega) w) fun B q => det rfl (lenS u_sl_bool rfl) (det rfl (asg rfl) (nilS ?_))))))   -- region 3
    exact ret (retT rfl rfl (pr' (vi (by rw [depthR, if_pos (by omega), Int.toNat_natCast, Int.toNat_natCast, hS]))))
end Go.Proofs.YtmcapgjdflohfaaGreat.L

namespace Go.Proofs.YtmcapgjdflohfaaGreat.L
open Go Go.RowKit
set_option linter.unusedVariables false

def lst (n : Nat) (done : List Nat) : Array Bool := done.foldl (fun a i => a.setIfInBounds i true) (Array.replicate n false)
theorem lst_step (n : Nat) (done : List Nat) (i : Nat) : lst n (done ++ [i]) = (lst n done).setIfInBounds i true := by simp [lst, List.foldl_append]
/-- What is asked of a region, once: each operation of the order may be taken first, or (a call) is the only one. -/
def okP (ops : Array Oper) (m : Nat) : List Nat → List (Nat × Bool) → Bool
  | done, [] => Region.seqB .any ops (ops.size - m) m (lst ops.size done)
  | done, (i, k) :: r => (if k then Nat.blt i m && (Region.ready .any ops (lst ops.size done) == [i]) else okTake ops m i (lst ops.size done)) && okP ops m (done ++ [i]) r

section
variable {c : Cx} {n : Nat} {Q : Exit → Env → World → Prop} {σ : Env} {H : List Res} {K : List Fact}
variable {ops : Array Oper} {m i : Nat} {done : List Nat} {r : List (Nat × Bool)}
variable {t : TypeId} {p : String} {af : Array Edge}
def HP (c : Cx) (n : Nat) (ops : Array Oper) (Q : Exit → Env → World → Prop) (m : Nat) (done : List Nat) (r : List (Nat × Bool)) (σ : Env) (H : List Res) (K : List Fact) : Prop :=
  okP ops m done r = true → HD c n ops Q m r.length (lst ops.size done) σ H K

theorem drawP {id : Nat} {l : List Oper} (ord : List (Nat × Bool)) (hm : c.P.follows .mixedOrders = true) (hok : okDraw l.toArray ord.length = true) (hin : okP l.toArray ord.length [] ord = true)
    (h : HP c n l.toArray Q ord.length [] ord σ H K) : Tr c n (.region id l.toArray true) Q σ H K := by
  refine draw hm hok ?_
  have := h hin
  exact this
theorem okP.one {k : Bool} (h : okP ops m done ((i, k) :: r) = true) : (if k then Nat.blt i m && (Region.ready .any ops (lst ops.size done) == [i]) else okTake ops m i (lst ops.size done)) = true ∧ okP ops m (done ++ [i]) r = true := by
  rw [okP, Bool.and_eq_true] at h; exact h
theorem nP [NoP Q] (i : Nat) {d : Nat} {op : Op} {v : Value} (hi : ops[i]? = some ⟨some d, op, t, p, af, none⟩) (hd : Nat.blt d n = true)
    (hv : Det c σ H K ⟨some d, op, t, p, af, none⟩ v) (h : HP c n ops Q m (done ++ [i]) r (upd σ d v) H K) : HP c n ops Q m done ((i, false) :: r) σ H K := by
  intro hok
  obtain ⟨h1, h2⟩ := okP.one hok
  have := h h2
  rw [lst_step] at this
  exact take i hi h1 hd hv this
theorem gP [NoP Q] (i : Nat) {d j s : Nat} {b : Bool} {op : Op} {v : Value} (hi : ops[i]? = some ⟨some d, op, t, p, af, some (j, b)⟩) (hj : (ops[j]?).bind (·.dst) = some s) (hs : σ s = .bool b) (hd : Nat.blt d n = true)
    (hv : Det c σ H K ⟨some d, op, t, p, af, some (j, b)⟩ v) (h : HP c n ops Q m (done ++ [i]) r (upd σ d v) H K) : HP c n ops Q m done ((i, false) :: r) σ H K := by
  intro hok
  obtain ⟨h1, h2⟩ := okP.one hok
  have := h h2
  rw [lst_step] at this
  exact takeG i hi hj hs h1 hd hv this
theorem uP [NoP Q] (i : Nat) {d j s : Nat} {b : Bool} {op : Op} (hi : ops[i]? = some ⟨some d, op, t, p, af, some (j, b)⟩) (hj : (ops[j]?).bind (·.dst) = some s) (hs : σ s = .bool (!b) ∨ σ s = undef) (hd : Nat.blt d n = true)
    (h : HP c n ops Q m (done ++ [i]) r (upd σ d undef) H K) : HP c n ops Q m done ((i, false) :: r) σ H K := by
  intro hok
  obtain ⟨h1, h2⟩ := okP.one hok
  have := h h2
  rw [lst_step] at this
  exact takeU i hi hj hs h1 hd this
theorem cP [NoP Q] (i : Nat) {β : Type} (V : β → Value) (H' : β → List Res) (K' : β → List Fact) {d : Nat} {fid : FuncId} {args : Array Operand} {ats : Array TypeId} {vs : List Value}
    (hi : ops[i]? = some ⟨some d, .call { callee := .value (.func fid), args := args, argTypes := ats }, t, p, af, none⟩) (hf : Fn c.P fid) (ha : args.toList.map (ev σ) = vs) (hd : Nat.blt d n = true)
    (spec : ∀ w, M c H K w → Calls c.P fid vs.toArray w fun e w' => ∃ b, e = .returned (V b) ∧ M c (H' b) (K' b) w')
    (hw : ∀ b w, M c (H' b) (K' b) w → M c H K w)
    (h : ∀ b, HP c n ops Q m (done ++ [i]) r (upd σ d (V b)) (H' b) (K' b)) : HP c n ops Q m done ((i, true) :: r) σ H K := by
  intro hok
  obtain ⟨h1, h2⟩ := okP.one hok
  rw [if_pos rfl, Bool.and_eq_true] at h1
  refine onlyC V H' K' i hi (by simpa using h1.2) h1.1 hf ha hd spec hw fun b => ?_
  have := h b h2
  rw [lst_step] at this
  exact this
theorem cgP [NoP Q] (i : Nat) {β : Type} (V : β → Value) (H' : β → List Res) (K' : β → List Fact) {d j s : Nat} {b : Bool} {fid : FuncId} {args : Array Operand} {ats : Array TypeId} {vs : List Value}
    (hi : ops[i]? = some ⟨some d, .call { callee := .value (.func fid), args := args, argTypes := ats }, t, p, af, some (j, b)⟩) (hj : (ops[j]?).bind (·.dst) = some s) (hs : σ s = .bool b) (hf : Fn c.P fid) (ha : args.toList.map (ev σ) = vs) (hd : Nat.blt d n = true)
    (spec : ∀ w, M c H K w → Calls c.P fid vs.toArray w fun e w' => ∃ b, e = .returned (V b) ∧ M c (H' b) (K' b) w')
    (hw : ∀ b w, M c (H' b) (K' b) w → M c H K w)
    (h : ∀ b, HP c n ops Q m (done ++ [i]) r (upd σ d (V b)) (H' b) (K' b)) : HP c n ops Q m done ((i, true) :: r) σ H K := by
  intro hok
  obtain ⟨h1, h2⟩ := okP.one hok
  rw [if_pos rfl, Bool.and_eq_true] at h1
  refine onlyCG V H' K' i hi hj hs (by simpa using h1.2) h1.1 hf ha hd spec hw fun b => ?_
  have := h b h2
  rw [lst_step] at this
  exact this
theorem mP [NoP Q] (i : Nat) {β : Type} (V : β → Value) (H' : β → List Res) (K' : β → List Fact) {d : Nat} {op : Op} (hi : ops[i]? = some ⟨some d, op, t, p, af, none⟩) (hd : Nat.blt d n = true)
    (he : ∀ w, M c H K w → ∃ b w', (execOp (ev σ) ⟨some d, op, t, p, af, none⟩).run c.P w = .ok (.value (V b)) w' ∧ M c (H' b) (K' b) w')
    (hw : ∀ b w, M c (H' b) (K' b) w → M c H K w)
    (h : ∀ b, HP c n ops Q m (done ++ [i]) r (upd σ d (V b)) (H' b) (K' b)) : HP c n ops Q m done ((i, true) :: r) σ H K := by
  intro hok
  obtain ⟨h1, h2⟩ := okP.one hok
  rw [if_pos rfl, Bool.and_eq_true] at h1
  refine onlyE V H' K' i hi (by simpa using h1.2) h1.1 hd he hw fun b => ?_
  have := h b h2
  rw [lst_step] at this
  exact this
theorem endP {l : List Oper} (hl : ops.toList.drop m = l) (h : TL c n ops l Q σ H K) : HP c n ops Q m done [] σ H K := fun hok => tail hok hl h
/-- Calls of some kinds. -/
theorem pP [NoP Q] (i : Nat) {d : Nat} {fid : FuncId} {args : Array Operand} {ats : Array TypeId} {vs : List Value} {v : Value}
    (hi : ops[i]? = some ⟨some d, .call { callee := .value (.func fid), args := args, argTypes := ats }, t, p, af, none⟩) (hf : Fn c.P fid) (ha : args.toList.map (ev σ) = vs) (hd : Nat.blt d n = true)
    (spec : ∀ w, M c H K w → Calls c.P fid vs.toArray w fun e w' => e = .returned v ∧ Below w.heap.size w w') (h : HP c n ops Q m (done ++ [i]) r (upd σ d v) H K) : HP c n ops Q m done ((i, true) :: r) σ H K :=
  cP i (β := Unit) (fun _ => v) (fun _ => H) (fun _ => K) hi hf ha hd (fun w hm => (spec w hm).mono fun e w' ⟨he, hb⟩ => ⟨(), he, hm.pure (grown_below hb)⟩) (fun _ _ hm => hm) (fun _ => h)
theorem pgP [NoP Q] (i : Nat) {d j s : Nat} {b : Bool} {fid : FuncId} {args : Array Operand} {ats : Array TypeId} {vs : List Value} {v : Value}
    (hi : ops[i]? = some ⟨some d, .call { callee := .value (.func fid), args := args, argTypes := ats }, t, p, af, some (j, b)⟩) (hj : (ops[j]?).bind (·.dst) = some s) (hs : σ s = .bool b) (hf : Fn c.P fid) (ha : args.toList.map (ev σ) = vs) (hd : Nat.blt d n = true)
    (spec : ∀ w, M c H K w → Calls c.P fid vs.toArray w fun e w' => e = .returned v ∧ Below w.heap.size w w') (h : HP c n ops Q m (done ++ [i]) r (upd σ d v) H K) : HP c n ops Q m done ((i, true) :: r) σ H K :=
  cgP i (β := Unit) (fun _ => v) (fun _ => H) (fun _ => K) hi hj hs hf ha hd (fun w hm => (spec w hm).mono fun e w' ⟨he, hb⟩ => ⟨(), he, hm.pure (grown_below hb)⟩) (fun _ _ hm => hm) (fun _ => h)
theorem sP [NoP Q] (i : Nat) {d : Nat} {fid : FuncId} {args : Array Operand} {ats : Array TypeId} {vs : List Value} {sz k : Nat} {ls : List (List Value)} (hk : ls.length = k)
    (hi : ops[i]? = some ⟨some d, .call { callee := .value (.func fid), args := args, argTypes := ats }, t, p, af, none⟩) (hf : Fn c.P fid) (ha : args.toList.map (ev σ) = vs) (hd : Nat.blt d n = true)
    (spec : ∀ w, M c H K w → Calls c.P fid vs.toArray w (RS w sz ls))
    (h : ∀ A cap, HP c n ops Q m (done ++ [i]) r (upd σ d (.slice A k cap)) H (Sl sz A k cap ls :: K)) : HP c n ops Q m done ((i, true) :: r) σ H K := by
  subst hk
  exact cP i (β := Option Addr × Nat) (fun p => .slice p.1 ls.length p.2) (fun _ => H) (fun p => Sl sz p.1 ls.length p.2 ls :: K) hi hf ha hd
    (fun w hm => (spec w hm).mono fun e w' ⟨A, cap, he, hb, hs⟩ => ⟨(A, cap), he, hm.learn Sl.stable (grown_below hb) (fun D _ => hs.mono fun k hk => .inr hk)⟩)
    (fun _ _ hm => hm.more) (fun p => h p.1 p.2)
theorem vP [NoP Q] (i : Nat) {d : Nat} {fid : FuncId} {args : Array Operand} {ats : Array TypeId} {vs : List Value} {k : Nat} {ls : List (List (List UInt8))} (hk : ls.length = k)
    (hi : ops[i]? = some ⟨some d, .call { callee := .value (.func fid), args := args, argTypes := ats }, t, p, af, none⟩) (hf : Fn c.P fid) (ha : args.toList.map (ev σ) = vs) (hd : Nat.blt d n = true)
    (spec : ∀ w, M c H K w → Calls c.P fid vs.toArray w (RV w ls))
    (h : ∀ A cap (L : {L : List Vc // L.map Vc.xs = ls}), HP c n ops Q m (done ++ [i]) r (upd σ d (.slice A k cap)) H (VV A k cap L.1 :: K)) : HP c n ops Q m done ((i, true) :: r) σ H K := by
  subst hk
  exact cP i (β := Option Addr × Nat × {L : List Vc // L.map Vc.xs = ls}) (fun p => .slice p.1 ls.length p.2.1) (fun _ => H) (fun p => VV p.1 ls.length p.2.1 p.2.2.1 :: K) hi hf ha hd
    (fun w hm => (spec w hm).mono fun e w' ⟨A, cap, L, hL, he, hb, hs⟩ => ⟨(A, cap, ⟨L, hL⟩), he, hm.learn VV.stable (grown_below hb) (fun D _ => VV.stable _ _ _ _ (fun k hk => .inr hk) (fun _ _ _ => rfl) hs)⟩)
    (fun _ _ hm => hm.more) (fun p => h p.1 p.2.1 p.2.2)
theorem oP [NoP Q] (i : Nat) {d : Nat} {fid : FuncId} {args : Array Operand} {ats : Array TypeId} {vs : List Value} {sz k : Nat} {e : TypeId} {xs : List Value}
    (hi : ops[i]? = some ⟨some d, .call { callee := .value (.func fid), args := args, argTypes := ats }, t, p, af, none⟩) (hf : Fn c.P fid) (ha : args.toList.map (ev σ) = vs) (hd : Nat.blt d n = true)
    (spec : ∀ w, M c H K w → Calls c.P fid vs.toArray w (RO w e sz k xs))
    (h : ∀ A cap, HP c n ops Q m (done ++ [i]) r (upd σ d (.slice A k cap)) (.row (.slice A k cap) e sz k xs :: H) K) : HP c n ops Q m done ((i, true) :: r) σ H K :=
  cP i (β := Option Addr × Nat) (fun p => .slice p.1 k p.2) (fun p => .row (.slice p.1 k p.2) e sz k xs :: H) (fun _ => K) hi hf ha hd
    (fun w hm => (spec w hm).mono fun _ _ h => ro_add hm h) (fun _ _ hm => drop1 hm) (fun p => h p.1 p.2)
theorem bP [NoP Q] (i : Nat) {d : Nat} {tt e : TypeId} {k : Nat} {parts : Array (Nat × Operand)} {cs : List Value} (hi : ops[i]? = some ⟨some d, .buildSlice tt k parts, t, p, af, none⟩) (hd : Nat.blt d n = true)
    (hrun : ∀ w, (Instr.buildSlice tt k (parts.map fun (i, x) => (i, ev σ x))).run c.P w = .ok (.slice (some ⟨w.heap.size, 0, none⟩) k k) (w.alloc (ob cs e)))
    (h : ∀ b, HP c n ops Q m (done ++ [i]) r (upd σ d (.slice (some ⟨b, 0, none⟩) k k)) (.blk b (ob cs e) :: H) K) : HP c n ops Q m done ((i, true) :: r) σ H K :=
  mP i (β := Nat) (fun b => .slice (some ⟨b, 0, none⟩) k k) (fun b => .blk b (ob cs e) :: H) (fun _ => K) hi hd (run_bsl hrun) (fun _ _ hm => drop1 hm) h
theorem aP [NoP Q] (i : Nat) {d : Nat} {e : TypeId} {z : Value} {cs : List Value} (hi : ops[i]? = some ⟨some d, .alloc e, t, p, af, none⟩) (hz : (c.P.info? e).map (·.zero) = some (some z)) (hcs : z.cells = cs.toArray) (hd : Nat.blt d n = true)
    (h : ∀ b, HP c n ops Q m (done ++ [i]) r (upd σ d (.pointer (some ⟨b, 0, none⟩))) (.blk b (ob cs e) :: H) K) : HP c n ops Q m done ((i, true) :: r) σ H K :=
  mP i (β := Nat) (fun b => .pointer (some ⟨b, 0, none⟩)) (fun b => .blk b (ob cs e) :: H) (fun _ => K) hi hd (run_alloc hz hcs) (fun _ _ hm => drop1 hm) h
end
end Go.Proofs.YtmcapgjdflohfaaGreat.L

namespace Mp

/-- What a walk that is there begins and ends with. -/
theorem walkN_ends (l : List Int) (tt : Int) (k : Nat) : ∀ (fr : Int) (out : List Int), out.getLast? = some fr → tt ≤ fr → walkN l tt k fr out = [] ∨ ∃ r, walkN l tt k fr out = out ++ r ∧ (out ++ r).getLast? = some tt := by
  induction k with
  | zero => intro fr out h1 h2; exact .inl rfl
  | succ k ih =>
    intro fr out h1 h2
    simp only [walkN]
    by_cases e : tt < fr
    · rw [if_pos e]
      by_cases hf : (far (all l fr) tt).2 = true
      · rw [if_pos hf]
        obtain ⟨g1, _⟩ := far_some _ _ hf
        rcases ih (far (all l fr) tt).1 (out ++ [(far (all l fr) tt).1]) (by simp) g1 with h | ⟨r, hr, hl⟩
        · exact .inl h
        · exact .inr ⟨(far (all l fr) tt).1 :: r, by rw [hr]; simp, by simpa using hl⟩
      · rw [if_neg hf]; exact .inl rfl
    · rw [if_neg e]
      have : fr = tt := by omega
      exact .inr ⟨[], by simp, by rw [List.append_nil, h1, this]⟩
theorem walk_ends (l : List Int) (a tt : Int) (h : walk l a tt ≠ []) : ∃ r, walk l a tt = a :: r ∧ (a :: r).getLast? = some tt := by
  unfold walk at h ⊢
  split at h
  · exact absurd rfl h
  · rename_i hc
    rw [if_neg hc]
    rcases walkN_ends l tt ((a - tt).toNat + 1) a [a] rfl (by omega) with h' | ⟨r, hr, hl⟩
    · exact absurd h' h
    · exact ⟨r, hr, hl⟩

def btw (l : List Int) (high at_ low : Int) : List Int :=
  if high ≤ at_ ∨ at_ ≤ low ∨ walk l high at_ = [] ∨ walk l at_ low = [] then [] else
  (((walk l high at_).drop 1 ++ (walk l at_ low).drop 1).dropLast).reverse
/-- The reference's way. -/
theorem btw_eq (l : List Int) (high at_ low : Int) (h1 : at_ < high) (h2 : low < at_) (ha : walk l high at_ ≠ []) (hb : walk l at_ low ≠ []) :
    btw l high at_ low = (walk l at_ low).dropLast.reverse ++ ((walk l high at_).drop 1).dropLast.reverse ∧ 2 ≤ (walk l high at_).length ∧ 2 ≤ (walk l at_ low).length := by
  unfold btw
  rw [if_neg (by rintro (h | h | h | h); omega; omega; exact ha h; exact hb h)]
  obtain ⟨ra, e1, g1⟩ := walk_ends l high at_ ha
  obtain ⟨rb, e2, g2⟩ := walk_ends l at_ low hb
  rw [e1, e2]
  obtain ⟨ra', rfl⟩ : ∃ r, ra = r ++ [at_] := by
    rcases List.eq_nil_or_concat ra with rfl | ⟨r, x, rfl⟩
    · simp only [List.getLast?_singleton, Option.some.injEq] at g1; omega
    · rw [List.concat_eq_append, ← List.cons_append, List.getLast?_concat] at g1
      simp only [Option.some.injEq] at g1
      exact ⟨r, by rw [g1, List.concat_eq_append]⟩
  obtain ⟨rb', rfl⟩ : ∃ r, rb = r ++ [low] := by
    rcases List.eq_nil_or_concat rb with rfl | ⟨r, x, rfl⟩
    · simp only [List.getLast?_singleton, Option.some.injEq] at g2; omega
    · rw [List.concat_eq_append, ← List.cons_append, List.getLast?_concat] at g2
      simp only [Option.some.injEq] at g2
      exact ⟨r, by rw [g2, List.concat_eq_append]⟩
  refine ⟨?_, by simp, by simp⟩
  simp only [List.drop_succ_cons, List.drop_zero]
  rw [← List.append_assoc, List.dropLast_concat, List.dropLast_concat, ← List.cons_append, List.dropLast_concat]
  simp
theorem walkN_len (l : List Int) (tt : Int) (k : Nat) : ∀ (fr : Int) (out : List Int), (walkN l tt k fr out).length ≤ out.length + k := by
  induction k with
  | zero => intro fr out; simp [walkN]
  | succ k ih =>
    intro fr out
    simp only [walkN]
    split
    · split
      · have := ih (far (all l fr) tt).1 (out ++ [(far (all l fr) tt).1])
        simp only [List.length_append, List.length_singleton] at this
        omega
      · simp
    · omega
theorem walk_len (l : List Int) (a tt : Int) : (walk l a tt).length ≤ l.length + 1 := by
  unfold walk
  split
  · simp
  · have := walkN_len l tt ((a - tt).toNat + 1) a [a]
    simp only [List.length_singleton] at this
    omega
end Mp

namespace Go.Proofs.YtmcapgjdflohfaaGreat.L
open Go Go.RowKit
set_option linter.unusedVariables false

theorem il_drop (xs : List Int) (k : Nat) : (il xs).drop k = il (xs.drop k) := by simp [il, List.map_drop]
theorem iv_flat (xs : List Int) : (il xs).flatten = iv xs := il_flat xs
theorem iv_app (a b : List Int) : iv (a ++ b) = iv a ++ iv b := by simp [iv]
theorem iv_drop (xs : List Int) (k : Nat) : (iv xs).drop k = iv (xs.drop k) := by simp [iv, List.map_drop]
theorem iv_take (xs : List Int) (k : Nat) : (iv xs).take k = iv (xs.take k) := by simp [iv, List.map_take]

theorem way_Between_ (l : List Int) (hn : l.length ≤ 1000000) (hi at_ lo : Int) (A : Option Addr) (cap : Nat) (D : Nat → Prop) (w : World) (hD : ∀ k, D k → k < w.heap.size) (hs : Sl 1 A l.length cap (il l) D w) :
    Calls PP N_way_Between #[.slice A l.length cap, .int .i64 hi, .int .i64 at_, .int .i64 lo] w (RS w 1 (il (Mp.btw l hi at_ lo))) := by
  have ha1 := Mp.walk_len l hi at_
  have hb1 := Mp.walk_len l at_ lo
  obtain ⟨a, ha⟩ : ∃ a, Mp.walk l hi at_ = a := ⟨_, rfl⟩
  obtain ⟨b, hb⟩ : ∃ b, Mp.walk l at_ lo = b := ⟨_, rfl⟩
  rw [ha] at ha1
  rw [hb] at hb1
  have key : ¬ ((a.length : Int) = 0) → ¬ ((b.length : Int) = 0) → ¬ (hi ≤ at_) → ¬ (at_ ≤ lo) → 2 ≤ a.length ∧ 2 ≤ b.length ∧ Mp.btw l hi at_ lo = ((a.drop 1 ++ b.drop 1).dropLast).reverse := by
    intro h1 h2 h3 h4
    have hane : a ≠ [] := by rintro rfl; exact h1 rfl
    have hbne : b ≠ [] := by rintro rfl; exact h2 rfl
    obtain ⟨_, la, lb⟩ := Mp.btw_eq l hi at_ lo (by omega) (by omega) (by rw [ha]; exact hane) (by rw [hb]; exact hbne)
    rw [ha] at la
    rw [hb] at lb
    exact ⟨la, lb, by rw [Mp.btw, if_neg (by rw [ha, hb]; rintro (h | h | h | h); omega; omega; exact hane h; exact hbne h), ha, hb]⟩
  have key0 : ((a.length : Int) = 0 ∨ (b.length : Int) = 0 ∨ hi ≤ at_ ∨ at_ ≤ lo) → Mp.btw l hi at_ lo = [] := by
    intro h
    rw [Mp.btw, if_pos]
    rw [ha, hb]
    rcases h with h | h | h | h
    · exact .inr (.inr (.inl (List.length_eq_zero_iff.1 (by omega))))
    · exact .inr (.inr (.inr (List.length_eq_zero_iff.1 (by omega))))
    · exact .inl h
    · exact .inr (.inl h)
  refine enter f_way_Between rfl n_way_Between rfl (M.init1 PP w Sl.stable hD hs) ?_
  refine seq (region (det rfl (asg rfl) (nilS ?_)))   -- region 0
  refine seq (region (det rfl (mv rfl) (det rfl (mv rfl) (det rfl (mv rfl) (callO (e := T_int) (sz := 1) (m := a.length) (xs := (il a).flatten) k_down_Walk rfl rfl (fun w hm => by
    obtain ⟨D, hD, hs⟩ := hm.sl (k := 0) rfl
    have := down_WalkO_ l hn hi at_ A cap D w hD hs (fun x => Nat.le_trans (Mp.all_len _ _) (by decide))
    rw [ha] at this
    exact this) fun B1 q1 => det rfl (mv rfl) (det rfl (mv rfl) (det rfl (mv rfl) (callS' (sz := 1) (ls := il b) (m := b.length) (il_length _) k_down_Walk rfl rfl (fun w hm => by
    obtain ⟨D, hD, hs⟩ := hm.sl (k := 0) rfl
    have := down_Walk_ l hn at_ lo A cap D w hD hs (fun x => Nat.le_trans (Mp.all_len _ _) (by decide))
    rw [hb] at this
    exact this) fun B2 q2 => (det rfl (asg rfl) (det rfl (asg rfl) (nilS ?_)))))))))))   -- region 1
  refine cutV (ι := Unit) (fun _ => ¬ ((a.length : Int) = 0) ∧ ¬ ((b.length : Int) = 0) ∧ ¬ (hi ≤ at_) ∧ ¬ (at_ ≤ lo)) (fun _ => [(9, .slice B1 a.length q1), (10, .slice B2 b.length q2)]) (fun _ => [.row (.slice B1 a.length q1) T_int 1 a.length (il a).flatten]) (fun _ => [Sl 1 B2 b.length q2 (il b), Sl 1 A l.length cap (il l)]) ?_ ?_
  rotate_left
  · rintro _ σ ⟨h1, h2, h3, h4⟩
    have kk := key h1 h2 h3 h4
    have la := kk.1
    have lb := kk.2.1
    have hbt := kk.2.2
    rw [hbt]
    have h0a : 0 < a.length := by omega
    refine asBlkT (A := B1) (m := a.length) (cap := q1) (sz := 1) (e := T_int) (xs := (il a).flatten) 0 rfl h0a fun g cells e1 hc1 hc2 hc3 hc4 => ?_
    subst e1
    rw [Nat.mul_one] at hc1 hc4
    rw [iv_flat] at hc4
    refine also (f := Sl 1 (if q2 = 1 then B2 else B2.map fun a => a.add (1 * 1)) (b.length - 1) (q2 - 1) (il (b.drop 1))) Sl.stable (fun D w hK => by
      have := Sl.cut (m := 1) (cap' := q2 - 1) hK.1 (by omega) (by have := hK.1.2.1; omega) (by omega)
      rw [il_drop] at this
      exact this) ?_
    refine slCapT 1 rfl fun hq2 => ?_
    refine seq (draw (m := 4) mix (by kernel_rfl) (take 0 rfl (by kernel_rfl) rfl (mv rfl) (take 1 rfl (by kernel_rfl) rfl (Det.to (slDrop (l := 1) u_sl_int s_int rfl rfl (by omega) (by omega)) (v' := .slice (some ⟨g, 1, none⟩) (a.length - 1) (q1 - 1)) (by rw [if_neg (by omega)]; rfl)) (take 2 rfl (by kernel_rfl) rfl (mv rfl) (take 3 rfl (by kernel_rfl) rfl (slDrop (l := 1) u_sl_int s_int rfl rfl (by omega) hq2) ((tail (by kernel_rfl) rfl (appM 0 0 u_sl_int i_int rfl rfl rfl rfl rfl (by omega) (by omega) (by omega) (by simp only [maxLen] at hc3 ⊢; omega) (by simp only [maxLen]; omega) (by omega) rfl fun b' off' cap' cells' hq1 hqm hq2 hq3 => det rfl (asg rfl) (nilS ?_)))))))))   -- region 4
    have e1 : (cells.drop 1).take (a.length - 1) = iv (a.drop 1) := by rw [← iv_drop, ← hc4, List.drop_take]
    rw [e1, iv_flat, ← iv_app] at hq3
    obtain ⟨X, hX⟩ : ∃ X, a.drop 1 ++ b.drop 1 = X := ⟨_, rfl⟩
    have hXl : X.length = a.length - 1 + (b.length - 1) := by rw [← hX, List.length_append, List.length_drop, List.length_drop]
    rw [hX] at hq3 hbt ⊢
    rw [← hXl] at hq3 hq1 ⊢
    have hR : (cells'.drop off').take (X.length - 1) = iv X.dropLast := by
      have := congrArg (List.take (X.length - 1)) hq3
      rw [List.take_take, Nat.min_eq_left (by omega), iv_take, ← List.dropLast_eq_take] at this
      exact this
    have hsp := split3 hR
    have hpre : (cells'.take off').length = off' := by rw [List.length_take]; omega
    have hdl : X.dropLast.length = X.length - 1 := List.length_dropLast
    rw [hsp]
    refine seq (region (det rfl (mv rfl) (det rfl (mv rfl) (det rfl (lenS u_sl_int rfl) (det rfl (Det.to (subI rfl rfl (by omega) (by omega)) (vi (show _ = ((X.length - 1 : Nat) : Int) by omega))) (det rfl (slTake u_sl_int s_int rfl rfl (by omega)) (det rfl (asg rfl) (nilS ?_))))))))   -- region 5
    refine seq (region (det rfl (mv rfl) (callW 0 k_slices_Reverse_int_int rfl rfl rfl (slices_Reverse_ b' off' (X.length - 1) cap' T_int (cells'.take off') (cells'.drop (off' + (X.length - 1))) X.dropLast hdl (by omega) hpre) (nilS ?_))))   -- region 6
    refine seq (region (det rfl (mv rfl) (det rfl (asg rfl) (nilS ?_))))   -- region 7
    refine ret (retMid (pre := cells'.take off') (R := X.dropLast.reverse) (m := X.length - 1) (cap := cap') rfl rfl (by rw [hpre]; rfl) (i := 0) rfl (by rw [List.length_reverse, hdl]) (by omega) hqm)
  refine seq (region (det rfl (mv rfl) (det rfl (lenS u_sl_int rfl) (det rfl (eql rfl rfl) (det rfl (mv rfl) (guardI rfl rfl rfl (fun _ => mv rfl) (guardI rfl rfl rfl (fun hb => lenS u_sl_int (bift hb rfl)) (guardI rfl rfl rfl (fun hb => eql (bift hb rfl) rfl) (det rfl (pick rfl (pickO rfl)) (det rfl (mv rfl) (guardI rfl rfl rfl (fun _ => mv rfl) (guardI rfl rfl rfl (fun _ => mv rfl) (guardI rfl rfl rfl (fun hb => leq (bift hb rfl) (bift hb rfl)) (det rfl (pick rfl (pickO rfl)) (det rfl (mv rfl) (guardI rfl rfl rfl (fun _ => mv rfl) (guardI rfl rfl rfl (fun _ => mv rfl) (guardI rfl rfl rfl (fun hb => leq (bift hb rfl) (bift hb rfl)) (det rfl (pick rfl (pickO rfl)) (nilS ?_))))))))))))))))))))   -- region 2
  refine cond rfl (fun h => ?_) (fun h => ?_)   -- on t37
  · refine seq (region (det rfl (asg rfl) (nilS ?_)))   -- region 3
    have e : Mp.btw l hi at_ lo = [] := key0 (by
      rcases Bool.or_eq_true_iff.1 h with h | h
      · rcases Bool.or_eq_true_iff.1 h with h | h
        · rcases Bool.or_eq_true_iff.1 h with h | h
          · exact .inl (of_decide_eq_true h)
          · exact .inr (.inl (of_decide_eq_true h))
        · exact .inr (.inr (.inl (of_decide_eq_true h)))
      · exact .inr (.inr (.inr (of_decide_eq_true h))))
    rw [e]; exact ret (retNil rfl rfl rfl)
  · have g1 := Bool.or_eq_false_iff.1 h
    have g2 := Bool.or_eq_false_iff.1 g1.1
    have g3 := Bool.or_eq_false_iff.1 g2.1
    have h4 : ¬ (at_ ≤ lo) := of_decide_eq_false g1.2
    have h3 : ¬ (hi ≤ at_) := of_decide_eq_false g2.2
    have h2 : ¬ ((b.length : Int) = 0) := of_decide_eq_false g3.2
    have h1 : ¬ ((a.length : Int) = 0) := of_decide_eq_false g3.1
    clear g1 g2 g3 h
    refine skip ?_
    exact meets () ⟨h1, h2, h3, h4⟩ ⟨rfl, rfl, trivial⟩ (fun w hm => hm)

theorem rev_step {α : Type} (xs : List α) (m : Nat) (h : m < xs.length) : (xs.drop m).reverse = (xs.drop (m + 1)).reverse ++ [xs[m]] := by
  rw [List.drop_eq_getElem_cons h, List.reverse_cons]
theorem ref47_Between_ (l : List Int) (hn : l.length ≤ 1000000) (hi at_ lo : Int) (A : Option Addr) (cap : Nat) (D : Nat → Prop) (w : World) (hD : ∀ k, D k → k < w.heap.size) (hs : Sl 1 A l.length cap (il l) D w) :
    Calls PP N_milepostref47_Between #[.slice A l.length cap, .int .i64 hi, .int .i64 at_, .int .i64 lo] w (RS w 1 (il (Mp.btw l hi at_ lo))) := by
  have ha1 := Mp.walk_len l hi at_
  have hb1 := Mp.walk_len l at_ lo
  obtain ⟨a, ha⟩ : ∃ a, Mp.walk l hi at_ = a := ⟨_, rfl⟩
  obtain ⟨b, hb⟩ : ∃ b, Mp.walk l at_ lo = b := ⟨_, rfl⟩
  rw [ha] at ha1
  rw [hb] at hb1
  have key : ¬ ((a.length : Int) = 0) → ¬ ((b.length : Int) = 0) → ¬ (hi ≤ at_) → ¬ (at_ ≤ lo) → 2 ≤ a.length ∧ 2 ≤ b.length ∧ Mp.btw l hi at_ lo = b.dropLast.reverse ++ (a.drop 1).dropLast.reverse := by
    intro h1 h2 h3 h4
    have hane : a ≠ [] := by rintro rfl; exact h1 rfl
    have hbne : b ≠ [] := by rintro rfl; exact h2 rfl
    obtain ⟨e, la, lb⟩ := Mp.btw_eq l hi at_ lo (by omega) (by omega) (by rw [ha]; exact hane) (by rw [hb]; exact hbne)
    rw [ha] at la
    rw [hb] at lb
    exact ⟨la, lb, by rw [e, ha, hb]⟩
  have key0 : (hi ≤ at_ ∨ at_ ≤ lo ∨ (a.length : Int) = 0 ∨ (b.length : Int) = 0) → Mp.btw l hi at_ lo = [] := by
    intro h
    rw [Mp.btw, if_pos]
    rw [ha, hb]
    rcases h with h | h | h | h
    · exact .inl h
    · exact .inr (.inl h)
    · exact .inr (.inr (.inl (List.length_eq_zero_iff.1 (by omega))))
    · exact .inr (.inr (.inr (List.length_eq_zero_iff.1 (by omega))))
  refine enter f_milepostref47_Between rfl n_milepostref47_Between rfl (M.init1 PP w Sl.stable hD hs) ?_
  refine seq (region (det rfl (asg rfl) (nilS ?_)))   -- region 0
  refine seq ?_
  refine seq (region (det rfl (mv rfl) (det rfl (mv rfl) (det rfl (leq rfl rfl) (det rfl (mv rfl) (guardI rfl rfl rfl (fun _ => mv rfl) (guardI rfl rfl rfl (fun _ => mv rfl) (guardI rfl rfl rfl (fun hb => leq (bift hb rfl) (bift hb rfl)) (det rfl (pick rfl (pickO rfl)) (nilS ?_))))))))))   -- region 1
  refine cond rfl (fun h => ?_) (fun h => ?_)   -- on t21
  · refine seq (region (det rfl (asg rfl) (nilS ?_)))   -- region 2
    have e : Mp.btw l hi at_ lo = [] := key0 (by
      rcases Bool.or_eq_true_iff.1 h with h | h
      · exact .inl (of_decide_eq_true h)
      · exact .inr (.inl (of_decide_eq_true h)))
    rw [e]; exact ret (retNil rfl rfl rfl)
  · have g1 := Bool.or_eq_false_iff.1 h
    have h4 : ¬ (at_ ≤ lo) := of_decide_eq_false g1.2
    have h3 : ¬ (hi ≤ at_) := of_decide_eq_false g1.1
    clear g1 h
    refine skipS ?_
    refine seq (region (det rfl (mv rfl) (det rfl (mv rfl) (det rfl (mv rfl) (callS' (sz := 1) (ls := il a) (m := a.length) (il_length _) k_milepostref22_Walk rfl rfl (fun w hm => by
      obtain ⟨D, hD, hs⟩ := hm.sl (k := 0) rfl
      have := ref22_Walk_ l hn hi at_ A cap D w hD hs
      rw [ha] at this
      exact this) fun B1 q1 => (det rfl (asg rfl) (nilS ?_)))))))   -- region 3
    refine seq (region (det rfl (mv rfl) (det rfl (mv rfl) (det rfl (mv rfl) (callS' (sz := 1) (ls := il b) (m := b.length) (il_length _) k_milepostref22_Walk rfl rfl (fun w hm => by
      obtain ⟨D, hD, hs⟩ := hm.sl (k := 1) rfl
      have := ref22_Walk_ l hn at_ lo A cap D w hD hs
      rw [hb] at this
      exact this) fun B2 q2 => (det rfl (asg rfl) (nilS ?_)))))))   -- region 4
    refine cutV (ι := Unit) (fun _ => ¬ ((a.length : Int) = 0) ∧ ¬ ((b.length : Int) = 0)) (fun _ => [(9, .slice B1 a.length q1), (10, .slice B2 b.length q2)]) (fun _ => []) (fun _ => [Sl 1 B2 b.length q2 (il b), Sl 1 B1 a.length q1 (il a)]) ?_ ?_
    · refine seq (region (det rfl (mv rfl) (det rfl (lenS u_sl_int rfl) (det rfl (eql rfl rfl) (det rfl (mv rfl) (guardI rfl rfl rfl (fun _ => mv rfl) (guardI rfl rfl rfl (fun hb => lenS u_sl_int (bift hb rfl)) (guardI rfl rfl rfl (fun hb => eql (bift hb rfl) rfl) (det rfl (pick rfl (pickO rfl)) (nilS ?_))))))))))   -- region 5
      refine cond rfl (fun h => ?_) (fun h => ?_)   -- on t37
      · refine seq (region (det rfl (asg rfl) (nilS ?_)))   -- region 6
        have e : Mp.btw l hi at_ lo = [] := key0 (by
          rcases Bool.or_eq_true_iff.1 h with h | h
          · exact .inr (.inr (.inl (of_decide_eq_true h)))
          · exact .inr (.inr (.inr (of_decide_eq_true h))))
        rw [e]; exact ret (retNil rfl rfl rfl)
      · have g1 := Bool.or_eq_false_iff.1 h
        refine skip ?_
        exact meets () ⟨of_decide_eq_false g1.1, of_decide_eq_false g1.2⟩ ⟨rfl, rfl, trivial⟩ (fun w hm => hm.refact ⟨Sl.stable, Sl.stable, trivial⟩ fun D h => ⟨h.1, h.2.1, trivial⟩)
    · rintro _ σ ⟨h1, h2⟩
      have kk := key h1 h2 h3 h4
      have la := kk.1
      have lb := kk.2.1
      rw [kk.2.2]
      refine seq (region (det rfl (asg rfl) (nilS ?_)))   -- region 7
      refine seq ?_
      refine seq (region (det rfl (mv rfl) (det rfl (lenS u_sl_int rfl) (det rfl (subI rfl rfl (by omega) (by omega)) (det rfl (asg rfl) (nilS ?_))))))   -- region 8
      refine block ?_   -- block 0
      have hbl : b.dropLast.length = b.length - 1 := List.length_dropLast
      have hal : (a.drop 1).dropLast.length = a.length - 2 := by rw [List.length_dropLast, List.length_drop]; omega
      refine loopV (ι := Nat × Option Addr × Nat) (fun (m, _, _) => m ≤ b.length - 1) (fun (m, B, q) => [(9, .slice B1 a.length q1), (10, .slice B2 b.length q2), (11, .slice B (b.dropLast.drop m).reverse.length q), (12, .int .i64 ((m : Int) - 1))]) (fun (m, B, q) => [.row (.slice B (b.dropLast.drop m).reverse.length q) T_int 1 (b.dropLast.drop m).reverse.length (il (b.dropLast.drop m).reverse).flatten]) (fun _ => [Sl 1 B2 b.length q2 (il b), Sl 1 B1 a.length q1 (il a)]) (fun (m, _, _) => m) (b.length - 1, none, 0) (by (first | omega | (dsimp only; omega))) ⟨rfl, rfl, ?_, vi (by omega), trivial⟩ (fun w hm => ?_) ?_
      · rw [List.drop_of_length_le (by omega)]; rfl
      · dsimp only
        rw [List.drop_of_length_le (by omega)]; exact hm.nilRow _ _
      rintro ⟨m, B, q⟩ σ hm
      dsimp only at hm ⊢
      have hlen : (b.dropLast.drop m).reverse.length = b.length - 1 - m := by rw [List.length_reverse, List.length_drop, hbl]
      refine seq ?_
      refine seq (region (det rfl (mv rfl) (det rfl (geq rfl rfl) (nilS ?_))))   -- region 9
      refine cond rfl (fun h => ?_) (fun h => ?_)   -- on t42
      · have h := of_decide_eq_true h
        obtain ⟨r, rfl⟩ : ∃ r, m = r + 1 := ⟨m - 1, by omega⟩
        have hst := rev_step b.dropLast r (by omega)
        have hx : b.getD r 0 = b.dropLast[r]'(by omega) := by
          rw [List.getElem_dropLast]; simp [show r < b.length by omega]
        rw [← hx] at hst
        refine skipS ?_
        refine seq ?_
        refine block ?_   -- block 1
        refine region (det rfl (mv rfl) (det rfl (mv rfl) (det rfl (Det.to (mv rfl) (vi (show _ = (r : Int) by omega))) (det rfl (ixS 0 rfl rfl u_sl_int s_int rfl (by omega) (by omega)) (det rfl (ldSO 0 (i := r) rfl rfl o_int (il_at rfl (by omega))) (bsl rfl (bs1 u_sl_int z_int s_int (cs := [.int .i64 (b.getD r 0)]) rfl rfl rfl (by decide) (by decide)) fun b0 => appB 1 0 u_sl_int i_int rfl (by decide) rfl rfl rfl rfl rfl rfl (by simp only [maxLen]; omega) (by omega) rfl fun A cap => det rfl (asg rfl) (nil ?_)))))))   -- region 11
        show Tr _ _ _ _ _ _ _
        refine region (det rfl (mv rfl) (det rfl (subI rfl rfl (by omega) (by omega)) (det rfl (asg rfl) (nil ?_))))   -- region 10
        refine again (r, _, _) (by (first | omega | (dsimp only; omega))) ⟨rfl, rfl, (by dsimp only; rw [hst, List.length_append]; rfl), vi (by omega), trivial⟩ (fun w hm => ?_) (by (first | omega | (dsimp only; omega)))
        dsimp only; rw [hst, List.length_append, il_app]; exact drop1 hm
      · have h := of_decide_eq_false h
        have e0 : m = 0 := by omega
        subst e0
        refine exit ?_   -- 0
        show Tr _ _ _ _ _ _ _
        rw [List.drop_zero] at hlen ⊢
        obtain ⟨X, hX⟩ : ∃ X, b.dropLast.reverse = X := ⟨_, rfl⟩
        have hXl : X.length = b.length - 1 := by rw [← hX]; exact hlen
        rw [hX]
        obtain ⟨Y, hY⟩ : ∃ Y, (a.drop 1).dropLast = Y := ⟨_, rfl⟩
        rw [hY] at hal ⊢
        have hYx : ∀ r (hr : r < Y.length), a.getD (r + 1) 0 = Y[r] := by
          intro r hr
          subst hY
          rw [List.getElem_dropLast, List.getElem_drop]; simp [show r + 1 < a.length by omega, Nat.add_comm]
        refine seq ?_
        refine seq (region (det rfl (mv rfl) (det rfl (lenS u_sl_int rfl) (det rfl (subI rfl rfl (by omega) (by omega)) (det rfl (asg rfl) (nilS ?_))))))   -- region 12
        refine block ?_   -- block 2
        refine loopV (ι := Nat × Option Addr × Nat) (fun (m, _, _) => m ≤ Y.length) (fun (m, B, q) => [(9, .slice B1 a.length q1), (11, .slice B (X ++ (Y.drop m).reverse).length q), (13, .int .i64 m)]) (fun (m, B, q) => [.row (.slice B (X ++ (Y.drop m).reverse).length q) T_int 1 (X ++ (Y.drop m).reverse).length (il (X ++ (Y.drop m).reverse)).flatten]) (fun _ => [Sl 1 B1 a.length q1 (il a)]) (fun (m, _, _) => m) (Y.length, B, q) (by (first | omega | (dsimp only; omega))) ⟨rfl, ?_, vi (by omega), trivial⟩ (fun w hm => ?_) ?_
        · rw [List.drop_length, List.reverse_nil, List.append_nil]; rfl
        · dsimp only
          rw [List.drop_length, List.reverse_nil, List.append_nil]
          exact hm.refact ⟨Sl.stable, trivial⟩ fun D h => ⟨h.2.1, trivial⟩
        rintro ⟨m, B, q⟩ σ hm
        dsimp only at hm ⊢
        have hlen2 : (X ++ (Y.drop m).reverse).length = X.length + (Y.length - m) := by rw [List.length_append, List.length_reverse, List.length_drop]
        refine seq ?_
        refine seq (region (det rfl (mv rfl) (det rfl (gtr rfl rfl) (nilS ?_))))   -- region 13
        refine cond rfl (fun h => ?_) (fun h => ?_)   -- on t56
        · have h := of_decide_eq_true h
          obtain ⟨r, rfl⟩ : ∃ r, m = r + 1 := ⟨m - 1, by omega⟩
          have hst := rev_step Y r (by omega)
          rw [← hYx r (by omega)] at hst
          have hl9 : (X ++ (Y.drop (r + 1)).reverse ++ [a.getD (r + 1) 0]).length = (X ++ (Y.drop (r + 1)).reverse).length + 1 := by rw [List.length_append]; rfl
          refine skipS ?_
          refine seq ?_
          refine block ?_   -- block 3
          refine region (det rfl (mv rfl) (det rfl (mv rfl) (det rfl (mv rfl) (det rfl (ixS 0 rfl rfl u_sl_int s_int rfl (by omega) (by omega)) (det rfl (ldSO 0 (i := r + 1) rfl rfl o_int (il_at rfl (by omega))) (bsl rfl (bs1 u_sl_int z_int s_int (cs := [.int .i64 (a.getD (r + 1) 0)]) rfl rfl rfl (by decide) (by decide)) fun b1 => appB 1 0 u_sl_int i_int rfl (by decide) rfl rfl rfl rfl rfl rfl (by simp only [maxLen]; omega) (by omega) rfl fun A cap => det rfl (asg rfl) (nil ?_)))))))   -- region 15
          show Tr _ _ _ _ _ _ _
          refine region (det rfl (mv rfl) (det rfl (subI rfl rfl (by omega) (by omega)) (det rfl (asg rfl) (nil ?_))))   -- region 14
          refine again (r, _, _) (by (first | omega | (dsimp only; omega))) ⟨rfl, (by dsimp only; rw [hst, ← List.append_assoc, hl9]; rfl), vi (by omega), trivial⟩ (fun w hm => ?_) (by (first | omega | (dsimp only; omega)))
          dsimp only; rw [hst, ← List.append_assoc, hl9, il_app]; exact drop1 hm
        · have h := of_decide_eq_false h
          have e0 : m = 0 := by omega
          subst e0
          refine exit ?_   -- 2
          show Tr _ _ _ _ _ _ _
          rw [List.drop_zero]
          refine seq (region (det rfl (mv rfl) (det rfl (asg rfl) (nilS ?_))))   -- region 16
          exact ret (retRow (i := 0) rfl rfl rfl rfl (il_length _) (il_ok _))
end Go.Proofs.YtmcapgjdflohfaaGreat.L

namespace Go.Proofs.YtmcapgjdflohfaaGreat.L
open Go Go.RowKit
set_option linter.unusedVariables false

/-- The results are a block and a slot. -/
theorem retCT {c : Cx} {n : Nat} {σ : Env} {H : List Res} {K : List Fact} {fn : Func} {R : Ending → World → Prop} {s ty u b : Nat} {e : TypeId} {l : List Value} {v : Value} (i : Nat) (hr : fn.results = #[.cell s ty, .tmp u]) (hv : σ s = .pointer (some ⟨b, 0, none⟩)) (hi : H[i]? = some (.blk b (ob l e))) (hu : isAg c.P ty l.length) (hv' : σ u = v)
    (h : ∀ w, M c H K w → R (.returned (.tuple #[ag l, v])) w) : ∀ w, M c H K w → post c.P fn n R .ret σ w := fun w hm =>
  ⟨.tuple #[ag l, v], fun a ha => by
    have hb := hm.blk i hi
    have hl := run_loadAg (P := c.P) (w := w) (t := ty) (b := b) (off := 0) (l := l) hu (fun j u hj => by rw [Nat.zero_add, cell_ob hb]; exact hj)
    rw [results_cell_tmp hr, ha.val, ha.val, hv, hv']
    simp only [asAddr, Sem.run_pure, Result.andThen_ok]
    rw [hl]; rfl, h w hm⟩

theorem prove_May_err (c : Cf) (hc : c.ok) (l : List Bl) (hlb : ∀ b ∈ l, Bok b) (hn : l.length ≤ 100000) (he : (chkF c l).1 ≠ 0) (A : Option Addr) (cap : Nat) (D : Nat → Prop) (w : World) (hD : ∀ k, D k → k < w.heap.size) (hs : Sl 67 A l.length cap (bl l) D w) (ht : Txs l D w) :
    Calls PP N_prove_May #[ag c.c, .slice A l.length cap] w (PR w (.int .i64 (chkF c l).1)) := by
  refine enter f_prove_May rfl n_prove_May rfl (M.init PP w D [] [Sl 67 A l.length cap (bl l), Txs l] ⟨Sl.stable, Txs.stable, trivial⟩ hD ⟨hs, ht, trivial⟩) ?_
  refine seq (region (box rfl rfl rfl fun b0 => det rfl (asg rfl) (nilS ?_)))   -- region 0
  refine seq ?_
  refine seq (region (det rfl (ldAll 0 rfl rfl g_api_Config (Cf.c_length hc)) (det rfl (mv rfl) (call k_chain_Check rfl rfl (fun w hm => by
    obtain ⟨D, d1, d2, hD, d4, d5⟩ := hm.data
    exact chain_Check_ c hc l hlb hn A cap D w hD d5.1 d5.2.1) (alloc z_api_Fault rfl rfl fun b1 => stoA 0 rfl rfl rfl s_api_Fault rfl rfl rfl (nilS ?_))))))   -- region 1
  refine seq (region (det rfl (fadr rfl u_api_Fault rfl s_api_Errno) (det rfl (ldB 0 (v := .int .i64 (chkF c l).1) rfl rfl o_api_Errno rfl) (det rfl (Det.to (neq rfl rfl) (v' := .bool true) (vb (by simp [he]))) (nilS ?_)))))   -- region 2
  refine condT rfl ?_
  refine seq (region (det rfl (fadr rfl u_api_Fault rfl s_api_Errno) (det rfl (ldB 0 (v := .int .i64 (chkF c l).1) rfl rfl o_api_Errno rfl) (det rfl (asg rfl) (nilS ?_)))))   -- region 3
  exact ret (retT rfl rfl pr)

/-- The zero value of an Infix. -/
def inf0 : List Value := [.int .i64 0, .slice none 0 0, .int .i64 0, .int .i64 0, .slice none 0 0, .int .i64 0, .string ⟨#[]⟩, .int .i64 0, .int .i64 0, .slice none 0 0]
theorem inf0_ag {T : TypeId} (h : isAg PP T 10) : isAg PP T inf0.length := h
/-- An Infix of some kind and an errno. -/
def InfR (w0 : World) (x : Int) : Ending → World → Prop := fun e w' => (∃ z : List Value, (z.length = 10 ∧ one z = true) ∧ e = .returned (.tuple #[ag z, .int .i64 x])) ∧ Below w0.heap.size w0 w'
theorem way_Infix_err (c : Cf) (hc : c.ok) (l : List Bl) (hlb : ∀ b ∈ l, Bok b) (hn : l.length ≤ 100000) (he : (chkF c l).1 ≠ 0) (a x : Int) (A : Option Addr) (cap : Nat) (D : Nat → Prop) (w : World) (hD : ∀ k, D k → k < w.heap.size) (hs : Sl 67 A l.length cap (bl l) D w) (ht : Txs l D w) :
    Calls PP N_way_Infix #[ag c.c, .slice A l.length cap, .int .i64 a, .int .i64 x] w (InfR w (chkF c l).1) := by
  refine enter f_way_Infix rfl n_way_Infix rfl (M.init PP w D [] [Sl 67 A l.length cap (bl l), Txs l] ⟨Sl.stable, Txs.stable, trivial⟩ hD ⟨hs, ht, trivial⟩) ?_
  refine seq (region (box rfl rfl rfl fun b0 => alloc z_api_Infix rfl rfl fun b1 => det rfl (asg rfl) (nilS ?_)))   -- region 0
  refine seq ?_
  refine seq (region (det rfl (ldAll 1 rfl rfl g_api_Config (Cf.c_length hc)) (det rfl (mv rfl) (call k_prove_May rfl rfl (fun w hm => by
    obtain ⟨D, d1, d2, hD, d4, d5⟩ := hm.data
    exact prove_May_err c hc l hlb hn he A cap D w hD d5.1 d5.2.1) (det rfl (asg rfl) (nilS ?_))))))   -- region 1
  refine seq (region (det rfl (mv rfl) (det rfl (Det.to (neq rfl rfl) (v' := .bool true) (vb (by simp [he]))) (nilS ?_))))   -- region 2
  refine condT rfl ?_
  refine seq (region (det rfl (Det.to (bldZ z_api_Infix u_api_Infix (fun w => run_placesS PP w (by kernel_rfl))) (v' := ag inf0) rfl) (det rfl (mv rfl) (stoA 0 rfl rfl rfl s_api_Infix rfl rfl rfl (det rfl (asg rfl) (nilS ?_))))))   -- region 3
  exact ret (retCT 0 (l := inf0) rfl rfl rfl (inf0_ag g_api_Infix) rfl fun w hm => ⟨⟨inf0, ⟨rfl, rfl⟩, rfl⟩, hm.below rfl⟩)

def z8 : List UInt8 := List.replicate 32 0
def Cf0 : Cf := ⟨⟨0, z8, z8, 0⟩, z8, 0, 0, 0, 0, 0, 0⟩
theorem Cf0_ok : Cf0.ok := ⟨⟨rfl, rfl⟩, rfl⟩

set_option maxRecDepth 20000 in
theorem awake49_ : Pure PP N_milepostlaw49_awake #[] (.bool true) := by
  refine enter0 f_milepostlaw49_awake rfl n_milepostlaw49_awake rfl fun w => ?_
  refine seq (region (det rfl (asg rfl) (nilS ?_)))   -- region 0
  refine seq (region (det rfl (Det.to (bldZ z_api_Config u_api_Config (fun w => run_placesS PP w (by kernel_rfl))) (v' := ag Cf0.c) (by kernel_rfl)) (callX (β := {z : List Value // z.length = 10 ∧ one z = true}) (fun z => .tuple #[ag z.1, .int .i64 6]) (fun _ => _) (fun _ => _) k_way_Infix rfl rfl (fun w hm => by
    refine (way_Infix_err Cf0 Cf0_ok [] (fun b h => nomatch h) (by decide) (by decide) 0 0 none 0 (fun _ => False) w (fun _ h => h.elim) Sl.nil (fun b h => nomatch h)).mono ?_
    rintro e w' ⟨⟨z, hz, he⟩, hb⟩
    exact ⟨⟨z, hz⟩, he, hm.pure (grown_below hb)⟩) fun z => (det rfl (mv rfl) (det rfl (extr rfl rfl) (det rfl (extr rfl rfl) (alloc z_api_Infix rfl rfl fun b0 => stoA 0 rfl rfl rfl s_api_Infix z.2.1 z.2.2 rfl (det rfl (asg rfl) (nilS ?_)))))))))   -- region 1
  refine seq (region (bsl rfl (bsm u_sl_int z_int s_int (xs := [256, 0, 0, 0, 3].map fun x => .int .i64 x) rfl rfl rfl (by decide) (by decide)) fun b1 => callS' (m := 2) (sz := 1) (ls := il [2, 3]) rfl k_way_Between rfl rfl (fun w hm => by
    have := way_Between_ [256, 0, 0, 0, 3] (by decide) 4 2 0 (some ⟨b1, 0, none⟩) 5 (fun k => k = b1) w (fun k hk => by rw [hk]; exact lt_heap (hm.blk 0 rfl)) (lit_sl (hm.blk 0 rfl) rfl (by simp [maxLen]))
    rw [show Mp.btw [256, 0, 0, 0, 3] 4 2 0 = [2, 3] by decide] at this
    exact this) fun B q => (bsl rfl (bsm u_sl_int z_int s_int (xs := [2, 3].map fun x => .int .i64 x) rfl rfl rfl (by decide) (by decide)) fun b2 => call (v := .bool true) k_milepostref22_Same rfl rfl (fun w hm => by
    obtain ⟨D, hD, hs⟩ := hm.sl (k := 0) rfl
    have := same22_ [2, 3] [2, 3] (by decide) B (some ⟨b2, 0, none⟩) q 2 (fun k => D k ∨ k = b2) w (fun k hk => by rcases hk with hk | hk; exact hD k hk; rw [hk]; exact lt_heap (hm.blk 0 rfl)) (hs.mono fun k hk => .inl hk) ((lit_sl (hm.blk 0 rfl) rfl (by simp [maxLen])).mono fun k hk => .inr hk)
    rw [decide_eq_true (show ([2, 3] : List Int) = [2, 3] from rfl)] at this
    exact this) (det rfl (mv rfl) (guardT rfl rfl (det rfl (mv rfl) (guardT rfl rfl (det rfl (eql rfl rfl) (det rfl (pick rfl rfl) (det rfl (asg rfl) (nilS ?_)))))))))))   -- region 2
  exact ret (retT rfl rfl pr)

theorem wayBetween_ (l : List Int) (x y z : Int) (A : Option Addr) (cap : Nat) (D : Nat → Prop) (w : World) (hD : ∀ k, D k → k < w.heap.size) (hs : Sl 1 A l.length cap (il l) D w) :
    Calls PP N_milepostlaw49_WayBetween #[.slice A l.length cap, ag (iv [x, y, z])] w (PR w (.bool true)) := by
  refine enter f_milepostlaw49_WayBetween rfl n_milepostlaw49_WayBetween rfl (M.init1 PP w Sl.stable hD hs) ?_
  refine seq (region (box rfl rfl rfl fun b0 => det rfl (asg rfl) (nilS ?_)))   -- region 0
  refine seq ?_
  refine seq (region (det rfl (mv rfl) (det rfl (lenS u_sl_int rfl) (det rfl (gtr rfl rfl) (nilS ?_)))))   -- region 1
  refine cond rfl (fun h => ?_) (fun h => ?_)   -- on t7
  · refine seq (region (call k_milepostlaw49_awake rfl rfl (fun w _ => awake49_ w) (det rfl (asg rfl) (nilS ?_))))   -- region 2
    exact ret (retT rfl rfl pr)
  · have h : ¬ (60 < (l.length : Int)) := of_decide_eq_false h
    have hn : l.length ≤ 1000000 := by omega
    refine skipS ?_
    obtain ⟨R, hR⟩ : ∃ R, Mp.btw l x y z = R := ⟨_, rfl⟩
    have hRl : R.length ≤ 1000000 := by
      rw [← hR, Mp.btw]
      split
      · simp
      · have := Mp.walk_len l x y
        have := Mp.walk_len l y z
        simp only [List.length_reverse, List.length_dropLast, List.length_append, List.length_drop]
        omega
    refine seq (draw (m := 21) mix (by kernel_rfl) ?_)   -- region 3
    refine take 0 rfl (by kernel_rfl) rfl (mv rfl) ?_
    refine take 1 rfl (by kernel_rfl) rfl (iadr rfl rfl u_a3_int s_int (by omega) (by omega)) ?_
    refine take 2 rfl (by kernel_rfl) rfl (ldB 0 (v := .int .i64 x) rfl rfl o_int rfl) ?_
    refine take 3 rfl (by kernel_rfl) rfl (iadr rfl rfl u_a3_int s_int (by omega) (by omega)) ?_
    refine take 4 rfl (by kernel_rfl) rfl (ldB 0 (v := .int .i64 y) rfl rfl o_int rfl) ?_
    refine take 5 rfl (by kernel_rfl) rfl (iadr rfl rfl u_a3_int s_int (by omega) (by omega)) ?_
    refine take 6 rfl (by kernel_rfl) rfl (ldB 0 (v := .int .i64 z) rfl rfl o_int rfl) ?_
    refine take 8 rfl (by kernel_rfl) rfl (mv rfl) ?_
    refine take 9 rfl (by kernel_rfl) rfl (iadr rfl rfl u_a3_int s_int (by omega) (by omega)) ?_
    refine take 10 rfl (by kernel_rfl) rfl (ldB 0 (v := .int .i64 x) rfl rfl o_int rfl) ?_
    refine take 11 rfl (by kernel_rfl) rfl (iadr rfl rfl u_a3_int s_int (by omega) (by omega)) ?_
    refine take 12 rfl (by kernel_rfl) rfl (ldB 0 (v := .int .i64 y) rfl rfl o_int rfl) ?_
    refine take 13 rfl (by kernel_rfl) rfl (iadr rfl rfl u_a3_int s_int (by omega) (by omega)) ?_
    refine take 14 rfl (by kernel_rfl) rfl (ldB 0 (v := .int .i64 z) rfl rfl o_int rfl) ?_
    refine onlyS 7 (sz := 1) (k := R.length) (ls := il R) (il_length R) rfl (by kernel_rfl) rfl k_way_Between (show _ = [Value.slice A l.length cap, .int .i64 x, .int .i64 y, .int .i64 z] from rfl) rfl (fun w hm => ?_) fun B1 q1 => ?_
    · obtain ⟨D, hD, hs⟩ := hm.sl (k := 0) rfl
      have := way_Between_ l hn x y z A cap D w hD hs
      rw [hR] at this
      exact this
    refine onlyS 15 (sz := 1) (k := R.length) (ls := il R) (il_length R) rfl (by kernel_rfl) rfl k_milepostref47_Between (show _ = [Value.slice A l.length cap, .int .i64 x, .int .i64 y, .int .i64 z] from rfl) rfl (fun w hm => ?_) fun B2 q2 => ?_
    · obtain ⟨D, hD, hs⟩ := hm.sl (k := 1) rfl
      have := ref47_Between_ l hn x y z A cap D w hD hs
      rw [hR] at this
      exact this
    refine only 16 (v := .bool true) rfl (by kernel_rfl) rfl k_milepostref22_Same (show _ = [Value.slice B1 R.length q1, .slice B2 R.length q2] from rfl) rfl (fun w hm => ?_) ?_
    · obtain ⟨D, d1, d2, hD, d4, d5⟩ := hm.data
      have := same22_ R R hRl B1 B2 q1 q2 D w hD d5.2.1 d5.1
      rw [decide_eq_true (show R = R from rfl)] at this
      exact this
    refine take 17 rfl (by kernel_rfl) rfl (mv rfl) ?_
    refine onlyCG (β := Unit) (fun _ => .bool true) (fun _ => _) (fun _ => _) 18 rfl rfl rfl (by kernel_rfl) rfl k_milepostlaw49_awake (show _ = [] from rfl) rfl (fun w hm => (awake49_ w).mono fun e w' ⟨he, hb⟩ => ⟨(), he, hm.pure (grown_below hb)⟩) (fun _ _ hm => hm) fun _ => ?_
    refine take 19 rfl (by kernel_rfl) rfl (pick (b := true) rfl rfl) ?_
    refine take 20 rfl (by kernel_rfl) rfl (asg rfl) ?_
    refine tail (by kernel_rfl) rfl (nilS ?_)
    exact ret (retT rfl rfl pr)
end Go.Proofs.YtmcapgjdflohfaaGreat.L

namespace Go.Proofs.YtmcapgjdflohfaaGreat.L
open Go Go.RowKit
set_option linter.unusedVariables false

def pathS (xs : List (List UInt8)) (i : Nat) : List (List UInt8) := Mp.path (List.replicate 32 0) nodeS xs i
theorem pathS_len {xs : List (List UInt8)} {i : Nat} (hi : i < xs.length) : (pathS xs i).length = (Mp.sides xs.length i).length := Mp.path_length _ _ xs i hi
theorem pathS_small {xs : List (List UInt8)} {i : Nat} (hn : xs.length ≤ 1000000) (hi : i < xs.length) : (pathS xs i).length ≤ 30 := by
  rw [pathS_len hi]
  exact Mp.sides_length_le 30 _ _ (by omega)
theorem pathS_ok (xs : List (List UInt8)) (hx : ∀ x ∈ xs, x.length = 32) (i : Nat) : ∀ y ∈ pathS xs i, y.length = 32 := by
  induction hn : xs.length using Nat.strongRecOn generalizing xs i with
  | _ n ih =>
    subst hn
    intro y hy
    by_cases h : xs.length < 2
    · rw [pathS, Mp.path_small _ _ _ _ h] at hy; cases hy
    · have h1 := Mp.left_lt (n := xs.length) (by omega)
      have h2 := Mp.left_pos (n := xs.length) (by omega)
      have hx1 : ∀ x ∈ xs.take (Mp.left xs.length), x.length = 32 := fun x h => hx x (List.mem_of_mem_take h)
      have hx2 : ∀ x ∈ xs.drop (Mp.left xs.length), x.length = 32 := fun x h => hx x (List.mem_of_mem_drop h)
      rw [pathS, Mp.path_step _ _ _ _ h] at hy
      split at hy
      · rcases List.mem_append.1 hy with hy | hy
        · exact ih _ (by rw [List.length_take]; omega) _ hx1 i rfl y hy
        · rw [List.mem_singleton.1 hy]; exact topS_length _ hx2
      · rcases List.mem_append.1 hy with hy | hy
        · exact ih _ (by rw [List.length_drop]; omega) _ hx2 _ rfl y hy
        · rw [List.mem_singleton.1 hy]; exact topS_length _ hx1

theorem open_path_ (N : Nat) : ∀ (xs : List (List UInt8)), xs.length ≤ N → xs.length ≤ 1000000 → (∀ x ∈ xs, x.length = 32) → ∀ (j : Nat), j < xs.length → ∀ (A : Option Addr) (cap : Nat) (D : Nat → Prop) (w : World), (∀ k, D k → k < w.heap.size) → Sl 32 A xs.length cap (hl xs) D w →
    Calls PP N_open_path #[.slice A xs.length cap, .int .i64 j] w (RO w T_api_Hash 32 (pathS xs j).length (hl (pathS xs j)).flatten) := by
  induction N using Nat.strongRecOn with
  | _ N ih =>
  intro xs hN hn hx j hj A cap D w hD hs
  have hcap := hs.2.1
  refine enter f_open_path rfl n_open_path rfl (M.init1 PP w Sl.stable hD hs) ?_
  refine seq (region (det rfl (asg rfl) (nilS ?_)))   -- region 0
  refine seq ?_
  refine seq (region (det rfl (mv rfl) (det rfl (lenS u_sl_api_Hash rfl) (det rfl (lss rfl rfl) (nilS ?_)))))   -- region 1
  refine cond rfl (fun h => ?_) (fun h => ?_)   -- on t8
  · have h := of_decide_eq_true h
    have e : pathS xs j = [] := by rw [pathS, Mp.path_small _ _ _ _ (by omega)]
    rw [e]
    refine seq (region (det rfl (asg rfl) (nilS ?_)))   -- region 2
    exact ret (retOwn0 rfl rfl rfl)
  · have h := of_decide_eq_false h
    have h2 : 2 ≤ xs.length := by omega
    have hlt := Mp.left_lt h2
    have hpos := Mp.left_pos h2
    have hstep := Mp.path_step (List.replicate 32 0) nodeS xs j (by omega)
    obtain ⟨p, hp⟩ : ∃ p, Mp.left xs.length = p := ⟨_, rfl⟩
    rw [hp] at hlt hpos hstep
    have l1 : (xs.take p).length = p := by rw [List.length_take]; omega
    have l2 : (xs.drop p).length = xs.length - p := by rw [List.length_drop]
    have hx1 : ∀ x ∈ xs.take p, x.length = 32 := fun x h => hx x (List.mem_of_mem_take h)
    have hx2 : ∀ x ∈ xs.drop p, x.length = 32 := fun x h => hx x (List.mem_of_mem_drop h)
    have t1 := topS_length _ hx1
    have t2 := topS_length _ hx2
    refine skipS ?_
    refine seq (region (det rfl (mv rfl) (det rfl (lenS u_sl_api_Hash rfl) (call (v := .int .i64 (p : Nat)) k_shape_Left rfl rfl (fun w _ => hp ▸ shape_Left_ xs.length (by omega) w) (det rfl (asg rfl) (nilS ?_))))))   -- region 3
    refine also (f := Sl 32 A p cap (hl (xs.take p))) Sl.stable (fun D w hK => by
      have := (hK.1 : Sl 32 A xs.length cap (hl xs) D w).take (m := p) (by omega)
      rwa [hl, ← List.map_take] at this) ?_
    refine also (f := Sl 32 (cutA A cap p 32) (xs.length - p) (cap - p) (hl (xs.drop p))) Sl.stable (fun D w hK => by
      have := (hK.2.1 : Sl 32 A xs.length cap (hl xs) D w).cut (m := p) (cap' := cap - p) (by omega) (by omega) (by omega)
      rwa [hl, ← List.map_drop] at this) ?_
    refine seq ?_
    refine seq (region (det rfl (mv rfl) (det rfl (mv rfl) (det rfl (lss rfl rfl) (nilS ?_)))))   -- region 4
    refine cond rfl (fun h => ?_) (fun h => ?_)   -- on t14
    · have h := of_decide_eq_true h
      rw [if_pos (by omega)] at hstep
      have e : pathS xs j = pathS (xs.take p) j ++ [topS (xs.drop p)] := hstep
      have hpl := pathS_small (xs := xs.take p) (i := j) (by omega) (by omega)
      have ho := pathS_ok _ hx1 j
      obtain ⟨R, hR⟩ : ∃ R, pathS (xs.take p) j = R := ⟨_, rfl⟩
      rw [hR] at e hpl ho
      rw [e, show (R ++ [topS (xs.drop p)]).length = R.length + 1 by simp, hl_app]
      refine seq (drawP [(0, false), (1, false), (2, false), (3, false), (5, false), (6, false), (7, false), (4, true), (8, true), (9, true)] mix (by kernel_rfl) (by kernel_rfl) ?_)   -- drawn 5
      refine nP 0 rfl rfl (mv rfl) ?_
      refine nP 1 rfl rfl (mv rfl) ?_
      refine nP 2 rfl rfl (slTake (h := p) u_sl_api_Hash s_api_Hash rfl rfl (by omega)) ?_
      refine nP 3 rfl rfl (mv rfl) ?_
      refine nP 5 rfl rfl (mv rfl) ?_
      refine nP 6 rfl rfl (mv rfl) ?_
      refine nP 7 rfl rfl (slDrop (l := p) u_sl_api_Hash s_api_Hash rfl rfl (by omega) hcap) ?_
      refine oP 4 (k := R.length) (xs := (hl R).flatten) rfl k_open_path (show _ = [Value.slice A p cap, .int .i64 (j : Nat)] from rfl) rfl (fun w hm => by
        obtain ⟨D, hD, hs⟩ := hm.sl (k := 1) rfl
        have := ih p (by omega) (xs.take p) (by omega) (by omega) hx1 j (by omega) A cap D w hD (by rw [l1]; exact hs)
        rw [l1, hR] at this; exact this) fun B q => ?_
      refine pP 8 (v := ag (b8 (topS (xs.drop p)))) rfl k_tree_Top (show _ = [Value.slice (cutA A cap p 32) (xs.length - p) (cap - p)] from rfl) rfl (fun w hm => by
        obtain ⟨D, hD, hs⟩ := hm.sl (k := 0) rfl
        have := tree_Top_ (xs.length - p) (xs.drop p) (by omega) (by omega) hx2 (cutA A cap p 32) (cap - p) D w hD (by rw [l2]; exact hs)
        rw [l2] at this; exact this) ?_
      refine bP 9 rfl rfl (bs1 u_sl_api_Hash z_api_Hash s_api_Hash (cs := b8 (topS (xs.drop p))) rfl rfl (by rw [b8_length, t2]) (by decide) (by decide)) fun b0 => ?_
      refine endP rfl (appB 1 0 u_sl_api_Hash i_api_Hash rfl (by decide) rfl rfl rfl rfl (by rw [b8_length, t2]) (b8_one _) (by simp only [maxLen]; omega) (by omega) rfl fun A cap => det rfl (asg rfl) (nilS ?_))
      exact ret (retOwn (i := 1) rfl rfl rfl rfl)
    · have h := of_decide_eq_false h
      rw [if_neg (by omega)] at hstep
      have e : pathS xs j = pathS (xs.drop p) (j - p) ++ [topS (xs.take p)] := hstep
      have hpl := pathS_small (xs := xs.drop p) (i := j - p) (by omega) (by omega)
      have ho := pathS_ok _ hx2 (j - p)
      obtain ⟨R, hR⟩ : ∃ R, pathS (xs.drop p) (j - p) = R := ⟨_, rfl⟩
      rw [hR] at e hpl ho
      rw [e, show (R ++ [topS (xs.take p)]).length = R.length + 1 by simp, hl_app]
      refine skipS ?_
      refine seq (drawP [(0, false), (1, false), (2, false), (3, false), (4, false), (5, false), (7, false), (8, false), (9, false), (6, true), (10, true), (11, true)] mix (by kernel_rfl) (by kernel_rfl) ?_)   -- drawn 6
      refine nP 0 rfl rfl (mv rfl) ?_
      refine nP 1 rfl rfl (mv rfl) ?_
      refine nP 2 rfl rfl (slDrop (l := p) u_sl_api_Hash s_api_Hash rfl rfl (by omega) hcap) ?_
      refine nP 3 rfl rfl (mv rfl) ?_
      refine nP 4 rfl rfl (mv rfl) ?_
      refine nP 5 rfl rfl (Det.to (subI rfl rfl (by omega) (by omega)) (v' := .int .i64 ((j - p : Nat) : Int)) (vi (by omega))) ?_
      refine nP 7 rfl rfl (mv rfl) ?_
      refine nP 8 rfl rfl (mv rfl) ?_
      refine nP 9 rfl rfl (slTake (h := p) u_sl_api_Hash s_api_Hash rfl rfl (by omega)) ?_
      refine oP 6 (k := R.length) (xs := (hl R).flatten) rfl k_open_path (show _ = [Value.slice (cutA A cap p 32) (xs.length - p) (cap - p), .int .i64 ((j - p : Nat) : Int)] from rfl) rfl (fun w hm => by
        obtain ⟨D, hD, hs⟩ := hm.sl (k := 0) rfl
        have := ih (xs.length - p) (by omega) (xs.drop p) (by omega) (by omega) hx2 (j - p) (by omega) (cutA A cap p 32) (cap - p) D w hD (by rw [l2]; exact hs)
        rw [l2, hR] at this; exact this) fun B q => ?_
      refine pP 10 (v := ag (b8 (topS (xs.take p)))) rfl k_tree_Top (show _ = [Value.slice A p cap] from rfl) rfl (fun w hm => by
        obtain ⟨D, hD, hs⟩ := hm.sl (k := 1) rfl
        have := tree_Top_ p (xs.take p) (by omega) (by omega) hx1 A cap D w hD (by rw [l1]; exact hs)
        rw [l1] at this; exact this) ?_
      refine bP 11 rfl rfl (bs1 u_sl_api_Hash z_api_Hash s_api_Hash (cs := b8 (topS (xs.take p))) rfl rfl (by rw [b8_length, t1]) (by decide) (by decide)) fun b0 => ?_
      refine endP rfl (appB 1 0 u_sl_api_Hash i_api_Hash rfl (by decide) rfl rfl rfl rfl (by rw [b8_length, t1]) (b8_one _) (by simp only [maxLen]; omega) (by omega) rfl fun A cap => det rfl (asg rfl) (nilS ?_))
      exact ret (retOwn (i := 1) rfl rfl rfl rfl)
end Go.Proofs.YtmcapgjdflohfaaGreat.L

namespace Go.Proofs.YtmcapgjdflohfaaGreat.L
open Go Go.RowKit
set_option linter.unusedVariables false

/-- An opening. -/
structure Opn where
  i : Int
  n : Int
  A : Option Addr
  cap : Nat
  p : List (List UInt8)
def Opn.c (o : Opn) : List Value := [.int .i64 o.i, .int .i64 o.n, .slice o.A o.p.length o.cap]
def OpF (o : Opn) : Fact := Sl 32 o.A o.p.length o.cap (hl o.p)
theorem OpF.stable {o : Opn} : Stable (OpF o) := Sl.stable
theorem Opn.c_length (o : Opn) : o.c.length = 3 := rfl
theorem Opn.c_one (o : Opn) : one o.c = true := rfl
def op0 : Opn := ⟨0, 0, none, 0, []⟩
theorem OpF.zero {D : Nat → Prop} {w : World} : OpF op0 D w := Sl.nil
abbrev OpX := Int × Int × List (List UInt8)
def mkO (x : OpX) (A : Option Addr) (cap : Nat) : Opn := ⟨x.1, x.2.1, A, cap, x.2.2⟩
/-- A call that hands back an opening of its own, and an errno. -/
def ROp (w : World) (x : OpX) (er : Int) : Ending → World → Prop := fun e w' =>
  ∃ A cap, e = .returned (.tuple #[ag (mkO x A cap).c, .int .i64 er]) ∧ Below w.heap.size w w' ∧ OpF (mkO x A cap) (fun k => w.heap.size ≤ k ∧ k < w'.heap.size) w'
section
variable {c : Cx} {n : Nat} {Q : Exit → Env → World → Prop} {σ : Env} {H : List Res} {K : List Fact}
variable {t : TypeId} {p : String} {af : Array Edge}
theorem callSN' {ops : Array Oper} {d : Nat} {f : FuncId} {args : Array Operand} {ats : Array TypeId} {vs : List Value} {l : List Oper} {sz m : Nat} {ls : List (List Value)} (hm : ls.length = m) (hf : Fn c.P f) (ha : args.toList.map (ev σ) = vs) (hd : Nat.blt d n = true)
    (spec : ∀ w, M c H K w → Calls c.P f vs.toArray w (RS w sz ls)) (h : ∀ A cap, TL c n ops l Q (upd σ d (.slice A m cap)) H (Fr c.w0.heap.size (Sl sz A m cap ls) :: K)) :
    TL c n ops (⟨some d, .call { callee := .value (.func f), args := args, argTypes := ats }, t, p, af, none⟩ :: l) Q σ H K := by
  subst hm; exact callSN hf ha hd spec h
theorem callOp {ops : Array Oper} {d : Nat} {f : FuncId} {args : Array Operand} {ats : Array TypeId} {vs : List Value} {l : List Oper} {x : OpX} {er : Int} (hf : Fn c.P f) (ha : args.toList.map (ev σ) = vs) (hd : Nat.blt d n = true)
    (spec : ∀ w, M c H K w → Calls c.P f vs.toArray w (ROp w x er)) (h : ∀ A cap, TL c n ops l Q (upd σ d (.tuple #[ag (mkO x A cap).c, .int .i64 er])) H (Fr c.w0.heap.size (OpF (mkO x A cap)) :: K)) :
    TL c n ops (⟨some d, .call { callee := .value (.func f), args := args, argTypes := ats }, t, p, af, none⟩ :: l) Q σ H K :=
  callX (β := Option Addr × Nat) (fun q => .tuple #[ag (mkO x q.1 q.2).c, .int .i64 er]) (fun _ => H) (fun q => Fr c.w0.heap.size (OpF (mkO x q.1 q.2)) :: K) hf ha hd
    (fun w hm => (spec w hm).mono fun e w' ⟨A, cap, he, hb, hs⟩ => ⟨(A, cap), he, hm.learn (Fr.stable OpF.stable) (grown_below hb) (fun D _ => hs.mono fun k hk => ⟨.inr hk, Nat.le_trans hm.size hk.1⟩)⟩) (fun q => h q.1 q.2)
theorem retOp {fn : Func} {s u b : Nat} {e : TypeId} {o : Opn} {er : Int} (i k : Nat) (hr : fn.results = #[.cell s T_api_Opening, .tmp u]) (hP : c.P = PP) (hv : σ s = .pointer (some ⟨b, 0, none⟩)) (hi : H[i]? = some (.blk b (ob o.c e))) (hv' : σ u = .int .i64 er)
    (hS : c.S = []) (hk : K[k]? = some (Fr c.w0.heap.size (OpF o))) : ∀ w, M c H K w → post c.P fn n (ROp c.w0 (o.i, o.n, o.p) er) .ret σ w :=
  retCT i hr hv hi (by rw [hP]; exact g_api_Opening) hv' fun w hm => by
    obtain ⟨D, d1, d2, d3, d4, d5⟩ := hm.data
    exact ⟨o.A, o.cap, rfl, hm.below hS, Sl.mono (show Fr c.w0.heap.size (OpF o) D w from KAll.at d5 hk) fun k hk => ⟨hk.2, d3 k hk.1⟩⟩
theorem retOp0 {fn : Func} {s u b : Nat} {e : TypeId} {er : Int} (i : Nat) (hr : fn.results = #[.cell s T_api_Opening, .tmp u]) (hP : c.P = PP) (hv : σ s = .pointer (some ⟨b, 0, none⟩)) (hi : H[i]? = some (.blk b (ob op0.c e))) (hv' : σ u = .int .i64 er)
    (hS : c.S = []) : ∀ w, M c H K w → post c.P fn n (ROp c.w0 (0, 0, []) er) .ret σ w :=
  retCT i hr hv hi (by rw [hP]; exact g_api_Opening) hv' fun w hm => ⟨none, 0, rfl, hm.below hS, OpF.zero⟩
end

def opR (xs : List (List UInt8)) (i : Int) : OpX × Int := if i < 0 ∨ xs.length ≤ i then ((0, 0, []), 3) else ((i, xs.length, pathS (xs.map leafS) i.toNat), 0)

theorem bldOpn {c : Cx} {σ : Env} {H : List Res} {K : List Fact} {d : Option Tmp} {t : TypeId} {p : String} {af : Array Edge} {g : Option (Nat × Bool)} {parts : Array (Nat × Operand)} (hP : c.P = PP) (o : Opn)
    (hps : (parts.toList.map fun (i, x) => (i, ev σ x)) = [(0, .int .i64 o.i), (1, .int .i64 o.n), (2, .slice o.A o.p.length o.cap)]) :
    Det c σ H K ⟨d, .build T_api_Opening parts, t, p, af, g⟩ (ag o.c) := by
  refine bldT (pl := _) (by rw [hP]; exact z_api_Opening) (by rw [hP]; exact u_api_Opening) (fun w => by rw [hP]; exact run_placesS PP w (by kernel_rfl)) hps ?_
  refine fill_cat (o := 0) (s := 1) (vs := [.int .i64 o.i]) (by kernel_rfl) rfl rfl rfl (by simp) ?_
  refine fill_cat (o := 1) (s := 1) (vs := [.int .i64 o.n]) (by kernel_rfl) rfl rfl rfl (by simp) ?_
  refine fill_cat (o := 2) (s := 1) (vs := [.slice o.A o.p.length o.cap]) (by kernel_rfl) rfl rfl rfl (by simp) ?_
  exact fill_end (by simp) rfl

theorem open_Open_ (xs : List (List UInt8)) (hn : xs.length ≤ 100000) (hx : ∀ x ∈ xs, x.length ≤ 100000001) (j : Int) (A : Option Addr) (cap : Nat) (D : Nat → Prop) (w : World) (hD : ∀ k, D k → k < w.heap.size) (hs : Sl 1 A xs.length cap (tl xs) D w) :
    Calls PP N_open_Open #[.slice A xs.length cap, .int .i64 j] w (ROp w (opR xs j).1 (opR xs j).2) := by
  refine enter f_open_Open rfl n_open_Open rfl (M.init1 PP w Sl.stable hD hs) ?_
  refine seq (region (alloc z_api_Opening rfl rfl fun b0 => det rfl (asg rfl) (nilS ?_)))   -- region 0
  refine seq ?_
  refine block ?_   -- block 0
  refine seq (region (det rfl (mv rfl) (det rfl (lenS u_sl_string rfl) (det rfl (gtr rfl rfl) (det rfl (asg rfl) (nilS ?_))))))   -- region 1
  refine condF (by show Value.bool _ = _; exact vb (decide_eq_false (by omega))) ?_
  refine seq (region (det rfl (mv rfl) (det rfl (lss rfl rfl) (det rfl (mv rfl) (guardI rfl rfl rfl (fun hb => mv rfl) (guardI rfl rfl rfl (fun hb => mv rfl) (guardI rfl rfl rfl (fun hb => lenS u_sl_string (bift hb rfl)) (guardI rfl rfl rfl (fun hb => geq (bift hb rfl) (bift hb rfl)) (det rfl (pick rfl (pickO rfl)) (det rfl (asg rfl) (nilS ?_)))))))))))   -- region 3
  refine cond rfl (fun h => ?_) (fun h => ?_)   -- on t11
  · have h : (decide (j < 0) || decide ((xs.length : Int) ≤ j)) = true := h
    have e : opR xs j = ((0, 0, []), 3) := by
      simp only [Bool.or_eq_true, decide_eq_true_eq] at h
      rw [opR, if_pos h]
    rw [e]
    refine seq (region (det rfl (bldZ z_api_Opening u_api_Opening (fun w => run_placesS PP w (by kernel_rfl))) (stoA 0 (rs := op0.c) rfl rfl rfl s_api_Opening rfl rfl rfl (det rfl (asg rfl) (nilS ?_)))))   -- region 4
    exact ret (retOp0 0 rfl rfl rfl rfl rfl rfl)
  · have h : (decide (j < 0) || decide ((xs.length : Int) ≤ j)) = false := h
    simp only [Bool.or_eq_false_iff, decide_eq_false_iff_not] at h
    obtain ⟨i, rfl⟩ : ∃ N : Nat, j = (N : Int) := ⟨j.toNat, by omega⟩
    obtain ⟨Y, hY⟩ : ∃ Y, xs.map leafS = Y := ⟨_, rfl⟩
    have hYl : Y.length = xs.length := by rw [← hY]; simp
    have hYx : ∀ y ∈ Y, y.length = 32 := by rw [← hY]; exact map_leaf_ok xs
    obtain ⟨R, hR⟩ : ∃ R, pathS Y i = R := ⟨_, rfl⟩
    have e : opR xs (i : Int) = (((i : Int), (xs.length : Int), R), 0) := by rw [opR, if_neg (by omega), Int.toNat_natCast, hY, hR]
    rw [e]
    refine forget [(0, .slice A xs.length cap), (1, .int .i64 (i : Int)), (4, .pointer (some ⟨b0, 0, none⟩))] ⟨rfl, rfl, rfl, trivial⟩ fun σ => ?_
    refine skip ?_
    show Tr _ _ _ _ _ _ _
    refine seq (region (det rfl (mv rfl) (det rfl (mv rfl) (det rfl (lenS u_sl_string rfl) (det rfl (mv rfl) (callS' (m := xs.length) (sz := 32) (ls := hl Y) (by rw [hl_length, hYl]) k_tree_Leaves rfl rfl (fun w hm => by
      obtain ⟨D, hD, hs⟩ := hm.sl (k := 0) rfl
      have := tree_Leaves_ xs hn hx A cap D w hD hs
      rw [hY] at this; exact this) fun B q => det rfl (mv rfl) (callSN' (m := R.length) (sz := 32) (ls := hl R) (hl_length R) k_open_path (show _ = [Value.slice B xs.length q, .int .i64 (i : Int)] from rfl) rfl (fun w hm => by
      obtain ⟨D, hD, hs⟩ := hm.sl (k := 0) rfl
      have := open_path_ Y.length Y (Nat.le_refl _) (by omega) hYx i (by omega) B q D w hD (by rw [hYl]; exact hs)
      rw [hYl, hR] at this
      have hRx : ∀ y ∈ R, y.length = 32 := by rw [← hR]; exact pathS_ok Y hYx i
      exact this.mono fun e w' h => RO.rs (by rw [hl_length]) (hl_ok hRx) e w' h) fun C r => det rfl (Det.to (bldOpn rfl ⟨i, xs.length, C, r, R⟩ rfl) rfl) (stoA 0 (rs := (Opn.mk i xs.length C r R).c) rfl rfl rfl s_api_Opening rfl rfl rfl (det rfl (asg rfl) (nilS ?_))))))))))   -- region 5
    exact ret (retOp (o := ⟨i, xs.length, C, r, R⟩) 0 0 rfl rfl rfl rfl rfl rfl rfl)

theorem link_Open_ (xs : List (List UInt8)) (hn : xs.length ≤ 100000) (hx : ∀ x ∈ xs, x.length = 32) (j : Int) (A : Option Addr) (cap : Nat) (D : Nat → Prop) (w : World) (hD : ∀ k, D k → k < w.heap.size) (hs : Sl 32 A xs.length cap (hl xs) D w) :
    Calls PP N_link_Open #[.slice A xs.length cap, .int .i64 j] w (ROp w (opR (xs.map (76 :: ·)) j).1 (opR (xs.map (76 :: ·)) j).2) := by
  refine enter f_link_Open rfl n_link_Open rfl (M.init1 PP w Sl.stable hD hs) ?_
  obtain ⟨Y, hY⟩ : ∃ Y, xs.map (76 :: ·) = Y := ⟨_, rfl⟩
  have hYl : Y.length = xs.length := by rw [← hY]; simp
  have hYx : ∀ y ∈ Y, y.length ≤ 100000001 := by
    rw [← hY]; intro y hy
    obtain ⟨x, hm, rfl⟩ := List.mem_map.1 hy
    have := hx x hm
    simp; omega
  rw [hY]
  obtain ⟨o, ho⟩ : ∃ o, opR Y j = o := ⟨_, rfl⟩
  obtain ⟨⟨oi, on, op⟩, er⟩ := o
  rw [ho]
  refine seq (region (alloc z_api_Opening rfl rfl fun b0 => det rfl (asg rfl) (nilS ?_)))   -- region 0
  refine seq (region (det rfl (mv rfl) (callS' (m := xs.length) (sz := 1) (ls := tl Y) (by rw [tl_length, hYl]) k_link_texts rfl rfl (fun w hm => by
    obtain ⟨D, hD, hs⟩ := hm.sl (k := 0) rfl
    have := link_texts_ xs hn hx A cap D w hD hs
    rw [hY] at this; exact this) fun B q => det rfl (mv rfl) (callOp (x := (oi, on, op)) (er := er) k_open_Open (show _ = [Value.slice B xs.length q, .int .i64 j] from rfl) rfl (fun w hm => by
    obtain ⟨D, hD, hs⟩ := hm.sl (k := 0) rfl
    have := open_Open_ Y (by omega) hYx j B q D w hD (by rw [hYl]; exact hs)
    rw [hYl, ho] at this; exact this) fun C r => det rfl (extr rfl rfl) (det rfl (extr rfl rfl) (stoA 0 (rs := (mkO (oi, on, op) C r).c) rfl rfl rfl s_api_Opening rfl rfl rfl (det rfl (asg rfl) (nilS ?_))))))))   -- region 1
  exact ret (retOp (o := mkO (oi, on, op) C r) 0 0 rfl rfl rfl rfl rfl rfl rfl)

def opTx (xs : List (List UInt8)) (i : Int) : OpX × Int := if mayF xs ≠ 0 then ((0, 0, []), mayF xs) else opR (xs.map (84 :: ·)) i
theorem txs_Open_ (xs : List (List UInt8)) (hn : xs.length ≤ 100000) (hx : ∀ x ∈ xs, x.length ≤ 100000000) (j : Int) (A : Option Addr) (cap : Nat) (D : Nat → Prop) (w : World) (hD : ∀ k, D k → k < w.heap.size) (hs : Sl 1 A xs.length cap (tl xs) D w) :
    Calls PP N_txs_Open #[.slice A xs.length cap, .int .i64 j] w (ROp w (opTx xs j).1 (opTx xs j).2) := by
  refine enter f_txs_Open rfl n_txs_Open rfl (M.init1 PP w Sl.stable hD hs) ?_
  obtain ⟨Y, hY⟩ : ∃ Y, xs.map (84 :: ·) = Y := ⟨_, rfl⟩
  have hYl : Y.length = xs.length := by rw [← hY]; simp
  have hYx : ∀ y ∈ Y, y.length ≤ 100000001 := by
    rw [← hY]; intro y hy
    obtain ⟨x, hm, rfl⟩ := List.mem_map.1 hy
    have := hx x hm
    simp; omega
  obtain ⟨e, he⟩ : ∃ e, mayF xs = e := ⟨_, rfl⟩
  refine seq (region (alloc z_api_Opening rfl rfl fun b0 => det rfl (asg rfl) (nilS ?_)))   -- region 0
  refine seq ?_
  refine seq (region (det rfl (mv rfl) (call (v := .int .i64 e) k_txs_May rfl rfl (fun w hm => by
    obtain ⟨D, hD, hs⟩ := hm.sl (k := 0) rfl
    exact he ▸ txs_May_ xs hn A cap D w hD hs) (det rfl (asg rfl) (nilS ?_)))))   -- region 1
  refine seq (region (det rfl (mv rfl) (det rfl (neq rfl rfl) (nilS ?_))))   -- region 2
  by_cases h0 : e = 0
  · subst h0
    refine condF rfl ?_
    rw [opTx, if_neg (by rw [he]; simp), hY]
    obtain ⟨o, ho⟩ : ∃ o, opR Y j = o := ⟨_, rfl⟩
    obtain ⟨⟨oi, on, op⟩, er⟩ := o
    rw [ho]
    refine skipS ?_
    refine seq (region (det rfl (mv rfl) (callS' (m := xs.length) (sz := 1) (ls := tl Y) (by rw [tl_length, hYl]) k_txs_texts rfl rfl (fun w hm => by
      obtain ⟨D, hD, hs⟩ := hm.sl (k := 0) rfl
      have := txs_texts_ xs hn hx A cap D w hD hs
      rw [hY] at this; exact this) fun B q => det rfl (mv rfl) (callOp (x := (oi, on, op)) (er := er) k_open_Open (show _ = [Value.slice B xs.length q, .int .i64 j] from rfl) rfl (fun w hm => by
      obtain ⟨D, hD, hs⟩ := hm.sl (k := 0) rfl
      have := open_Open_ Y (by omega) hYx j B q D w hD (by rw [hYl]; exact hs)
      rw [hYl, ho] at this; exact this) fun C r => det rfl (extr rfl rfl) (det rfl (extr rfl rfl) (stoA 0 (rs := (mkO (oi, on, op) C r).c) rfl rfl rfl s_api_Opening rfl rfl rfl (det rfl (asg rfl) (nilS ?_))))))))   -- region 4
    exact ret (retOp (o := mkO (oi, on, op) C r) 0 0 rfl rfl rfl rfl rfl rfl rfl)
  · refine condT (by show Value.bool (!decide (e = 0)) = _; rw [decide_eq_false h0]; rfl) ?_
    rw [opTx, if_pos (by rw [he]; exact h0), he]
    refine seq (region (det rfl (bldZ z_api_Opening u_api_Opening (fun w => run_placesS PP w (by kernel_rfl))) (det rfl (mv rfl) (stoA 0 (rs := op0.c) rfl rfl rfl s_api_Opening rfl rfl rfl (det rfl (asg rfl) (nilS ?_))))))   -- region 3
    exact ret (retOp0 0 rfl rfl rfl rfl rfl rfl)
end Go.Proofs.YtmcapgjdflohfaaGreat.L

namespace Go.Proofs.YtmcapgjdflohfaaGreat.L
open Go Go.RowKit
set_option linter.unusedVariables false

def mayPr (c : Cf) (l : List Bl) : Int := if (chkF c l).1 ≠ 0 then (chkF c l).1 else if mayP c.m c.k c.a c.b = false then 13 else if (l.length : Int) ≤ c.k then 11 else 0
theorem prove_May_ (c : Cf) (hc : c.ok) (l : List Bl) (hlb : ∀ b ∈ l, Bok b) (hn : l.length ≤ 100000) (A : Option Addr) (cap : Nat) (D : Nat → Prop) (w : World) (hD : ∀ k, D k → k < w.heap.size) (hs : Sl 67 A l.length cap (bl l) D w) (ht : Txs l D w) :
    Calls PP N_prove_May #[ag c.c, .slice A l.length cap] w (PR w (.int .i64 (mayPr c l))) := by
  by_cases he : (chkF c l).1 = 0
  · obtain ⟨E, hE⟩ : ∃ E, chkF c l = E := ⟨_, rfl⟩
    obtain ⟨P, hP⟩ : ∃ P, mayP c.m c.k c.a c.b = P := ⟨_, rfl⟩
    rw [mayPr, if_neg (fun h => h he), hP]
    rw [hE] at he
    refine enter f_prove_May rfl n_prove_May rfl (M.init PP w D [] [Sl 67 A l.length cap (bl l), Txs l] ⟨Sl.stable, Txs.stable, trivial⟩ hD ⟨hs, ht, trivial⟩) ?_
    refine seq (region (box rfl rfl rfl fun b0 => det rfl (asg rfl) (nilS ?_)))   -- region 0
    refine seq ?_
    refine seq (region (det rfl (ldAll 0 rfl rfl g_api_Config (Cf.c_length hc)) (det rfl (mv rfl) (call k_chain_Check rfl rfl (fun w hm => by
      obtain ⟨D, d1, d2, hD, d4, d5⟩ := hm.data
      have := chain_Check_ c hc l hlb hn A cap D w hD d5.1 d5.2.1
      rw [hE] at this; exact this) (alloc z_api_Fault rfl rfl fun b1 => stoA 0 (rs := fltC E) rfl rfl rfl s_api_Fault rfl rfl rfl (nilS ?_))))))   -- region 1
    refine seq (region (det rfl (fadr rfl u_api_Fault rfl s_api_Errno) (det rfl (ldB 0 (v := .int .i64 E.1) rfl rfl o_api_Errno rfl) (det rfl (Det.to (neq rfl rfl) (v' := .bool false) (vb (by simp [he]))) (nilS ?_)))))   -- region 2
    refine condF rfl ?_
    refine skipS ?_
    refine seq ?_
    refine block ?_   -- block 0
    refine seq (region (det rfl (fadr rfl u_api_Config rfl s_int) (det rfl (ldB 1 (v := .int .i64 c.m) rfl rfl o_int (Cf.at_m hc)) (det rfl (fadr rfl u_api_Config rfl s_int) (det rfl (ldB 1 (v := .int .i64 c.k) rfl rfl o_int (Cf.at_k hc)) (det rfl (fadr rfl u_api_Config rfl s_int) (det rfl (ldB 1 (v := .int .i64 c.a) rfl rfl o_int (Cf.at_a hc)) (det rfl (fadr rfl u_api_Config rfl s_int) (det rfl (ldB 1 (v := .int .i64 c.b) rfl rfl o_int (Cf.at_b hc)) (call (v := .bool P) k_pick_May rfl rfl (fun w _ => hP ▸ pick_May_ c.m c.k c.a c.b w) (det rfl (notB rfl) (det rfl (asg rfl) (nilS ?_)))))))))))))   -- region 4
    cases P
    · refine condT rfl ?_
      refine seq (region (det rfl (asg rfl) (nilS ?_)))   -- region 5
      exact ret (retT rfl rfl pr)
    · refine condF rfl ?_
      rw [if_neg (by simp)]
      refine seq (region (det rfl (mv rfl) (det rfl (lenS u_sl_api_Block rfl) (det rfl (fadr rfl u_api_Config rfl s_int) (det rfl (ldB 1 (v := .int .i64 c.k) rfl rfl o_int (Cf.at_k hc)) (det rfl (leq rfl rfl) (det rfl (asg rfl) (nilS ?_))))))))   -- region 6
      refine cond rfl (fun h => ?_) (fun h => ?_)   -- on t25
      · have h := of_decide_eq_true h
        rw [if_pos h]
        refine seq (region (det rfl (asg rfl) (nilS ?_)))   -- region 7
        exact ret (retT rfl rfl pr)
      · have h := of_decide_eq_false h
        rw [if_neg h]
        refine skip ?_
        show Tr _ _ _ _ _ _ _
        refine seq (region (det rfl (asg rfl) (nilS ?_)))   -- region 8
        exact ret (retT rfl rfl pr)
  · rw [mayPr, if_pos he]
    exact prove_May_err c hc l hlb hn he A cap D w hD hs ht

/-! ### Places -/
def tailP (c : Cf) (l : List Bl) (k : Nat) : List Int := (List.range k).map fun i : Nat => max 0 ((l.length : Int) - max c.k 0) + i
def placesR (c : Cf) (l : List Bl) : List Int := if pickR (levs c.t l) c.m c.k c.a c.b = [] then [] else pickR (levs c.t l) c.m c.k c.a c.b ++ tailP c l (min (max c.k 0) l.length).toNat
theorem tailP_succ (c : Cf) (l : List Bl) (k : Nat) : tailP c l (k + 1) = tailP c l k ++ [max 0 ((l.length : Int) - max c.k 0) + (k : Int)] := by simp [tailP, List.range_succ]
theorem tailP_len (c : Cf) (l : List Bl) (k : Nat) : (tailP c l k).length = k := by simp [tailP]
theorem placesR_len (c : Cf) (l : List Bl) : (placesR c l).length ≤ 2 * l.length := by
  have h1 := pickR_len (levs c.t l) c.m c.k c.a c.b
  rw [levs_length] at h1
  unfold placesR
  split
  · simp
  · rw [List.length_append, tailP_len]; omega
theorem prove_Places_ (c : Cf) (hc : c.ok) (hfit : c.fit) (l : List Bl) (hlb : ∀ b ∈ l, Bok b) (hn : l.length ≤ 10000) (A : Option Addr) (cap : Nat) (D : Nat → Prop) (w : World) (hD : ∀ k, D k → k < w.heap.size) (hs : Sl 67 A l.length cap (bl l) D w) :
    Calls PP N_prove_Places #[ag c.c, .slice A l.length cap] w (RS w 1 (il (placesR c l))) := by
  refine enter f_prove_Places rfl n_prove_Places rfl (M.init1 PP w Sl.stable hD hs) ?_
  obtain ⟨Lv, hLv⟩ : ∃ x, levs c.t l = x := ⟨_, rfl⟩
  have hLl : Lv.length = l.length := by rw [← hLv, levs_length]
  obtain ⟨R, hR⟩ : ∃ x, pickR Lv c.m c.k c.a c.b = x := ⟨_, rfl⟩
  have hRl : R.length ≤ l.length := by
    have := pickR_len Lv c.m c.k c.a c.b
    rw [hR] at this; omega
  have hk := hfit.2.1
  unfold I64 at hk
  refine seq (region (box rfl rfl rfl fun b0 => det rfl (asg rfl) (nilS ?_)))   -- region 0
  refine seq (drawP [(0, false), (1, false), (2, false), (4, false), (5, false), (6, false), (7, false), (8, false), (9, false), (10, false), (11, false), (3, true), (12, true), (13, false)] mix (by kernel_rfl) (by kernel_rfl) ?_)   -- drawn 1
  refine nP 0 rfl rfl (fadr rfl u_api_Config rfl s_api_Hash) ?_
  refine nP 1 rfl rfl (ldA 0 rfl rfl g_api_Hash (r := b8 c.t) (Cf.at_t' hc) (by rw [b8_length]; exact hc.2)) ?_
  refine nP 2 rfl rfl (mv rfl) ?_
  refine nP 4 rfl rfl (fadr rfl u_api_Config rfl s_int) ?_
  refine nP 5 rfl rfl (ldB 0 (v := .int .i64 c.m) rfl rfl o_int (Cf.at_m hc)) ?_
  refine nP 6 rfl rfl (fadr rfl u_api_Config rfl s_int) ?_
  refine nP 7 rfl rfl (ldB 0 (v := .int .i64 c.k) rfl rfl o_int (Cf.at_k hc)) ?_
  refine nP 8 rfl rfl (fadr rfl u_api_Config rfl s_int) ?_
  refine nP 9 rfl rfl (ldB 0 (v := .int .i64 c.a) rfl rfl o_int (Cf.at_a hc)) ?_
  refine nP 10 rfl rfl (fadr rfl u_api_Config rfl s_int) ?_
  refine nP 11 rfl rfl (ldB 0 (v := .int .i64 c.b) rfl rfl o_int (Cf.at_b hc)) ?_
  refine sP 3 (k := Lv.length) (sz := 1) (ls := il Lv) (il_length _) rfl k_chain_Levels (show _ = [ag (b8 c.t), Value.slice A l.length cap] from rfl) rfl (fun w hm => by
    obtain ⟨D, d1, d2, hD, d4, d5⟩ := hm.data
    have := chain_Levels_ c.t hc.2 l (by omega) (fun b hb => (hlb b hb).1) A cap D w hD d5.1
    rw [hLv] at this; exact this) fun B q => ?_
  refine oP 12 (k := R.length) (sz := 1) (e := T_int) (xs := (il R).flatten) rfl k_pick_Pick (show _ = [Value.slice B Lv.length q, .int .i64 c.m, .int .i64 c.k, .int .i64 c.a, .int .i64 c.b] from rfl) rfl (fun w hm => by
    obtain ⟨D, hD, hs⟩ := hm.sl (k := 0) rfl
    have := pick_Pick_ Lv (by omega) c.m c.k c.a c.b B q D w hD hs
    rw [hR] at this; exact this) fun C r => ?_
  refine nP 13 rfl rfl (asg rfl) ?_
  refine endP rfl (nilS ?_)
  refine seq ?_
  refine seq (region (det rfl (mv rfl) (det rfl (lenS u_sl_api_Block rfl) (det rfl (fadr rfl u_api_Config rfl s_int) (det rfl (ldB 1 (v := .int .i64 c.k) rfl rfl o_int (Cf.at_k hc)) (det rfl (maxI rfl rfl) (det rfl (subI rfl rfl (by omega) (by omega)) (det rfl (maxI rfl rfl) (det rfl (asg rfl) (nilS ?_))))))))))   -- region 2
  rw [placesR, hLv, hR]
  obtain ⟨s0, hs0⟩ : ∃ s0, max 0 ((l.length : Int) - max c.k 0) = s0 := ⟨_, rfl⟩
  rw [hs0]
  have hts : ∀ k : Nat, tailP c l (k + 1) = tailP c l k ++ [s0 + (k : Int)] := fun k => by rw [tailP_succ, hs0]
  obtain ⟨S, hS⟩ : ∃ S, (if R = [] then [] else R ++ tailP c l (min (max c.k 0) l.length).toNat) = S := ⟨_, rfl⟩
  rw [hS]
  refine block ?_   -- block 0
  refine loopV (ι := Nat × Option Addr × Nat) (fun (k, _, _) => (R = [] → k = 0) ∧ s0 + k ≤ l.length) (fun (k, C, r) => [(1, .slice A l.length cap), (5, .slice C (R.length + k) r), (6, .int .i64 (s0 + k))]) (fun (k, C, r) => [.row (.slice C (R.length + k) r) T_int 1 (R.length + k) (il (R ++ tailP c l k)).flatten]) (fun _ => []) (fun (k, _, _) => l.length - k) (0, C, r) ⟨fun _ => rfl, by omega⟩ ⟨rfl, rfl, vi (by omega), trivial⟩ (fun w hm => by
    have := (hm.sub (.cons_cons _ (List.nil_sublist _)) : M _ [.row (.slice C R.length r) T_int 1 R.length (il R).flatten] _ _)
    have e : R ++ tailP c l 0 = R := by simp [tailP]
    dsimp only
    rw [e]
    exact this.refact trivial fun _ _ => trivial) ?_
  rintro ⟨k, C, r⟩ σ ⟨hk0, hk1⟩
  dsimp only at hk0 hk1 ⊢
  refine seq ?_
  refine seq (region (det rfl (mv rfl) (det rfl (mv rfl) (det rfl (lenS u_sl_api_Block rfl) (det rfl (lss rfl rfl) (det rfl (mv rfl) (guardI rfl rfl rfl (fun hb => mv rfl) (guardI rfl rfl rfl (fun hb => lenS u_sl_int (bift hb rfl)) (guardI rfl rfl rfl (fun hb => gtr (bift hb rfl) rfl) (det rfl (pick rfl (pickA rfl)) (nilS ?_)))))))))))   -- region 3
  refine cond rfl (fun h => ?_) (fun h => ?_)   -- on t35
  · have h : (decide (s0 + (k : Int) < l.length) && decide (0 < ((R.length + k : Nat) : Int))) = true := h
    simp only [Bool.and_eq_true, decide_eq_true_eq] at h
    refine forget [(1, .slice A l.length cap), (5, .slice C (R.length + k) r), (6, .int .i64 (s0 + k))] ⟨rfl, rfl, rfl, trivial⟩ fun σ => ?_
    refine skipS ?_
    refine seq ?_
    refine block ?_   -- block 1
    refine region (det rfl (mv rfl) (det rfl (mv rfl) (bsl rfl (bs1 u_sl_int z_int s_int (cs := [.int .i64 (s0 + k)]) rfl rfl rfl (by decide) (by decide)) fun b1 => appB 1 0 u_sl_int i_int rfl (by decide) rfl rfl rfl rfl rfl rfl (by simp only [maxLen]; omega) (by omega) rfl fun A cap => det rfl (asg rfl) (nil ?_))))   -- region 5
    show Tr _ _ _ _ _ _ _
    refine region (det rfl (mv rfl) (det rfl (addI rfl rfl (by omega) (by omega)) (det rfl (asg rfl) (nil ?_))))   -- region 4
    refine again (k + 1, _, _) ⟨fun h' => by rw [hk0 h', h'] at h; simp at h, by (first | omega | (dsimp only; omega))⟩ ⟨rfl, rfl, vi (by (first | omega | (dsimp only; omega))), trivial⟩ (fun w hm => ?_) (by (first | omega | (dsimp only; omega)))
    dsimp only
    rw [hts, ← List.append_assoc, il_app]; exact drop1 hm
  · have h : (decide (s0 + (k : Int) < l.length) && decide (0 < ((R.length + k : Nat) : Int))) = false := h
    refine forget [(5, .slice C (R.length + k) r)] ⟨rfl, trivial⟩ fun σ => ?_
    have e : S = R ++ tailP c l k := by
      rw [← hS]
      rw [Bool.and_eq_false_iff, decide_eq_false_iff_not, decide_eq_false_iff_not] at h
      by_cases hR0 : R = []
      · rw [if_pos hR0, hR0, hk0 hR0]; simp [tailP]
      · have := List.length_pos_iff.2 hR0
        rw [if_neg hR0, show (min (max c.k 0) (l.length : Int)).toNat = k by omega]
    refine exit ?_   -- 0
    show Tr _ _ _ _ _ _ _
    refine seq (region (det rfl (mv rfl) (det rfl (asg rfl) (nilS ?_))))   -- region 6
    rw [e]
    exact ret (retRow (i := 0) rfl rfl rfl rfl (by rw [il_length, List.length_append, tailP_len]) (il_ok _))
end Go.Proofs.YtmcapgjdflohfaaGreat.L

namespace Go.Proofs.YtmcapgjdflohfaaGreat.L
open Go Go.RowKit
set_option linter.unusedVariables false

/-- A step: its header, and its opening. -/
structure St where
  h : Hd
  o : Opn
def St.c (s : St) : List Value := s.h.c ++ s.o.c
abbrev SX := Hd × OpX
def Opn.x (o : Opn) : OpX := (o.i, o.n, o.p)
def St.x (s : St) : SX := (s.h, s.o.x)
theorem St.c_length {s : St} (h : s.h.ok) : s.c.length = 69 := by rw [St.c, List.length_append, Hd.c_length h]; rfl
theorem St.c_one (s : St) : one s.c = true := by rw [St.c, one_append, Hd.c_one]; rfl
def stl (L : List St) : List (List Value) := L.map St.c
theorem stl_length (L : List St) : (stl L).length = L.length := by simp [stl]
theorem stl_ok {L : List St} (hL : ∀ s ∈ L, s.h.ok) : ∀ l ∈ stl L, l.length = 69 ∧ one l = true := by
  intro l hl
  obtain ⟨s, hs, rfl⟩ := List.mem_map.1 hl
  exact ⟨St.c_length (hL s hs), St.c_one s⟩
theorem stl_app (a : List St) (s : St) : (stl (a ++ [s])).flatten = (stl a).flatten ++ s.c := by simp [stl]
/-- The openings' paths. -/
def Ops (L : List St) : Fact := fun D w => ∀ s ∈ L, OpF s.o D w
theorem Ops.stable {L : List St} : Stable (Ops L) := fun D D' w w' hD hw h s hs => OpF.stable D D' w w' hD hw (h s hs)
/-- A slice of steps. -/
def StS (A : Option Addr) (n cap : Nat) (L : List St) : Fact := fun D w => Sl 69 A n cap (stl L) D w ∧ Ops L D w
theorem StS.stable {A : Option Addr} {n cap : Nat} {L : List St} : Stable (StS A n cap L) := fun D D' w w' hD hw h => ⟨Sl.stable D D' w w' hD hw h.1, Ops.stable D D' w w' hD hw h.2⟩
/-- A call that hands back steps of its own, and an errno. -/
def RSt (w : World) (L : List SX) (er : Int) : Ending → World → Prop := fun e w' =>
  ∃ A cap S, S.map St.x = L ∧ e = .returned (.tuple #[.slice A L.length cap, .int .i64 er]) ∧ Below w.heap.size w w' ∧ StS A L.length cap S (fun k => w.heap.size ≤ k ∧ k < w'.heap.size) w'

/-! ### What it makes -/
def hd0 : Hd := ⟨0, z8, z8, 0⟩
def ox0 : OpX := (0, 0, [])
def stepAt (t : List UInt8) (l : List Bl) (ps : List Int) (k : Nat) : SX × Int :=
  if ps.getD k 0 < 0 ∨ l.length ≤ ps.getD k 0 then ((hd0, ox0), 15) else
  if k = 0 then (((l.getD (ps.getD k 0).toNat bl0).h, ox0), 0) else
  if Mp.index (levs t l) (ps.getD k 0) (ps.getD (k - 1) 0) < 0 then ((hd0, ox0), 10) else
  (((l.getD (ps.getD k 0).toNat bl0).h, (opR ((vecA t l (ps.getD k 0).toNat).map (76 :: ·)) (Mp.index (levs t l) (ps.getD k 0) (ps.getD (k - 1) 0))).1), (opR ((vecA t l (ps.getD k 0).toNat).map (76 :: ·)) (Mp.index (levs t l) (ps.getD k 0) (ps.getD (k - 1) 0))).2)
def stepsGo (t : List UInt8) (l : List Bl) (ps : List Int) : Nat → Nat → List SX → List SX × Int
  | 0, _, acc => (acc, 0)
  | r + 1, k, acc => if (stepAt t l ps k).2 ≠ 0 then ([], (stepAt t l ps k).2) else stepsGo t l ps r (k + 1) (acc ++ [(stepAt t l ps k).1])
def stepsR (t : List UInt8) (l : List Bl) (ps : List Int) : List SX × Int := stepsGo t l ps ps.length 0 []

section
variable {c : Cx} {n : Nat} {σ : Env} {H : List Res} {K : List Fact}
/-- The ends. -/
theorem retSt0 {fn : Func} {s u : Nat} {er : Int} (hr : fn.results = #[.tmp s, .tmp u]) (hv : σ s = .slice none 0 0) (hv' : σ u = .int .i64 er) (hS : c.S = []) : ∀ w, M c H K w → post c.P fn n (RSt c.w0 [] er) .ret σ w :=
  ret2 hr hv hv' fun w hm => ⟨none, 0, [], rfl, rfl, hm.below hS, Sl.nil, fun s h => by cases h⟩
theorem retSt {fn : Func} {s u m : Nat} {A : Option Addr} {cap : Nat} {S : List St} {L : List SX} (i k : Nat) (hr : fn.results = #[.tmp s, .tmp u]) (hv : σ s = .slice A m cap) (hv' : σ u = .int .i64 0) (hS : c.S = [])
    (hi : H[i]? = some (.row (.slice A m cap) T_api_Step 69 m (stl S).flatten)) (hm0 : S.length = m) (hok : ∀ s ∈ S, s.h.ok) (hk : K[k]? = some (Fr c.w0.heap.size (Ops S))) (hL : S.map St.x = L) : ∀ w, M c H K w → post c.P fn n (RSt c.w0 L 0) .ret σ w :=
  ret2 hr hv hv' fun w hm => by
    have hLl : L.length = m := by rw [← hL, List.length_map, hm0]
    obtain ⟨A', cap', hA, hs⟩ := row_sl (hm.get hi) (stl_ok hok) (by rw [stl_length, hm0])
    obtain ⟨rfl, rfl⟩ : A = A' ∧ cap = cap' := by simpa using hA
    obtain ⟨D, d1, d2, d3, d4, d5⟩ := hm.data
    have ho : Fr c.w0.heap.size (Ops S) D w := KAll.at d5 hk
    refine ⟨A, cap, S, hL, by rw [hLl], hm.below hS, ?_, ?_⟩
    · rw [hLl]
      exact hs _ fun b hb => by
        have := World.ownsRow.lt (hm.get hi) b hb
        exact ⟨this.1, this.2⟩
    · exact Ops.stable _ _ w w (fun k hk => ⟨hk.2, d3 k hk.1⟩) (fun _ _ _ => rfl) ho
end
end Go.Proofs.YtmcapgjdflohfaaGreat.L

namespace Go.Proofs.YtmcapgjdflohfaaGreat.L
open Go Go.RowKit
set_option linter.unusedVariables false

theorem bldSt {c : Cx} {σ : Env} {H : List Res} {K : List Fact} {d : Option Tmp} {t : TypeId} {p : String} {af : Array Edge} {g : Option (Nat × Bool)} {parts : Array (Nat × Operand)} (hP : c.P = PP) (h : Hd) (hh : h.ok)
    (hps : (parts.toList.map fun (i, x) => (i, ev σ x)) = [(0, ag h.c)]) :
    Det c σ H K ⟨d, .build T_api_Step parts, t, p, af, g⟩ (ag (St.mk h op0).c) := by
  refine bldT (pl := _) (by rw [hP]; exact z_api_Step) (by rw [hP]; exact u_api_Step) (fun w => by rw [hP]; exact run_placesS PP w (by kernel_rfl)) hps ?_
  refine fill_cat (o := 0) (s := 66) (vs := h.c) (by kernel_rfl) rfl rfl (Hd.c_length hh) (by simp) ?_
  rfl
theorem st_set {h : Hd} (hh : h.ok) (o : Opn) : (St.mk h op0).c.take (0 + 66) ++ o.c ++ (St.mk h op0).c.drop (0 + 66 + o.c.length) = (St.mk h o).c := by
  have e := Hd.c_length hh
  simp only [St.c]
  rw [show 0 + 66 = h.c.length by omega, List.take_left, List.drop_append, List.drop_of_length_le (by simp), show h.c.length + o.c.length - h.c.length = 3 by rw [Opn.c_length]; omega]
  simp [op0, Opn.c]
theorem steps_err {t : List UInt8} {l : List Bl} {ps : List Int} {k : Nat} {acc : List SX} {r : Nat} {e : Int} (hr : ps.length - k = r + 1) (h : stepsGo t l ps (ps.length - k) k acc = stepsR t l ps) (he : (stepAt t l ps k).2 = e) (h0 : e ≠ 0) : stepsR t l ps = ([], e) := by
  rw [← h, hr, stepsGo, he, if_pos h0]
theorem steps_ok {t : List UInt8} {l : List Bl} {ps : List Int} {k : Nat} {acc : List SX} {x : SX} (hk : k < ps.length) (h : stepsGo t l ps (ps.length - k) k acc = stepsR t l ps) (he : stepAt t l ps k = (x, 0)) : stepsGo t l ps (ps.length - (k + 1)) (k + 1) (acc ++ [x]) = stepsR t l ps := by
  rw [← h, show ps.length - k = (ps.length - (k + 1)) + 1 by omega, stepsGo, he, if_neg (by simp)]

set_option maxRecDepth 8000 in
set_option maxHeartbeats 1600000 in
theorem prove_Steps_ (t : List UInt8) (ht : t.length = 32) (l : List Bl) (hlb : ∀ b ∈ l, b.h.ok) (hn : l.length ≤ 10000) (ps : List Int) (hpn : ps.length ≤ 100000) (A P : Option Addr) (cap pc : Nat) (D : Nat → Prop) (w : World) (hD : ∀ k, D k → k < w.heap.size) (hs : Sl 67 A l.length cap (bl l) D w) (hs2 : Sl 1 P ps.length pc (il ps) D w) :
    Calls PP N_prove_Steps #[ag (b8 t), .slice A l.length cap, .slice P ps.length pc] w (RSt w (stepsR t l ps).1 (stepsR t l ps).2) := by
  refine enter f_prove_Steps rfl n_prove_Steps rfl (M.init PP w D [] [Sl 67 A l.length cap (bl l), Sl 1 P ps.length pc (il ps)] ⟨Sl.stable, Sl.stable, trivial⟩ hD ⟨hs, hs2, trivial⟩) ?_
  obtain ⟨Lv, hLv⟩ : ∃ x, levs t l = x := ⟨_, rfl⟩
  have hLl : Lv.length = l.length := by rw [← hLv, levs_length]
  refine seq (region (box rfl rfl rfl fun b0 => det rfl (asg rfl) (det rfl (asg rfl) (nilS ?_))))   -- region 0
  refine seq (drawP [(0, false), (1, false), (3, false), (4, false), (2, true), (5, true), (6, false), (7, false)] mix (by kernel_rfl) (by kernel_rfl) ?_)   -- drawn 1
  refine nP 0 rfl rfl (ldAll 0 rfl rfl g_api_Hash (by rw [b8_length]; exact ht)) ?_
  refine nP 1 rfl rfl (mv rfl) ?_
  refine nP 3 rfl rfl (ldAll 0 rfl rfl g_api_Hash (by rw [b8_length]; exact ht)) ?_
  refine nP 4 rfl rfl (mv rfl) ?_
  refine sP 2 (k := l.length) (sz := 1) (ls := il Lv) (by rw [il_length, hLl]) rfl k_chain_Levels (show _ = [ag (b8 t), Value.slice A l.length cap] from rfl) rfl (fun w hm => by
    obtain ⟨D, d1, d2, hD, d4, d5⟩ := hm.data
    have := chain_Levels_ t ht l (by omega) hlb A cap D w hD d5.1
    rw [hLv] at this; exact this) fun B q => ?_
  refine vP 5 (k := l.length + 1) (ls := vecsA t l l.length) (vecsA_length _ _ _) rfl k_chain_Vectors (show _ = [ag (b8 t), Value.slice A l.length cap] from rfl) rfl (fun w hm => by
    obtain ⟨D, d1, d2, hD, d4, d5⟩ := hm.data
    exact chain_Vectors_ t ht l (by omega) hlb A cap D w hD d5.2.1) fun V vq Lx => ?_
  refine nP 6 rfl rfl (asg rfl) ?_
  refine nP 7 rfl rfl (asg rfl) ?_
  refine endP rfl (nilS ?_)
  obtain ⟨L, hL⟩ : ∃ L, L = Lx.1 := ⟨_, rfl⟩
  have hLm := Lx.2
  rw [← hL] at hLm ⊢
  have hVl : L.length = l.length + 1 := by rw [← List.length_map (f := Vc.xs), hLm, vecsA_length]
  refine seq (region (det rfl (asg rfl) (nilS ?_)))   -- region 2
  refine seq ?_
  refine seq (region (det rfl (mv rfl) (det rfl (lenS u_sl_int rfl) (det rfl (mv rfl) (nilS ?_)))))   -- region 3
  refine block ?_   -- block 0
  refine loopV (ι := Nat × Option Addr × Nat × List St) (fun (k, _, _, S) => k ≤ ps.length ∧ S.length = k ∧ (∀ s ∈ S, s.h.ok) ∧ stepsGo t l ps (ps.length - k) k (S.map St.x) = stepsR t l ps)
    (fun (k, E, r, S) => [(1, .slice A l.length cap), (2, .slice P ps.length pc), (8, .slice B l.length q), (9, .slice V (l.length + 1) vq), (10, .slice E k r), (23, .slice P ps.length pc), (24, .int .i64 ps.length), (25, .int .i64 k)])
    (fun (k, E, r, S) => [.row (.slice E k r) T_api_Step 69 k (stl S).flatten])
    (fun (k, E, r, S) => [Fr w.heap.size (Ops S), Sl 1 B l.length q (il Lv), Sl 1 V (l.length + 1) vq (vl L), Vs L, Sl 67 A l.length cap (bl l), Sl 1 P ps.length pc (il ps)])
    (fun (k, _, _, _) => ps.length - k) (0, none, 0, []) ⟨by omega, rfl, (fun s h => nomatch h), rfl⟩ ⟨rfl, rfl, rfl, rfl, rfl, rfl, rfl, rfl, trivial⟩ (fun w hm => by
      have h1 := hm.sub (List.nil_sublist _)
      exact (h1.nilRow T_api_Step 69).refact ⟨Fr.stable Ops.stable, Sl.stable, Sl.stable, Vs.stable, Sl.stable, Sl.stable, trivial⟩ fun D h => ⟨(fun s hs => nomatch hs), h.2.1, h.1.1, h.1.2, h.2.2.1, h.2.2.2.1, trivial⟩) ?_
  rintro ⟨k, E, r, S⟩ σ ⟨hk, hSl, hSok, hgo⟩
  dsimp only at hk hSl hSok hgo ⊢
  refine seq (region (det rfl (lss rfl rfl) (nilS ?_)))   -- region 4
  refine seq ?_
  refine cond rfl (fun h => ?_) (fun h => ?_)   -- on t26
  · have h := of_decide_eq_true h
    have hkl : k < ps.length := by omega
    obtain ⟨a, ha⟩ : ∃ a, ps.getD k 0 = a := ⟨_, rfl⟩
    have hrr : ps.length - k = (ps.length - (k + 1)) + 1 := by omega
    refine skipS ?_
    refine seq ?_
    refine block ?_   -- block 1
    refine seq (region (det rfl (mv rfl) (det rfl (ixS 5 rfl rfl u_sl_int s_int rfl (by omega) (by omega)) (det rfl (ldSO 5 (v := .int .i64 a) rfl rfl o_int (by rw [← ha]; exact il_at (by omega) hkl)) (det rfl (asg rfl) (det rfl (asg rfl) (nilS ?_)))))))   -- region 5
    refine seq ?_
    refine seq (region (det rfl (mv rfl) (det rfl (lss rfl rfl) (det rfl (mv rfl) (guardI rfl rfl rfl (fun hb => mv rfl) (guardI rfl rfl rfl (fun hb => mv rfl) (guardI rfl rfl rfl (fun hb => lenS u_sl_api_Block (bift hb rfl)) (guardI rfl rfl rfl (fun hb => geq (bift hb rfl) (bift hb rfl)) (det rfl (pick rfl (pickO rfl)) (nilS ?_))))))))))   -- region 6
    refine cond rfl (fun h => ?_) (fun h => ?_)   -- on t37
    · have h : (decide (a < 0) || decide ((l.length : Int) ≤ a)) = true := h
      simp only [Bool.or_eq_true, decide_eq_true_eq] at h
      have e := steps_err hrr hgo (show (stepAt t l ps k).2 = 15 by rw [stepAt, ha, if_pos h]) (by decide)
      rw [e]
      refine seq (region (det rfl (asg rfl) (det rfl (asg rfl) (nilS ?_))))   -- region 7
      exact ret (retSt0 rfl rfl rfl rfl)
    · have h : (decide (a < 0) || decide ((l.length : Int) ≤ a)) = false := h
      simp only [Bool.or_eq_false_iff, decide_eq_false_iff_not] at h
      obtain ⟨j, rfl⟩ : ∃ j : Nat, a = (j : Int) := ⟨a.toNat, by omega⟩
      have hj : j < l.length := by omega
      obtain ⟨hd, hhd⟩ : ∃ hd, (l.getD j bl0).h = hd := ⟨_, rfl⟩
      have hhd2 : (l[j]).h = hd := by rw [← hhd, getB hj]
      have hok : hd.ok := by rw [← hhd2]; exact hlb _ (List.getElem_mem hj)
      refine forget [(1, .slice A l.length cap), (2, .slice P ps.length pc), (8, .slice B l.length q), (9, .slice V (l.length + 1) vq), (10, .slice E k r), (11, .int .i64 k), (12, .int .i64 (j : Int)), (23, .slice P ps.length pc), (24, .int .i64 ps.length), (25, .int .i64 k)] ⟨rfl, rfl, rfl, rfl, rfl, rfl, rfl, rfl, rfl, rfl, trivial⟩ fun σ => ?_
      refine skipS ?_
      refine seq (region (det rfl (mv rfl) (det rfl (mv rfl) (det rfl (ixS 4 rfl rfl u_sl_api_Block s_api_Block rfl (by omega) (by omega)) (det rfl (fadrS 4 rfl u_api_Block rfl s_api_Header rfl (by omega)) (det rfl (ldSP 4 (i := j) (o := 0) (r := hd.c) (by first | rfl | (show at_ _ _ = at_ _ _; congr 1; omega)) rfl g_api_Header (bl_at rfl hj) (by rw [← hhd2]; exact Bl.at_h (by rw [hhd2]; exact hok)) (Hd.c_length hok)) (det rfl (bldSt rfl hd hok rfl) (alloc z_api_Step rfl rfl fun b1 => stoA 0 (rs := (St.mk hd op0).c) rfl rfl rfl s_api_Step (St.c_length hok) (St.c_one _) rfl (nilS ?_)))))))))   -- region 8
      refine seq ?_
      refine seq (region (det rfl (mv rfl) (det rfl (gtr rfl rfl) (nilS ?_))))   -- region 9
      refine cond rfl (fun h0 => ?_) (fun h0 => ?_)   -- on t45
      · have h0 := of_decide_eq_true h0
        obtain ⟨b, hb⟩ : ∃ b, ps.getD (k - 1) 0 = b := ⟨_, rfl⟩
        obtain ⟨z, hz⟩ : ∃ z, Mp.index Lv j b = z := ⟨_, rfl⟩
        refine seq (region (det rfl (mv rfl) (det rfl (mv rfl) (det rfl (mv rfl) (det rfl (mv rfl) (det rfl (subI rfl rfl (by omega) (by omega)) (det rfl (ixS 5 rfl rfl u_sl_int s_int rfl (by omega) (by omega)) (det rfl (ldSO 5 (v := .int .i64 b) rfl rfl o_int (by rw [← hb]; exact il_at (by omega) (by omega))) (call (v := .int .i64 z) k_down_Index (show _ = [Value.slice B l.length q, .int .i64 (j : Int), .int .i64 b] from rfl) rfl (fun w hm => by
          obtain ⟨D, hD, hs⟩ := hm.sl (k := 1) rfl
          have := down_Index_ Lv (by omega) j b B q D w hD (by rw [hLl]; exact hs) (Nat.le_trans (Mp.all_len _ _) (by decide))
          rw [hLl, hz] at this; exact this) (det rfl (asg rfl) (nilS ?_)))))))))))   -- region 10
        refine seq ?_
        refine seq (region (det rfl (mv rfl) (det rfl (lss rfl rfl) (nilS ?_))))   -- region 11
        refine cond rfl (fun h1 => ?_) (fun h1 => ?_)   -- on t55
        · have h1 := of_decide_eq_true h1
          have e := steps_err hrr hgo (show (stepAt t l ps k).2 = 10 by rw [stepAt, ha, if_neg (by omega), if_neg (by omega), hb, hLv, hz, if_pos h1]) (by decide)
          rw [e]
          refine seq (region (det rfl (asg rfl) (det rfl (asg rfl) (nilS ?_))))   -- region 12
          exact ret (retSt0 rfl rfl rfl rfl)
        · have h1 := of_decide_eq_false h1
          obtain ⟨v, hv⟩ : ∃ v, L[j]'(by omega) = v := ⟨_, rfl⟩
          have hvm : v ∈ L := by rw [← hv]; exact List.getElem_mem _
          have hvx : v.xs = vecA t l j := by
            have : (L.map Vc.xs)[j]'(by rw [List.length_map]; omega) = (vecsA t l l.length)[j]'(by rw [vecsA_length]; omega) := by congr 1
            rw [List.getElem_map, hv] at this
            rw [this]; simp [vecsA]
          have hvo := vecA_ok t l j
          obtain ⟨o, ho⟩ : ∃ o, opR ((vecA t l j).map (76 :: ·)) z = o := ⟨_, rfl⟩
          obtain ⟨⟨oi, on, op⟩, er⟩ := o
          have hst : stepAt t l ps k = ((hd, (oi, on, op)), er) := by
            rw [stepAt, ha, if_neg (by omega), if_neg (by omega), hb, hLv, hz, if_neg (by omega), Int.toNat_natCast, ho, hhd]
          refine skipS ?_
          refine seq (region (det rfl (mv rfl) (det rfl (mv rfl) (det rfl (ixS 2 rfl rfl u_sl_sl_api_Hash s_sl_api_Hash rfl (by omega) (by omega)) (det rfl (ldSO 2 (v := .slice v.A v.xs.length v.cap) rfl rfl o_sl_api_Hash (by have := vl_at (L := L) (o := j) rfl (by omega); rw [hv] at this; exact this)) (det rfl (mv rfl) (callOp (x := (oi, on, op)) (er := er) k_link_Open (show _ = [Value.slice v.A v.xs.length v.cap, .int .i64 z] from rfl) rfl (fun w hm => by
            obtain ⟨D, d1, d2, hD, d4, d5⟩ := hm.data
            have := link_Open_ v.xs (by rw [hvx]; omega) (by rw [hvx]; exact hvo.2) z v.A v.cap D w hD (d5.2.2.2.1 v hvm)
            rw [hvx, ho] at this; rw [hvx]; exact this) fun C cq => det rfl (mv rfl) (det rfl (extr rfl rfl) (det rfl (extr rfl rfl) (alloc z_api_Opening rfl rfl fun b2 => stoA 0 (rs := (mkO (oi, on, op) C cq).c) rfl rfl rfl s_api_Opening rfl rfl rfl (det rfl (asg rfl) (nilS ?_))))))))))))   -- region 13
          refine seq ?_
          refine seq (region (det rfl (mv rfl) (det rfl (neq rfl rfl) (nilS ?_))))   -- region 14
          by_cases h2 : er = 0
          · subst h2
            refine condF rfl ?_
            refine skipS ?_
            refine region (det rfl (ldAll 0 rfl rfl g_api_Opening rfl) (det rfl (fadr rfl u_api_Step rfl s_api_Opening) (sto 1 (vs := (mkO (oi, on, op) C cq).c) (rs := (St.mk hd (mkO (oi, on, op) C cq)).c) rfl rfl rfl rfl s_api_Opening rfl (show 0 + 66 + 3 ≤ _ by rw [St.c_length hok]; decide) (st_set hok _) (nil ?_))))   -- region 16
            show Tr _ _ _ _ _ _ _
            refine region (det rfl (mv rfl) (det rfl (ldAll 1 rfl rfl g_api_Step (St.c_length hok)) (bsl rfl (bs1 u_sl_api_Step z_api_Step s_api_Step (cs := (St.mk hd (mkO (oi, on, op) C cq)).c) rfl rfl (St.c_length hok) (by decide) (by decide)) fun b3 => appB 3 0 u_sl_api_Step i_api_Step rfl (by decide) rfl rfl rfl rfl (St.c_length hok) (St.c_one _) (by simp only [maxLen]; omega) (by omega) rfl fun A cap => det rfl (asg rfl) (nil ?_))))   -- region 17
            show Tr _ _ _ _ _ _ _
            refine region (det rfl (addI rfl rfl (by omega) (by omega)) (det rfl (mv rfl) (nil ?_)))   -- region 18
            refine again (k + 1, _, _, S ++ [St.mk hd (mkO (oi, on, op) C cq)]) ⟨by (first | omega | (dsimp only; omega)), by simp [hSl], fun s hs => (List.mem_append.1 hs).elim (hSok s) fun h => by rw [List.mem_singleton.1 h]; exact hok, by
              rw [List.map_append]; exact steps_ok hkl hgo hst⟩ ⟨rfl, rfl, rfl, rfl, rfl, rfl, rfl, rfl, trivial⟩ (fun w hm => ?_) (by (first | omega | (dsimp only; omega)))
            dsimp only
            rw [stl_app]
            exact (hm.sub (.cons _ (.cons _ (.cons _ (.cons_cons _ (List.nil_sublist _)))))).refact ⟨Fr.stable Ops.stable, Sl.stable, Sl.stable, Vs.stable, Sl.stable, Sl.stable, trivial⟩ fun D h => ⟨fun s hs => (List.mem_append.1 hs).elim (h.2.1 s) fun h' => by rw [List.mem_singleton.1 h']; exact h.1, h.2.2⟩
          · refine condT (by show Value.bool (!decide (er = 0)) = _; rw [decide_eq_false h2]; rfl) ?_
            have e := steps_err hrr hgo (show (stepAt t l ps k).2 = er by rw [hst]) h2
            rw [e]
            refine seq (region (det rfl (mv rfl) (det rfl (asg rfl) (det rfl (asg rfl) (nilS ?_)))))   -- region 15
            exact ret (retSt0 rfl rfl rfl rfl)
      · have h0 := of_decide_eq_false h0
        obtain rfl : k = 0 := by omega
        have hst : stepAt t l ps 0 = ((hd, ox0), 0) := by
          rw [stepAt, ha, if_neg (by omega), if_pos rfl, Int.toNat_natCast, hhd]
        refine skipS ?_
        refine region (det rfl (mv rfl) (det rfl (ldAll 0 rfl rfl g_api_Step (St.c_length hok)) (bsl rfl (bs1 u_sl_api_Step z_api_Step s_api_Step (cs := (St.mk hd op0).c) rfl rfl (St.c_length hok) (by decide) (by decide)) fun b3 => appB 2 0 u_sl_api_Step i_api_Step rfl (by decide) rfl rfl rfl rfl (St.c_length hok) (St.c_one _) (by simp only [maxLen]; omega) (by omega) rfl fun A cap => det rfl (asg rfl) (nil ?_))))   -- region 17
        show Tr _ _ _ _ _ _ _
        refine region (det rfl (addI rfl rfl (by omega) (by omega)) (det rfl (mv rfl) (nil ?_)))   -- region 18
        refine again (0 + 1, _, _, S ++ [St.mk hd op0]) ⟨by (first | omega | (dsimp only; omega)), by simp [hSl], fun s hs => (List.mem_append.1 hs).elim (hSok s) fun h => by rw [List.mem_singleton.1 h]; exact hok, by
          rw [List.map_append]; exact steps_ok hkl hgo hst⟩ ⟨rfl, rfl, rfl, rfl, rfl, rfl, rfl, rfl, trivial⟩ (fun w hm => ?_) (by (first | omega | (dsimp only; omega)))
        dsimp only
        rw [stl_app]
        exact (hm.sub (.cons _ (.cons _ (.cons_cons _ (List.nil_sublist _))))).refact ⟨Fr.stable Ops.stable, Sl.stable, Sl.stable, Vs.stable, Sl.stable, Sl.stable, trivial⟩ fun D h => ⟨fun s hs => (List.mem_append.1 hs).elim (h.1 s) fun h' => by rw [List.mem_singleton.1 h']; exact OpF.zero, h.2⟩
  · have h := of_decide_eq_false h
    obtain rfl : k = ps.length := by omega
    rw [Nat.sub_self] at hgo
    have hgo : (S.map St.x, 0) = stepsR t l ps := hgo
    rw [← hgo]
    refine exit ?_   -- 0
    show Tr _ _ _ _ _ _ _
    refine seq (region (det rfl (mv rfl) (det rfl (asg rfl) (det rfl (asg rfl) (nilS ?_)))))   -- region 19
    exact ret (retSt (S := S) 0 0 rfl rfl rfl rfl rfl hSl hSok rfl rfl)

section
variable {c : Cx} {n : Nat} {Q : Exit → Env → World → Prop} {σ : Env} {H : List Res} {K : List Fact}
variable {t : TypeId} {p : String} {af : Array Edge}
theorem StS.mono {A : Option Addr} {n cap : Nat} {L : List St} {D D' : Nat → Prop} {w : World} (h : StS A n cap L D w) (hD : ∀ k, D k → D' k) : StS A n cap L D' w := StS.stable D D' w w hD (fun _ _ _ => rfl) h
/-- Calls that hand back steps and an errno. -/
theorem rst_learn {w w' : World} {e : Ending} {L : List SX} {er : Int} (hm : M c H K w) (h : RSt w L er e w') : ∃ q : Option Addr × Nat × {S : List St // S.map St.x = L}, e = .returned (.tuple #[.slice q.1 L.length q.2.1, .int .i64 er]) ∧ M c H (Fr c.w0.heap.size (StS q.1 L.length q.2.1 q.2.2.1) :: K) w' := by
  obtain ⟨A, cap, S, hS, he, hb, hs⟩ := h
  exact ⟨(A, cap, ⟨S, hS⟩), he, hm.learn (Fr.stable StS.stable) (grown_below hb) (fun D _ => hs.mono fun k hk => ⟨.inr hk, Nat.le_trans hm.size hk.1⟩)⟩
theorem callSt {ops : Array Oper} {d : Nat} {f : FuncId} {args : Array Operand} {ats : Array TypeId} {vs : List Value} {l : List Oper} {L : List SX} {er : Int} (hf : Fn c.P f) (ha : args.toList.map (ev σ) = vs) (hd : Nat.blt d n = true)
    (spec : ∀ w, M c H K w → Calls c.P f vs.toArray w (RSt w L er)) (h : ∀ A cap (S : {S : List St // S.map St.x = L}), TL c n ops l Q (upd σ d (.tuple #[.slice A L.length cap, .int .i64 er])) H (Fr c.w0.heap.size (StS A L.length cap S.1) :: K)) :
    TL c n ops (⟨some d, .call { callee := .value (.func f), args := args, argTypes := ats }, t, p, af, none⟩ :: l) Q σ H K :=
  callX (β := Option Addr × Nat × {S : List St // S.map St.x = L}) (fun q => .tuple #[.slice q.1 L.length q.2.1, .int .i64 er]) (fun _ => H) (fun q => Fr c.w0.heap.size (StS q.1 L.length q.2.1 q.2.2.1) :: K) hf ha hd
    (fun w hm => (spec w hm).mono fun e w' h => rst_learn hm h) (fun q => h q.1 q.2.1 q.2.2)
theorem stI [NoP Q] {ops : Array Oper} {m i : Nat} {calls : List Nat} {l : List Oper} {d : Nat} {fid : FuncId} {args : Array Operand} {ats : Array TypeId} {vs : List Value} {L : List SX} {er : Int}
    (him : Nat.blt i m = true) (hc : calls.contains i = true) (hf : Fn c.P fid) (ha : args.toList.map (ev σ) = vs) (hd : Nat.blt d n = true)
    (spec : ∀ w, M c H K w → Calls c.P fid vs.toArray w (RSt w L er))
    (h : ∀ A cap (S : {S : List St // S.map St.x = L}), HI c n ops Q m calls (i + 1) l (upd σ d (.tuple #[.slice A L.length cap, .int .i64 er])) H (Fr c.w0.heap.size (StS A L.length cap S.1) :: K)) : HI c n ops Q m calls i (⟨some d, .call { callee := .value (.func fid), args := args, argTypes := ats }, t, p, af, none⟩ :: l) σ H K :=
  cI (β := Option Addr × Nat × {S : List St // S.map St.x = L}) (fun q => .tuple #[.slice q.1 L.length q.2.1, .int .i64 er]) (fun _ => H) (fun q => Fr c.w0.heap.size (StS q.1 L.length q.2.1 q.2.2.1) :: K) him hc hf ha hd
    (fun w hm => (spec w hm).mono fun e w' h => rst_learn hm h) (fun _ _ hm => hm.more) (fun q => h q.1 q.2.1 q.2.2)
/-- Steps that are new, handed back. -/
theorem retStF {fn : Func} {s u : Nat} {A : Option Addr} {cap : Nat} {S : List St} {L : List SX} {er : Int} (k : Nat) (hr : fn.results = #[.tmp s, .tmp u]) (hv : σ s = .slice A L.length cap) (hv' : σ u = .int .i64 er) (hS : c.S = [])
    (hk : K[k]? = some (Fr c.w0.heap.size (StS A L.length cap S))) (hL : S.map St.x = L) : ∀ w, M c H K w → post c.P fn n (RSt c.w0 L er) .ret σ w :=
  ret2 hr hv hv' fun w hm => by
    obtain ⟨D, d1, d2, d3, d4, d5⟩ := hm.data
    have ho : Fr c.w0.heap.size (StS A L.length cap S) D w := KAll.at d5 hk
    exact ⟨A, cap, S, hL, rfl, hm.below hS, StS.mono ho fun k hk => ⟨hk.2, d3 k hk.1⟩⟩
end

def proveR (c : Cf) (l : List Bl) : List SX × Int := if mayPr c l ≠ 0 then ([], mayPr c l) else stepsR c.t l (placesR c l)
theorem prove_Prove_ (c : Cf) (hc : c.ok) (hfit : c.fit) (l : List Bl) (hlb : ∀ b ∈ l, Bok b) (hn : l.length ≤ 10000) (A : Option Addr) (cap : Nat) (D : Nat → Prop) (w : World) (hD : ∀ k, D k → k < w.heap.size) (hs : Sl 67 A l.length cap (bl l) D w) (ht : Txs l D w) :
    Calls PP N_prove_Prove #[ag c.c, .slice A l.length cap] w (RSt w (proveR c l).1 (proveR c l).2) := by
  refine enter f_prove_Prove rfl n_prove_Prove rfl (M.init PP w D [] [Sl 67 A l.length cap (bl l), Txs l] ⟨Sl.stable, Txs.stable, trivial⟩ hD ⟨hs, ht, trivial⟩) ?_
  obtain ⟨e, he⟩ : ∃ e, mayPr c l = e := ⟨_, rfl⟩
  rw [proveR, he]
  refine seq (region (box rfl rfl rfl fun b0 => det rfl (asg rfl) (det rfl (asg rfl) (nilS ?_))))   -- region 0
  refine seq ?_
  refine seq (region (det rfl (ldAll 0 rfl rfl g_api_Config (Cf.c_length hc)) (det rfl (mv rfl) (call (v := .int .i64 e) k_prove_May rfl rfl (fun w hm => by
    obtain ⟨D, d1, d2, hD, d4, d5⟩ := hm.data
    exact he ▸ prove_May_ c hc l hlb (by omega) A cap D w hD d5.1 d5.2.1) (det rfl (asg rfl) (nilS ?_))))))   -- region 1
  refine seq (region (det rfl (mv rfl) (det rfl (neq rfl rfl) (nilS ?_))))   -- region 2
  by_cases h0 : e = 0
  · subst h0
    refine condF rfl ?_
    rw [if_neg (by simp)]
    obtain ⟨R, hR⟩ : ∃ R, placesR c l = R := ⟨_, rfl⟩
    have hRl : R.length ≤ 100000 := by
      have := placesR_len c l
      rw [hR] at this; omega
    rw [hR]
    obtain ⟨⟨L, er⟩, hL⟩ : ∃ L, stepsR c.t l R = L := ⟨_, rfl⟩
    rw [hL]
    refine skipS ?_
    refine seq (drawI 11 [5, 6] mix (by kernel_rfl) (by kernel_rfl) ?_)   -- drawn 4
    refine nI rfl rfl rfl (fadr rfl u_api_Config rfl s_api_Hash) ?_
    refine nI rfl rfl rfl (ldA 0 rfl rfl g_api_Hash (r := b8 c.t) (Cf.at_t' hc) (by rw [b8_length]; exact hc.2)) ?_
    refine nI rfl rfl rfl (mv rfl) ?_
    refine nI rfl rfl rfl (ldAll 0 rfl rfl g_api_Config (Cf.c_length hc)) ?_
    refine nI rfl rfl rfl (mv rfl) ?_
    refine sI (k := R.length) (sz := 1) (ls := il R) (il_length R) rfl rfl k_prove_Places (show _ = [ag c.c, Value.slice A l.length cap] from rfl) rfl (fun w hm => by
      obtain ⟨D, d1, d2, hD, d4, d5⟩ := hm.data
      have := prove_Places_ c hc hfit l hlb hn A cap D w hD d5.1
      rw [hR] at this; exact this) fun B q => ?_
    refine stI (L := L) (er := er) rfl rfl k_prove_Steps (show _ = [ag (b8 c.t), Value.slice A l.length cap, .slice B R.length q] from rfl) rfl (fun w hm => by
      obtain ⟨D, d1, d2, hD, d4, d5⟩ := hm.data
      have := prove_Steps_ c.t hc.2 l (fun b hb => (hlb b hb).1) hn R hRl A B cap q D w hD d5.2.1 d5.1
      rw [hL] at this; exact this) fun C r S => ?_
    refine nI rfl rfl rfl (extr rfl rfl) ?_
    refine nI rfl rfl rfl (extr rfl rfl) ?_
    refine nI rfl rfl rfl (asg rfl) ?_
    refine nI rfl rfl rfl (asg rfl) ?_
    refine endI rfl (nilS ?_)
    exact ret (retStF 0 rfl rfl rfl rfl rfl S.2)
  · refine condT (by show Value.bool (!decide (e = 0)) = _; rw [decide_eq_false h0]; rfl) ?_
    rw [if_pos h0]
    refine seq (region (det rfl (mv rfl) (det rfl (asg rfl) (det rfl (asg rfl) (nilS ?_)))))   -- region 3
    exact ret (retSt0 rfl rfl rfl rfl)
end Go.Proofs.YtmcapgjdflohfaaGreat.L

namespace Go.Proofs.YtmcapgjdflohfaaGreat.L
open Go Go.RowKit
set_option linter.unusedVariables false

def holdMay (x : OpX) : Int := if x.2.1 < 1 ∨ 1048576 < x.2.1 ∨ x.1 < 0 ∨ x.2.1 ≤ x.1 then 3 else if (x.2.2.length : Int) ≠ depthR x.2.1 x.1 then 2 else 0
set_option maxRecDepth 8000 in
theorem hold_May_ (o : Opn) : Pure PP N_hold_May #[ag o.c] (.int .i64 (holdMay o.x)) := by
  refine enter0 f_hold_May rfl n_hold_May rfl fun w => ?_
  refine seq (region (box rfl rfl rfl fun b0 => det rfl (asg rfl) (nilS ?_)))   -- region 0
  refine seq ?_
  refine block ?_   -- block 0
  refine seq (region (det rfl (fadr rfl u_api_Opening rfl s_int) (det rfl (ldB 0 (v := .int .i64 o.n) rfl rfl o_int rfl) (det rfl (lss rfl rfl) (det rfl (mv rfl) (guardI rfl rfl rfl (fun hb => fadr rfl u_api_Opening rfl s_int) (guardI rfl rfl rfl (fun hb => ldB 0 (v := .int .i64 o.n) (bift hb rfl) rfl o_int rfl) (guardI rfl rfl rfl (fun hb => gtr (bift hb rfl) rfl) (det rfl (pick rfl (pickO rfl)) (det rfl (mv rfl) (guardI rfl rfl rfl (fun hb => fadr rfl u_api_Opening rfl s_int) (guardI rfl rfl rfl (fun hb => ldB 0 (v := .int .i64 o.i) (bift hb rfl) rfl o_int rfl) (guardI rfl rfl rfl (fun hb => lss (bift hb rfl) rfl) (det rfl (pick rfl (pickO rfl)) (det rfl (mv rfl) (guardI rfl rfl rfl (fun hb => fadr rfl u_api_Opening rfl s_int) (guardI rfl rfl rfl (fun hb => ldB 0 (v := .int .i64 o.i) (bift hb rfl) rfl o_int rfl) (guardI rfl rfl rfl (fun hb => fadr rfl u_api_Opening rfl s_int) (guardI rfl rfl rfl (fun hb => ldB 0 (v := .int .i64 o.n) (bift hb rfl) rfl o_int rfl) (guardI rfl rfl rfl (fun hb => geq (bift hb rfl) (bift hb rfl)) (det rfl (pick rfl (pickO rfl)) (det rfl (asg rfl) (nilS ?_)))))))))))))))))))))))   -- region 1
  refine cond rfl (fun h => ?_) (fun h => ?_)   -- on t3
  · have h : (((decide (o.n < 1) || decide (1048576 < o.n)) || decide (o.i < 0)) || decide (o.n ≤ o.i)) = true := h
    simp only [Bool.or_eq_true, decide_eq_true_eq] at h
    refine seq (region (det rfl (asg rfl) (nilS ?_)))   -- region 2
    exact ret (retT rfl rfl (pr' (vi (by rw [holdMay, if_pos (by simp only [Opn.x]; omega)]))))
  · have h : (((decide (o.n < 1) || decide (1048576 < o.n)) || decide (o.i < 0)) || decide (o.n ≤ o.i)) = false := h
    simp only [Bool.or_eq_false_iff, decide_eq_false_iff_not] at h
    have e : holdMay o.x = if (o.p.length : Int) ≠ depthR o.n o.i then 2 else 0 := by rw [holdMay, if_neg (by simp only [Opn.x]; omega)]; rfl
    rw [e]
    refine forget [(1, .pointer (some ⟨b0, 0, none⟩))] ⟨rfl, trivial⟩ fun σ => ?_
    refine seq (drawI 10 [7] mix (by kernel_rfl) (by kernel_rfl) ?_)   -- drawn 3
    refine nI rfl rfl rfl (fadr rfl u_api_Opening rfl s_sl_api_Hash) ?_
    refine nI rfl rfl rfl (ldB 0 (v := .slice o.A o.p.length o.cap) rfl rfl o_sl_api_Hash rfl) ?_
    refine nI rfl rfl rfl (lenS u_sl_api_Hash rfl) ?_
    refine nI rfl rfl rfl (fadr rfl u_api_Opening rfl s_int) ?_
    refine nI rfl rfl rfl (ldB 0 (v := .int .i64 o.n) rfl rfl o_int rfl) ?_
    refine nI rfl rfl rfl (fadr rfl u_api_Opening rfl s_int) ?_
    refine nI rfl rfl rfl (ldB 0 (v := .int .i64 o.i) rfl rfl o_int rfl) ?_
    refine pI rfl rfl k_shape_Depth (show _ = [Value.int .i64 o.n, .int .i64 o.i] from rfl) rfl (fun w _ => shape_Depth_ o.n o.i (by omega) w) ?_
    refine nI rfl rfl rfl (neq rfl rfl) ?_
    refine nI rfl rfl rfl (asg rfl) ?_
    refine endI rfl (nilS ?_)
    by_cases h2 : (o.p.length : Int) = depthR o.n o.i
    · refine condF (by show Value.bool (!decide _) = _; rw [decide_eq_true h2]; rfl) ?_
      rw [if_neg (by simpa using h2)]
      refine skip ?_
      show Tr _ _ _ _ _ _ _
      refine seq (region (det rfl (asg rfl) (nilS ?_)))   -- region 5
      exact ret (retT rfl rfl pr)
    · refine condT (by show Value.bool (!decide _) = _; rw [decide_eq_false h2]; rfl) ?_
      rw [if_pos h2]
      refine seq (region (det rfl (asg rfl) (nilS ?_)))   -- region 4
      exact ret (retT rfl rfl pr)

/-! ### Up -/
theorem ups_app {H : Type} (N : H → H → H) (at_ : H) (l : List (Bool × H)) (x : Bool × H) : Mp.ups N at_ (l ++ [x]) = Mp.ups N at_ l ++ [(l ++ [x]).foldl (Mp.above N) at_] := by
  induction l generalizing at_ with
  | nil => rfl
  | cons y r ih => simp only [List.cons_append, Mp.ups, List.foldl_cons, ih]
def zipS (o : OpX) : List (Bool × List UInt8) := (Mp.sides o.2.1.toNat o.1.toNat).zip o.2.2
theorem fold_ok {l : List (Bool × List UInt8)} {at_ : List UInt8} (h : at_.length = 32) : (l.foldl (Mp.above nodeS) at_).length = 32 := by
  induction l generalizing at_ with
  | nil => exact h
  | cons x r ih =>
    rw [List.foldl_cons]
    refine ih ?_
    unfold Mp.above
    split <;> exact nodeS_length _ _
theorem hl_one1 (x : List UInt8) : (hl [x]).flatten = b8 x := by simp [hl]

set_option maxHeartbeats 800000 in
theorem hold_Up_ (s : List UInt8) (hsl : s.length ≤ 1000000000) (o : Opn) (ho : ∀ y ∈ o.p, y.length = 32) (hm : holdMay o.x = 0) (D : Nat → Prop) (w : World) (hD : ∀ k, D k → k < w.heap.size) (hs : OpF o D w) :
    Calls PP N_hold_Up #[.string (bs s), ag o.c] w (RS w 32 (hl (Mp.ups nodeS (leafS s) (zipS o.x)))) := by
  refine enter f_hold_Up rfl n_hold_Up rfl (M.init1 PP w OpF.stable hD hs) ?_
  have hm' := hm
  unfold holdMay at hm'
  split at hm'
  · cases hm'
  · rename_i h1
    split at hm'
    · cases hm'
    · rename_i h2
      simp only [Opn.x] at h1 h2
      obtain ⟨N, hN⟩ : ∃ N : Nat, o.n = (N : Int) := ⟨o.n.toNat, by omega⟩
      obtain ⟨I, hI⟩ : ∃ N : Nat, o.i = (N : Int) := ⟨o.i.toNat, by omega⟩
      obtain ⟨Sd, hSd⟩ : ∃ S, Mp.sides N I = S := ⟨_, rfl⟩
      have hpl : o.p.length = Sd.length := by
        rw [depthR, if_pos (by omega), hN, hI, Int.toNat_natCast, Int.toNat_natCast, hSd] at h2
        omega
      have hSl : Sd.length ≤ 30 := by rw [← hSd]; exact Mp.sides_length_le 30 _ _ (by omega)
      have hz : zipS o.x = Sd.zip o.p := by rw [zipS]; simp only [Opn.x, hN, hI, Int.toNat_natCast, hSd]
      obtain ⟨Z, hZ⟩ : ∃ Z, Sd.zip o.p = Z := ⟨_, rfl⟩
      have hZl : Z.length = Sd.length := by rw [← hZ, List.length_zip]; omega
      have hZat : ∀ k (h : k < Sd.length), Z.take (k + 1) = Z.take k ++ [(Sd.getD k false, o.p.getD k [])] := fun k h => by
        rw [List.take_succ, ← hZ, show (Sd.zip o.p)[k]? = some (Sd.getD k false, o.p.getD k []) from List.getElem?_zip_eq_some.2 ⟨(show Sd[k]? = some (Sd.getD k false) by simp [h]), (show o.p[k]? = some (o.p.getD k []) by simp [hpl, h])⟩]; rfl
      rw [hz, hZ]
      have hat : (leafS s).length = 32 := leafS_length s
      refine seq (region (box rfl rfl rfl fun b0 => det rfl (asg rfl) (nilS ?_)))   -- region 0
      refine seq ?_
      refine seq (region (det rfl (ldAll 0 rfl rfl g_api_Opening rfl) (call (v := .int .i64 0) k_hold_May rfl rfl (fun w _ => hm ▸ hold_May_ o w) (det rfl (neq rfl rfl) (nilS ?_)))))   -- region 1
      refine condF rfl ?_
      refine skipS ?_
      refine seq (region (det rfl (mv rfl) (call k_tag_LeafSum rfl rfl (fun w _ => tag_LeafSum_ s hsl w) (alloc z_api_Hash rfl rfl fun b1 => stoA 0 rfl rfl rfl s_api_Hash (by rw [b8_length, hat]) (b8_one _) rfl (nilS ?_)))))   -- region 3
      refine seq (region (det rfl (ldAll 0 rfl rfl g_api_Hash (by rw [b8_length, hat])) (bsl rfl (bs1 u_sl_api_Hash z_api_Hash s_api_Hash (cs := b8 (leafS s)) rfl rfl (by rw [b8_length, hat]) (by decide) (by decide)) fun b2 => det rfl (asg rfl) (nilS ?_))))   -- region 4
      refine seq ?_
      refine seq (region (det rfl (fadr rfl u_api_Opening rfl s_int) (det rfl (ldB 2 (v := .int .i64 o.n) rfl rfl o_int rfl) (det rfl (fadr rfl u_api_Opening rfl s_int) (det rfl (ldB 2 (v := .int .i64 o.i) rfl rfl o_int rfl) (callS' (m := Sd.length) (sz := 1) (ls := bll Sd) (bll_length _) k_shape_Sides (show _ = [Value.int .i64 o.n, .int .i64 o.i] from rfl) rfl (fun w _ => by
        rw [hN, hI, ← hSd]
        exact shape_Sides_ N I (by omega) (by omega) w) fun B q => det rfl (lenS u_sl_bool rfl) (det rfl (mv rfl) (nilS ?_))))))))   -- region 5
      refine block ?_   -- block 0
      refine loopV (ι := Nat × Option Addr × Nat) (fun (k, _, _) => k ≤ Sd.length) (fun (k, E, r) => [(3, .pointer (some ⟨b0, 0, none⟩)), (5, .pointer (some ⟨b1, 0, none⟩)), (6, .slice E (k + 1) r), (20, .slice B Sd.length q), (21, .int .i64 Sd.length), (22, .int .i64 k)])
        (fun (k, E, r) => [.row (.slice E (k + 1) r) T_api_Hash 32 (k + 1) (hl (Mp.ups nodeS (leafS s) (Z.take k))).flatten, .blk b1 (ob (b8 ((Z.take k).foldl (Mp.above nodeS) (leafS s))) T_api_Hash), .blk b0 (ob o.c T_api_Opening)])
        (fun _ => [Sl 1 B Sd.length q (bll Sd), OpF o]) (fun (k, _, _) => Sd.length - k) (0, some ⟨b2, 0, none⟩, 1) (Nat.zero_le _) ⟨rfl, rfl, rfl, rfl, rfl, rfl, trivial⟩ (fun w hm => by
          have := hm.asRow 0 (m := 1) (sz := 32) rfl rfl (by rw [b8_length, hat]) (by simp [maxLen])
          exact (congrArg (fun u => M _ (Res.row _ T_api_Hash 32 1 u :: _) _ w) (hl_one1 (leafS s))).mpr this) ?_
      rintro ⟨k, E, r⟩ σ hk
      dsimp only at hk ⊢
      obtain ⟨at_, hAt⟩ : ∃ a, (Z.take k).foldl (Mp.above nodeS) (leafS s) = a := ⟨_, rfl⟩
      have hal : at_.length = 32 := by rw [← hAt]; exact fold_ok hat
      rw [hAt]
      have hul : (Mp.ups nodeS (leafS s) (Z.take k)).length = k + 1 := by rw [Mp.ups_length, List.length_take]; omega
      refine seq (region (det rfl (lss rfl rfl) (nilS ?_)))   -- region 6
      refine seq ?_
      refine cond rfl (fun h => ?_) (fun h => ?_)   -- on t23
      · have h := of_decide_eq_true h
        have hkl : k < Sd.length := by omega
        obtain ⟨x, hx⟩ : ∃ x, Sd.getD k false = x := ⟨_, rfl⟩
        obtain ⟨y, hy⟩ : ∃ y, o.p.getD k [] = y := ⟨_, rfl⟩
        have hyl : y.length = 32 := by rw [← hy]; exact ho _ (getD_mem (by omega))
        have hZk := hZat k hkl
        rw [hx, hy] at hZk
        have hnew : (Z.take (k + 1)).foldl (Mp.above nodeS) (leafS s) = Mp.above nodeS at_ (x, y) := by rw [hZk, List.foldl_append, hAt]; rfl
        have hups : Mp.ups nodeS (leafS s) (Z.take (k + 1)) = Mp.ups nodeS (leafS s) (Z.take k) ++ [Mp.above nodeS at_ (x, y)] := by rw [hZk, ups_app, ← hZk, hnew]
        refine skipS ?_
        refine seq ?_
        refine block ?_   -- block 1
        refine seq (region (det rfl (mv rfl) (det rfl (ixS 0 rfl rfl u_sl_bool s_bool rfl (by omega) (by omega)) (det rfl (ldSO 0 (v := .bool x) rfl rfl o_bool (by rw [← hx]; exact bll_at (by omega) hkl)) (det rfl (asg rfl) (det rfl (asg rfl) (nilS ?_)))))))   -- region 7
        refine seq ?_
        refine seq (region (det rfl (mv rfl) (nilS ?_)))   -- region 8
        cases x
        · refine condF rfl ?_
          refine drawI 7 [6] mix (by kernel_rfl) (by kernel_rfl) ?_   -- drawn 10
          refine nI rfl rfl rfl (ldAll 1 rfl rfl g_api_Hash (by rw [b8_length, hal])) ?_
          refine nI rfl rfl rfl (fadr rfl u_api_Opening rfl s_sl_api_Hash) ?_
          refine nI rfl rfl rfl (ldB 2 (v := .slice o.A o.p.length o.cap) rfl rfl o_sl_api_Hash rfl) ?_
          refine nI rfl rfl rfl (mv rfl) ?_
          refine nI rfl rfl rfl (ixS 1 rfl rfl u_sl_api_Hash s_api_Hash rfl (by omega) (by omega)) ?_
          refine nI rfl rfl rfl (ldSA 1 (l := b8 y) rfl rfl g_api_Hash (by rw [← hy]; exact hl_at (by omega) (by omega))) ?_
          refine pI rfl rfl k_tag_NodeSum (show _ = [ag (b8 at_), ag (b8 y)] from rfl) rfl (fun w _ => tag_NodeSum_ at_ y hal hyl w) ?_
          refine endI rfl (stoA 1 (rs := b8 (nodeS at_ y)) rfl rfl rfl s_api_Hash (by rw [b8_length, nodeS_length]) (b8_one _) (by rw [b8_length, hal]) (nil ?_))
          show Tr _ _ _ _ _ _ _
          refine region (det rfl (mv rfl) (det rfl (ldAll 1 rfl rfl g_api_Hash (by rw [b8_length, nodeS_length])) (bsl rfl (bs1 u_sl_api_Hash z_api_Hash s_api_Hash (cs := b8 (nodeS at_ y)) rfl rfl (by rw [b8_length, nodeS_length]) (by decide) (by decide)) fun b3 => appB 1 0 u_sl_api_Hash i_api_Hash rfl (by decide) rfl rfl rfl rfl (by rw [b8_length, nodeS_length]) (b8_one _) (by simp only [maxLen]; omega) (by omega) rfl fun A cap => det rfl (asg rfl) (nil ?_))))   -- region 11
          show Tr _ _ _ _ _ _ _
          refine region (det rfl (addI rfl rfl (by omega) (by omega)) (det rfl (mv rfl) (nil ?_)))   -- region 12
          refine again (k + 1, _, _) (by (first | omega | (dsimp only; omega))) ⟨rfl, rfl, rfl, rfl, rfl, rfl, trivial⟩ (fun w hm => ?_) (by (first | omega | (dsimp only; omega)))
          dsimp only
          rw [hups, hnew, hl_app]
          exact drop1 hm
        · refine condT rfl ?_
          refine drawI 7 [6] mix (by kernel_rfl) (by kernel_rfl) ?_   -- drawn 9
          refine nI rfl rfl rfl (fadr rfl u_api_Opening rfl s_sl_api_Hash) ?_
          refine nI rfl rfl rfl (ldB 2 (v := .slice o.A o.p.length o.cap) rfl rfl o_sl_api_Hash rfl) ?_
          refine nI rfl rfl rfl (mv rfl) ?_
          refine nI rfl rfl rfl (ixS 1 rfl rfl u_sl_api_Hash s_api_Hash rfl (by omega) (by omega)) ?_
          refine nI rfl rfl rfl (ldSA 1 (l := b8 y) rfl rfl g_api_Hash (by rw [← hy]; exact hl_at (by omega) (by omega))) ?_
          refine nI rfl rfl rfl (ldAll 1 rfl rfl g_api_Hash (by rw [b8_length, hal])) ?_
          refine pI rfl rfl k_tag_NodeSum (show _ = [ag (b8 y), ag (b8 at_)] from rfl) rfl (fun w _ => tag_NodeSum_ y at_ hyl hal w) ?_
          refine endI rfl (stoA 1 (rs := b8 (nodeS y at_)) rfl rfl rfl s_api_Hash (by rw [b8_length, nodeS_length]) (b8_one _) (by rw [b8_length, hal]) (nil ?_))
          show Tr _ _ _ _ _ _ _
          refine region (det rfl (mv rfl) (det rfl (ldAll 1 rfl rfl g_api_Hash (by rw [b8_length, nodeS_length])) (bsl rfl (bs1 u_sl_api_Hash z_api_Hash s_api_Hash (cs := b8 (nodeS y at_)) rfl rfl (by rw [b8_length, nodeS_length]) (by decide) (by decide)) fun b3 => appB 1 0 u_sl_api_Hash i_api_Hash rfl (by decide) rfl rfl rfl rfl (by rw [b8_length, nodeS_length]) (b8_one _) (by simp only [maxLen]; omega) (by omega) rfl fun A cap => det rfl (asg rfl) (nil ?_))))   -- region 11
          show Tr _ _ _ _ _ _ _
          refine region (det rfl (addI rfl rfl (by omega) (by omega)) (det rfl (mv rfl) (nil ?_)))   -- region 12
          refine again (k + 1, _, _) (by (first | omega | (dsimp only; omega))) ⟨rfl, rfl, rfl, rfl, rfl, rfl, trivial⟩ (fun w hm => ?_) (by (first | omega | (dsimp only; omega)))
          dsimp only
          rw [hups, hnew, hl_app]
          exact drop1 hm
      · have h := of_decide_eq_false h
        obtain rfl : k = Sd.length := by omega
        refine exit ?_   -- 0
        show Tr _ _ _ _ _ _ _
        refine seq (region (det rfl (mv rfl) (det rfl (asg rfl) (nilS ?_))))   -- region 13
        rw [List.take_of_length_le (by omega)] at hul ⊢
        have hok : ∀ y ∈ Mp.ups nodeS (leafS s) Z, y.length = 32 := by
          have : ∀ (l : List (Bool × List UInt8)) (a : List UInt8), a.length = 32 → ∀ y ∈ Mp.ups nodeS a l, y.length = 32 := by
            intro l
            induction l with
            | nil => intro a ha y hy; rw [List.mem_singleton.1 hy]; exact ha
            | cons x r ih =>
              intro a ha y hy
              rcases List.mem_cons.1 hy with rfl | hy
              · exact ha
              · exact ih _ (by unfold Mp.above; split <;> exact nodeS_length _ _) y hy
          exact this Z _ hat
        exact ret (retRow (i := 0) rfl rfl rfl rfl (by rw [hl_length, hul]) (hl_ok hok))
end Go.Proofs.YtmcapgjdflohfaaGreat.L

namespace Go.Proofs.YtmcapgjdflohfaaGreat.L
open Go Go.RowKit
set_option linter.unusedVariables false

def holdR (x : OpX) (s : List UInt8) : List UInt8 × Int := if holdMay x ≠ 0 then (z8, holdMay x) else (rootS x.2.1 ((zipS x).foldl (Mp.above nodeS) (leafS s)), 0)
theorem holdR_length (x : OpX) (s : List UInt8) : (holdR x s).1.length = 32 := by
  unfold holdR
  split
  · rfl
  · exact sha_length _
def holdV (x : List UInt8 × Int) : Value := .tuple #[ag (b8 x.1), .int .i64 x.2]
theorem ups_ok {l : List (Bool × List UInt8)} {a : List UInt8} (ha : a.length = 32) : ∀ y ∈ Mp.ups nodeS a l, y.length = 32 := by
  induction l generalizing a with
  | nil => intro y hy; rw [List.mem_singleton.1 hy]; exact ha
  | cons x r ih =>
    intro y hy
    rcases List.mem_cons.1 hy with rfl | hy
    · exact ha
    · exact ih (by unfold Mp.above; split <;> exact nodeS_length _ _) y hy

theorem hold_Root_ (s : List UInt8) (hsl : s.length ≤ 1000000000) (o : Opn) (ho : ∀ y ∈ o.p, y.length = 32) (D : Nat → Prop) (w : World) (hD : ∀ k, D k → k < w.heap.size) (hs : OpF o D w) :
    Calls PP N_hold_Root #[.string (bs s), ag o.c] w (PR w (holdV (holdR o.x s))) := by
  refine enter f_hold_Root rfl n_hold_Root rfl (M.init1 PP w OpF.stable hD hs) ?_
  obtain ⟨e, he⟩ : ∃ e, holdMay o.x = e := ⟨_, rfl⟩
  refine seq (region (box rfl rfl rfl fun b0 => alloc z_api_Hash rfl rfl fun b1 => det rfl (asg rfl) (nilS ?_)))   -- region 0
  refine seq ?_
  refine seq (region (det rfl (ldAll 1 rfl rfl g_api_Opening rfl) (call (v := .int .i64 e) k_hold_May rfl rfl (fun w _ => he ▸ hold_May_ o w) (det rfl (asg rfl) (nilS ?_)))))   -- region 1
  refine seq (region (det rfl (mv rfl) (det rfl (neq rfl rfl) (nilS ?_))))   -- region 2
  by_cases h0 : e = 0
  · refine condF (by show Value.bool (!decide (e = 0)) = _; rw [decide_eq_true h0]; rfl) ?_
    subst h0
    obtain ⟨U, hU⟩ : ∃ U, Mp.ups nodeS (leafS s) (zipS o.x) = U := ⟨_, rfl⟩
    obtain ⟨z, hz⟩ : ∃ z, (zipS o.x).foldl (Mp.above nodeS) (leafS s) = z := ⟨_, rfl⟩
    have hzl : z.length = 32 := by rw [← hz]; exact fold_ok (leafS_length s)
    have hUl : 1 ≤ U.length := by rw [← hU, Mp.ups_length]; omega
    have hUz : U.getD (U.length - 1) [] = z := by
      have := Mp.ups_getLast nodeS (leafS s) (zipS o.x)
      rw [hU, hz, List.getLast?_eq_getElem?] at this
      simp [this]
    have hUc : U.length ≤ 100 := by
      rw [← hU, Mp.ups_length, zipS, List.length_zip]
      have := he
      unfold holdMay at this
      split at this
      · cases this
      · rename_i h1
        simp only [Opn.x] at h1
        have := Mp.sides_length_le 30 o.n.toNat o.i.toNat (by omega)
        simp only [Opn.x]
        omega
    have hn : 1 ≤ o.n ∧ o.n ≤ 1048576 := by
      have := he
      unfold holdMay at this
      split at this
      · cases this
      · rename_i h1
        simp only [Opn.x] at h1
        omega
    have er : holdR o.x s = (rootS o.n z, 0) := by rw [holdR, if_neg (by rw [he]; simp), hz]; rfl
    rw [er]
    refine skipS ?_
    refine seq (region (det rfl (mv rfl) (det rfl (ldAll 1 rfl rfl g_api_Opening rfl) (callS' (m := U.length) (sz := 32) (ls := hl U) (hl_length U) k_hold_Up (show _ = [Value.string (bs s), ag o.c] from rfl) rfl (fun w hm => by
      obtain ⟨D, d1, d2, hD, d4, d5⟩ := hm.data
      have := hold_Up_ s hsl o ho he D w hD d5.1
      rw [hU] at this; exact this) fun B q => det rfl (asg rfl) (nilS ?_)))))   -- region 4
    refine seq (drawI 10 [9] mix (by kernel_rfl) (by kernel_rfl) ?_)   -- drawn 5
    refine nI rfl rfl rfl (fadr rfl u_api_Opening rfl s_int) ?_
    refine nI rfl rfl rfl (ldB 1 (v := .int .i64 o.n) rfl rfl o_int rfl) ?_
    refine nI rfl rfl rfl (Det.to (conv u_int u_uint64 rfl) (vi (wrap_u64_nat o.n (by omega) (by omega)))) ?_
    refine nI rfl rfl rfl (mv rfl) ?_
    refine nI rfl rfl rfl (mv rfl) ?_
    refine nI rfl rfl rfl (lenS u_sl_api_Hash rfl) ?_
    refine nI rfl rfl rfl (subI rfl rfl (by omega) (by omega)) ?_
    refine nI rfl rfl rfl (ixS 0 rfl rfl u_sl_api_Hash s_api_Hash rfl (by omega) (by omega)) ?_
    refine nI rfl rfl rfl (ldSA 0 (l := b8 z) rfl rfl g_api_Hash (by rw [← hUz]; exact hl_at (by omega) (by omega))) ?_
    refine pI rfl rfl k_tag_RootSum (show _ = [Value.int .u64 o.n, ag (b8 z)] from rfl) rfl (fun w _ => tag_RootSum_ o.n z hzl w) ?_
    refine endI rfl (stoA 0 (rs := b8 (rootS o.n z)) rfl rfl rfl s_api_Hash (by rw [b8_length]; exact sha_length _) (b8_one _) rfl (det rfl (asg rfl) (nilS ?_)))
    exact ret (retCT 0 (l := b8 (rootS o.n z)) (v := .int .i64 0) rfl rfl rfl (by rw [b8_length, show (rootS o.n z).length = 32 from sha_length _]; exact g_api_Hash) rfl pr)
  · refine condT (by show Value.bool (!decide (e = 0)) = _; rw [decide_eq_false h0]; rfl) ?_
    have er : holdR o.x s = (z8, e) := by rw [holdR, if_pos (by rw [he]; exact h0), he]
    rw [er]
    refine seq (region (det rfl (bldA (cs := b8 z8) (ps := []) z_api_Hash u_api_Hash s_uint8 (by simp) (by simp [Instr.fill]; rfl)) (det rfl (mv rfl) (stoA 0 (rs := b8 z8) rfl rfl rfl s_api_Hash rfl (b8_one _) rfl (det rfl (asg rfl) (nilS ?_))))))   -- region 3
    exact ret (retCT 0 (l := b8 z8) (v := .int .i64 e) rfl rfl rfl g_api_Hash rfl pr)

def holdC (r s : List UInt8) (x : OpX) : Bool := decide ((holdR x s).2 = 0) && decide ((holdR x s).1 = r)
set_option maxRecDepth 8000 in
theorem hold_Check_ (r : List UInt8) (hr : r.length = 32) (s : List UInt8) (hsl : s.length ≤ 1000000000) (o : Opn) (ho : ∀ y ∈ o.p, y.length = 32) (D : Nat → Prop) (w : World) (hD : ∀ k, D k → k < w.heap.size) (hs : OpF o D w) :
    Calls PP N_hold_Check #[ag (b8 r), .string (bs s), ag o.c] w (PR w (.bool (holdC r s o.x))) := by
  refine enter f_hold_Check rfl n_hold_Check rfl (M.init1 PP w OpF.stable hD hs) ?_
  obtain ⟨y, hy⟩ : ∃ y, holdR o.x s = y := ⟨_, rfl⟩
  have hyl : y.1.length = 32 := by rw [← hy]; exact holdR_length _ _
  obtain ⟨y, e⟩ := y
  dsimp only at hyl
  rw [holdC, hy]
  refine seq (region (box rfl rfl rfl fun b0 => box rfl rfl rfl fun b1 => det rfl (asg rfl) (nilS ?_)))   -- region 0
  refine seq (region (det rfl (mv rfl) (det rfl (ldAll 0 rfl rfl g_api_Opening rfl) (call (v := holdV (y, e)) k_hold_Root (show _ = [Value.string (bs s), ag o.c] from rfl) rfl (fun w hm => by
    obtain ⟨D, d1, d2, hD, d4, d5⟩ := hm.data
    exact hy ▸ hold_Root_ s hsl o ho D w hD d5.1) (det rfl (Det.to (v' := holdV (y, e)) (mv rfl) rfl) (det rfl (extr (v := ag (b8 y)) rfl rfl) (det rfl (extr (v := .int .i64 e) rfl rfl) (alloc z_api_Hash rfl rfl fun b2 => stoA 0 (rs := b8 y) rfl rfl rfl s_api_Hash (by rw [b8_length, hyl]) (b8_one _) rfl (det rfl (asg rfl) (nilS ?_))))))))))   -- region 1
  refine seq (region (det rfl (mv rfl) (det rfl (eql rfl rfl) (det rfl (mv rfl) (guardI rfl rfl rfl (fun hb => ldAll 0 rfl rfl g_api_Hash (by rw [b8_length, hyl])) (guardI rfl rfl rfl (fun hb => ldAll 2 rfl rfl g_api_Hash (by rw [b8_length, hr])) (guardI rfl rfl rfl (fun hb => eqlA (bift hb rfl) (bift hb rfl) rfl (fun w => eqHash u_api_Hash u_uint8 s_uint8 9998 y r hyl hr w)) (det rfl (pick rfl (pickA rfl)) (det rfl (asg rfl) (nilS ?_))))))))))   -- region 2
  exact ret (retT rfl rfl pr)

def linkC (r id : List UInt8) (x : OpX) : Bool := decide (x.2.1 ≤ 257) && holdC r (76 :: id) x
theorem link_Check_ (r : List UInt8) (hr : r.length = 32) (id : List UInt8) (hi : id.length = 32) (o : Opn) (ho : ∀ y ∈ o.p, y.length = 32) (D : Nat → Prop) (w : World) (hD : ∀ k, D k → k < w.heap.size) (hs : OpF o D w) :
    Calls PP N_link_Check #[ag (b8 r), ag (b8 id), ag o.c] w (PR w (.bool (linkC r id o.x))) := by
  refine enter f_link_Check rfl n_link_Check rfl (M.init1 PP w OpF.stable hD hs) ?_
  obtain ⟨z, hz⟩ : ∃ z, holdC r (76 :: id) o.x = z := ⟨_, rfl⟩
  rw [linkC, hz]
  refine seq (region (box rfl rfl rfl fun b0 => box rfl rfl rfl fun b1 => box rfl rfl rfl fun b2 => det rfl (asg rfl) (nilS ?_)))   -- region 0
  by_cases h : o.n ≤ 257
  · rw [show decide (o.x.2.1 ≤ 257) = true from decide_eq_true h, Bool.true_and]
    refine seq (drawP [(0, false), (1, false), (2, false), (3, false), (4, false), (5, false), (7, false), (6, true), (8, true), (9, false), (10, false)] mix (by kernel_rfl) (by kernel_rfl) ?_)   -- drawn 1
    refine nP 0 rfl rfl (fadr rfl u_api_Opening rfl s_int) ?_
    refine nP 1 rfl rfl (ldB 0 (v := .int .i64 o.n) rfl rfl o_int rfl) ?_
    refine nP 2 rfl rfl (Det.to (v' := .bool true) (leq rfl rfl) (vb (decide_eq_true h))) ?_
    refine nP 3 rfl rfl (mv rfl) ?_
    refine gP 4 rfl rfl rfl rfl (ldAll 2 rfl rfl g_api_Hash (by rw [b8_length, hr])) ?_
    refine gP 5 rfl rfl rfl rfl (ldAll 1 rfl rfl g_api_Hash (by rw [b8_length, hi])) ?_
    refine gP 7 rfl rfl rfl rfl (ldAll 0 rfl rfl g_api_Opening rfl) ?_
    refine pgP 6 rfl rfl rfl k_link_Text (show _ = [ag (b8 id)] from rfl) rfl (fun w _ => link_Text_ id hi w) ?_
    refine pgP 8 (v := .bool z) rfl rfl rfl k_hold_Check (show _ = [ag (b8 r), Value.string (bs (76 :: id)), ag o.c] from rfl) rfl (fun w hm => by
      obtain ⟨D, d1, d2, hD, d4, d5⟩ := hm.data
      exact hz ▸ hold_Check_ r hr (76 :: id) (by simp; omega) o ho D w hD d5.1) ?_
    refine nP 9 rfl rfl (pick rfl rfl) ?_
    refine nP 10 rfl rfl (asg rfl) ?_
    refine endP rfl (nilS ?_)
    exact ret (retT rfl rfl pr)
  · rw [show decide (o.x.2.1 ≤ 257) = false from decide_eq_false h, Bool.false_and]
    refine seq (drawP [(0, false), (1, false), (2, false), (3, false), (4, false), (5, false), (7, false), (6, false), (8, false), (9, false), (10, false)] mix (by kernel_rfl) (by kernel_rfl) ?_)   -- drawn 1
    refine nP 0 rfl rfl (fadr rfl u_api_Opening rfl s_int) ?_
    refine nP 1 rfl rfl (ldB 0 (v := .int .i64 o.n) rfl rfl o_int rfl) ?_
    refine nP 2 rfl rfl (Det.to (v' := .bool false) (leq rfl rfl) (vb (decide_eq_false h))) ?_
    refine nP 3 rfl rfl (mv rfl) ?_
    refine uP 4 rfl rfl (.inl rfl) rfl ?_
    refine uP 5 rfl rfl (.inl rfl) rfl ?_
    refine uP 7 rfl rfl (.inl rfl) rfl ?_
    refine uP 6 rfl rfl (.inl rfl) rfl ?_
    refine uP 8 rfl rfl (.inl rfl) rfl ?_
    refine nP 9 rfl rfl (pick rfl rfl) ?_
    refine nP 10 rfl rfl (asg rfl) ?_
    refine endP rfl (nilS ?_)
    exact ret (retT rfl rfl pr)
end Go.Proofs.YtmcapgjdflohfaaGreat.L

namespace Go.Proofs.YtmcapgjdflohfaaGreat.L
open Go Go.RowKit
set_option linter.unusedVariables false

/-! ### open.None -/
def isOp0 (x : OpX) : Bool := decide (x.1 = 0) && decide (x.2.1 = 0) && decide (x.2.2.length = 0)
set_option maxRecDepth 8000 in
theorem open_Same0_ (o : Opn) : Pure PP N_open_Same #[ag o.c, ag op0.c] (.bool (isOp0 o.x)) := by
  refine enter0 f_open_Same rfl n_open_Same rfl fun w => ?_
  refine seq (region (box rfl rfl rfl fun b0 => box rfl rfl rfl fun b1 => det rfl (asg rfl) (nilS ?_)))   -- region 0
  refine seq ?_
  refine seq (region (det rfl (fadr rfl u_api_Opening rfl s_int) (det rfl (ldB 1 (v := .int .i64 o.i) rfl rfl o_int rfl) (det rfl (fadr rfl u_api_Opening rfl s_int) (det rfl (ldB 0 (v := .int .i64 0) rfl rfl o_int rfl) (det rfl (neq rfl rfl) (det rfl (mv rfl) (guardI rfl rfl rfl (fun hb => fadr rfl u_api_Opening rfl s_int) (guardI rfl rfl rfl (fun hb => ldB 1 (v := .int .i64 o.n) (bift hb rfl) rfl o_int rfl) (guardI rfl rfl rfl (fun hb => fadr rfl u_api_Opening rfl s_int) (guardI rfl rfl rfl (fun hb => ldB 0 (v := .int .i64 0) (bift hb rfl) rfl o_int rfl) (guardI rfl rfl rfl (fun hb => neq (bift hb rfl) (bift hb rfl)) (det rfl (pick rfl (pickO rfl)) (det rfl (mv rfl) (guardI rfl rfl rfl (fun hb => fadr rfl u_api_Opening rfl s_sl_api_Hash) (guardI rfl rfl rfl (fun hb => ldB 1 (v := .slice o.A o.p.length o.cap) (bift hb rfl) rfl o_sl_api_Hash rfl) (guardI rfl rfl rfl (fun hb => lenS u_sl_api_Hash (bift hb rfl)) (guardI rfl rfl rfl (fun hb => fadr rfl u_api_Opening rfl s_sl_api_Hash) (guardI rfl rfl rfl (fun hb => ldB 0 (v := .slice none 0 0) (bift hb rfl) rfl o_sl_api_Hash rfl) (guardI rfl rfl rfl (fun hb => lenS u_sl_api_Hash (bift hb rfl)) (guardI rfl rfl rfl (fun hb => neq (bift hb rfl) (bift hb rfl)) (det rfl (pick rfl (pickO rfl)) (nilS ?_)))))))))))))))))))))))   -- region 1
  refine cond rfl (fun h => ?_) (fun h => ?_)   -- on t26
  · have h : ((!decide (o.i = 0) || !decide (o.n = 0)) || !decide ((o.p.length : Int) = (0 : Nat))) = true := h
    have e : isOp0 o.x = false := by
      rw [isOp0, Opn.x]
      simp only [Bool.or_eq_true, Bool.not_eq_true', decide_eq_false_iff_not] at h
      simp only [Bool.and_eq_false_iff, decide_eq_false_iff_not]
      omega
    rw [e]
    refine seq (region (det rfl (asg rfl) (nilS ?_)))   -- region 2
    exact ret (retT rfl rfl pr)
  · have h : ((!decide (o.i = 0) || !decide (o.n = 0)) || !decide ((o.p.length : Int) = (0 : Nat))) = false := h
    have h : (o.i = 0 ∧ o.n = 0) ∧ (o.p.length : Int) = (0 : Nat) := by simpa using h
    have e : isOp0 o.x = true := by
      rw [isOp0, Opn.x]
      simp only [Bool.and_eq_true, decide_eq_true_eq]
      omega
    have hp : o.p.length = 0 := by omega
    rw [e]
    refine forget [(2, .pointer (some ⟨b0, 0, none⟩)), (3, .pointer (some ⟨b1, 0, none⟩))] ⟨rfl, rfl, trivial⟩ fun σ => ?_
    refine skipS ?_
    refine seq ?_
    refine seq (region (det rfl (fadr rfl u_api_Opening rfl s_sl_api_Hash) (det rfl (ldB 1 (v := .slice o.A o.p.length o.cap) rfl rfl o_sl_api_Hash rfl) (det rfl (Det.to (v' := .int .i64 0) (lenS u_sl_api_Hash rfl) (vi (by omega))) (det rfl (mv rfl) (nilS ?_))))))   -- region 3
    refine block ?_   -- block 0
    refine loopV (ι := Unit) (fun _ => True) (fun _ => [(29, .int .i64 0), (30, .int .i64 0)]) (fun _ => []) (fun _ => []) (fun k => 0) () trivial ⟨rfl, rfl, trivial⟩ (fun w hm => hm.sub (List.nil_sublist _)) ?_
    intro k σ hk
    refine seq (region (det rfl (Det.to (v' := .bool false) (lss rfl rfl) (vb (decide_eq_false (by omega)))) (nilS ?_)))   -- region 4
    refine seq ?_
    refine condF rfl ?_
    refine exit ?_   -- 0
    show Tr _ _ _ _ _ _ _
    refine seq (region (det rfl (asg rfl) (nilS ?_)))   -- region 9
    exact ret (retT rfl rfl pr)
theorem open_None_ (o : Opn) : Pure PP N_open_None #[ag o.c] (.bool (isOp0 o.x)) := by
  refine enter0 f_open_None rfl n_open_None rfl fun w => ?_
  refine seq (region (box rfl rfl rfl fun b0 => det rfl (asg rfl) (nilS ?_)))   -- region 0
  refine seq (region (det rfl (ldAll 0 rfl rfl g_api_Opening rfl) (det rfl (bldZ z_api_Opening u_api_Opening (fun w => run_placesS PP w (by kernel_rfl))) (call (v := .bool (isOp0 o.x)) k_open_Same (show _ = [ag o.c, ag op0.c] from rfl) rfl (fun w _ => open_Same0_ o w) (det rfl (asg rfl) (nilS ?_))))))   -- region 1
  exact ret (retT rfl rfl pr)

/-! ### rise -/
theorem rise_Above_ (x y : Hd) : Pure PP N_rise_Above #[ag x.c, ag y.c] (.bool (decide (y.h < x.h))) := by
  refine enter0 f_rise_Above rfl n_rise_Above rfl fun w => ?_
  refine seq (region (box rfl rfl rfl fun b0 => box rfl rfl rfl fun b1 => det rfl (asg rfl) (nilS ?_)))   -- region 0
  refine seq (region (det rfl (fadr rfl u_api_Header rfl s_uint32) (det rfl (ldB 1 (v := .int .u32 x.h) rfl rfl o_uint32 rfl) (det rfl (fadr rfl u_api_Header rfl s_uint32) (det rfl (ldB 0 (v := .int .u32 y.h) rfl rfl o_uint32 rfl) (det rfl (gtr rfl rfl) (det rfl (asg rfl) (nilS ?_))))))))   -- region 1
  exact ret (retT rfl rfl pr)
def nextH (x y : Hd) : Bool := decide (y.h < x.h) && decide (IntKind.u32.wrap (x.h - y.h) = 1)
theorem rise_Next_ (x y : Hd) (hx : x.ok) (hy : y.ok) : Pure PP N_rise_Next #[ag x.c, ag y.c] (.bool (nextH x y)) := by
  refine enter0 f_rise_Next rfl n_rise_Next rfl fun w => ?_
  refine seq (region (box rfl rfl rfl fun b0 => box rfl rfl rfl fun b1 => det rfl (asg rfl) (nilS ?_)))   -- region 0
  refine seq (region (det rfl (ldAll 1 rfl rfl g_api_Header (Hd.c_length hx)) (det rfl (ldAll 0 rfl rfl g_api_Header (Hd.c_length hy)) (call (v := .bool (decide (y.h < x.h))) k_rise_Above (show _ = [ag x.c, ag y.c] from rfl) rfl (fun w _ => rise_Above_ x y w) (det rfl (mv rfl) (guardI rfl rfl rfl (fun hb => fadr rfl u_api_Header rfl s_uint32) (guardI rfl rfl rfl (fun hb => ldB 1 (v := .int .u32 x.h) (bift hb rfl) rfl o_uint32 rfl) (guardI rfl rfl rfl (fun hb => fadr rfl u_api_Header rfl s_uint32) (guardI rfl rfl rfl (fun hb => ldB 0 (v := .int .u32 y.h) (bift hb rfl) rfl o_uint32 rfl) (guardI rfl rfl rfl (fun hb => sub (bift hb rfl) (bift hb rfl)) (guardI rfl rfl rfl (fun hb => eql (bift hb rfl) rfl) (det rfl (pick rfl (pickA rfl)) (det rfl (asg rfl) (nilS ?_))))))))))))))   -- region 1
  exact ret (retT rfl rfl pr)

/-! ### join.Holds -/
theorem St.at_h {s : St} (h : s.h.ok) : (s.c.drop (0 + 0)).take 66 = s.h.c := by rw [St.c, ← Hd.c_length h]; simp
theorem St.at_o {s : St} (h : s.h.ok) : (s.c.drop (0 + 66)).take 3 = s.o.c := by rw [St.c, ← Hd.c_length h, Nat.zero_add, List.drop_left]; rfl
theorem St.at_l {s : St} (h : s.h.ok) : (s.c.drop (0 + 0 + 1)).take 32 = b8 s.h.l := by
  rw [← Hd.at_l h, St.c, List.drop_append_of_le_length (by rw [Hd.c_length h]; decide), List.take_append_of_le_length (by rw [List.length_drop, Hd.c_length h]; decide)]
theorem St.at_i {s : St} (h : s.h.ok) : s.c[66]? = some (.int .i64 s.o.i) := by
  rw [St.c, List.getElem?_append_right (by rw [Hd.c_length h]; decide), Hd.c_length h]; rfl
theorem stl_at {L : List St} {o j : Nat} (ho : o = j) (h : j < L.length) : (stl L)[o]? = some (L[j]).c := by subst ho; simp [stl, h]
def joinC (s : SX) (y : Hd) : Bool := linkC s.1.l (idL y) s.2
theorem join_Holds_ (s : St) (hsk : s.h.ok) (hp : ∀ y ∈ s.o.p, y.length = 32) (y : Hd) (hy : y.ok) (D : Nat → Prop) (w : World) (hD : ∀ k, D k → k < w.heap.size) (hs : OpF s.o D w) :
    Calls PP N_join_Holds #[ag s.c, ag y.c] w (PR w (.bool (joinC s.x y))) := by
  refine enter f_join_Holds rfl n_join_Holds rfl (M.init1 PP w OpF.stable hD hs) ?_
  obtain ⟨z, hz⟩ : ∃ z, joinC s.x y = z := ⟨_, rfl⟩
  rw [hz]
  refine seq (region (box rfl rfl rfl fun b0 => box rfl rfl rfl fun b1 => det rfl (asg rfl) (nilS ?_)))   -- region 0
  refine seq (drawP [(0, false), (1, false), (2, false), (3, false), (5, false), (6, false), (4, true), (7, true), (8, false)] mix (by kernel_rfl) (by kernel_rfl) ?_)   -- drawn 1
  refine nP 0 rfl rfl (fadr rfl u_api_Step rfl s_api_Header) ?_
  refine nP 1 rfl rfl (fadr rfl u_api_Header rfl s_api_Hash) ?_
  refine nP 2 rfl rfl (ldA 1 rfl rfl g_api_Hash (St.at_l hsk) (by rw [b8_length, hsk.1])) ?_
  refine nP 3 rfl rfl (ldAll 0 rfl rfl g_api_Header (Hd.c_length hy)) ?_
  refine nP 5 rfl rfl (fadr rfl u_api_Step rfl s_api_Opening) ?_
  refine nP 6 rfl rfl (ldA 1 rfl rfl g_api_Opening (St.at_o hsk) rfl) ?_
  refine pP 4 rfl k_ident_Id (show _ = [ag y.c] from rfl) rfl (fun w _ => ident_Id_ y hy w) ?_
  refine pP 7 (v := .bool z) rfl k_link_Check (show _ = [ag (b8 s.h.l), ag (b8 (idL y)), ag s.o.c] from rfl) rfl (fun w hm => by
    obtain ⟨D, d1, d2, hD, d4, d5⟩ := hm.data
    exact hz ▸ link_Check_ s.h.l hsk.1 (idL y) (idL_length y) s.o hp D w hD d5.1) ?_
  refine nP 8 rfl rfl (asg rfl) ?_
  refine endP rfl (nilS ?_)
  exact ret (retT rfl rfl pr)

/-! ### anchor.Check -/
def sx0 : SX := (hd0, ox0)
def anchR (g : Hd) (X : List SX) : Int := if X.length = 0 then 6 else if (X.getD 0 sx0).1 ≠ g then 7 else if isOp0 (X.getD 0 sx0).2 = false then 2 else 0
theorem getSX {L : List St} {j : Nat} (h : j < L.length) : (L.map St.x).getD j sx0 = (L[j]).x := by simp [h]
theorem anchor_Check_ (g : Hd) (hg : g.ok) (L : List St) (hL : ∀ s ∈ L, s.h.ok) (A : Option Addr) (cap : Nat) (D : Nat → Prop) (w : World) (hD : ∀ k, D k → k < w.heap.size) (hs : StS A L.length cap L D w) :
    Calls PP N_anchor_Check #[ag g.c, .slice A L.length cap] w (PR w (.int .i64 (anchR g (L.map St.x)))) := by
  refine enter f_anchor_Check rfl n_anchor_Check rfl (M.init1 PP w Sl.stable hD hs.1) ?_
  refine seq (region (box rfl rfl rfl fun b0 => det rfl (asg rfl) (nilS ?_)))   -- region 0
  refine seq ?_
  refine block ?_   -- block 0
  refine seq (region (det rfl (mv rfl) (det rfl (lenS u_sl_api_Step rfl) (det rfl (eql rfl rfl) (det rfl (asg rfl) (nilS ?_))))))   -- region 1
  refine cond rfl (fun h => ?_) (fun h => ?_)   -- on t5
  · have h := of_decide_eq_true h
    refine seq (region (det rfl (asg rfl) (nilS ?_)))   -- region 2
    exact ret (retT rfl rfl (pr' (vi (by rw [anchR, if_pos (by rw [List.length_map]; omega)]))))
  · have h := of_decide_eq_false h
    have hl : 0 < L.length := by omega
    have hsk : (L[0]).h.ok := hL _ (List.getElem_mem hl)
    have e : anchR g (L.map St.x) = if (L[0]).h ≠ g then 7 else if isOp0 (L[0]).o.x = false then 2 else 0 := by rw [anchR, if_neg (by rw [List.length_map]; omega), getSX hl]; rfl
    rw [e]
    refine seq (drawI 7 [] mix (by kernel_rfl) (by kernel_rfl) ?_)   -- drawn 3
    refine nI rfl rfl rfl (mv rfl) ?_
    refine nI rfl rfl rfl (ixS 0 rfl rfl u_sl_api_Step s_api_Step rfl (by omega) (by omega)) ?_
    refine nI rfl rfl rfl (fadrS 0 rfl u_api_Step rfl s_api_Header rfl hl) ?_
    refine nI rfl rfl rfl (ldSP 0 (i := 0) (o := 0) (r := (L[0]).h.c) rfl rfl g_api_Header (stl_at rfl hl) (St.at_h hsk) (Hd.c_length hsk)) ?_
    refine nI rfl rfl rfl (ldAll 0 rfl rfl g_api_Header (Hd.c_length hg)) ?_
    refine nI rfl rfl rfl (neqA rfl rfl (by kernel_rfl) (eqHd _ _ hsk hg)) ?_
    refine nI rfl rfl rfl (asg rfl) ?_
    refine endI rfl (nilS ?_)
    by_cases h2 : (L[0]).h = g
    · refine condF (by show Value.bool (!decide _) = _; rw [decide_eq_true h2]; rfl) ?_
      rw [if_neg (by simpa using h2)]
      refine seq (region (det rfl (mv rfl) (det rfl (ixS 0 rfl rfl u_sl_api_Step s_api_Step rfl (by omega) (by omega)) (det rfl (fadrS 0 rfl u_api_Step rfl s_api_Opening rfl hl) (det rfl (ldSP 0 (i := 0) (o := 66) (r := (L[0]).o.c) rfl rfl g_api_Opening (stl_at rfl hl) (St.at_o hsk) rfl) (call (v := .bool (isOp0 (L[0]).o.x)) k_open_None (show _ = [ag (L[0]).o.c] from rfl) rfl (fun w _ => open_None_ _ w) (det rfl (notB rfl) (det rfl (asg rfl) (nilS ?_)))))))))   -- region 5
      cases isOp0 (L[0]).o.x
      · refine condT rfl ?_
        refine seq (region (det rfl (asg rfl) (nilS ?_)))   -- region 6
        exact ret (retT rfl rfl pr)
      · refine condF rfl ?_
        refine skip ?_
        show Tr _ _ _ _ _ _ _
        refine seq (region (det rfl (asg rfl) (nilS ?_)))   -- region 7
        exact ret (retT rfl rfl pr)
    · refine condT (by show Value.bool (!decide _) = _; rw [decide_eq_false h2]; rfl) ?_
      rw [if_pos h2]
      refine seq (region (det rfl (asg rfl) (nilS ?_)))   -- region 4
      exact ret (retT rfl rfl pr)

/-! ### tail -/
def tailOk (X : List SX) (i : Nat) : Bool := decide ((X.getD i sx0).2.1 = 0) && nextH (X.getD i sx0).1 (X.getD (i - 1) sx0).1
def tailGo (X : List SX) : Nat → Nat
  | 0 => 0
  | i + 1 => if tailOk X (i + 1) then tailGo X i + 1 else 0
def tailLen (X : List SX) : Nat := tailGo X (X.length - 1)
theorem tail_Len_ (L : List St) (hL : ∀ s ∈ L, s.h.ok) (A : Option Addr) (cap : Nat) (D : Nat → Prop) (w : World) (hD : ∀ k, D k → k < w.heap.size) (hs : StS A L.length cap L D w) :
    Calls PP N_tail_Len #[.slice A L.length cap] w (PR w (.int .i64 (tailLen (L.map St.x)))) := by
  have hmx : L.length ≤ maxLen := Nat.le_trans hs.1.2.1 hs.1.2.2.1
  simp only [maxLen] at hmx
  refine enter f_tail_Len rfl n_tail_Len rfl (M.init1 PP w Sl.stable hD hs.1) ?_
  refine seq (region (det rfl (asg rfl) (nilS ?_)))   -- region 0
  refine seq (region (det rfl (asg rfl) (nilS ?_)))   -- region 1
  refine seq ?_
  refine seq (region (det rfl (mv rfl) (det rfl (lenS u_sl_api_Step rfl) (det rfl (subI rfl rfl (by omega) (by omega)) (det rfl (asg rfl) (nilS ?_))))))   -- region 2
  refine block ?_   -- block 0
  refine loopV (ι := Int × Nat) (fun (i, n) => -1 ≤ i ∧ i < L.length ∧ n + i.toNat ≤ L.length ∧ tailGo (L.map St.x) i.toNat + n = tailLen (L.map St.x)) (fun (i, n) => [(0, .slice A L.length cap), (3, .int .i64 n), (4, .int .i64 i)]) (fun _ => []) (fun _ => [Sl 69 A L.length cap (stl L)]) (fun (i, n) => (i + 1).toNat) ((L.length : Int) - 1, 0)
    ⟨by omega, by omega, by omega, by rw [tailLen, List.length_map, show ((L.length : Int) - 1).toNat = L.length - 1 by omega]; rfl⟩ ⟨rfl, rfl, rfl, trivial⟩ (fun w hm => hm) ?_
  rintro ⟨i, n⟩ σ ⟨h1, h2, h3, h4⟩
  dsimp only at h1 h2 h3 h4 ⊢
  refine seq ?_
  refine seq (region (det rfl (mv rfl) (det rfl (gtr rfl rfl) (nilS ?_))))   -- region 3
  refine cond rfl (fun h => ?_) (fun h => ?_)   -- on t9
  · have h := of_decide_eq_true h
    obtain ⟨j, rfl⟩ : ∃ j : Nat, i = ((j + 1 : Nat) : Int) := ⟨(i - 1).toNat, by omega⟩
    rw [Int.toNat_natCast] at h3 h4
    have hj1 : j + 1 < L.length := by omega
    have hj0 : j < L.length := by omega
    have hs1 : (L[j + 1]).h.ok := hL _ (List.getElem_mem hj1)
    have hs0 : (L[j]).h.ok := hL _ (List.getElem_mem hj0)
    have hok : tailOk (L.map St.x) (j + 1) = (decide ((L[j + 1]).o.i = 0) && nextH (L[j + 1]).h (L[j]).h) := by rw [tailOk, getSX hj1, Nat.add_sub_cancel, getSX hj0]; rfl
    rw [tailGo, hok] at h4
    refine skipS ?_
    refine seq ?_
    refine block ?_   -- block 1
    refine seq ?_
    by_cases hi : (L[j + 1]).o.i = 0
    · rw [decide_eq_true hi, Bool.true_and] at h4
      obtain ⟨b, hb⟩ : ∃ b, nextH (L[j + 1]).h (L[j]).h = b := ⟨_, rfl⟩
      rw [hb] at h4
      refine seq (drawI 22 [19] mix (by kernel_rfl) (by kernel_rfl) ?_)   -- drawn 5
      refine nI rfl rfl rfl (mv rfl) ?_
      refine nI rfl rfl rfl (mv rfl) ?_
      refine nI rfl rfl rfl (ixS 0 rfl rfl u_sl_api_Step s_api_Step rfl (by omega) (by omega)) ?_
      refine nI rfl rfl rfl (fadrS 0 rfl u_api_Step rfl s_api_Opening rfl (by omega)) ?_
      refine nI rfl rfl rfl (fadrS 0 rfl u_api_Opening rfl s_int rfl (by omega)) ?_
      refine nI rfl rfl rfl (ldSQ 0 (i := j + 1) (o := 66) (v := .int .i64 (L[j + 1]).o.i) rfl rfl o_int (stl_at rfl hj1) (St.at_i hs1)) ?_
      refine nI rfl rfl rfl (Det.to (v' := .bool false) (neq rfl rfl) (by rw [decide_eq_true hi]; rfl)) ?_
      refine nI rfl rfl rfl (mv rfl) ?_
      refine gI rfl rfl rfl rfl rfl (mv rfl) ?_
      refine gI rfl rfl rfl rfl rfl (mv rfl) ?_
      refine gI rfl rfl rfl rfl rfl (ixS 0 rfl rfl u_sl_api_Step s_api_Step rfl (by omega) (by omega)) ?_
      refine gI rfl rfl rfl rfl rfl (fadrS 0 rfl u_api_Step rfl s_api_Header rfl (by omega)) ?_
      refine gI rfl rfl rfl rfl rfl (ldSP 0 (i := j + 1) (o := 0) (r := (L[j + 1]).h.c) rfl rfl g_api_Header (stl_at rfl hj1) (St.at_h hs1) (Hd.c_length hs1)) ?_
      refine gI rfl rfl rfl rfl rfl (mv rfl) ?_
      refine gI rfl rfl rfl rfl rfl (mv rfl) ?_
      refine gI rfl rfl rfl rfl rfl (Det.to (v' := .int .i64 (j : Int)) (subI rfl rfl (by omega) (by omega)) (vi (by omega))) ?_
      refine gI rfl rfl rfl rfl rfl (ixS 0 rfl rfl u_sl_api_Step s_api_Step rfl (by omega) (by omega)) ?_
      refine gI rfl rfl rfl rfl rfl (fadrS 0 rfl u_api_Step rfl s_api_Header rfl (by omega)) ?_
      refine gI rfl rfl rfl rfl rfl (ldSP 0 (i := j) (o := 0) (r := (L[j]).h.c) rfl rfl g_api_Header (stl_at rfl hj0) (St.at_h hs0) (Hd.c_length hs0)) ?_
      refine pgI (v := .bool b) rfl rfl rfl rfl k_rise_Next (show _ = [ag (L[j + 1]).h.c, ag (L[j]).h.c] from rfl) rfl (fun w _ => hb ▸ rise_Next_ _ _ hs1 hs0 w) ?_
      refine gI rfl rfl rfl rfl rfl (notB rfl) ?_
      refine nI rfl rfl rfl (pick rfl rfl) ?_
      refine endI rfl (nilS ?_)
      cases b
      · refine condT rfl ?_
        refine seq (region (det rfl (mv rfl) (det rfl (asg rfl) (nilS ?_))))   -- region 6
        exact ret (retT rfl rfl (pr' (vi (by rw [← h4]; simp))))
      · refine condF rfl ?_
        refine skipS ?_
        refine region (det rfl (mv rfl) (det rfl (addI rfl rfl (by omega) (by omega)) (det rfl (asg rfl) (nil ?_))))   -- region 7
        show Tr _ _ _ _ _ _ _
        refine region (det rfl (mv rfl) (det rfl (subI rfl rfl (by omega) (by omega)) (det rfl (asg rfl) (nil ?_))))   -- region 4
        refine again (((j + 1 : Nat) : Int) - 1, n + 1) ⟨by (first | omega | (dsimp only; omega)), by (first | omega | (dsimp only; omega)), by (first | omega | (dsimp only; omega)), by
          dsimp only
          rw [← h4, if_pos rfl, show (((j + 1 : Nat) : Int) - 1).toNat = j by omega]; omega⟩ ⟨rfl, rfl, rfl, trivial⟩ (fun w hm => hm) (by (first | omega | (dsimp only; omega)))
    · rw [decide_eq_false hi, Bool.false_and, if_neg (by simp)] at h4
      refine seq (drawI 22 [] mix (by kernel_rfl) (by kernel_rfl) ?_)   -- drawn 5
      refine nI rfl rfl rfl (mv rfl) ?_
      refine nI rfl rfl rfl (mv rfl) ?_
      refine nI rfl rfl rfl (ixS 0 rfl rfl u_sl_api_Step s_api_Step rfl (by omega) (by omega)) ?_
      refine nI rfl rfl rfl (fadrS 0 rfl u_api_Step rfl s_api_Opening rfl (by omega)) ?_
      refine nI rfl rfl rfl (fadrS 0 rfl u_api_Opening rfl s_int rfl (by omega)) ?_
      refine nI rfl rfl rfl (ldSQ 0 (i := j + 1) (o := 66) (v := .int .i64 (L[j + 1]).o.i) rfl rfl o_int (stl_at rfl hj1) (St.at_i hs1)) ?_
      refine nI rfl rfl rfl (Det.to (v' := .bool true) (neq rfl rfl) (by rw [decide_eq_false hi]; rfl)) ?_
      refine nI rfl rfl rfl (mv rfl) ?_
      iterate 13 refine uI rfl rfl rfl (.inl rfl) rfl ?_
      refine nI rfl rfl rfl (pick rfl rfl) ?_
      refine endI rfl (nilS ?_)
      refine condT rfl ?_
      refine seq (region (det rfl (mv rfl) (det rfl (asg rfl) (nilS ?_))))   -- region 6
      exact ret (retT rfl rfl (pr' (vi (by rw [← h4]; simp))))
  · have h := of_decide_eq_false h
    refine exit ?_   -- 0
    show Tr _ _ _ _ _ _ _
    refine seq (region (det rfl (mv rfl) (det rfl (asg rfl) (nilS ?_))))   -- region 8
    exact ret (retT rfl rfl (pr' (vi (by rw [← h4, show i.toNat = 0 by omega]; simp [tailGo]))))
theorem tail_Check_ (L : List St) (hL : ∀ s ∈ L, s.h.ok) (k : Int) (A : Option Addr) (cap : Nat) (D : Nat → Prop) (w : World) (hD : ∀ k, D k → k < w.heap.size) (hs : StS A L.length cap L D w) :
    Calls PP N_tail_Check #[.slice A L.length cap, .int .i64 k] w (PR w (.int .i64 (if (tailLen (L.map St.x) : Int) < k then 11 else 0))) := by
  refine enter f_tail_Check rfl n_tail_Check rfl (M.init1 PP w StS.stable hD hs) ?_
  obtain ⟨z, hz⟩ : ∃ z, tailLen (L.map St.x) = z := ⟨_, rfl⟩
  rw [hz]
  refine seq (region (det rfl (asg rfl) (nilS ?_)))   -- region 0
  refine seq ?_
  refine seq (region (det rfl (mv rfl) (call (v := .int .i64 z) k_tail_Len (show _ = [Value.slice A L.length cap] from rfl) rfl (fun w hm => by
    obtain ⟨D, d1, d2, hD, d4, d5⟩ := hm.data
    exact hz ▸ tail_Len_ L hL A cap D w hD d5.1) (det rfl (mv rfl) (det rfl (lss rfl rfl) (nilS ?_))))))   -- region 1
  refine cond rfl (fun h => ?_) (fun h => ?_)   -- on t8
  · have h := of_decide_eq_true h
    rw [if_pos h]
    refine seq (region (det rfl (asg rfl) (nilS ?_)))   -- region 2
    exact ret (retT rfl rfl pr)
  · have h := of_decide_eq_false h
    rw [if_neg h]
    refine skipS ?_
    refine seq (region (det rfl (asg rfl) (nilS ?_)))   -- region 3
    exact ret (retT rfl rfl pr)
end Go.Proofs.YtmcapgjdflohfaaGreat.L
