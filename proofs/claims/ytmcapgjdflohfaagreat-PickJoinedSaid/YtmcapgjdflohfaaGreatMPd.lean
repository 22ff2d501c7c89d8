/- The statement PickJoinedSaid: of each input the given function returns true, and the arguments read as before. Conditions: none. The walk is in LPJ, the arguments are opened in Open; the row's steps are the guide's template for a law. -/
import Derived.Test.YtmcapgjdflohfaaGreatMPc
import Derived.SizedLaws
import Derived.Deep.Slices
import Derived.OpenShut
import Derived.Test.YtmcapgjdflohfaaGreatRows
import Derived.WalkKit
import Derived.ProofKit
import Derived.ShutString
import Derived.ChangeOld
import Derived.Below
set_option linter.all false
namespace Go.Proofs.YtmcapgjdflohfaaGreat.L
open Go Go.RowKit
set_option linter.unusedVariables false
set_option linter.constructorNameAsVariable false

section
variable {H : Type} {enc : TypeId × Value → H} {W : World} {base : Nat} {spare : Nat → Bool} {held : Bool}

/-- Each weight of a datum is no more than a size may be. -/
def Wt {H : Type} (t : TypeId) (d : DataW H) : Prop := ∀ n ∈ d.weights PP t, n ≤ 140737488355328
theorem wt_all {e : TypeId} {l : List (DataW H)} {d : DataW H} (hd : d ∈ l) : ∀ n ∈ d.weights PP e, n ∈ DataW.weightsAll PP e l := by
  induction l with
  | nil => cases hd
  | cons x r ih =>
    intro n hn
    simp only [DataW.weightsAll, List.mem_append]
    rcases List.mem_cons.1 hd with rfl | hd
    · exact .inl hn
    · exact .inr (ih hd n hn)
theorem wt_each {ts : List TypeId} {ds : List (DataW H)} {j : Nat} {t : TypeId} {d : DataW H} (ht : ts[j]? = some t) (hd : ds[j]? = some d) (hw : ∀ n ∈ DataW.weightsEach PP ts ds, n ≤ 140737488355328) : Wt t d :=
  fun n hn => hw n (DataW.weights_mem_each ht hd n hn)

theorem exists_list {α : Type} (n : Nat) (p : Nat → α → Prop) (h : ∀ i < n, ∃ a, p i a) : ∃ l : List α, l.length = n ∧ ∀ i a, l[i]? = some a → p i a := by
  induction n with
  | zero => exact ⟨[], rfl, fun i a h => by simp at h⟩
  | succ n ih =>
    obtain ⟨l, hl, hp⟩ := ih fun i hi => h i (by omega)
    obtain ⟨a, ha⟩ := h n (by omega)
    refine ⟨l ++ [a], by simp [hl], fun i b hb => ?_⟩
    by_cases hi : i < n
    · rw [List.getElem?_append_left (by omega)] at hb; exact hp i b hb
    · have := (List.getElem?_eq_some_iff.1 hb).1
      simp only [List.length_append, List.length_singleton] at this
      have e : i = n := by omega
      subst e
      rw [List.getElem?_append_right (by omega), hl, Nat.sub_self] at hb
      simp only [List.getElem?_cons_zero, Option.some.injEq] at hb
      rw [← hb]; exact ha

theorem dec_slice {α : Type} {t e : TypeId} {sz fuel : Nat} {cs : List Value} {x : DataW H × List MemPlace} (C : α → List Value) (R : α → Prop) (ht : PP.underlying t = some (.slice e)) (hc : PP.cellsOf e = sz) (hsz : 0 < sz)
    (h : DataW.trod enc PP W base spare held fuel t cs = some x) (hw : Wt t x.1)
    (el : ∀ f cs y, DataW.trod enc PP W base spare held f e cs = some y → Wt e y.1 → ∃ a, cs = C a ∧ R a) (hR : ∀ a, R a → (C a).length = sz ∧ one (C a) = true) :
    ∃ A cap, ∃ l : List α, cs = [.slice A l.length cap] ∧ (∀ a ∈ l, R a) ∧ Sl sz A l.length cap (l.map C) (fun k => k < W.heap.size) W := by
  rcases Go.Deep.open_slice ht h with ⟨rfl, _⟩ | ⟨a, len, cap, m, n, D, Pl, rfl, _, hl, hm, hmm, rfl, hx⟩
  · exact ⟨none, 0, [], rfl, (fun a h => nomatch h), Sl.nil⟩
  · have hle : len ≤ m := by rw [hmm]; split <;> omega
    obtain ⟨l, hll, hlp⟩ := exists_list len (fun i b => W.cells? base (a.add (i * sz)) sz = some (C b) ∧ R b) (fun i hi => by
      obtain ⟨cs', h1, h2⟩ := hx i (by omega)
      obtain ⟨b, rfl, hb⟩ := el n cs' _ h2 (fun n hn => hw n (by
        simp only [DataW.weights, ht, List.mem_cons, List.mem_append]
        exact .inr (.inl (wt_all (List.mem_map.2 ⟨i, List.mem_range.2 hi, rfl⟩) n hn))))
      exact ⟨b, by rw [hc] at h1; exact h1, hb⟩)
    have hRl : ∀ b ∈ l, R b := fun b hb => by
      obtain ⟨i, hi, rfl⟩ := List.getElem_of_mem hb
      exact (hlp i _ (List.getElem?_eq_getElem hi)).2
    refine ⟨some a, cap, l, by rw [hll], hRl, ?_⟩
    refine ⟨by simp, by rw [hll]; exact hl, hm, fun c hc => ?_, fun h0 => ?_⟩
    · obtain ⟨b, hb, rfl⟩ := List.mem_map.1 hc
      exact hR b (hRl b hb)
    · have hcell : ∀ i b, l[i]? = some b → ∀ j u, (C b)[j]? = some u → W.cell? (a.add (i * sz + j)) = some u := fun i b hb j u hu => by
        obtain ⟨h1, h2⟩ := hlp i b hb
        obtain ⟨_, h3, h4⟩ := World.cells?_some h1
        have hj := (List.getElem?_eq_some_iff.1 hu).1
        rw [← Go.Deep.add_add, h4 j (by omega), hu]
      have hsp : a.spot = none := by
        have hg : l[0]? = some l[0] := List.getElem?_eq_getElem h0
        have hb := hR _ (hRl _ (List.getElem_mem h0))
        have := hcell 0 _ hg 0 _ (List.getElem?_eq_getElem (by omega))
        simp only [Nat.zero_mul, Nat.add_zero, Addr.add, if_true] at this
        cases hs : a.spot with
        | none => rfl
        | some s =>
          simp only [World.cell?, hs, Option.isSome_some, if_true] at this
          split at this <;> cases this
      obtain ⟨b, off, sp⟩ := a
      simp only at hsp
      subst hsp
      refine ⟨b, off, rfl, ?_, fun i c hi j u hu => ?_⟩
      · have hb := hR _ (hRl _ (List.getElem_mem h0))
        have := hcell 0 _ (List.getElem?_eq_getElem h0) 0 _ (List.getElem?_eq_getElem (by omega))
        rw [add0] at this
        exact World.block_lt_of_cell? W _ this
      · rw [List.getElem?_map] at hi
        obtain ⟨b', hb', rfl⟩ := Option.map_eq_some_iff.1 hi
        have := hcell i b' hb' j u hu
        rw [add0] at this
        rw [Nat.add_assoc]; exact this

/-! ### Values -/
theorem dec_u8 {fuel : Nat} {cs : List Value} {x : DataW H × List MemPlace} (h : DataW.trod enc PP W base spare held fuel T_uint8 cs = some x) : ∃ b : UInt8, cs = [.int .u8 b.toNat] := by
  obtain ⟨n, rfl, _, hw⟩ := DataW.trod_int u_uint8 h
  have := bounds_u8 hw
  refine ⟨UInt8.ofNat n.toNat, ?_⟩
  have e : ((UInt8.ofNat n.toNat).toNat : Int) = n := by
    rw [UInt8.toNat_ofNat']; omega
  rw [e]
theorem dec_hash {fuel : Nat} {cs : List Value} {x : DataW H × List MemPlace} (h : DataW.trod enc PP W base spare held fuel T_api_Hash cs = some x) : ∃ l : List UInt8, l.length = 32 ∧ cs = b8 l := by
  obtain ⟨xs, m, _, _, hlen, hxl, hi⟩ := DataW.trod_array u_api_Hash h
  have h32 : PP.cellsOf T_api_Hash = 32 := by kernel_rfl
  have h1 : PP.cellsOf T_uint8 = 1 := by kernel_rfl
  have h1' : PP.cellsOf 5 = 1 := h1
  rw [h32] at hlen
  obtain ⟨l, hl, hp⟩ := exists_list 32 (fun i (b : UInt8) => cs[i]? = some (.int .u8 b.toNat)) (fun i hi32 => by
    have := hi i hi32
    rw [h1, List.getElem?_eq_getElem (by omega), Nat.mul_one] at this
    obtain ⟨b, hb⟩ := dec_u8 this
    refine ⟨b, ?_⟩
    have e : ((cs.drop i).take 1)[0]? = some (.int .u8 b.toNat) := by rw [hb]; rfl
    rw [List.getElem?_take, if_pos (by decide), List.getElem?_drop, Nat.add_zero] at e
    exact e)
  refine ⟨l, hl, ?_⟩
  apply List.ext_getElem?
  intro i
  by_cases hi : i < 32
  · have hg : l[i]? = some l[i] := List.getElem?_eq_getElem (by omega)
    rw [hp i _ hg, b8, List.getElem?_map, hg]; rfl
  · rw [List.getElem?_eq_none (by omega), List.getElem?_eq_none (by rw [b8_length]; omega)]
theorem cut_eq {cs : List Value} (a b : Nat) : cs.drop a = (cs.drop a).take b ++ cs.drop (a + b) := by
  rw [← List.drop_drop]; exact (List.take_append_drop b (cs.drop a)).symm
theorem fld {m : Nat} {cs : List Value} {fs : Array Field} {xs : List (DataW H × List MemPlace)} (hf : ∀ (i : Nat) (f : Field), fs[i]? = some f → DataW.trod enc PP W base spare held m f.type ((cs.drop f.offset).take (PP.cellsOf f.type)) = xs[i]?)
    (i : Nat) {f : Field} (h : fs[i]? = some f) {ty : TypeId} {o k : Nat} (h1 : f.type = ty) (h2 : f.offset = o) (h3 : PP.cellsOf ty = k) (hi : i < xs.length) : DataW.trod enc PP W base spare held m ty ((cs.drop o).take k) = some xs[i] := by
  have := hf i f h
  rw [h1, h2, h3, List.getElem?_eq_getElem hi] at this
  exact this
theorem dec_head {fuel : Nat} {cs : List Value} {x : DataW H × List MemPlace} (h : DataW.trod enc PP W base spare held fuel T_api_Header cs = some x) : ∃ y : Hd, y.ok ∧ cs = y.c := by
  obtain ⟨xs, m, _, _, hlen, hxl, hf⟩ := DataW.trod_struct u_api_Header h
  have e66 : PP.cellsOf T_api_Header = 66 := by kernel_rfl
  rw [e66] at hlen
  have hxl : xs.length = 4 := hxl
  have f0 := fld hf 0 rfl (ty := T_uint32) (o := 0) rfl rfl (k := 1) (by kernel_rfl) (by omega)
  have f1 := fld hf 1 rfl (ty := T_api_Hash) (o := 1) rfl rfl (k := 32) (by kernel_rfl) (by omega)
  have f2 := fld hf 2 rfl (ty := T_api_Hash) (o := 33) rfl rfl (k := 32) (by kernel_rfl) (by omega)
  have f3 := fld hf 3 rfl (ty := T_uint64) (o := 65) rfl rfl (k := 1) (by kernel_rfl) (by omega)
  obtain ⟨hh, e0, _, _⟩ := DataW.trod_int u_uint32 f0
  obtain ⟨l, hl, e1⟩ := dec_hash f1
  obtain ⟨t, ht, e2⟩ := dec_hash f2
  obtain ⟨n, e3, _, _⟩ := DataW.trod_int u_uint64 f3
  refine ⟨⟨hh, l, t, n⟩, ⟨hl, ht⟩, ?_⟩
  have c0 := cut_eq (cs := cs) 0 1
  have c1 := cut_eq (cs := cs) 1 32
  have c2 := cut_eq (cs := cs) 33 32
  have c3 := cut_eq (cs := cs) 65 1
  rw [List.drop_of_length_le (show cs.length ≤ 65 + 1 by omega), e3] at c3
  rw [e2, show 33 + 32 = 65 from rfl, c3] at c2
  rw [e1, show 1 + 32 = 33 from rfl, c2] at c1
  rw [e0, show 0 + 1 = 1 from rfl, c1, List.drop_zero] at c0
  rw [c0]; rfl
theorem dec_texts {fuel : Nat} {cs : List Value} {x : DataW H × List MemPlace} (h : DataW.trod enc PP W base spare held fuel T_sl_string cs = some x) (hw : Wt T_sl_string x.1) :
    ∃ A cap, ∃ l : List (List UInt8), cs = [.slice A l.length cap] ∧ (∀ s ∈ l, s.length ≤ 140737488355328) ∧ Sl 1 A l.length cap (tl l) (fun k => k < W.heap.size) W :=
  dec_slice (fun s => [.string (bs s)]) (fun s => s.length ≤ 140737488355328) u_sl_string (by kernel_rfl) (by decide) h hw (fun f cs y hy hwy => by
    obtain ⟨s, rfl, hd, _⟩ := DataW.trod_string u_string hy
    refine ⟨s.data.toList, rfl, ?_⟩
    exact hwy _ (by rw [hd]; simp [DataW.weights])) (fun _ _ => ⟨rfl, rfl⟩)
/-- What is known of a block that was handed in. -/
def Bin (W : World) (b : Bl) : Prop := b.h.ok ∧ (∀ x ∈ b.t, x.length ≤ 140737488355328) ∧ Sl 1 b.A b.t.length b.cap (tl b.t) (fun k => k < W.heap.size) W
theorem dec_block {fuel : Nat} {cs : List Value} {x : DataW H × List MemPlace} (h : DataW.trod enc PP W base spare held fuel T_api_Block cs = some x) (hw : Wt T_api_Block x.1) : ∃ b : Bl, cs = b.c ∧ Bin W b := by
  obtain ⟨xs, m, _, hx, hlen, hxl, hf⟩ := DataW.trod_struct u_api_Block h
  have e67 : PP.cellsOf T_api_Block = 67 := by kernel_rfl
  rw [e67] at hlen
  have hxl : xs.length = 2 := hxl
  have f0 := fld hf 0 rfl (ty := T_api_Header) (o := 0) rfl rfl (k := 66) (by kernel_rfl) (by omega)
  have f1 := fld hf 1 rfl (ty := T_sl_string) (o := 66) rfl rfl (k := 1) (by kernel_rfl) (by omega)
  obtain ⟨y, hy, e0⟩ := dec_head f0
  obtain ⟨A, cap, l, e1, hl, hsl⟩ := dec_texts f1 (fun n hn => hw n (by
    rw [hx]
    simp only [DataW.weights, u_api_Block]
    refine DataW.weights_mem_each (j := 1) rfl ?_ n hn
    rw [List.getElem?_map, List.getElem?_eq_getElem (by omega)]; rfl))
  refine ⟨⟨y, A, cap, l⟩, ?_, hy, hl, hsl⟩
  have c0 := cut_eq (cs := cs) 0 66
  have c1 := cut_eq (cs := cs) 66 1
  rw [List.drop_of_length_le (show cs.length ≤ 66 + 1 by omega), e1] at c1
  rw [e0, show 0 + 66 = 66 from rfl, c1, List.drop_zero] at c0
  rw [c0]; rfl
theorem Bin.one {b : Bl} (h : Bin W b) : b.c.length = 67 ∧ one b.c = true := ⟨Bl.c_length h.1, Bl.c_one b⟩
theorem dec_blocks {fuel : Nat} {cs : List Value} {x : DataW H × List MemPlace} (h : DataW.trod enc PP W base spare held fuel T_sl_api_Block cs = some x) (hw : Wt T_sl_api_Block x.1) :
    ∃ A cap, ∃ l : List Bl, cs = [.slice A l.length cap] ∧ (∀ b ∈ l, Bin W b) ∧ Sl 67 A l.length cap (bl l) (fun k => k < W.heap.size) W :=
  dec_slice Bl.c (Bin W) u_sl_api_Block (by kernel_rfl) (by decide) h hw (fun f cs y hy hwy => dec_block hy hwy) (fun _ h => h.one)
theorem dec_int {fuel : Nat} {cs : List Value} {x : DataW H × List MemPlace} (h : DataW.trod enc PP W base spare held fuel T_int cs = some x) : ∃ n : Int, cs = [.int .i64 n] ∧ -9223372036854775808 ≤ n ∧ n ≤ 9223372036854775807 := by
  obtain ⟨n, rfl, _, hw⟩ := DataW.trod_int u_int h
  exact ⟨n, rfl, bounds_i64 hw⟩
/-- A whole number's bounds. -/
def I64 (n : Int) : Prop := -9223372036854775808 ≤ n ∧ n ≤ 9223372036854775807
def Cf.fit (c : Cf) : Prop := I64 c.m ∧ I64 c.k ∧ I64 c.a ∧ I64 c.b ∧ I64 c.mb ∧ I64 c.mp
theorem dec_cfg {fuel : Nat} {cs : List Value} {x : DataW H × List MemPlace} (h : DataW.trod enc PP W base spare held fuel T_api_Config cs = some x) : ∃ c : Cf, cs = c.c ∧ c.ok ∧ c.fit := by
  obtain ⟨xs, m, _, hx, hlen, hxl, hf⟩ := DataW.trod_struct u_api_Config h
  have e104 : PP.cellsOf T_api_Config = 104 := by kernel_rfl
  rw [e104] at hlen
  have hxl : xs.length = 8 := hxl
  have f0 := fld hf 0 rfl (ty := T_api_Header) (o := 0) rfl rfl (k := 66) (by kernel_rfl) (by omega)
  have f1 := fld hf 1 rfl (ty := T_api_Hash) (o := 66) rfl rfl (k := 32) (by kernel_rfl) (by omega)
  have f2 := fld hf 2 rfl (ty := T_int) (o := 98) rfl rfl (k := 1) (by kernel_rfl) (by omega)
  have f3 := fld hf 3 rfl (ty := T_int) (o := 99) rfl rfl (k := 1) (by kernel_rfl) (by omega)
  have f4 := fld hf 4 rfl (ty := T_int) (o := 100) rfl rfl (k := 1) (by kernel_rfl) (by omega)
  have f5 := fld hf 5 rfl (ty := T_int) (o := 101) rfl rfl (k := 1) (by kernel_rfl) (by omega)
  have f6 := fld hf 6 rfl (ty := T_int) (o := 102) rfl rfl (k := 1) (by kernel_rfl) (by omega)
  have f7 := fld hf 7 rfl (ty := T_int) (o := 103) rfl rfl (k := 1) (by kernel_rfl) (by omega)
  obtain ⟨g, hg, e0⟩ := dec_head f0
  obtain ⟨t, ht, e1⟩ := dec_hash f1
  obtain ⟨n2, e2, b2⟩ := dec_int f2
  obtain ⟨n3, e3, b3⟩ := dec_int f3
  obtain ⟨n4, e4, b4⟩ := dec_int f4
  obtain ⟨n5, e5, b5⟩ := dec_int f5
  obtain ⟨n6, e6, b6⟩ := dec_int f6
  obtain ⟨n7, e7, b7⟩ := dec_int f7
  refine ⟨⟨g, t, n2, n3, n4, n5, n6, n7⟩, ?_, ⟨hg, ht⟩, b2, b3, b4, b5, b6, b7⟩
  have c0 := cut_eq (cs := cs) 0 66
  have c1 := cut_eq (cs := cs) 66 32
  have c2 := cut_eq (cs := cs) 98 1
  have c3 := cut_eq (cs := cs) 99 1
  have c4 := cut_eq (cs := cs) 100 1
  have c5 := cut_eq (cs := cs) 101 1
  have c6 := cut_eq (cs := cs) 102 1
  have c7 := cut_eq (cs := cs) 103 1
  rw [List.drop_of_length_le (show cs.length ≤ 103 + 1 by omega), e7] at c7
  rw [e6, show 102 + 1 = 103 from rfl, c7] at c6
  rw [e5, show 101 + 1 = 102 from rfl, c6] at c5
  rw [e4, show 100 + 1 = 101 from rfl, c5] at c4
  rw [e3, show 99 + 1 = 100 from rfl, c4] at c3
  rw [e2, show 98 + 1 = 99 from rfl, c3] at c2
  rw [e1, show 66 + 32 = 98 from rfl, c2] at c1
  rw [e0, show 0 + 66 = 66 from rfl, c1, List.drop_zero] at c0
  rw [c0]; rfl
end
/-- The zero configuration's cells. -/
def cf0 : List Value := ([.int .u32 0] ++ (List.replicate 32 (.int .u8 0) ++ (List.replicate 32 (.int .u8 0) ++ [.int .u64 0]))) ++ (List.replicate 32 (.int .u8 0) ++ [.int .i64 0, .int .i64 0, .int .i64 0, .int .i64 0, .int .i64 0, .int .i64 0])
theorem wt_of {H : Type} {ts : List TypeId} {ds : List (DataW H)} (h : (DataW.weightsEach PP ts ds).all (· ≤ reachBytes) = true) {j : Nat} {t : TypeId} {d : DataW H} (ht : ts[j]? = some t) (hd : ds[j]? = some d) : Wt t d := fun n hn => by
  have := List.all_eq_true.1 h _ (DataW.weights_mem_each ht hd n hn)
  have := of_decide_eq_true this
  have := reachBytes_lt
  omega
theorem okAgg {W : World} {r : Reach} {base : Nat} {t : TypeId} {v : Value} {fs : Array Field} (ht : PP.underlying t = some (.struct fs)) (h : Value.okWide PP W r base t v) : ∃ cs : Array Value, v = .agg cs := by
  unfold Value.okWide at h
  rw [ht] at h
  obtain ⟨cs, rfl, _⟩ := h
  exact ⟨cs, rfl⟩
end Go.Proofs.YtmcapgjdflohfaaGreat.L

namespace Go.Proofs.YtmcapgjdflohfaaGreat.L
open Go Go.RowKit Mp
set_option linter.unusedVariables false

theorem getD_mem' {l : List Int} {i : Nat} (h : i < l.length) : l.getD i 0 ∈ l := by
  rw [List.getD_eq_getElem?_getD, List.getElem?_eq_getElem h]; exact List.getElem_mem h
/-- An end with so many has enough of them. -/
def supN (l : List Int) (lv a b : Int) (n : Nat) : Bool := aboveR n (l.length - ((Mp.places l 0 lv).getD ((Mp.places l 0 lv).length - n) 0).toNat) lv a b
def superR (l : List Int) (lv m a b : Int) : Bool := (List.range ((Mp.places l 0 lv).length + 1)).all fun n => decide ((n : Int) < max m 1) || supN l lv a b n
theorem super_no {l : List Int} {lv m a b : Int} {n : Nat} (h1 : max m 1 ≤ n) (h2 : n ≤ (Mp.places l 0 lv).length) (h : supN l lv a b n = false) : superR l lv m a b = false := by
  rw [Bool.eq_false_iff]
  intro h'
  have := List.all_eq_true.1 h' n (List.mem_range.2 (by omega))
  rw [h, decide_eq_false (by omega)] at this
  cases this
theorem super_yes {l : List Int} {lv m a b : Int} (h : ∀ n : Nat, max m 1 ≤ n → n ≤ (Mp.places l 0 lv).length → supN l lv a b n = true) : superR l lv m a b = true := by
  refine List.all_eq_true.2 fun n hn => ?_
  have hn := List.mem_range.1 hn
  by_cases e : (n : Int) < max m 1
  · rw [decide_eq_true e]; rfl
  · rw [h n (by omega) (by omega), Bool.or_true]
theorem places_len (l : List Int) (fr lv : Int) : (Mp.places l fr lv).length ≤ l.length := by rw [← plN_all]; exact plN_len _ _ _ _

set_option maxRecDepth 8000 in
theorem good_Super_ (l : List Int) (hn : l.length ≤ 1024) (lv m a b : Int) (A : Option Addr) (cap : Nat) (D : Nat → Prop) (w : World) (hD : ∀ k, D k → k < w.heap.size) (hs : Sl 1 A l.length cap (il l) D w) :
    Calls PP N_good_Super #[.slice A l.length cap, .int .i64 lv, .int .i64 m, .int .i64 a, .int .i64 b] w (PR w (.bool (superR l lv m a b))) := by
  refine enter f_good_Super rfl n_good_Super rfl (M.init1 PP w Sl.stable hD hs) ?_
  obtain ⟨R, hR⟩ : ∃ R, Mp.places l 0 lv = R := ⟨_, rfl⟩
  have hRl : R.length ≤ l.length := by rw [← hR]; exact places_len _ _ _
  refine seq (region (det rfl (asg rfl) (nilS ?_)))   -- region 0
  refine seq (region (det rfl (mv rfl) (det rfl (mv rfl) (callS' (m := R.length) (sz := 1) (ls := il R) (il_length R) k_up_Places rfl rfl (fun w hm => by
    obtain ⟨D, hD, hs⟩ := hm.sl (k := 0) rfl
    have := up_Places_ l (by omega) 0 lv A cap D w hD hs
    rw [hR] at this; exact this) fun B q => det rfl (asg rfl) (nilS ?_)))))   -- region 1
  refine seq ?_
  refine seq (region (det rfl (mv rfl) (det rfl (lenS u_sl_int rfl) (det rfl (gtr rfl rfl) (nilS ?_)))))   -- region 2
  refine condF (by show Value.bool _ = _; exact vb (decide_eq_false (by omega))) ?_
  refine skipS ?_
  refine seq ?_
  refine seq (region (det rfl (mv rfl) (det rfl (maxI rfl rfl) (det rfl (asg rfl) (nilS ?_)))))   -- region 4
  refine block ?_   -- block 0
  refine loopV (ι := Nat) (fun k => max m 1 ≤ k ∧ ∀ j : Nat, max m 1 ≤ j → j < k → j ≤ R.length → supN l lv a b j = true) (fun k => [(0, .slice A l.length cap), (1, .int .i64 lv), (3, .int .i64 a), (4, .int .i64 b), (11, .slice B R.length q), (12, .int .i64 k)]) (fun _ => []) (fun _ => [Sl 1 B R.length q (il R), Sl 1 A l.length cap (il l)]) (fun k => R.length + 1 - k) (max m 1).toNat ⟨by omega, fun j h1 h2 _ => by omega⟩ ⟨rfl, rfl, rfl, rfl, rfl, vi (by omega), trivial⟩ (fun w hm => hm) ?_
  intro k σ ⟨hk, hall⟩
  refine seq ?_
  refine seq (region (det rfl (mv rfl) (det rfl (mv rfl) (det rfl (lenS u_sl_int rfl) (det rfl (leq rfl rfl) (nilS ?_))))))   -- region 5
  refine cond rfl (fun h => ?_) (fun h => ?_)   -- on t24
  · have h := of_decide_eq_true h
    have hkl : k ≤ R.length := by omega
    obtain ⟨x, hx⟩ : ∃ x, R.getD (R.length - k) 0 = x := ⟨_, rfl⟩
    have hxm : x ∈ Mp.places l 0 lv := by rw [hR, ← hx]; exact getD_mem' (by omega)
    have hxb := Mp.mem_places.1 hxm
    obtain ⟨v, ev⟩ : ∃ v, supN l lv a b k = v := ⟨_, rfl⟩
    have ev' := ev
    unfold supN at ev'
    rw [hR, hx] at ev'
    refine skipS ?_
    refine seq ?_
    refine block ?_   -- block 1
    refine seq (region (det rfl (mv rfl) (det rfl (mv rfl) (det rfl (lenS u_sl_int rfl) (det rfl (mv rfl) (det rfl (mv rfl) (det rfl (lenS u_sl_int rfl) (det rfl (mv rfl) (det rfl (subI rfl rfl (by omega) (by omega)) (det rfl (ixS 0 rfl rfl u_sl_int s_int rfl (by omega) (by omega)) (det rfl (ldSO 0 (v := .int .i64 x) rfl rfl o_int (by rw [← hx]; exact il_at (by omega) (by omega))) (det rfl (Det.to (subI rfl rfl (by omega) (by omega)) (v' := .int .i64 ((l.length - x.toNat : Nat) : Int)) (vi (by omega))) (det rfl (mv rfl) (det rfl (mv rfl) (det rfl (mv rfl) (call k_good_Local rfl rfl (fun w _ => ev' ▸ good_Local_ k (l.length - x.toNat) (by omega) (by omega) lv a b w) (det rfl (notB rfl) (nilS ?_))))))))))))))))))   -- region 7
    cases v
    · refine condT rfl ?_
      refine seq (region (det rfl (asg rfl) (nilS ?_)))   -- region 8
      exact ret (retT rfl rfl (pr' (vb (super_no (n := k) (by omega) (by rw [hR]; exact hkl) ev).symm)))
    · refine condF rfl ?_
      refine skip ?_
      show Tr _ _ _ _ _ _ _
      refine region (det rfl (mv rfl) (det rfl (addI rfl rfl (by omega) (by omega)) (det rfl (asg rfl) (nil ?_))))   -- region 6
      exact again (k + 1) ⟨by omega, fun j h1 h2 h3 => by
        rcases Nat.lt_or_ge j k with h' | h'
        · exact hall j h1 h' h3
        · rw [show j = k by omega]; exact ev⟩ ⟨rfl, rfl, rfl, rfl, rfl, rfl, trivial⟩ (fun w hm => hm) (by (first | omega | (dsimp only; omega)))
  · have h := of_decide_eq_false h
    refine exit ?_   -- 0
    show Tr _ _ _ _ _ _ _
    refine seq (region (det rfl (asg rfl) (nilS ?_)))   -- region 9
    exact ret (retT rfl rfl (pr' (vb (super_yes fun n h1 h2 => hall n h1 (by rw [hR] at h2; omega) (by rw [hR] at h2; exact h2)).symm)))

/-! ### Multi -/
def multN (l : List Int) (lv m a b : Int) (n : Nat) : Bool := stretchR (cntsL l lv l.length) (cntsL l n l.length) (lv - n) (max m 1) a b
def multiR (l : List Int) (lv m a b : Int) : Bool := decide (lv ≤ 255) && (List.range (max lv 0).toNat).all (multN l lv m a b)
set_option maxRecDepth 8000 in
theorem good_Multi_ (l : List Int) (hn : l.length ≤ 1024) (lv m a b : Int) (hlv : I64 lv) (A : Option Addr) (cap : Nat) (D : Nat → Prop) (w : World) (hD : ∀ k, D k → k < w.heap.size) (hs : Sl 1 A l.length cap (il l) D w) :
    Calls PP N_good_Multi #[.slice A l.length cap, .int .i64 lv, .int .i64 m, .int .i64 a, .int .i64 b] w (PR w (.bool (multiR l lv m a b))) := by
  refine enter f_good_Multi rfl n_good_Multi rfl (M.init1 PP w Sl.stable hD hs) ?_
  unfold I64 at hlv
  refine seq (region (det rfl (asg rfl) (nilS ?_)))   -- region 0
  refine seq ?_
  by_cases hb : 255 < lv
  · refine seq (region (det rfl (mv rfl) (det rfl (lenS u_sl_int rfl) (det rfl (Det.to (gtr rfl rfl) (v' := .bool false) (vb (decide_eq_false (by omega)))) (det rfl (mv rfl) (guardT rfl rfl (det rfl (mv rfl) (guardT rfl rfl (det rfl (Det.to (gtr rfl rfl) (v' := .bool true) (vb (decide_eq_true hb))) (det rfl (pick (b := false) rfl rfl) (nilS ?_)))))))))))   -- region 1
    refine condT rfl ?_
    refine seq (region (det rfl (asg rfl) (nilS ?_)))   -- region 2
    exact ret (retT rfl rfl (pr' (vb (by simp [multiR]; omega))))
  · refine seq (region (det rfl (mv rfl) (det rfl (lenS u_sl_int rfl) (det rfl (Det.to (gtr rfl rfl) (v' := .bool false) (vb (decide_eq_false (by omega)))) (det rfl (mv rfl) (guardT rfl rfl (det rfl (mv rfl) (guardT rfl rfl (det rfl (Det.to (gtr rfl rfl) (v' := .bool false) (vb (decide_eq_false hb))) (det rfl (pick (b := false) rfl rfl) (nilS ?_)))))))))))   -- region 1
    refine condF rfl ?_
    refine skipS ?_
    refine seq (region (det rfl (mv rfl) (det rfl (mv rfl) (callS' (m := l.length + 1) (sz := 1) (ls := il (cntsL l lv l.length)) (by rw [il_length, cntsL_length]) k_good_counts rfl rfl (fun w hm => by
      obtain ⟨D, hD, hs⟩ := hm.sl (k := 0) rfl
      exact good_counts_ l (by omega) lv A cap D w hD hs) fun B q => det rfl (asg rfl) (nilS ?_)))))   -- region 3
    refine seq ?_
    refine seq (region (det rfl (mv rfl) (det rfl (maxI rfl rfl) (det rfl (mv rfl) (nilS ?_)))))   -- region 4
    refine block ?_   -- block 0
    refine loopV (ι := Nat) (fun k => (k : Int) ≤ max lv 0 ∧ ∀ j : Nat, j < k → multN l lv m a b j = true) (fun k => [(0, .slice A l.length cap), (1, .int .i64 lv), (2, .int .i64 m), (3, .int .i64 a), (4, .int .i64 b), (11, .slice B (l.length + 1) q), (24, .int .i64 (max lv 0)), (25, .int .i64 k)]) (fun _ => []) (fun _ => [Sl 1 B (l.length + 1) q (il (cntsL l lv l.length)), Sl 1 A l.length cap (il l)]) (fun k => (max lv 0).toNat - k) 0 ⟨by omega, fun j h => by omega⟩ ⟨rfl, rfl, rfl, rfl, rfl, rfl, rfl, rfl, trivial⟩ (fun w hm => hm) ?_
    intro k σ ⟨hk, hall⟩
    refine seq (region (det rfl (lss rfl rfl) (nilS ?_)))   -- region 5
    refine seq ?_
    refine cond rfl (fun h => ?_) (fun h => ?_)   -- on t26
    · have h := of_decide_eq_true h
      obtain ⟨v, ev⟩ : ∃ v, multN l lv m a b k = v := ⟨_, rfl⟩
      have ev' := ev
      unfold multN at ev'
      refine skipS ?_
      refine seq ?_
      refine block ?_   -- block 1
      refine seq (region (det rfl (mv rfl) (det rfl (asg rfl) (nilS ?_))))   -- region 6
      refine seq (region (det rfl (mv rfl) (det rfl (mv rfl) (det rfl (mv rfl) (callS' (m := l.length + 1) (sz := 1) (ls := il (cntsL l k l.length)) (by rw [il_length, cntsL_length]) k_good_counts rfl rfl (fun w hm => by
        obtain ⟨D, hD, hs⟩ := hm.sl (k := 1) rfl
        exact good_counts_ l (by omega) k A cap D w hD hs) fun C r => det rfl (mv rfl) (det rfl (mv rfl) (det rfl (subI rfl rfl (by omega) (by omega)) (det rfl (mv rfl) (det rfl (maxI rfl rfl) (det rfl (mv rfl) (det rfl (mv rfl) (call (v := .bool v) k_good_stretches rfl rfl (fun w hm => by
        obtain ⟨D, d1, d2, hD, d4, d5⟩ := hm.data
        have hc1 := cntsL_length l lv l.length
        have hc2 := cntsL_length l (k : Int) l.length
        have h0 : Sl 1 C (l.length + 1) r (il (cntsL l k l.length)) D w := d5.1
        have h1 : Sl 1 B (l.length + 1) q (il (cntsL l lv l.length)) D w := d5.2.1
        have := good_stretches_ (cntsL l lv l.length) (cntsL l k l.length) (cnts_rise hn lv) (cnts_rise hn k) (by omega) (by omega) (lv - k) (max m 1) a b B C q r D w hD (by rw [hc1]; exact h1) (by rw [hc2]; exact h0)
        rw [hc1, hc2, ev'] at this
        exact this) (det rfl (notB rfl) (nilS ?_))))))))))))))   -- region 7
      cases v
      · refine condT rfl ?_
        refine seq (region (det rfl (asg rfl) (nilS ?_)))   -- region 8
        exact ret (retT rfl rfl (pr' (vb (by
          unfold multiR
          symm
          rw [Bool.and_eq_false_iff]
          right
          rw [Bool.eq_false_iff]
          intro h'
          have := List.all_eq_true.1 h' k (List.mem_range.2 (by omega))
          rw [ev] at this; cases this))))
      · refine condF rfl ?_
        refine skip ?_
        show Tr _ _ _ _ _ _ _
        refine region (det rfl (addI rfl rfl (by omega) (by omega)) (det rfl (mv rfl) (nil ?_)))   -- region 9
        exact again (k + 1) ⟨by omega, fun j h2 => by
          rcases Nat.lt_or_ge j k with h' | h'
          · exact hall j h'
          · rw [show j = k by omega]; exact ev⟩ ⟨rfl, rfl, rfl, rfl, rfl, rfl, rfl, rfl, trivial⟩ (fun w hm => hm.more) (by (first | omega | (dsimp only; omega)))
    · have h := of_decide_eq_false h
      refine exit ?_   -- 0
      show Tr _ _ _ _ _ _ _
      refine seq (region (det rfl (asg rfl) (nilS ?_)))   -- region 10
      exact ret (retT rfl rfl (pr' (vb (by
        unfold multiR
        rw [decide_eq_true (by omega), Bool.true_and]
        symm
        exact List.all_eq_true.2 fun n hn => hall n (by have := List.mem_range.1 hn; omega)))))

def goodR (l : List Int) (lv m a b : Int) : Bool := superR l lv m a b && multiR l lv m a b
set_option maxRecDepth 8000 in
theorem good_Good_ (l : List Int) (hn : l.length ≤ 1024) (lv m a b : Int) (hlv : I64 lv) (A : Option Addr) (cap : Nat) (D : Nat → Prop) (w : World) (hD : ∀ k, D k → k < w.heap.size) (hs : Sl 1 A l.length cap (il l) D w) :
    Calls PP N_good_Good #[.slice A l.length cap, .int .i64 lv, .int .i64 m, .int .i64 a, .int .i64 b] w (PR w (.bool (goodR l lv m a b))) := by
  refine enter f_good_Good rfl n_good_Good rfl (M.init1 PP w Sl.stable hD hs) ?_
  obtain ⟨x, hx⟩ : ∃ x, superR l lv m a b = x := ⟨_, rfl⟩
  refine seq (region (det rfl (asg rfl) (nilS ?_)))   -- region 0
  cases x
  · refine seq (region (det rfl (mv rfl) (det rfl (mv rfl) (det rfl (mv rfl) (det rfl (mv rfl) (det rfl (mv rfl) (call (v := .bool false) k_good_Super rfl rfl (fun w hm => by
      obtain ⟨D, hD, hs⟩ := hm.sl (k := 0) rfl
      have := good_Super_ l hn lv m a b A cap D w hD hs
      rw [hx] at this; exact this) (det rfl (mv rfl) (guardF rfl rfl rfl (guardF rfl rfl rfl (guardF rfl rfl rfl (guardF rfl rfl rfl (guardF rfl rfl rfl (guardF rfl rfl rfl (det rfl (pick (b := false) rfl rfl) (det rfl (asg rfl) (nilS ?_)))))))))))))))))   -- region 1
    exact ret (retT rfl rfl (pr' (vb (by rw [goodR, hx]; rfl))))
  · refine seq (region (det rfl (mv rfl) (det rfl (mv rfl) (det rfl (mv rfl) (det rfl (mv rfl) (det rfl (mv rfl) (call (v := .bool true) k_good_Super rfl rfl (fun w hm => by
      obtain ⟨D, hD, hs⟩ := hm.sl (k := 0) rfl
      have := good_Super_ l hn lv m a b A cap D w hD hs
      rw [hx] at this; exact this) (det rfl (mv rfl) (guardT rfl rfl (det rfl (mv rfl) (guardT rfl rfl (det rfl (mv rfl) (guardT rfl rfl (det rfl (mv rfl) (guardT rfl rfl (det rfl (mv rfl) (guardT rfl rfl (det rfl (mv rfl) (guardT rfl rfl (call k_good_Multi rfl rfl (fun w hm => by
      obtain ⟨D, hD, hs⟩ := hm.sl (k := 0) rfl
      exact good_Multi_ l hn lv m a b hlv A cap D w hD hs) (det rfl (pick (b := true) rfl rfl) (det rfl (asg rfl) (nilS ?_)))))))))))))))))))))))   -- region 1
    exact ret (retT rfl rfl (pr' (vb (by rw [goodR, hx]; rfl))))
end Go.Proofs.YtmcapgjdflohfaaGreat.L

namespace Go.Proofs.YtmcapgjdflohfaaGreat.L
open Go Go.RowKit

theorem lc {α : Type} {a a' : α} {l l' : List α} (h : a = a') (k : l = l') : a :: l = a' :: l' := by rw [h, k]
section
variable {c : Cx} {n : Nat} {Q : Exit → Env → World → Prop} {σ : Env} {H : List Res} {K : List Fact}
variable {t : TypeId} {p : String} {af : Array Edge}
/-- A guarded call, whether it runs or not. -/
theorem guardC {ops : Array Oper} {d : Nat} {f : FuncId} {args : Array Operand} {ats : Array TypeId} {vs : List Value} {l : List Oper} {v : Value} {j s : Nat} {b g : Bool}
    (hj : (ops[j]?).bind (·.dst) = some s) (hs : σ s = .bool b) (hf : Fn c.P f) (ha : b = g → args.toList.map (ev σ) = vs) (hd : Nat.blt d n = true)
    (spec : b = g → ∀ w, M c H K w → Calls c.P f vs.toArray w fun e w' => e = .returned v ∧ Below w.heap.size w w') (h : TL c n ops l Q (upd σ d (bif (b == g) then v else undef)) H K) :
    TL c n ops (⟨some d, .call { callee := .value (.func f), args := args, argTypes := ats }, t, p, af, some (j, g)⟩ :: l) Q σ H K := by
  by_cases e : b = g
  · refine guardT hj (by rw [hs, e]) (call hf (ha e) hd (spec e) ?_)
    rw [show (b == g) = true by simp [e]] at h
    exact h
  · refine guardF hj (by rw [hs]; congr 1; cases b <;> cases g <;> simp_all) hd ?_
    rw [show (b == g) = false by simpa using e] at h
    exact h
/-- The slots that are still needed, written out anew. -/
theorem forget {x : Code} (V : List (Nat × Value)) (h : At V σ) (k : ∀ σ', Tr c n x Q (fix V σ') H K) : Tr c n x Q σ H K := by
  have := k σ
  rwa [fix_at h] at this
end
end Go.Proofs.YtmcapgjdflohfaaGreat.L

namespace Go.Proofs.YtmcapgjdflohfaaGreat.L
open Go Go.RowKit Mp
set_option linter.unusedVariables false

def mayP (m k a b : Int) : Bool := decide (1 ≤ m) && decide (m ≤ 1024) && decide (1 ≤ k) && decide (k ≤ 1024) && mayR a b
set_option maxRecDepth 8000 in
theorem pick_May_ (m k a b : Int) : Pure PP N_pick_May #[.int .i64 m, .int .i64 k, .int .i64 a, .int .i64 b] (.bool (mayP m k a b)) := by
  refine enter0 f_pick_May rfl n_pick_May rfl fun w => ?_
  refine seq (region (det rfl (asg rfl) (nilS ?_)))   -- region 0
  refine seq (region (det rfl (mv rfl) (det rfl (geq rfl rfl) (det rfl (mv rfl) (guardI rfl rfl rfl (fun hb => mv rfl) (guardI rfl rfl rfl (fun hb => leq (bift hb rfl) rfl) (det rfl (pick rfl (pickA rfl)) (det rfl (mv rfl) (guardI rfl rfl rfl (fun hb => mv rfl) (guardI rfl rfl rfl (fun hb => geq (bift hb rfl) rfl) (det rfl (pick rfl (pickA rfl)) (det rfl (mv rfl) (guardI rfl rfl rfl (fun hb => mv rfl) (guardI rfl rfl rfl (fun hb => leq (bift hb rfl) rfl) (det rfl (pick rfl (pickA rfl)) (det rfl (mv rfl) (guardI rfl rfl rfl (fun hb => mv rfl) (guardI rfl rfl rfl (fun hb => mv rfl) (guardC rfl rfl k_ratio_May (fun hb => lc (bift hb rfl) (lc (bift hb rfl) rfl)) rfl (fun hb w _ => ratio_May_ a b w) (det rfl (pick rfl (pickA rfl)) (det rfl (asg rfl) (nilS ?_))))))))))))))))))))))   -- region 1
  exact ret (retT rfl rfl (pr' rfl))

theorem fold_max (l : List Int) (x y : Int) : l.foldl max (max x y) = max x (l.foldl max y) := by
  induction l generalizing y with
  | nil => rfl
  | cons a r ih => simp only [List.foldl_cons]; rw [show max (max x y) a = max x (max y a) by omega]; exact ih _
theorem pick_top_ (l : List Int) (hn : l.length ≤ 1000000) (A : Option Addr) (cap : Nat) (D : Nat → Prop) (w : World) (hD : ∀ k, D k → k < w.heap.size) (hs : Sl 1 A l.length cap (il l) D w) :
    Calls PP N_pick_top #[.slice A l.length cap] w (PR w (.int .i64 (Mp.topN l))) := by
  refine enter f_pick_top rfl n_pick_top rfl (M.init1 PP w Sl.stable hD hs) ?_
  refine seq (region (det rfl (asg rfl) (nilS ?_)))   -- region 0
  refine seq (region (det rfl (asg rfl) (nilS ?_)))   -- region 1
  refine seq ?_
  refine seq (region (det rfl (mv rfl) (det rfl (lenS u_sl_int rfl) (det rfl (mv rfl) (nilS ?_)))))   -- region 2
  refine block ?_   -- block 0
  refine loopV (ι := Nat) (fun k => k ≤ l.length) (fun k => [(3, .int .i64 (((l.take k).drop 1).foldl max 0)), (6, .slice A l.length cap), (7, .int .i64 l.length), (8, .int .i64 k)]) (fun _ => []) (fun _ => [Sl 1 A l.length cap (il l)]) (fun k => l.length - k) 0 (by omega) ⟨rfl, rfl, rfl, rfl, trivial⟩ (fun w hm => hm) ?_
  intro k σ hk
  refine seq (region (det rfl (lss rfl rfl) (nilS ?_)))   -- region 3
  refine seq ?_
  refine cond rfl (fun h => ?_) (fun h => ?_)   -- on t9
  · have h := of_decide_eq_true h
    have hkl : k < l.length := by omega
    obtain ⟨x, hx⟩ : ∃ x, l.getD k 0 = x := ⟨_, rfl⟩
    have ht : l.take (k + 1) = l.take k ++ [x] := by
      rw [List.take_succ, List.getElem?_eq_getElem hkl, ← hx, List.getD_eq_getElem?_getD, List.getElem?_eq_getElem hkl]; rfl
    refine skipS ?_
    refine seq ?_
    refine block ?_   -- block 1
    refine seq (region (det rfl (mv rfl) (det rfl (ixS 0 rfl rfl u_sl_int s_int rfl (by omega) (by omega)) (det rfl (ldSO 0 (v := .int .i64 x) rfl rfl o_int (by rw [← hx]; exact il_at (by omega) hkl)) (det rfl (asg rfl) (det rfl (asg rfl) (nilS ?_)))))))   -- region 4
    refine seq (region (det rfl (mv rfl) (det rfl (gtr rfl rfl) (nilS ?_))))   -- region 5
    refine cond rfl (fun h => ?_) (fun h => ?_)   -- on t14
    · have h := of_decide_eq_true h
      refine region (det rfl (mv rfl) (det rfl (mv rfl) (det rfl (maxI rfl rfl) (det rfl (asg rfl) (nil ?_)))))   -- region 6
      show Tr _ _ _ _ _ _ _
      refine region (det rfl (addI rfl rfl (by omega) (by omega)) (det rfl (mv rfl) (nil ?_)))   -- region 7
      exact again (k + 1) (by omega) ⟨vi (by rw [ht, List.drop_append_of_le_length (by rw [List.length_take]; omega), List.foldl_append]; rfl), rfl, rfl, rfl, trivial⟩ (fun w hm => hm) (by (first | omega | (dsimp only; omega)))
    · have h := of_decide_eq_false h
      obtain rfl : k = 0 := by omega
      refine skip ?_
      show Tr _ _ _ _ _ _ _
      refine region (det rfl (addI rfl rfl (by omega) (by omega)) (det rfl (mv rfl) (nil ?_)))   -- region 7
      exact again 1 (by omega) ⟨vi (by rw [show (1 : Nat) = 0 + 1 from rfl, ht]; rfl), rfl, rfl, rfl, trivial⟩ (fun w hm => hm) (by (first | omega | (dsimp only; omega)))
  · have h := of_decide_eq_false h
    obtain rfl : k = l.length := by omega
    refine exit ?_   -- 0
    show Tr _ _ _ _ _ _ _
    refine seq (region (det rfl (mv rfl) (det rfl (minI rfl rfl) (det rfl (asg rfl) (nilS ?_)))))   -- region 8
    exact ret (retT rfl rfl (pr' (vi (by rw [List.take_length]; rfl))))

/-- Begin, at the good levels of so many in m and delta. -/
def gR (m a b : Int) (l : List Int) (lv : Int) : Bool := goodR l lv m a b
set_option maxRecDepth 8000 in
theorem pick_Begin_ (l : List Int) (hn : l.length ≤ 1024) (fr lv m a b : Int) (hfr : 0 ≤ fr ∧ fr ≤ l.length) (hlv : I64 lv) (hm : 1 ≤ m) (A : Option Addr) (cap : Nat) (D : Nat → Prop) (w : World) (hD : ∀ k, D k → k < w.heap.size) (hs : Sl 1 A l.length cap (il l) D w) :
    Calls PP N_pick_Begin #[.slice A l.length cap, .int .i64 fr, .int .i64 lv, .int .i64 m, .int .i64 a, .int .i64 b] w (PR w (.int .i64 (Mp.begin_ (gR m a b) l fr lv m))) := by
  refine enter f_pick_Begin rfl n_pick_Begin rfl (M.init1 PP w Sl.stable hD hs) ?_
  obtain ⟨R, hR⟩ : ∃ R, Mp.places l fr lv = R := ⟨_, rfl⟩
  have hRl : R.length ≤ l.length := by rw [← hR]; exact places_len _ _ _
  obtain ⟨fn, rfl⟩ : ∃ n : Nat, fr = (n : Int) := ⟨fr.toNat, by omega⟩
  have hcap : l.length ≤ cap := hs.2.1
  refine seq (region (det rfl (asg rfl) (nilS ?_)))   -- region 0
  refine seq (region (det rfl (mv rfl) (det rfl (mv rfl) (det rfl (mv rfl) (callS' (m := R.length) (sz := 1) (ls := il R) (il_length R) k_up_Places rfl rfl (fun w hm => by
    obtain ⟨D, hD, hs⟩ := hm.sl (k := 0) rfl
    have := up_Places_ l (by omega) fn lv A cap D w hD hs
    rw [hR] at this; exact this) fun B q => det rfl (asg rfl) (nilS ?_))))))   -- region 1
  refine seq ?_
  by_cases hlen : (R.length : Int) ≤ m
  · refine seq (region (det rfl (mv rfl) (det rfl (Det.to (lss rfl rfl) (v' := .bool false) (vb (decide_eq_false (by omega)))) (det rfl (mv rfl) (guardT rfl rfl (det rfl (mv rfl) (guardT rfl rfl (det rfl (lenS u_sl_int rfl) (guardT rfl rfl (det rfl (mv rfl) (guardT rfl rfl (det rfl (Det.to (leq rfl rfl) (v' := .bool true) (vb (decide_eq_true hlen))) (det rfl (pick (b := false) rfl rfl) (det rfl (mv rfl) (guardF rfl rfl rfl (guardF rfl rfl rfl (det rfl (pick (b := true) rfl rfl) (det rfl (mv rfl) (guardF rfl rfl rfl (guardF rfl rfl rfl (guardF rfl rfl rfl (guardF rfl rfl rfl (guardF rfl rfl rfl (guardF rfl rfl rfl (guardF rfl rfl rfl (guardF rfl rfl rfl (guardF rfl rfl rfl (det rfl (pick (b := true) rfl rfl) (nilS ?_)))))))))))))))))))))))))))))   -- region 2
    refine condT rfl ?_
    refine seq (region (det rfl (mv rfl) (det rfl (asg rfl) (nilS ?_))))   -- region 3
    exact ret (retT rfl rfl (pr' (vi (by rw [begin_, if_pos (by rw [hR]; exact .inr (.inl hlen))]))))
  · obtain ⟨g, hg⟩ : ∃ g, goodR (l.drop fn) lv m a b = g := ⟨_, rfl⟩
    refine also (f := Sl 1 (if cap = fn then A else A.map fun a => a.add (fn * 1)) (l.length - fn) (cap - fn) (il (l.drop fn))) Sl.stable (fun D w h => by
      have := Sl.cut (m := fn) (cap' := cap - fn) (h.2.1 : Sl 1 A l.length cap (il l) D w) (by omega) (by omega) (by omega)
      rw [show (il l).drop fn = il (l.drop fn) by simp [il]] at this
      exact this) ?_
    refine seq (region (det rfl (mv rfl) (det rfl (Det.to (lss rfl rfl) (v' := .bool false) (vb (decide_eq_false (by omega)))) (det rfl (mv rfl) (guardT rfl rfl (det rfl (mv rfl) (guardT rfl rfl (det rfl (lenS u_sl_int rfl) (guardT rfl rfl (det rfl (mv rfl) (guardT rfl rfl (det rfl (Det.to (leq rfl rfl) (v' := .bool false) (vb (decide_eq_false hlen))) (det rfl (pick (b := false) rfl rfl) (det rfl (mv rfl) (guardT rfl rfl (det rfl (mv rfl) (guardT rfl rfl (det rfl (Det.to (lss rfl rfl) (v' := .bool false) (vb (decide_eq_false (by omega)))) (det rfl (pick (b := false) rfl rfl) (det rfl (mv rfl) (guardT rfl rfl (det rfl (mv rfl) (guardT rfl rfl (det rfl (mv rfl) (guardT rfl rfl (det rfl (slDrop u_sl_int s_int rfl rfl (by omega) hcap) (guardT rfl rfl (det rfl (mv rfl) (guardT rfl rfl (det rfl (mv rfl) (guardT rfl rfl (det rfl (mv rfl) (guardT rfl rfl (det rfl (mv rfl) (guardT rfl rfl (call (v := .bool g) k_good_Good (show _ = [Value.slice (if cap = fn then A else A.map fun a => a.add (fn * 1)) (l.length - fn) (cap - fn), .int .i64 lv, .int .i64 m, .int .i64 a, .int .i64 b] from rfl) rfl (fun w hm => by
      obtain ⟨D, hD, hs⟩ := hm.sl (k := 0) rfl
      have hl : (l.drop fn).length = l.length - fn := by simp
      have := good_Good_ (l.drop fn) (by omega) lv m a b hlv (if cap = fn then A else A.map fun a => a.add (fn * 1)) (cap - fn) D w hD (by rw [hl]; exact hs)
      rw [hg, hl] at this; exact this) (guardT rfl rfl (det rfl (notB rfl) (det rfl (pick (b := false) rfl rfl) (nilS ?_))))))))))))))))))))))))))))))))))))))))   -- region 2
    have hb : begin_ (gR m a b) l fn lv m = if g = false then (fn : Int) else R.getD (R.length - m.toNat) 0 := by
      rw [begin_, hR, gR, Int.toNat_natCast, hg]
      cases g
      · rw [if_pos (.inr (.inr (.inr rfl))), if_pos rfl]
      · rw [if_neg (by simp; omega), if_neg (by simp)]
    cases g
    · refine condT rfl ?_
      refine seq (region (det rfl (mv rfl) (det rfl (asg rfl) (nilS ?_))))   -- region 3
      exact ret (retT rfl rfl (pr' (vi (by rw [hb, if_pos rfl]))))
    · refine condF rfl ?_
      refine skipS ?_
      refine seq (region (det rfl (mv rfl) (det rfl (mv rfl) (det rfl (lenS u_sl_int rfl) (det rfl (mv rfl) (det rfl (subI rfl rfl (by omega) (by omega)) (det rfl (ixS 1 rfl rfl u_sl_int s_int rfl (by omega) (by omega)) (det rfl (ldSO 1 (v := .int .i64 (R.getD (R.length - m.toNat) 0)) rfl rfl o_int (il_at (by omega) (by omega))) (det rfl (asg rfl) (nilS ?_))))))))))   -- region 4
      exact ret (retT rfl rfl (pr' (vi (by rw [hb, if_neg (by simp)]))))
end Go.Proofs.YtmcapgjdflohfaaGreat.L

namespace Go.Proofs.YtmcapgjdflohfaaGreat.L
open Go Go.RowKit Mp
set_option linter.unusedVariables false

def pickR (l : List Int) (m k a b : Int) : List Int := if mayP m k a b = true ∧ k < l.length ∧ l.length ≤ 1024 then Mp.pickBody (gR m a b) (l.take (l.length - k.toNat)) m else []
/-- Cells of bools. -/
def bls (t : Int → Bool) (n : Nat) : List Value := (List.range n).map fun i : Nat => .bool (t i)
theorem bls_false (n : Nat) : bls (fun _ => false) n = List.replicate n (.bool false) := by
  unfold bls
  exact List.map_const' .. |>.trans (by simp)
theorem bls_length (t : Int → Bool) (n : Nat) : (bls t n).length = n := by simp [bls]
theorem bls_at {t : Int → Bool} {n i o : Nat} (ho : o = i) (hi : i < n) : (bls t n)[o]? = some (.bool (t i)) := by subst ho; simp [bls, hi]
theorem bls_set {t t' : Int → Bool} {n i : Nat} (h1 : t' i = true) (h2 : ∀ j : Nat, j ≠ i → t' j = t j) : (bls t n).set i (.bool true) = bls t' n := by
  apply List.ext_getElem
  · simp [bls]
  · intro j h3 h4
    rw [List.getElem_set]
    simp only [bls, List.getElem_map, List.getElem_range]
    by_cases e : i = j
    · subst e; rw [if_pos rfl, h1]
    · rw [if_neg e, h2 j (fun x => e x.symm)]
theorem bls_congr {t t' : Int → Bool} {n : Nat} (h : ∀ j : Nat, j < n → t' j = t j) : bls t n = bls t' n := by
  apply List.ext_getElem
  · simp [bls]
  · intro j h3 h4
    simp only [bls, List.getElem_map, List.getElem_range]
    rw [h j (by simpa [bls] using h3)]
/-- Those that are true, of the first k. -/
def trues (t : Int → Bool) (k : Nat) : List Int := ((List.range k).map fun i : Nat => (i : Int)).filter t
theorem trues_hit {t : Int → Bool} {k : Nat} (h : t k = true) : trues t (k + 1) = trues t k ++ [(k : Int)] := by
  simp [trues, List.range_succ, h]
theorem trues_miss {t : Int → Bool} {k : Nat} (h : t k = false) : trues t (k + 1) = trues t k := by
  simp [trues, List.range_succ, h]
theorem trues_len (t : Int → Bool) (k : Nat) : (trues t k).length ≤ k := by
  have := List.length_filter_le t ((List.range k).map fun i : Nat => (i : Int))
  simp at this
  simpa [trues] using this
theorem topN_range (l : List Int) : 0 ≤ topN l ∧ topN l ≤ 255 := by
  have : ∀ (l : List Int) (x : Int), 0 ≤ x → 0 ≤ l.foldl max x := by
    intro l
    induction l with
    | nil => intro x h; exact h
    | cons a r ih => intro x h; exact ih _ (by omega)
  have := this (l.drop 1) 0 (by omega)
  unfold topN
  omega
theorem begin_range {g : List Int → Int → Bool} {l : List Int} {f lv m : Int} (h : 0 ≤ f ∧ f ≤ l.length) : 0 ≤ begin_ g l f lv m ∧ begin_ g l f lv m ≤ l.length := by
  rcases begin_mem g l f lv m with e | e
  · rw [e]; exact h
  · have := Mp.mem_places.1 e; omega

set_option maxRecDepth 8000 in
set_option maxHeartbeats 800000 in
theorem pick_Pick_ (l : List Int) (hn : l.length ≤ 100000) (m k a b : Int) (A : Option Addr) (cap : Nat) (D : Nat → Prop) (w : World) (hD : ∀ k, D k → k < w.heap.size) (hs : Sl 1 A l.length cap (il l) D w) :
    Calls PP N_pick_Pick #[.slice A l.length cap, .int .i64 m, .int .i64 k, .int .i64 a, .int .i64 b] w (RO w T_int 1 (pickR l m k a b).length (il (pickR l m k a b)).flatten) := by
  refine enter f_pick_Pick rfl n_pick_Pick rfl (M.init1 PP w Sl.stable hD hs) ?_
  have hcap : l.length ≤ cap := hs.2.1
  obtain ⟨P, hP⟩ : ∃ P, mayP m k a b = P := ⟨_, rfl⟩
  refine seq (region (det rfl (asg rfl) (nilS ?_)))   -- region 0
  refine seq ?_
  refine seq (region (det rfl (mv rfl) (det rfl (mv rfl) (det rfl (mv rfl) (det rfl (mv rfl) (call (v := .bool P) k_pick_May rfl rfl (fun w _ => hP ▸ pick_May_ m k a b w) (det rfl (notB rfl) (det rfl (mv rfl) (guardI rfl rfl rfl (fun hb => mv rfl) (guardI rfl rfl rfl (fun hb => lenS u_sl_int (bift hb rfl)) (guardI rfl rfl rfl (fun hb => mv rfl) (guardI rfl rfl rfl (fun hb => leq (bift hb rfl) (bift hb rfl)) (det rfl (pick rfl (pickO rfl)) (det rfl (mv rfl) (guardI rfl rfl rfl (fun hb => mv rfl) (guardI rfl rfl rfl (fun hb => lenS u_sl_int (bift hb rfl)) (guardI rfl rfl rfl (fun hb => gtr (bift hb rfl) rfl) (det rfl (pick rfl (pickO rfl)) (nilS ?_)))))))))))))))))))   -- region 1
  refine cond rfl (fun h => ?_) (fun h => ?_)   -- on t36
  · have h : (!P || decide ((l.length : Int) ≤ k) || decide (1024 < (l.length : Int))) = true := h
    have e : pickR l m k a b = [] := by
      rw [pickR, if_neg]
      rintro ⟨h1, h2, h3⟩
      rw [hP] at h1
      rw [h1, decide_eq_false (by omega), decide_eq_false (by omega)] at h
      cases h
    rw [e]
    refine seq (region (det rfl (asg rfl) (nilS ?_)))   -- region 2
    exact ret (retOwn0 rfl rfl rfl)
  · have h : (!P || decide ((l.length : Int) ≤ k) || decide (1024 < (l.length : Int))) = false := h
    simp only [Bool.or_eq_false_iff, Bool.not_eq_false', decide_eq_false_iff_not] at h
    obtain ⟨⟨h1, h2⟩, h3⟩ := h
    subst h1
    have hm1 : 1 ≤ m ∧ 1 ≤ k := by
      simp only [mayP, Bool.and_eq_true, decide_eq_true_eq] at hP
      omega
    obtain ⟨kn, rfl⟩ : ∃ n : Nat, k = (n : Int) := ⟨k.toNat, by omega⟩
    obtain ⟨body, hbody⟩ : ∃ b, l.take (l.length - kn) = b := ⟨_, rfl⟩
    have hbl : body.length = l.length - kn := by rw [← hbody, List.length_take]; omega
    have e : pickR l m kn a b = Mp.pickBody (gR m a b) body m := by
      rw [pickR, if_pos ⟨hP, by omega, by omega⟩, Int.toNat_natCast, hbody]
    rw [e]
    refine skipS ?_
    refine seq (region (det rfl (mv rfl) (det rfl (mv rfl) (det rfl (lenS u_sl_int rfl) (det rfl (mv rfl) (det rfl (Det.to (subI rfl rfl (by omega) (by omega)) (v' := .int .i64 ((body.length : Nat) : Int)) (vi (by omega))) (det rfl (slTake u_sl_int s_int rfl rfl (by omega)) (det rfl (asg rfl) (nilS ?_)))))))))   -- region 3
    refine seq (region (det rfl (mv rfl) (det rfl (lenS u_sl_int rfl) (mks (m := body.length) u_sl_bool i_bool rfl rfl rfl rfl rfl (by omega) (by omega) rfl fun b0 => det rfl (asg rfl) (nilS ?_)))))   -- region 4
    refine refactT (K' := [Sl 1 A body.length cap (il body)]) ⟨Sl.stable, trivial⟩ (fun D w h => ⟨by
      have := Sl.take (m := body.length) (h.1 : Sl 1 A l.length cap (il l) D w) (by omega)
      rw [show (il l).take body.length = il body by rw [hbl, ← hbody]; simp [il]] at this
      exact this, trivial⟩) ?_
    refine seq (region (det rfl (asg rfl) (nilS ?_)))   -- region 5
    refine seq ?_
    obtain ⟨T, hT⟩ : ∃ T, takenN (gR m a b) body m ((topN body).toNat + 1) 0 (fun _ => false) = T := ⟨_, rfl⟩
    have htop := topN_range body
    have hpb : pickBody (gR m a b) body m = trues T body.length := by rw [pickBody, hT]; rfl
    rw [hpb]
    refine seq (region (det rfl (mv rfl) (call (v := .int .i64 (topN body)) k_pick_top rfl rfl (fun w hm => by
      obtain ⟨D, hD, hs⟩ := hm.sl (k := 0) rfl
      exact pick_top_ body (by omega) A cap D w hD hs) (det rfl (asg rfl) (nilS ?_)))))   -- region 6
    refine block ?_   -- block 0
    refine loopV (ι := Nat × Int × (Int → Bool)) (fun (j, fr, t) => j ≤ 256 ∧ (0 ≤ fr ∧ fr ≤ body.length) ∧ takenN (gR m a b) body m j fr t = T) (fun (j, fr, t) => [(1, .int .i64 m), (3, .int .i64 a), (4, .int .i64 b), (11, .slice A body.length cap), (12, .slice (some ⟨b0, 0, none⟩) body.length body.length), (13, .int .i64 fr), (14, .int .i64 ((j : Int) - 1))]) (fun (_, _, t) => [.blk b0 (ob (bls t body.length) T_bool)]) (fun _ => [Sl 1 A body.length cap (il body)]) (fun (j, _, _) => j) ((topN body).toNat + 1, 0, fun _ => false) ⟨by omega, by omega, hT⟩ ⟨rfl, rfl, rfl, rfl, rfl, rfl, vi (by omega), trivial⟩ (fun w hm => by dsimp only; rw [bls_false]; exact hm) ?_
    rintro ⟨j, fr, t⟩ σ ⟨hj, hfr, htk⟩
    dsimp only at hj hfr htk ⊢
    refine seq ?_
    refine seq (region (det rfl (mv rfl) (det rfl (geq rfl rfl) (nilS ?_))))   -- region 7
    refine cond rfl (fun h => ?_) (fun h => ?_)   -- on t49
    · have h := of_decide_eq_true h
      obtain ⟨lv, rfl⟩ : ∃ lv, j = lv + 1 := ⟨j - 1, by omega⟩
      rw [takenN] at htk
      obtain ⟨R, hR⟩ : ∃ R, Mp.places body fr lv = R := ⟨_, rfl⟩
      have hRl : R.length ≤ body.length := by rw [← hR]; exact places_len _ _ _
      rw [hR] at htk
      refine skipS ?_
      refine seq ?_
      refine block ?_   -- block 1
      refine seq ?_
      refine seq (region (det rfl (mv rfl) (det rfl (mv rfl) (det rfl (Det.to (mv rfl) (v' := .int .i64 (lv : Int)) (vi (by omega))) (callS' (m := R.length) (sz := 1) (ls := il R) (il_length R) k_up_Places (show _ = [Value.slice A body.length cap, .int .i64 fr, .int .i64 (lv : Int)] from rfl) rfl (fun w hm => by
        obtain ⟨D, hD, hs⟩ := hm.sl (k := 0) rfl
        have := up_Places_ body (by omega) fr lv A cap D w hD hs
        rw [hR] at this; exact this) fun B q => det rfl (lenS u_sl_int rfl) (det rfl (mv rfl) (nilS ?_)))))))   -- region 9
      refine block ?_   -- block 2
      refine loopV (ι := Nat) (fun k => k ≤ R.length) (fun k => [(1, .int .i64 m), (3, .int .i64 a), (4, .int .i64 b), (11, .slice A body.length cap), (12, .slice (some ⟨b0, 0, none⟩) body.length body.length), (13, .int .i64 fr), (14, .int .i64 (((lv + 1 : Nat) : Int) - 1)), (55, .slice B R.length q), (56, .int .i64 R.length), (57, .int .i64 k)]) (fun k => [.blk b0 (ob (bls (fun i => t i || decide (i ∈ R.take k)) body.length) T_bool)]) (fun _ => [Sl 1 B R.length q (il R), Sl 1 A body.length cap (il body)]) (fun k => R.length - k) 0 (by omega) ⟨rfl, rfl, rfl, rfl, rfl, rfl, rfl, rfl, rfl, rfl, trivial⟩ (fun w hm => by rw [bls_congr (t := fun i => t i || decide (i ∈ R.take 0)) (t' := t) (fun j _ => by simp)]; exact hm) ?_
      intro k σ hk
      refine seq (region (det rfl (lss rfl rfl) (nilS ?_)))   -- region 10
      refine seq ?_
      refine cond rfl (fun h => ?_) (fun h => ?_)   -- on t58
      · have h := of_decide_eq_true h
        have hkl : k < R.length := by omega
        have hxm := Mp.mem_places.1 (show R.getD k 0 ∈ Mp.places body fr lv by rw [hR]; exact getD_mem' hkl)
        obtain ⟨x, hx⟩ : ∃ x : Nat, R.getD k 0 = (x : Int) := ⟨(R.getD k 0).toNat, by omega⟩
        rw [hx] at hxm
        have htake : ∀ i : Int, i ∈ R.take (k + 1) ↔ i ∈ R.take k ∨ i = (x : Int) := fun i => by
          rw [List.take_succ, List.getElem?_eq_getElem hkl, List.mem_append]
          rw [List.getD_eq_getElem?_getD, List.getElem?_eq_getElem hkl] at hx
          simp only [Option.getD_some] at hx
          simp [hx]
        refine skipS ?_
        refine seq ?_
        refine block ?_   -- block 3
        refine seq (region (det rfl (ixS 0 rfl rfl u_sl_int s_int rfl (by omega) (by omega)) (det rfl (ldSO 0 (v := .int .i64 x) rfl rfl o_int (by rw [← hx]; exact il_at (by omega) hkl)) (det rfl (asg rfl) (nilS ?_)))))   -- region 11
        refine region (det rfl (mv rfl) (det rfl (mv rfl) (det rfl (ixB rfl rfl u_sl_bool s_bool (by omega) (by omega)) (sto1 0 x rfl rfl rfl s_bool rfl (by omega) (by rw [bls_length]; omega) (bls_set (t' := fun i => t i || decide (i ∈ R.take (k + 1))) (by simp [(htake x).2 (.inr rfl)]) (fun j hj => by
          have : ((j : Int) ∈ R.take (k + 1)) ↔ ((j : Int) ∈ R.take k) := by rw [htake]; constructor; rintro (h | h); exact h; omega; exact .inl
          simp only [this])) (nil ?_)))))   -- region 12
        show Tr _ _ _ _ _ _ _
        refine region (det rfl (addI rfl rfl (by omega) (by omega)) (det rfl (mv rfl) (nil ?_)))   -- region 13
        exact again (k + 1) (by omega) ⟨rfl, rfl, rfl, rfl, rfl, rfl, rfl, rfl, rfl, rfl, trivial⟩ (fun w hm => hm) (by (first | omega | (dsimp only; omega)))
      · have h := of_decide_eq_false h
        obtain rfl : k = R.length := by omega
        refine exit ?_   -- 2
        show Tr _ _ _ _ _ _ _
        have hbr := begin_range (g := gR m a b) (lv := lv) (m := m) hfr
        refine region (det rfl (mv rfl) (det rfl (mv rfl) (det rfl (Det.to (mv rfl) (v' := .int .i64 (lv : Int)) (vi (by omega))) (det rfl (mv rfl) (det rfl (mv rfl) (det rfl (mv rfl) (call (v := .int .i64 (begin_ (gR m a b) body fr lv m)) k_pick_Begin (show _ = [Value.slice A body.length cap, .int .i64 fr, .int .i64 (lv : Int), .int .i64 m, .int .i64 a, .int .i64 b] from rfl) rfl (fun w hm => by
          obtain ⟨D, hD, hs⟩ := hm.sl (k := 1) rfl
          exact pick_Begin_ body (by omega) fr lv m a b hfr ⟨by omega, by omega⟩ hm1.1 A cap D w hD hs) (det rfl (asg rfl) (nil ?_)))))))))   -- region 14
        show Tr _ _ _ _ _ _ _
        refine region (det rfl (mv rfl) (det rfl (subI rfl rfl (by omega) (by omega)) (det rfl (asg rfl) (nil ?_))))   -- region 8
        exact again (lv, begin_ (gR m a b) body fr lv m, fun i => t i || decide (i ∈ R)) ⟨by omega, hbr, htk⟩ ⟨rfl, rfl, rfl, rfl, rfl, rfl, vi (by omega), trivial⟩ (fun w hm => by dsimp only; rw [List.take_length] at hm; exact hm.more) (by (first | omega | (dsimp only; omega)))
    · have h := of_decide_eq_false h
      obtain rfl : j = 0 := by omega
      rw [takenN] at htk
      subst htk
      refine exit ?_   -- 0
      show Tr _ _ _ _ _ _ _
      refine seq (region (det rfl (asg rfl) (nilS ?_)))   -- region 15
      refine seq ?_
      refine seq (region (det rfl (mv rfl) (det rfl (lenS u_sl_bool rfl) (det rfl (mv rfl) (nilS ?_)))))   -- region 16
      refine block ?_   -- block 4
      refine loopV (ι := Nat × Option Addr × Nat) (fun (k, _, _) => k ≤ body.length) (fun (k, B, q) => [(17, .slice B (trues t k).length q), (72, .slice (some ⟨b0, 0, none⟩) body.length body.length), (73, .int .i64 body.length), (74, .int .i64 k)]) (fun (k, B, q) => [.row (.slice B (trues t k).length q) T_int 1 (trues t k).length (il (trues t k)).flatten, .blk b0 (ob (bls t body.length) T_bool)]) (fun _ => []) (fun (k, _, _) => body.length - k) (0, none, 0) (Nat.zero_le _) ⟨rfl, rfl, rfl, rfl, trivial⟩ (fun w hm => (hm.sub (List.Sublist.refl _) |>.more).nilRow _ _) ?_
      rintro ⟨k, B, q⟩ σ hk
      dsimp only at hk ⊢
      have htl := trues_len t k
      refine seq (region (det rfl (lss rfl rfl) (nilS ?_)))   -- region 17
      refine seq ?_
      refine cond rfl (fun h => ?_) (fun h => ?_)   -- on t75
      · have h := of_decide_eq_true h
        have hkl : k < body.length := by omega
        obtain ⟨x, hx⟩ : ∃ x, t k = x := ⟨_, rfl⟩
        refine skipS ?_
        refine seq ?_
        refine block ?_   -- block 5
        refine seq (region (det rfl (mv rfl) (det rfl (ixB rfl rfl u_sl_bool s_bool (by omega) (by omega)) (det rfl (ldB 1 (v := .bool x) rfl rfl o_bool (by rw [← hx]; exact bls_at (by omega) hkl)) (det rfl (asg rfl) (det rfl (asg rfl) (nilS ?_)))))))   -- region 18
        refine seq (region (det rfl (mv rfl) (nilS ?_)))   -- region 19
        refine cond rfl (fun h => ?_) (fun h => ?_)   -- on t79
        · subst h
          refine region (det rfl (mv rfl) (det rfl (mv rfl) (bsl rfl (bs1 u_sl_int z_int s_int (cs := [.int .i64 (k : Nat)]) rfl rfl rfl (by decide) (by decide)) fun b1 => appB 1 0 u_sl_int i_int rfl (by decide) rfl rfl rfl rfl rfl rfl (by simp only [maxLen]; omega) (by omega) rfl fun A cap => det rfl (asg rfl) (nil ?_))))   -- region 20
          show Tr _ _ _ _ _ _ _
          refine region (det rfl (addI rfl rfl (by omega) (by omega)) (det rfl (mv rfl) (nil ?_)))   -- region 21
          refine again (k + 1, _, _) (by (first | omega | (dsimp only; omega))) ⟨by dsimp only; rw [trues_hit hx, List.length_append]; rfl, rfl, rfl, rfl, trivial⟩ (fun w hm => ?_) (by (first | omega | (dsimp only; omega)))
          dsimp only
          rw [trues_hit hx, il_app, List.length_append]; exact drop1 hm
        · subst h
          refine skip ?_
          show Tr _ _ _ _ _ _ _
          refine region (det rfl (addI rfl rfl (by omega) (by omega)) (det rfl (mv rfl) (nil ?_)))   -- region 21
          exact again (k + 1, B, q) (by (first | omega | (dsimp only; omega))) ⟨by dsimp only; rw [trues_miss hx]; rfl, rfl, rfl, rfl, trivial⟩ (fun w hm => by dsimp only; rw [trues_miss hx]; exact hm) (by (first | omega | (dsimp only; omega)))
      · have h := of_decide_eq_false h
        obtain rfl : k = body.length := by omega
        refine exit ?_   -- 4
        show Tr _ _ _ _ _ _ _
        refine seq (region (det rfl (mv rfl) (det rfl (asg rfl) (nilS ?_))))   -- region 22
        exact ret (retOwn (i := 0) rfl rfl rfl rfl)

theorem pick_PickS_ (l : List Int) (hn : l.length ≤ 100000) (m k a b : Int) (A : Option Addr) (cap : Nat) (D : Nat → Prop) (w : World) (hD : ∀ k, D k → k < w.heap.size) (hs : Sl 1 A l.length cap (il l) D w) :
    Calls PP N_pick_Pick #[.slice A l.length cap, .int .i64 m, .int .i64 k, .int .i64 a, .int .i64 b] w (RS w 1 (il (pickR l m k a b))) :=
  (pick_Pick_ l hn m k a b A cap D w hD hs).mono fun e w' h => RO.rs (il_length _) (il_ok _) e w' h
end Go.Proofs.YtmcapgjdflohfaaGreat.L

namespace Go.Proofs.YtmcapgjdflohfaaGreat.L
open Go Go.RowKit
set_option linter.unusedVariables false

theorem ref22_Index_ (l : List Int) (hn : l.length ≤ 1000000) (a x : Int) (A : Option Addr) (cap : Nat) (D : Nat → Prop) (w : World) (hD : ∀ k, D k → k < w.heap.size) (hs : Sl 1 A l.length cap (il l) D w) (hl : (Mp.all l a).length ≤ 1000) :
    Calls PP N_milepostref22_Index #[.slice A l.length cap, .int .i64 a, .int .i64 x] w (PR w (.int .i64 (Mp.index l a x))) := by
  obtain ⟨y, hy⟩ : ∃ y, Mp.all l a = y := ⟨_, rfl⟩
  refine enter f_milepostref22_Index rfl n_milepostref22_Index rfl (M.init1 PP w Sl.stable hD hs) ?_
  refine seq (region (det rfl (asg rfl) (nilS ?_)))   -- region 0
  refine seq (region (det rfl (mv rfl) (det rfl (mv rfl) (callS k_milepostref22_All rfl rfl (fun w hm => by
    obtain ⟨D, hD, hs⟩ := hm.sl (k := 0) rfl
    exact ref22_All_ l hn a A cap D w hD hs) fun B q => det rfl (asg rfl) (nilS ?_)))))   -- region 1
  rw [il_length, Mp.index, hy]
  rw [hy] at hl
  refine seq ?_
  refine seq (region (det rfl (asg rfl) (nilS ?_)))   -- region 2
  refine block ?_   -- block 0
  refine loopV (ι := Nat) (fun k => k ≤ y.length ∧ Mp.indexFrom x (y.drop k) k = Mp.indexFrom x y 0) (fun k => [(2, .int .i64 x), (7, .slice B y.length q), (8, .int .i64 k)]) (fun _ => []) (fun _ => [Sl 1 B y.length q (il y)]) (fun k => y.length - k) 0 ⟨by omega, rfl⟩ ⟨rfl, rfl, rfl, trivial⟩ (fun w hm => by
    obtain ⟨D, d1, d2, d3, d4, d5⟩ := hm.data
    exact ⟨hm.os, hm.tape, hm.output, hm.size, hm.frame, hm.holds, hm.mine, hm.nodup, ⟨Sl.stable, trivial⟩, D, d1, d2, d3, d4, d5.1, trivial⟩) ?_
  intro k σ ⟨hk, hc⟩
  refine seq ?_
  refine seq (region (det rfl (mv rfl) (det rfl (mv rfl) (det rfl (lenS u_sl_int rfl) (det rfl (lss rfl rfl) (nilS ?_))))))   -- region 3
  refine cond rfl (fun h => ?_) (fun h => ?_)   -- on t15
  · have h := of_decide_eq_true h
    have hk2 : k < y.length := by omega
    rw [List.drop_eq_getElem_cons hk2, Mp.indexFrom] at hc
    have e : y.getD k 0 = y[k] := by simp [hk2]
    refine skipS ?_
    refine seq ?_
    refine block ?_   -- block 1
    refine seq (region (det rfl (mv rfl) (det rfl (mv rfl) (det rfl (ixS 0 rfl rfl u_sl_int s_int rfl (by omega) (by omega)) (det rfl (ldSO 0 (v := .int .i64 y[k]) rfl rfl o_int (by rw [← e]; exact il_at (j := k) (by omega) hk2)) (det rfl (mv rfl) (det rfl (eql rfl rfl) (nilS ?_))))))))   -- region 5
    refine cond rfl (fun h => ?_) (fun h => ?_)   -- on t23
    · have h := of_decide_eq_true h
      refine seq (region (det rfl (mv rfl) (det rfl (asg rfl) (nilS ?_))))   -- region 6
      exact ret (retT rfl rfl (pr' (vi (by rw [← hc, if_pos h]))))
    · have h := of_decide_eq_false h
      refine skip ?_
      show Tr _ _ _ _ _ _ _
      refine region (det rfl (mv rfl) (det rfl (addI rfl rfl (by omega) (by omega)) (det rfl (asg rfl) (nil ?_))))   -- region 4
      exact again (k + 1) ⟨by omega, by rw [← hc, if_neg h]; rfl⟩ ⟨rfl, rfl, rfl, trivial⟩ (fun w hm => hm) (by (first | omega | (dsimp only; omega)))
  · have h := of_decide_eq_false h
    refine exit ?_   -- 0
    show Tr _ _ _ _ _ _ _
    refine seq (region (det rfl (asg rfl) (nilS ?_)))   -- region 7
    have e : k = y.length := by omega
    rw [e, List.drop_length] at hc
    exact ret (retT rfl rfl (pr' (vi (by rw [← hc]; rfl))))

theorem lit_slS {w : World} {b : Nat} {e : TypeId} {xs : List Int} {n : Nat} (h : w.heap[b]? = some (ob (xs.map fun x => .int .i64 x) e)) (hn : xs.length = n) (hm : n ≤ maxLen) (D : Nat → Prop) (hb : D b) : Sl 1 (some ⟨b, 0, none⟩) n n (il xs) D w :=
  (lit_sl h hn hm).mono fun k hk => hk ▸ hb

set_option maxRecDepth 20000 in
theorem awake47_ : Pure PP N_milepostlaw47_awake #[] (.bool true) := by
  refine enter0 f_milepostlaw47_awake rfl n_milepostlaw47_awake rfl fun w => ?_
  have e1 : pickR [256, 0, 0] 1 1 1 2 = [0, 1] := by decide +kernel
  have e2 : mayP 1 1 1 2 = true := by decide +kernel
  have e3 : mayP 0 1 1 2 = false := by decide +kernel
  refine seq (region (det rfl (asg rfl) (nilS ?_)))   -- region 0
  refine seq (region (bsl rfl (bsm u_sl_int z_int s_int (xs := [256, 0, 0].map fun x => .int .i64 x) rfl rfl rfl (by decide) (by decide)) fun b0 => callS' (m := 2) (sz := 1) (ls := il [0, 1]) rfl k_pick_Pick rfl rfl (fun w hm => by
    have := pick_PickS_ [256, 0, 0] (by decide) 1 1 1 2 (some ⟨b0, 0, none⟩) 3 (fun k => k = b0) w (fun k hk => by rw [hk]; exact lt_heap (hm.blk 0 rfl)) (lit_sl (hm.blk 0 rfl) rfl (by simp [maxLen]))
    rw [e1] at this
    exact this) fun B q => (bsl rfl (bsm u_sl_int z_int s_int (xs := [0, 1].map fun x => .int .i64 x) rfl rfl rfl (by decide) (by decide)) fun b1 => call (v := .bool true) k_milepostref22_Same rfl rfl (fun w hm => by
    obtain ⟨D, hD, hs⟩ := hm.sl (k := 0) rfl
    have := same22_ [0, 1] [0, 1] (by decide) B (some ⟨b1, 0, none⟩) q 2 (fun k => D k ∨ k = b1) w (fun k hk => by rcases hk with hk | hk; exact hD k hk; rw [hk]; exact lt_heap (hm.blk 0 rfl)) (hs.mono fun k hk => .inl hk) ((lit_sl (hm.blk 0 rfl) rfl (by simp [maxLen])).mono fun k hk => .inr hk)
    rw [decide_eq_true (show ([0, 1] : List Int) = [0, 1] from rfl)] at this
    exact this) (det rfl (mv rfl) (guardT rfl rfl (call (v := .bool true) k_pick_May rfl rfl (fun w _ => e2 ▸ pick_May_ 1 1 1 2 w) (det rfl (pick (b := true) rfl rfl) (det rfl (mv rfl) (guardT rfl rfl (call (v := .bool false) k_pick_May rfl rfl (fun w _ => e3 ▸ pick_May_ 0 1 1 2 w) (guardT rfl rfl (det rfl (notB rfl) (det rfl (pick (b := true) rfl rfl) (det rfl (asg rfl) (nilS ?_)))))))))))))))   -- region 1
  exact ret (retT rfl rfl pr)

/-- What the laws' guard lets pass. -/
theorem guard4 {mu P : Bool} {n : Nat} {k E : Int} (h : (mu || decide ((n : Int) ≤ k) || !P || !decide (E = 0)) = false) : mu = false ∧ k < n ∧ P = true ∧ E = 0 := by
  simp only [Bool.or_eq_false_iff, Bool.not_eq_false', decide_eq_false_iff_not, decide_eq_true_eq] at h
  exact ⟨h.1.1.1, by omega, h.1.2, h.2⟩
/-! ### The law -/
theorem Cf.at_n {c : Cf} (h : c.ok) (j : Nat) : c.c[98 + j]? = c.tail[j]? := by
  have e : (c.g.c ++ b8 c.t).length = 98 := by rw [List.length_append, Hd.c_length h.1, b8_length, h.2]
  rw [Cf.c, ← List.append_assoc, List.getElem?_append_right (by omega), e, Nat.add_sub_cancel_left]
theorem Cf.at_m {c : Cf} (h : c.ok) : c.c[0 + 98]? = some (.int .i64 c.m) := Cf.at_n h 0
theorem Cf.at_k {c : Cf} (h : c.ok) : c.c[0 + 99]? = some (.int .i64 c.k) := Cf.at_n h 1
theorem Cf.at_a {c : Cf} (h : c.ok) : c.c[0 + 100]? = some (.int .i64 c.a) := Cf.at_n h 2
theorem Cf.at_b {c : Cf} (h : c.ok) : c.c[0 + 101]? = some (.int .i64 c.b) := Cf.at_n h 3
theorem pickR_len (l : List Int) (m k a b : Int) : (pickR l m k a b).length ≤ l.length := by
  unfold pickR
  split
  · have := List.length_filter_le (Mp.takenN (gR m a b) (l.take (l.length - k.toNat)) m ((Mp.topN (l.take (l.length - k.toNat))).toNat + 1) 0 fun _ => false) ((List.range (l.take (l.length - k.toNat)).length).map fun i : Nat => (i : Int))
    simp only [List.length_map, List.length_range, List.length_take] at this
    unfold Mp.pickBody
    simp only [List.length_take]
    omega
  · simp
/-- What is picked of a chain. -/
theorem pick_joined (L : List Int) (h : Mp.ChainLevels L) (m k a b : Int) (kn : Nat) (hk : k = kn) (hP : mayP m k a b = true) (h1 : k < L.length) (h2 : L.length ≤ 1024) (R : List Int) (hR : pickR L m k a b = R) :
    0 < R.length ∧ R.getD 0 0 = 0 ∧ R.getD (R.length - 1) 0 = (L.length : Int) - k - 1 ∧ ∀ i, i + 1 < R.length → R.getD i 0 < R.getD (i + 1) 0 ∧ R.getD i 0 ∈ Mp.all L (R.getD (i + 1) 0) := by
  rw [pickR, if_pos ⟨hP, h1, h2⟩] at hR
  subst hk
  have hk1 : 1 ≤ (kn : Int) := by
    simp only [mayP, Bool.and_eq_true, decide_eq_true_eq] at hP
    omega
  obtain ⟨a1, a2, a3, a4⟩ := Mp.pickBody_joined (gR m a b) L h (L.length - kn) (by omega) (by omega) m
  rw [Int.toNat_natCast] at hR
  subst hR
  have e : ∀ (R : List Int) i (hi : i < R.length), R.getD i 0 = R[i] := fun R i hi => by simp [hi]
  refine ⟨a1, by rw [e _ 0 a1]; exact a2, by rw [e _ _ (by omega), a3]; omega, fun i hi => ?_⟩
  rw [e _ i (by omega), e _ (i + 1) hi]
  exact a4 i hi

set_option maxRecDepth 20000 in
set_option maxHeartbeats 1600000 in
theorem pickJoined_ (c : Cf) (hc : c.ok) (hfit : c.fit) (l : List Bl) (hl1 : ∀ b ∈ l, b.h.ok) (hl2 : ∀ b ∈ l, ∀ x ∈ b.t, x.length ≤ 140737488355328) (A : Option Addr) (cap : Nat) (D : Nat → Prop) (w : World) (hD : ∀ k, D k → k < w.heap.size) (hs : Sl 67 A l.length cap (bl l) D w) (ht : Txs l D w) :
    Calls PP N_milepostlaw47_PickJoined #[ag c.c, .slice A l.length cap] w (PR w (.bool true)) := by
  refine enter f_milepostlaw47_PickJoined rfl n_milepostlaw47_PickJoined rfl (M.init PP w D [] [Sl 67 A l.length cap (bl l), Txs l] ⟨Sl.stable, Txs.stable, trivial⟩ hD ⟨hs, ht, trivial⟩) ?_
  obtain ⟨mu, hmu⟩ : ∃ mu, much24 l = mu := ⟨_, rfl⟩
  obtain ⟨P, hP⟩ : ∃ P, mayP c.m c.k c.a c.b = P := ⟨_, rfl⟩
  obtain ⟨E, hE⟩ : ∃ E, chkF c l = E := ⟨_, rfl⟩
  have lb : mu = false → l.length ≤ 24 ∧ ∀ b ∈ l, Bok b := fun h => ⟨(much24_false (hmu.trans h)).1, Bok_of_much (hmu.trans h) hl1⟩
  refine seq (region (box rfl rfl rfl fun b0 => det rfl (asg rfl) (nilS ?_)))   -- region 0
  refine seq ?_
  refine seq (region (det rfl (mv rfl) (call (v := .bool mu) k_milepostlaw24_Much rfl rfl (fun w hm => by
    obtain ⟨D, d1, d2, hD, d4, d5⟩ := hm.data
    exact hmu ▸ much24_ l hl1 hl2 A cap D w hD d5.1 d5.2.1) (det rfl (mv rfl) (guardI rfl rfl rfl (fun hb => mv rfl) (guardI rfl rfl rfl (fun hb => lenS u_sl_api_Block (bift hb rfl)) (guardI rfl rfl rfl (fun hb => fadr rfl u_api_Config rfl s_int) (guardI rfl rfl rfl (fun hb => ldB 0 (v := .int .i64 c.k) (bift hb rfl) rfl o_int (Cf.at_k hc)) (guardI rfl rfl rfl (fun hb => leq (bift hb rfl) (bift hb rfl)) (det rfl (pick rfl (pickO rfl)) (det rfl (mv rfl) (guardI rfl rfl rfl (fun hb => fadr rfl u_api_Config rfl s_int) (guardI rfl rfl rfl (fun hb => ldB 0 (v := .int .i64 c.m) (bift hb rfl) rfl o_int (Cf.at_m hc)) (guardI rfl rfl rfl (fun hb => fadr rfl u_api_Config rfl s_int) (guardI rfl rfl rfl (fun hb => ldB 0 (v := .int .i64 c.k) (bift hb rfl) rfl o_int (Cf.at_k hc)) (guardI rfl rfl rfl (fun hb => fadr rfl u_api_Config rfl s_int) (guardI rfl rfl rfl (fun hb => ldB 0 (v := .int .i64 c.a) (bift hb rfl) rfl o_int (Cf.at_a hc)) (guardI rfl rfl rfl (fun hb => fadr rfl u_api_Config rfl s_int) (guardI rfl rfl rfl (fun hb => ldB 0 (v := .int .i64 c.b) (bift hb rfl) rfl o_int (Cf.at_b hc)) ((guardC (v := .bool P) rfl rfl k_pick_May (fun hb => lc (bift hb rfl) (lc (bift hb rfl) (lc (bift hb rfl) (lc (bift hb rfl) rfl)))) rfl (fun hb w _ => hP ▸ pick_May_ c.m c.k c.a c.b w) (guardI rfl rfl rfl (fun hb => notB (bift hb rfl)) (det rfl (pick rfl (pickO rfl)) (det rfl (mv rfl) (guardI rfl rfl rfl (fun hb => ldAll 0 rfl rfl g_api_Config (Cf.c_length hc)) (guardI rfl rfl rfl (fun hb => mv rfl) ((guardC (v := ag (fltC E)) rfl rfl k_chain_Check (fun hb => lc (bift hb rfl) (lc (bift hb rfl) rfl)) rfl (fun hb w hm => by
    obtain ⟨D, d1, d2, hD, d4, d5⟩ := hm.data
    have hmf : mu = false := by simp only [Bool.or_eq_false_iff] at hb; exact hb.1.1
    have := chain_Check_ c hc l (lb hmf).2 (by have := (lb hmf).1; omega) A cap D w hD d5.1 d5.2.1
    rw [hE] at this; exact this) (guardI rfl rfl rfl (fun hb => fldO (bift hb rfl) u_api_Fault rfl o_api_Errno rfl) (guardI rfl rfl rfl (fun hb => neq (bift hb rfl) rfl) (det rfl (pick rfl (pickO rfl)) (nilS ?_))))))))))))))))))))))))))))))))   -- region 1
  refine cond rfl (fun h => ?_) (fun h => ?_)   -- on t35
  · refine seq (region (call k_milepostlaw47_awake rfl rfl (fun w _ => awake47_ w) (det rfl (asg rfl) (nilS ?_))))   -- region 2
    exact ret (retT rfl rfl pr)
  · obtain ⟨h1, h2, h3, h4⟩ := guard4 h
    obtain ⟨hl24, hlb⟩ := lb h1
    refine forget [(1, .slice A l.length cap), (2, .pointer (some ⟨b0, 0, none⟩))] ⟨rfl, rfl, trivial⟩ fun σ => ?_
    have hch : Chn c l := chk_chn (by rw [hE]; exact h4)
    subst h3
    have hmk : 1 ≤ c.m ∧ 1 ≤ c.k := by
      have := hP
      simp only [mayP, Bool.and_eq_true, decide_eq_true_eq] at this
      omega
    obtain ⟨kn, hkn⟩ : ∃ n : Nat, c.k = (n : Int) := ⟨c.k.toNat, by omega⟩
    obtain ⟨Lv, hLv⟩ : ∃ x, levs c.t l = x := ⟨_, rfl⟩
    have hLl : Lv.length = l.length := by rw [← hLv, levs_length]
    obtain ⟨R, hR⟩ : ∃ x, pickR Lv c.m c.k c.a c.b = x := ⟨_, rfl⟩
    obtain ⟨j1, j2, j3, j4⟩ := pick_joined Lv (hLv ▸ hch.levels) c.m c.k c.a c.b kn hkn hP (by omega) (by omega) R hR
    have hRl : R.length ≤ 1000000 := by
      have := pickR_len Lv c.m c.k c.a c.b
      rw [hR] at this; omega
    have b1 : (il R)[0]? = some [.int .i64 0] := by have := il_at (xs := R) (o := 0) (j := 0) rfl j1; rwa [j2] at this
    have b2 : (il R)[R.length - 1]? = some [.int .i64 ((l.length : Int) - c.k - 1)] := by have := il_at (xs := R) (o := R.length - 1) rfl (by omega); rwa [j3, hLl] at this
    refine skipS ?_
    refine seq (region (det rfl (fadr rfl u_api_Config rfl s_api_Hash) (det rfl (ldA 0 rfl rfl g_api_Hash (r := b8 c.t) (Cf.at_t' hc) (by rw [b8_length]; exact hc.2)) (det rfl (mv rfl) (callS' (m := Lv.length) (sz := 1) (ls := il Lv) (il_length _) k_chain_Levels rfl rfl (fun w hm => by
      obtain ⟨D, d1, d2, hD, d4, d5⟩ := hm.data
      have := chain_Levels_ c.t hc.2 l (by omega) (fun b hb => (hlb b hb).1) A cap D w hD d5.1
      rw [hLv] at this; exact this) fun B q => det rfl (asg rfl) (nilS ?_))))))   -- region 3
    refine seq (region (det rfl (mv rfl) (det rfl (fadr rfl u_api_Config rfl s_int) (det rfl (ldB 0 (v := .int .i64 c.m) rfl rfl o_int (Cf.at_m hc)) (det rfl (fadr rfl u_api_Config rfl s_int) (det rfl (ldB 0 (v := .int .i64 c.k) rfl rfl o_int (Cf.at_k hc)) (det rfl (fadr rfl u_api_Config rfl s_int) (det rfl (ldB 0 (v := .int .i64 c.a) rfl rfl o_int (Cf.at_a hc)) (det rfl (fadr rfl u_api_Config rfl s_int) (det rfl (ldB 0 (v := .int .i64 c.b) rfl rfl o_int (Cf.at_b hc)) (callS' (m := R.length) (sz := 1) (ls := il R) (il_length _) k_pick_Pick (show _ = [Value.slice B Lv.length q, .int .i64 c.m, .int .i64 c.k, .int .i64 c.a, .int .i64 c.b] from rfl) rfl (fun w hm => by
      obtain ⟨D, hD, hs⟩ := hm.sl (k := 0) rfl
      have := pick_PickS_ Lv (by omega) c.m c.k c.a c.b B q D w hD hs
      rw [hR] at this; exact this) fun C r => det rfl (asg rfl) (nilS ?_))))))))))))   -- region 4
    refine seq ?_
    refine seq (drawI 24 [] mix (by kernel_rfl) (by kernel_rfl) ?_)   -- drawn 5
    refine nI rfl rfl rfl (mv rfl) ?_
    refine nI rfl rfl rfl (lenS u_sl_int rfl) ?_
    refine nI rfl rfl rfl (Det.to (eql rfl rfl) (v' := .bool false) (vb (decide_eq_false (by omega)))) ?_
    refine nI rfl rfl rfl (mv rfl) ?_
    refine gI rfl rfl rfl rfl rfl (mv rfl) ?_
    refine gI rfl rfl rfl rfl rfl (ixS 0 rfl rfl u_sl_int s_int rfl (by omega) (by omega)) ?_
    refine gI rfl rfl rfl rfl rfl (ldSO 0 (v := .int .i64 0) rfl rfl o_int b1) ?_
    refine gI rfl rfl rfl rfl rfl (Det.to (neq rfl rfl) (v' := .bool false) rfl) ?_
    refine nI rfl rfl rfl (pick (b := false) rfl rfl) ?_
    refine nI rfl rfl rfl (mv rfl) ?_
    refine gI rfl rfl rfl rfl rfl (mv rfl) ?_
    refine gI rfl rfl rfl rfl rfl (mv rfl) ?_
    refine gI rfl rfl rfl rfl rfl (lenS u_sl_int rfl) ?_
    refine gI rfl rfl rfl rfl rfl (subI rfl rfl (by omega) (by omega)) ?_
    refine gI rfl rfl rfl rfl rfl (ixS 0 rfl rfl u_sl_int s_int rfl (by omega) (by omega)) ?_
    refine gI rfl rfl rfl rfl rfl (ldSO 0 (v := .int .i64 ((l.length : Int) - c.k - 1)) rfl rfl o_int (by rw [show ((R.length : Int) - 1).toNat = R.length - 1 by omega]; exact b2)) ?_
    refine gI rfl rfl rfl rfl rfl (mv rfl) ?_
    refine gI rfl rfl rfl rfl rfl (lenS u_sl_api_Block rfl) ?_
    refine gI rfl rfl rfl rfl rfl (fadr rfl u_api_Config rfl s_int) ?_
    refine gI rfl rfl rfl rfl rfl (ldB 0 (v := .int .i64 c.k) rfl rfl o_int (Cf.at_k hc)) ?_
    refine gI rfl rfl rfl rfl rfl (subI rfl rfl (by omega) (by omega)) ?_
    refine gI rfl rfl rfl rfl rfl (subI rfl rfl (by omega) (by omega)) ?_
    refine gI rfl rfl rfl rfl rfl (Det.to (neq rfl rfl) (v' := .bool false) (vb (by simp))) ?_
    refine nI rfl rfl rfl (pick (b := false) rfl rfl) ?_
    refine endI rfl (nilS ?_)
    refine condF rfl ?_
    refine skipS ?_
    refine seq ?_
    refine seq (region (det rfl (asg rfl) (nilS ?_)))   -- region 7
    refine block ?_   -- block 0
    refine loopV (ι := Nat) (fun k => 1 ≤ k ∧ k ≤ R.length) (fun k => [(5, .slice B Lv.length q), (6, .slice C R.length r), (7, .int .i64 k)]) (fun _ => []) (fun _ => [Sl 1 C R.length r (il R), Sl 1 B Lv.length q (il Lv)]) (fun k => R.length - k) 1 ⟨by omega, by omega⟩ ⟨rfl, rfl, rfl, trivial⟩ (fun w hm => (drop1 hm).refact ⟨Sl.stable, Sl.stable, trivial⟩ fun D h => ⟨h.1, h.2.1, trivial⟩) ?_
    intro k σ ⟨hk1, hk⟩
    refine seq ?_
    refine seq (region (det rfl (mv rfl) (det rfl (mv rfl) (det rfl (lenS u_sl_int rfl) (det rfl (lss rfl rfl) (nilS ?_))))))   -- region 8
    refine cond rfl (fun h => ?_) (fun h => ?_)   -- on t78
    · have h := of_decide_eq_true h
      have hkl : k < R.length := by omega
      obtain ⟨s1, s2⟩ := j4 (k - 1) (by omega)
      rw [show k - 1 + 1 = k by omega] at s1 s2
      obtain ⟨x, hx⟩ : ∃ x, R.getD k 0 = x := ⟨_, rfl⟩
      obtain ⟨y, hy⟩ : ∃ y, R.getD (k - 1) 0 = y := ⟨_, rfl⟩
      rw [hx, hy] at s1 s2
      have hall := Mp.all_len Lv x
      obtain ⟨Y, hY⟩ : ∃ Y, Mp.all Lv x = Y := ⟨_, rfl⟩
      obtain ⟨z, hz⟩ : ∃ z, Mp.index Lv x y = z := ⟨_, rfl⟩
      have hz0 : 0 ≤ z := by
        obtain ⟨i, hi, _⟩ := Mp.indexFrom_mem y (Mp.all Lv x) 0 s2
        rw [← hz, Mp.index, hi]; omega
      have hY0 : 0 < Y.length := by rw [← hY]; exact List.length_pos_of_mem s2
      have a1 : (il R)[k]? = some [.int .i64 x] := by rw [← hx]; exact il_at rfl hkl
      have a2 : (il R)[k - 1]? = some [.int .i64 y] := by rw [← hy]; exact il_at rfl (by omega)
      refine skipS ?_
      refine seq ?_
      refine block ?_   -- block 1
      refine seq (drawI 34 [21, 30] mix (by kernel_rfl) (by kernel_rfl) ?_)   -- drawn 10
      refine nI rfl rfl rfl (mv rfl) ?_
      refine nI rfl rfl rfl (mv rfl) ?_
      refine nI rfl rfl rfl (ixS 0 rfl rfl u_sl_int s_int rfl (by omega) (by omega)) ?_
      refine nI rfl rfl rfl (ldSO 0 (i := k) (v := .int .i64 x) (by first | rfl | (show at_ _ _ = at_ _ _; congr 1; omega)) rfl o_int a1) ?_
      refine nI rfl rfl rfl (mv rfl) ?_
      refine nI rfl rfl rfl (mv rfl) ?_
      refine nI rfl rfl rfl (subI rfl rfl (by omega) (by omega)) ?_
      refine nI rfl rfl rfl (ixS 0 rfl rfl u_sl_int s_int rfl (by omega) (by omega)) ?_
      refine nI rfl rfl rfl (ldSO 0 (i := k - 1) (v := .int .i64 y) (by first | rfl | (show at_ _ _ = at_ _ _; congr 1; omega)) rfl o_int a2) ?_
      refine nI rfl rfl rfl (Det.to (leq rfl rfl) (v' := .bool false) (vb (decide_eq_false (by omega)))) ?_
      refine nI rfl rfl rfl (mv rfl) ?_
      refine gI rfl rfl rfl rfl rfl (mv rfl) ?_
      refine gI rfl rfl rfl rfl rfl (mv rfl) ?_
      refine gI rfl rfl rfl rfl rfl (mv rfl) ?_
      refine gI rfl rfl rfl rfl rfl (ixS 0 rfl rfl u_sl_int s_int rfl (by omega) (by omega)) ?_
      refine gI rfl rfl rfl rfl rfl (ldSO 0 (i := k) (v := .int .i64 x) (by first | rfl | (show at_ _ _ = at_ _ _; congr 1; omega)) rfl o_int a1) ?_
      refine gI rfl rfl rfl rfl rfl (mv rfl) ?_
      refine gI rfl rfl rfl rfl rfl (mv rfl) ?_
      refine gI rfl rfl rfl rfl rfl (subI rfl rfl (by omega) (by omega)) ?_
      refine gI rfl rfl rfl rfl rfl (ixS 0 rfl rfl u_sl_int s_int rfl (by omega) (by omega)) ?_
      refine gI rfl rfl rfl rfl rfl (ldSO 0 (i := k - 1) (v := .int .i64 y) (by first | rfl | (show at_ _ _ = at_ _ _; congr 1; omega)) rfl o_int a2) ?_
      refine pgI (v := .int .i64 z) rfl rfl rfl rfl k_milepostref22_Index (show _ = [Value.slice B Lv.length q, .int .i64 x, .int .i64 y] from rfl) rfl (fun w hm => by
        obtain ⟨D, hD, hs⟩ := hm.sl (k := 1) rfl
        have := ref22_Index_ Lv (by omega) x y B q D w hD hs (by omega)
        rw [hz] at this; exact this) ?_
      refine gI rfl rfl rfl rfl rfl (Det.to (lss rfl rfl) (v' := .bool false) (vb (decide_eq_false (by omega)))) ?_
      refine nI rfl rfl rfl (pick (b := false) rfl rfl) ?_
      refine nI rfl rfl rfl (mv rfl) ?_
      refine gI rfl rfl rfl rfl rfl (mv rfl) ?_
      refine gI rfl rfl rfl rfl rfl (mv rfl) ?_
      refine gI rfl rfl rfl rfl rfl (mv rfl) ?_
      refine gI rfl rfl rfl rfl rfl (ixS 0 rfl rfl u_sl_int s_int rfl (by omega) (by omega)) ?_
      refine gI rfl rfl rfl rfl rfl (ldSO 0 (i := k) (v := .int .i64 x) (by first | rfl | (show at_ _ _ = at_ _ _; congr 1; omega)) rfl o_int a1) ?_
      refine sgI (k := Y.length) (sz := 1) (ls := il Y) (il_length _) rfl rfl rfl rfl k_near_All (show _ = [Value.slice B Lv.length q, .int .i64 x] from rfl) rfl (fun w hm => by
        obtain ⟨D, hD, hs⟩ := hm.sl (k := 1) rfl
        have := near_All_ Lv (by omega) x B q D w hD hs
        rw [hY] at this; exact this) fun E1 q1 => ?_
      refine gI rfl rfl rfl rfl rfl (lenS u_sl_int rfl) ?_
      refine gI rfl rfl rfl rfl rfl (Det.to (eql rfl rfl) (v' := .bool false) (vb (decide_eq_false (by omega)))) ?_
      refine nI rfl rfl rfl (pick (b := false) rfl rfl) ?_
      refine endI rfl (nilS ?_)
      refine condF rfl ?_
      refine skip ?_
      show Tr _ _ _ _ _ _ _
      refine region (det rfl (mv rfl) (det rfl (addI rfl rfl (by omega) (by omega)) (det rfl (asg rfl) (nil ?_))))   -- region 9
      exact again (k + 1) ⟨by omega, by omega⟩ ⟨rfl, rfl, rfl, trivial⟩ (fun w hm => hm.more) (by (first | omega | (dsimp only; omega)))
    · have h := of_decide_eq_false h
      refine exit ?_   -- 0
      show Tr _ _ _ _ _ _ _
      refine seq (region (call k_milepostlaw47_awake rfl rfl (fun w _ => awake47_ w) (det rfl (asg rfl) (nilS ?_))))   -- region 12
      exact ret (retT rfl rfl pr)
end Go.Proofs.YtmcapgjdflohfaaGreat.L

namespace Go.Proofs.YtmcapgjdflohfaaGreat.pickJoined
open Go.ChangeShapes Go.WideShapes Go.ChangeAt Go.RowKit
open Go.ChangeMaps (open_string shut_string)
open Go.Proofs.YtmcapgjdflohfaaGreat.L
set_option linter.unusedVariables false
theorem own : ownKnob Tryz.prog.godebug = none := by kernel_rfl
theorem laidOut : laidOutB Tryz.prog = true := by kernel_rfl
set_option maxRecDepth 100000 in
theorem lifted (os : Os) (started : os.Started) (H : Type) (enc : TypeId × Value → H) :
    ReturnsInHanded {} Tryz.checked os 3 .any (Rows.pickJoinedSpec.pre6 enc Tryz.prog Tryz.f3 Rows.pickJoinedRow.domain false) (Rows.pickJoinedSpec.post enc Tryz.prog Tryz.f3 false true false false) := by
  refine returnsInHanded_of_change_sized (C := Tryz.checked) own started (by kernel_rfl) Tryz.func3
    (ChangeSpec.witness6 (enc := enc) (C := Tryz.checked) false ⟨#[], #[.agg cf0.toArray, .slice none 0 0], []⟩ 8 (by kernel_rfl) (by kernel_rfl) (by kernel_rfl) (by kernel_rfl)) ?_
  intro W base args ds gs before hval0 hW hcnd hsz0 _
  have hsz : (DataW.weightsEach Tryz.prog (Tryz.f3.params.toList ++ Rows.pickJoinedSpec.plain.varTypes Tryz.prog) (ds ++ gs)).all (· ≤ reachBytes) = true := hsz0
  have hval : ∀ (j : Nat) t v, Tryz.f3.params[j]? = some t → args[j]? = some v → Value.okWide Tryz.prog W .any base t v := hval0
  have hW' := hW
  obtain ⟨p, q, hA0, hV, rfl, hfz, hnd⟩ := hW
  have hA : DataW.TrodAll enc Tryz.prog W 0 (fun _ => true) true Tryz.f3.params.toList args.toList ds p := hA0
  rw [Tryz.params3] at hA hval hsz
  obtain ⟨v0, vs0, d0, ds0, p0, q0, hargs, rfl, rfl, h0, r0⟩ := trodAll_cons hA
  obtain ⟨v1, vs1, d1, ds1, p1, q1, rfl, rfl, rfl, h1, r1⟩ := trodAll_cons r0
  obtain ⟨rfl, rfl, rfl⟩ := trodAll_nil r1
  obtain rfl : args = #[v0, v1] := by cases args; simp_all
  obtain ⟨rfl, rfl⟩ := trodVars_none hV
  obtain ⟨cs0, rfl⟩ := okAgg u_api_Config (hval 0 _ v0 rfl rfl)
  obtain ⟨a1, len1, cap1, rfl⟩ := okWide_slice u_sl_api_Block (hval 1 _ v1 rfl rfl)
  have k0 := h0
  have k1 := h1
  have lt0 : ∀ x ∈ p0, x.block < W.heap.size := by obtain ⟨m, hm⟩ := k0; exact DataW.trod_lt m _ _ _ hm
  have lt1 : ∀ x ∈ p1, x.block < W.heap.size := by obtain ⟨m, hm⟩ := k1; exact DataW.trod_lt m _ _ _ hm
  obtain ⟨c, hc0, hc, hfit⟩ : ∃ c : Cf, cs0.toList = c.c ∧ c.ok ∧ c.fit := by obtain ⟨m, hm⟩ := h0; exact dec_cfg hm
  obtain ⟨A, cap, l, e1, hb, hs⟩ : ∃ A cap, ∃ l : List Bl, [Value.slice a1 len1 cap1] = [.slice A l.length cap] ∧ (∀ b ∈ l, Bin W b) ∧ Sl 67 A l.length cap (bl l) (fun k => k < W.heap.size) W := by
    obtain ⟨m, hm⟩ := h1
    exact dec_blocks hm (wt_of hsz (j := 1) rfl rfl)
  have e0 : cs0 = c.c.toArray := by rw [← hc0]
  subst e0
  simp only [List.cons.injEq, Value.slice.injEq, and_true] at e1
  obtain ⟨rfl, rfl, rfl⟩ := e1
  clear hA0 hval0 hsz0 hsz
  refine (pickJoined_ c hc hfit l (fun b h => (hb b h).1) (fun b h => (hb b h).2.1) a1 cap1 (fun k => k < W.heap.size) W (fun _ h => h) hs (fun b h => (hb b h).2.2)).mono fun e W' ⟨he, bel⟩ => ?_
  subst he
  exact ⟨_, rfl, _, _, _, [], _, [], hW', trodAll_mk1 (shut_bool u_bool _), (trodAll_cons_mk (Below.trod laidOut (by kernel_rfl) (of_decide_eq_true (by kernel_rfl)) k0 bel lt0) (trodAll_cons_mk (Below.trod laidOut (by kernel_rfl) (of_decide_eq_true (by kernel_rfl)) k1 bel lt1) trodAll_mk0)), rfl, bel.frame _, fun h => by cases h⟩
theorem over : Rows.pickJoinedRow.holds Tryz.pinned (OpenSpec.ofChange Rows.pickJoinedSpec) :=
  OpenClaim.holds_of_wide 3 Tryz.f3 rfl rfl rfl rfl rfl rfl rfl ⟨rfl, rfl, rfl, rfl, rfl⟩ rfl rfl rfl rfl rfl (by kernel_rfl) Tryz.func3 (by kernel_rfl)
    (of_decide_eq_true (by kernel_rfl)) (by unfold Func.isWrapper; first | (rw [if_pos (by decide +kernel)]; kernel_rfl) | (rw [if_neg (by decide +kernel)]; exact ⟨rfl, rfl⟩))
    (fun os started H enc _ => lifted os started H enc)
theorem proved : Rows.PickJoinedSaid := over
#print axioms proved
end Go.Proofs.YtmcapgjdflohfaaGreat.pickJoined
namespace Go.Proofs.YtmcapgjdflohfaaGreat
/-- The row, under a short name, for the claim. -/
theorem pickJoined_holds : Rows.PickJoinedSaid := pickJoined.proved
end Go.Proofs.YtmcapgjdflohfaaGreat
