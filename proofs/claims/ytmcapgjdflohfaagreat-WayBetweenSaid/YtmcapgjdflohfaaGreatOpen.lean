/- Arguments opened: what a reading tells of headers, blocks, configurations. -/
import Derived.Test.YtmcapgjdflohfaaGreatVecs
import Derived.SizedLaws
import Derived.Deep.Slices
import Derived.OpenShut
set_option linter.all false
namespace Go.Proofs.YtmcapgjdflohfaaGreat.L
open Go Go.RowKit
set_option linter.unusedVariables false
set_option linter.constructorNameAsVariable false

section
variable {H : Type} {enc : TypeId × Value → H} {W : World} {base : Nat} {spare : Nat → Bool} {held : Bool}

/-- Each weight of a datum is no more than a size may be. -/
def Wt {H : Type} (t : TypeId) (d : DataW H) : Prop := ∀ n ∈ d.weights PP t, n ≤ 140737488355328
theorem wt_all {e : TypeId} {l : List (DataW H)} {d : DataW H} (hd : d ∈ l) : ∀ n ∈ d.weights PP e, n ∈ DataW.weightsAll PP e l := by
  induction l with
  | nil => cases hd
  | cons x r ih =>
    intro n hn
    simp only [DataW.weightsAll, List.mem_append]
    rcases List.mem_cons.1 hd with rfl | hd
    · exact .inl hn
    · exact .inr (ih hd n hn)
theorem wt_each {ts : List TypeId} {ds : List (DataW H)} {j : Nat} {t : TypeId} {d : DataW H} (ht : ts[j]? = some t) (hd : ds[j]? = some d) (hw : ∀ n ∈ DataW.weightsEach PP ts ds, n ≤ 140737488355328) : Wt t d :=
  fun n hn => hw n (DataW.weights_mem_each ht hd n hn)

theorem exists_list {α : Type} (n : Nat) (p : Nat → α → Prop) (h : ∀ i < n, ∃ a, p i a) : ∃ l : List α, l.length = n ∧ ∀ i a, l[i]? = some a → p i a := by
  induction n with
  | zero => exact ⟨[], rfl, fun i a h => by simp at h⟩
  | succ n ih =>
    obtain ⟨l, hl, hp⟩ := ih fun i hi => h i (by omega)
    obtain ⟨a, ha⟩ := h n (by omega)
    refine ⟨l ++ [a], by simp [hl], fun i b hb => ?_⟩
    by_cases hi : i < n
    · rw [List.getElem?_append_left (by omega)] at hb; exact hp i b hb
    · have := (List.getElem?_eq_some_iff.1 hb).1
      simp only [List.length_append, List.length_singleton] at this
      have e : i = n := by omega
      subst e
      rw [List.getElem?_append_right (by omega), hl, Nat.sub_self] at hb
      simp only [List.getElem?_cons_zero, Option.some.injEq] at hb
      rw [← hb]; exact ha

theorem dec_slice {α : Type} {t e : TypeId} {sz fuel : Nat} {cs : List Value} {x : DataW H × List MemPlace} (C : α → List Value) (R : α → Prop) (ht : PP.underlying t = some (.slice e)) (hc : PP.cellsOf e = sz) (hsz : 0 < sz)
    (h : DataW.trod enc PP W base spare held fuel t cs = some x) (hw : Wt t x.1)
    (el : ∀ f cs y, DataW.trod enc PP W base spare held f e cs = some y → Wt e y.1 → ∃ a, cs = C a ∧ R a) (hR : ∀ a, R a → (C a).length = sz ∧ one (C a) = true) :
    ∃ A cap, ∃ l : List α, cs = [.slice A l.length cap] ∧ (∀ a ∈ l, R a) ∧ Sl sz A l.length cap (l.map C) (fun k => k < W.heap.size) W := by
  rcases Go.Deep.open_slice ht h with ⟨rfl, _⟩ | ⟨a, len, cap, m, n, D, Pl, rfl, _, hl, hm, hmm, rfl, hx⟩
  · exact ⟨none, 0, [], rfl, (fun a h => nomatch h), Sl.nil⟩
  · have hle : len ≤ m := by rw [hmm]; split <;> omega
    obtain ⟨l, hll, hlp⟩ := exists_list len (fun i b => W.cells? base (a.add (i * sz)) sz = some (C b) ∧ R b) (fun i hi => by
      obtain ⟨cs', h1, h2⟩ := hx i (by omega)
      obtain ⟨b, rfl, hb⟩ := el n cs' _ h2 (fun n hn => hw n (by
        simp only [DataW.weights, ht, List.mem_cons, List.mem_append]
        exact .inr (.inl (wt_all (List.mem_map.2 ⟨i, List.mem_range.2 hi, rfl⟩) n hn))))
      exact ⟨b, by rw [hc] at h1; exact h1, hb⟩)
    have hRl : ∀ b ∈ l, R b := fun b hb => by
      obtain ⟨i, hi, rfl⟩ := List.getElem_of_mem hb
      exact (hlp i _ (List.getElem?_eq_getElem hi)).2
    refine ⟨some a, cap, l, by rw [hll], hRl, ?_⟩
    refine ⟨by simp, by rw [hll]; exact hl, hm, fun c hc => ?_, fun h0 => ?_⟩
    · obtain ⟨b, hb, rfl⟩ := List.mem_map.1 hc
      exact hR b (hRl b hb)
    · have hcell : ∀ i b, l[i]? = some b → ∀ j u, (C b)[j]? = some u → W.cell? (a.add (i * sz + j)) = some u := fun i b hb j u hu => by
        obtain ⟨h1, h2⟩ := hlp i b hb
        obtain ⟨_, h3, h4⟩ := World.cells?_some h1
        have hj := (List.getElem?_eq_some_iff.1 hu).1
        rw [← Go.Deep.add_add, h4 j (by omega), hu]
      have hsp : a.spot = none := by
        have hg : l[0]? = some l[0] := List.getElem?_eq_getElem h0
        have hb := hR _ (hRl _ (List.getElem_mem h0))
        have := hcell 0 _ hg 0 _ (List.getElem?_eq_getElem (by omega))
        simp only [Nat.zero_mul, Nat.add_zero, Addr.add, if_true] at this
        cases hs : a.spot with
        | none => rfl
        | some s =>
          simp only [World.cell?, hs, Option.isSome_some, if_true] at this
          split at this <;> cases this
      obtain ⟨b, off, sp⟩ := a
      simp only at hsp
      subst hsp
      refine ⟨b, off, rfl, ?_, fun i c hi j u hu => ?_⟩
      · have hb := hR _ (hRl _ (List.getElem_mem h0))
        have := hcell 0 _ (List.getElem?_eq_getElem h0) 0 _ (List.getElem?_eq_getElem (by omega))
        rw [add0] at this
        exact World.block_lt_of_cell? W _ this
      · rw [List.getElem?_map] at hi
        obtain ⟨b', hb', rfl⟩ := Option.map_eq_some_iff.1 hi
        have := hcell i b' hb' j u hu
        rw [add0] at this
        rw [Nat.add_assoc]; exact this

/-! ### Values -/
theorem dec_u8 {fuel : Nat} {cs : List Value} {x : DataW H × List MemPlace} (h : DataW.trod enc PP W base spare held fuel T_uint8 cs = some x) : ∃ b : UInt8, cs = [.int .u8 b.toNat] := by
  obtain ⟨n, rfl, _, hw⟩ := DataW.trod_int u_uint8 h
  have := bounds_u8 hw
  refine ⟨UInt8.ofNat n.toNat, ?_⟩
  have e : ((UInt8.ofNat n.toNat).toNat : Int) = n := by
    rw [UInt8.toNat_ofNat']; omega
  rw [e]
theorem dec_hash {fuel : Nat} {cs : List Value} {x : DataW H × List MemPlace} (h : DataW.trod enc PP W base spare held fuel T_api_Hash cs = some x) : ∃ l : List UInt8, l.length = 32 ∧ cs = b8 l := by
  obtain ⟨xs, m, _, _, hlen, hxl, hi⟩ := DataW.trod_array u_api_Hash h
  have h32 : PP.cellsOf T_api_Hash = 32 := by kernel_rfl
  have h1 : PP.cellsOf T_uint8 = 1 := by kernel_rfl
  have h1' : PP.cellsOf 5 = 1 := h1
  rw [h32] at hlen
  obtain ⟨l, hl, hp⟩ := exists_list 32 (fun i (b : UInt8) => cs[i]? = some (.int .u8 b.toNat)) (fun i hi32 => by
    have := hi i hi32
    rw [h1, List.getElem?_eq_getElem (by omega), Nat.mul_one] at this
    obtain ⟨b, hb⟩ := dec_u8 this
    refine ⟨b, ?_⟩
    have e : ((cs.drop i).take 1)[0]? = some (.int .u8 b.toNat) := by rw [hb]; rfl
    rw [List.getElem?_take, if_pos (by decide), List.getElem?_drop, Nat.add_zero] at e
    exact e)
  refine ⟨l, hl, ?_⟩
  apply List.ext_getElem?
  intro i
  by_cases hi : i < 32
  · have hg : l[i]? = some l[i] := List.getElem?_eq_getElem (by omega)
    rw [hp i _ hg, b8, List.getElem?_map, hg]; rfl
  · rw [List.getElem?_eq_none (by omega), List.getElem?_eq_none (by rw [b8_length]; omega)]
theorem cut_eq {cs : List Value} (a b : Nat) : cs.drop a = (cs.drop a).take b ++ cs.drop (a + b) := by
  rw [← List.drop_drop]; exact (List.take_append_drop b (cs.drop a)).symm
theorem fld {m : Nat} {cs : List Value} {fs : Array Field} {xs : List (DataW H × List MemPlace)} (hf : ∀ (i : Nat) (f : Field), fs[i]? = some f → DataW.trod enc PP W base spare held m f.type ((cs.drop f.offset).take (PP.cellsOf f.type)) = xs[i]?)
    (i : Nat) {f : Field} (h : fs[i]? = some f) {ty : TypeId} {o k : Nat} (h1 : f.type = ty) (h2 : f.offset = o) (h3 : PP.cellsOf ty = k) (hi : i < xs.length) : DataW.trod enc PP W base spare held m ty ((cs.drop o).take k) = some xs[i] := by
  have := hf i f h
  rw [h1, h2, h3, List.getElem?_eq_getElem hi] at this
  exact this
theorem dec_head {fuel : Nat} {cs : List Value} {x : DataW H × List MemPlace} (h : DataW.trod enc PP W base spare held fuel T_api_Header cs = some x) : ∃ y : Hd, y.ok ∧ cs = y.c := by
  obtain ⟨xs, m, _, _, hlen, hxl, hf⟩ := DataW.trod_struct u_api_Header h
  have e66 : PP.cellsOf T_api_Header = 66 := by kernel_rfl
  rw [e66] at hlen
  have hxl : xs.length = 4 := hxl
  have f0 := fld hf 0 rfl (ty := T_uint32) (o := 0) rfl rfl (k := 1) (by kernel_rfl) (by omega)
  have f1 := fld hf 1 rfl (ty := T_api_Hash) (o := 1) rfl rfl (k := 32) (by kernel_rfl) (by omega)
  have f2 := fld hf 2 rfl (ty := T_api_Hash) (o := 33) rfl rfl (k := 32) (by kernel_rfl) (by omega)
  have f3 := fld hf 3 rfl (ty := T_uint64) (o := 65) rfl rfl (k := 1) (by kernel_rfl) (by omega)
  obtain ⟨hh, e0, _, _⟩ := DataW.trod_int u_uint32 f0
  obtain ⟨l, hl, e1⟩ := dec_hash f1
  obtain ⟨t, ht, e2⟩ := dec_hash f2
  obtain ⟨n, e3, _, _⟩ := DataW.trod_int u_uint64 f3
  refine ⟨⟨hh, l, t, n⟩, ⟨hl, ht⟩, ?_⟩
  have c0 := cut_eq (cs := cs) 0 1
  have c1 := cut_eq (cs := cs) 1 32
  have c2 := cut_eq (cs := cs) 33 32
  have c3 := cut_eq (cs := cs) 65 1
  rw [List.drop_of_length_le (show cs.length ≤ 65 + 1 by omega), e3] at c3
  rw [e2, show 33 + 32 = 65 from rfl, c3] at c2
  rw [e1, show 1 + 32 = 33 from rfl, c2] at c1
  rw [e0, show 0 + 1 = 1 from rfl, c1, List.drop_zero] at c0
  rw [c0]; rfl
theorem dec_texts {fuel : Nat} {cs : List Value} {x : DataW H × List MemPlace} (h : DataW.trod enc PP W base spare held fuel T_sl_string cs = some x) (hw : Wt T_sl_string x.1) :
    ∃ A cap, ∃ l : List (List UInt8), cs = [.slice A l.length cap] ∧ (∀ s ∈ l, s.length ≤ 140737488355328) ∧ Sl 1 A l.length cap (tl l) (fun k => k < W.heap.size) W :=
  dec_slice (fun s => [.string (bs s)]) (fun s => s.length ≤ 140737488355328) u_sl_string (by kernel_rfl) (by decide) h hw (fun f cs y hy hwy => by
    obtain ⟨s, rfl, hd, _⟩ := DataW.trod_string u_string hy
    refine ⟨s.data.toList, rfl, ?_⟩
    exact hwy _ (by rw [hd]; simp [DataW.weights])) (fun _ _ => ⟨rfl, rfl⟩)
/-- What is known of a block that was handed in. -/
def Bin (W : World) (b : Bl) : Prop := b.h.ok ∧ (∀ x ∈ b.t, x.length ≤ 140737488355328) ∧ Sl 1 b.A b.t.length b.cap (tl b.t) (fun k => k < W.heap.size) W
theorem dec_block {fuel : Nat} {cs : List Value} {x : DataW H × List MemPlace} (h : DataW.trod enc PP W base spare held fuel T_api_Block cs = some x) (hw : Wt T_api_Block x.1) : ∃ b : Bl, cs = b.c ∧ Bin W b := by
  obtain ⟨xs, m, _, hx, hlen, hxl, hf⟩ := DataW.trod_struct u_api_Block h
  have e67 : PP.cellsOf T_api_Block = 67 := by kernel_rfl
  rw [e67] at hlen
  have hxl : xs.length = 2 := hxl
  have f0 := fld hf 0 rfl (ty := T_api_Header) (o := 0) rfl rfl (k := 66) (by kernel_rfl) (by omega)
  have f1 := fld hf 1 rfl (ty := T_sl_string) (o := 66) rfl rfl (k := 1) (by kernel_rfl) (by omega)
  obtain ⟨y, hy, e0⟩ := dec_head f0
  obtain ⟨A, cap, l, e1, hl, hsl⟩ := dec_texts f1 (fun n hn => hw n (by
    rw [hx]
    simp only [DataW.weights, u_api_Block]
    refine DataW.weights_mem_each (j := 1) rfl ?_ n hn
    rw [List.getElem?_map, List.getElem?_eq_getElem (by omega)]; rfl))
  refine ⟨⟨y, A, cap, l⟩, ?_, hy, hl, hsl⟩
  have c0 := cut_eq (cs := cs) 0 66
  have c1 := cut_eq (cs := cs) 66 1
  rw [List.drop_of_length_le (show cs.length ≤ 66 + 1 by omega), e1] at c1
  rw [e0, show 0 + 66 = 66 from rfl, c1, List.drop_zero] at c0
  rw [c0]; rfl
theorem Bin.one {b : Bl} (h : Bin W b) : b.c.length = 67 ∧ one b.c = true := ⟨Bl.c_length h.1, Bl.c_one b⟩
theorem dec_blocks {fuel : Nat} {cs : List Value} {x : DataW H × List MemPlace} (h : DataW.trod enc PP W base spare held fuel T_sl_api_Block cs = some x) (hw : Wt T_sl_api_Block x.1) :
    ∃ A cap, ∃ l : List Bl, cs = [.slice A l.length cap] ∧ (∀ b ∈ l, Bin W b) ∧ Sl 67 A l.length cap (bl l) (fun k => k < W.heap.size) W :=
  dec_slice Bl.c (Bin W) u_sl_api_Block (by kernel_rfl) (by decide) h hw (fun f cs y hy hwy => dec_block hy hwy) (fun _ h => h.one)
theorem dec_int {fuel : Nat} {cs : List Value} {x : DataW H × List MemPlace} (h : DataW.trod enc PP W base spare held fuel T_int cs = some x) : ∃ n : Int, cs = [.int .i64 n] ∧ -9223372036854775808 ≤ n ∧ n ≤ 9223372036854775807 := by
  obtain ⟨n, rfl, _, hw⟩ := DataW.trod_int u_int h
  exact ⟨n, rfl, bounds_i64 hw⟩
/-- A whole number's bounds. -/
def I64 (n : Int) : Prop := -9223372036854775808 ≤ n ∧ n ≤ 9223372036854775807
def Cf.fit (c : Cf) : Prop := I64 c.m ∧ I64 c.k ∧ I64 c.a ∧ I64 c.b ∧ I64 c.mb ∧ I64 c.mp
theorem dec_cfg {fuel : Nat} {cs : List Value} {x : DataW H × List MemPlace} (h : DataW.trod enc PP W base spare held fuel T_api_Config cs = some x) : ∃ c : Cf, cs = c.c ∧ c.ok ∧ c.fit := by
  obtain ⟨xs, m, _, hx, hlen, hxl, hf⟩ := DataW.trod_struct u_api_Config h
  have e104 : PP.cellsOf T_api_Config = 104 := by kernel_rfl
  rw [e104] at hlen
  have hxl : xs.length = 8 := hxl
  have f0 := fld hf 0 rfl (ty := T_api_Header) (o := 0) rfl rfl (k := 66) (by kernel_rfl) (by omega)
  have f1 := fld hf 1 rfl (ty := T_api_Hash) (o := 66) rfl rfl (k := 32) (by kernel_rfl) (by omega)
  have f2 := fld hf 2 rfl (ty := T_int) (o := 98) rfl rfl (k := 1) (by kernel_rfl) (by omega)
  have f3 := fld hf 3 rfl (ty := T_int) (o := 99) rfl rfl (k := 1) (by kernel_rfl) (by omega)
  have f4 := fld hf 4 rfl (ty := T_int) (o := 100) rfl rfl (k := 1) (by kernel_rfl) (by omega)
  have f5 := fld hf 5 rfl (ty := T_int) (o := 101) rfl rfl (k := 1) (by kernel_rfl) (by omega)
  have f6 := fld hf 6 rfl (ty := T_int) (o := 102) rfl rfl (k := 1) (by kernel_rfl) (by omega)
  have f7 := fld hf 7 rfl (ty := T_int) (o := 103) rfl rfl (k := 1) (by kernel_rfl) (by omega)
  obtain ⟨g, hg, e0⟩ := dec_head f0
  obtain ⟨t, ht, e1⟩ := dec_hash f1
  obtain ⟨n2, e2, b2⟩ := dec_int f2
  obtain ⟨n3, e3, b3⟩ := dec_int f3
  obtain ⟨n4, e4, b4⟩ := dec_int f4
  obtain ⟨n5, e5, b5⟩ := dec_int f5
  obtain ⟨n6, e6, b6⟩ := dec_int f6
  obtain ⟨n7, e7, b7⟩ := dec_int f7
  refine ⟨⟨g, t, n2, n3, n4, n5, n6, n7⟩, ?_, ⟨hg, ht⟩, b2, b3, b4, b5, b6, b7⟩
  have c0 := cut_eq (cs := cs) 0 66
  have c1 := cut_eq (cs := cs) 66 32
  have c2 := cut_eq (cs := cs) 98 1
  have c3 := cut_eq (cs := cs) 99 1
  have c4 := cut_eq (cs := cs) 100 1
  have c5 := cut_eq (cs := cs) 101 1
  have c6 := cut_eq (cs := cs) 102 1
  have c7 := cut_eq (cs := cs) 103 1
  rw [List.drop_of_length_le (show cs.length ≤ 103 + 1 by omega), e7] at c7
  rw [e6, show 102 + 1 = 103 from rfl, c7] at c6
  rw [e5, show 101 + 1 = 102 from rfl, c6] at c5
  rw [e4, show 100 + 1 = 101 from rfl, c5] at c4
  rw [e3, show 99 + 1 = 100 from rfl, c4] at c3
  rw [e2, show 98 + 1 = 99 from rfl, c3] at c2
  rw [e1, show 66 + 32 = 98 from rfl, c2] at c1
  rw [e0, show 0 + 66 = 66 from rfl, c1, List.drop_zero] at c0
  rw [c0]; rfl
end
/-- The zero configuration's cells. -/
def cf0 : List Value := ([.int .u32 0] ++ (List.replicate 32 (.int .u8 0) ++ (List.replicate 32 (.int .u8 0) ++ [.int .u64 0]))) ++ (List.replicate 32 (.int .u8 0) ++ [.int .i64 0, .int .i64 0, .int .i64 0, .int .i64 0, .int .i64 0, .int .i64 0])
theorem wt_of {H : Type} {ts : List TypeId} {ds : List (DataW H)} (h : (DataW.weightsEach PP ts ds).all (· ≤ reachBytes) = true) {j : Nat} {t : TypeId} {d : DataW H} (ht : ts[j]? = some t) (hd : ds[j]? = some d) : Wt t d := fun n hn => by
  have := List.all_eq_true.1 h _ (DataW.weights_mem_each ht hd n hn)
  have := of_decide_eq_true this
  have := reachBytes_lt
  omega
theorem okAgg {W : World} {r : Reach} {base : Nat} {t : TypeId} {v : Value} {fs : Array Field} (ht : PP.underlying t = some (.struct fs)) (h : Value.okWide PP W r base t v) : ∃ cs : Array Value, v = .agg cs := by
  unfold Value.okWide at h
  rw [ht] at h
  obtain ⟨cs, rfl, _⟩ := h
  exact ⟨cs, rfl⟩
end Go.Proofs.YtmcapgjdflohfaaGreat.L
