/- Slices in the midst of a block of one's own; slices.Reverse; package way: Between. -/
import Derived.Test.YtmcapgjdflohfaaGreatRNear
import Derived.ArgAppend
import Derived.Shelf.Slices.Reverse
import Derived.Test.YtmcapgjdflohfaaGreatLay
set_option linter.all false
namespace Go.Proofs.YtmcapgjdflohfaaGreat.L
open Go Go.RowKit
set_option linter.unusedVariables false

section
variable {c : Cx} {n : Nat} {Q : Exit → Env → World → Prop} {σ : Env} {H : List Res} {K : List Fact}
variable {t : TypeId} {p : String} {af : Array Edge}
/-- A row that is not empty is a block of one's own. -/
theorem M.asBlk {w : World} (hm : M c H K w) (i : Nat) {A : Option Addr} {m cap sz : Nat} {e : TypeId} {xs : List Value} (hi : H[i]? = some (.row (.slice A m cap) e sz m xs)) (h0 : 0 < m) :
    ∃ g cells, A = some ⟨g, 0, none⟩ ∧ cells.length = cap * sz ∧ m ≤ cap ∧ cap ≤ maxLen ∧ cells.take (m * sz) = xs ∧ M c (H.set i (.blk g (ob cells e))) K w := by
  have hown := hm.get hi
  rcases hown.2 with ⟨h1, _⟩ | ⟨g, cap', cur, h1, hb, hg, hc1, hc2, hc3, hc4⟩
  · cases h1; omega
  · cases h1
    refine ⟨g, cur.toList, rfl, by simpa using hc3, hc1, hc2, hc4, hm.change i hi ⟨rfl, rfl, rfl, Nat.le_refl _, fun _ _ _ => rfl⟩ ?_ (.inl rfl)⟩
    show w.heap[g]? = some (.cells cur.toList.toArray e)
    rw [hg]
theorem asBlkT {x : Code} (i : Nat) {A : Option Addr} {m cap sz : Nat} {e : TypeId} {xs : List Value} (hi : H[i]? = some (.row (.slice A m cap) e sz m xs)) (h0 : 0 < m)
    (h : ∀ g cells, A = some ⟨g, 0, none⟩ → cells.length = cap * sz → m ≤ cap → cap ≤ maxLen → cells.take (m * sz) = xs → Tr c n x Q σ (H.set i (.blk g (ob cells e))) K) : Tr c n x Q σ H K := by
  intro w hm
  obtain ⟨g, cells, h1, h2, h3, h4, h5, h6⟩ := hm.asBlk i hi h0
  exact h g cells h1 h2 h3 h4 h5 w h6

theorem slCapT {x : Code} {sz m cap : Nat} {A : Option Addr} {ls : List (List Value)} (k : Nat) (hk : K[k]? = some (Sl sz A m cap ls)) (h : m ≤ cap → Tr c n x Q σ H K) : Tr c n x Q σ H K := fun w hm => by
  obtain ⟨D, _, hs⟩ := hm.sl hk
  exact h hs.2.1 w hm
/-- append of a slice that is known onto one in the midst of a block of one's own, elements of one cell. -/
theorem appM {ops : Array Oper} {d : Nat} {s x : Operand} {tt e : TypeId} {l : List Oper} {z : Value} {bytes n' m cap cp b off : Nat} {A : Option Addr} {cells : List Value} {ls : List (List Value)} (i k : Nat)
    (ht : c.P.underlying tt = some (.slice e)) (hinfo : (c.P.info? e).map (fun i => (i.zero, i.size, i.bytes)) = some (some z, 1, bytes)) (hz : z.cells.size = 1)
    (hs : ev σ s = .slice (some ⟨b, off, none⟩) n' cap) (hx : ev σ x = .slice A m cp) (hi : H[i]? = some (.blk b (ob cells e))) (hk : K[k]? = some (Sl 1 A m cp ls)) (hm0 : 0 < m)
    (hn : n' ≤ cap) (hcap : off + cap = cells.length) (hmx : cap ≤ maxLen) (hlen : n' + m ≤ maxLen) (hby : (n' + m) * bytes ≤ 140737488355328) (hd : Nat.blt d n = true)
    (h : ∀ b' off' cap' cells', n' + m ≤ cap' → cap' ≤ maxLen → off' + cap' = cells'.length → (cells'.drop off').take (n' + m) = (cells.drop off).take n' ++ ls.flatten →
      TL c n ops l Q (upd σ d (.slice (some ⟨b', off', none⟩) (n' + m) cap')) (H.set i (.blk b' (ob cells' e))) K) :
    TL c n ops (⟨some d, .call { callee := .builtin .append, args := #[s, x], argTypes := #[tt, tt] }, t, p, af, none⟩ :: l) Q σ H K := by
  intro w hM a hr
  obtain ⟨i0, hi0, hzz⟩ := Option.map_eq_some_iff.1 hinfo
  simp only [Prod.mk.injEq] at hzz
  obtain ⟨hz0, hz1, hz2⟩ := hzz
  have hb := hM.blk i hi
  obtain ⟨D, _, hsl⟩ := hM.sl hk
  have hls : ∀ l ∈ ls, l.length = 1 := fun l hl => (hsl.2.2.2.1 l hl).1
  have h1 : one ls.flatten = true := flat_one fun l hl => (hsl.2.2.2.1 l hl).2
  have hm : ls.flatten.length = m * 1 := by rw [flat_length hls, hsl.1]
  obtain ⟨b2, off2, rfl, hcell⟩ := hsl.flatCells (by decide) hm0
  have hnews : ∀ j u, ls.flatten[j]? = some u → w.cell? ((⟨b2, off2, none⟩ : Addr).add j) = some u := fun j u hj => by rw [add0]; exact hcell j u hj
  have hexec : ∀ v' w', (Builtin.append_ #[tt, tt] t #[.slice (some ⟨b, off, none⟩) n' cap, .slice (some ⟨b2, off2, none⟩) m cp]).run c.P w = .ok v' w' → (execOp (ev σ) ⟨some d, .call { callee := .builtin .append, args := #[s, x], argTypes := #[tt, tt] }, t, p, af, none⟩).run c.P w = .ok (.value v') w' := by
    intro v' w' hrun
    simp only [execOp, resolve, invoke, builtin, Sem.run_bind, Sem.run_pure, Result.andThen_ok, List.map_toArray, List.map_cons, List.map_nil, hs, hx, hrun]
  refine wpList_run rfl ?_
  rw [hr.eval]
  by_cases hroom : n' + m ≤ cap
  · have hfc := run_firstCells_some (P := c.P) w i0.size m ⟨b2, off2, none⟩ m cp ls.flatten (by rw [hz1]; exact hm) hnews
    have hfit : off + n' + 0 + ls.flatten.length ≤ cells.toArray.size := by simp only [List.size_toArray]; omega
    have hst := run_storeCells_at (P := c.P) b (off + n') e ls.flatten 0 cells.toArray w hb hfit (fun u hu => List.all_eq_true.1 h1 u hu)
    have hrun : (Builtin.append_ #[tt, tt] t #[.slice (some ⟨b, off, none⟩) n' cap, .slice (some ⟨b2, off2, none⟩) m cp]).run c.P w = .ok (.slice (some ⟨b, off, none⟩) (n' + m) cap) (w.setRow b (cells.take (off + n') ++ ls.flatten ++ cells.drop (off + n' + m)).toArray) := by
      have hst' : (storeCells ((⟨b, off, none⟩ : Addr).add (n' * i0.size)) ls.flatten 0).run c.P w = .ok () (w.setRow b (cells.take (off + n') ++ ls.flatten ++ cells.drop (off + n' + m)).toArray) := by
        rw [add0, hz1, Nat.mul_one, hst]
        simp only [Nat.add_zero, hm, Nat.mul_one]
      simp [Builtin.append_, run_underlying ht, sizeOf, typeInfo, hi0, Builtin.lenOf, hroom, hfc, hst']
    rw [hexec _ _ hrun]
    refine h b off cap (cells.take (off + n') ++ ls.flatten ++ cells.drop (off + n' + m)) hroom hmx ?_ ?_ _ (hM.change i hi (grownBy_setRow w b _) (setRow_heap w b _ _ e _ hb) (.inl rfl)) _ (hr.put d _ (by simp [Nat.blt] at hd; omega))
    · simp only [List.length_append, List.length_take, List.length_drop, hm]; omega
    · have e1 : (cells.take (off + n')).length = off + n' := by rw [List.length_take]; omega
      rw [List.append_assoc, List.drop_append_of_le_length (by omega), List.drop_take, show off + n' - off = n' by omega]
      rw [List.take_append, List.take_append]
      have e2 : ((cells.drop off).take n').length = n' := by rw [List.length_take, List.length_drop]; omega
      rw [e2, List.take_of_length_le (show ((cells.drop off).take n').length ≤ n' + m by omega), show n' + m - n' = m by omega, List.take_of_length_le (show ls.flatten.length ≤ m by omega), hm, show m - m * 1 = 0 by omega, List.take_zero, List.append_nil]
  · have e2 : ((cells.drop off).take n').length = n' := by rw [List.length_take, List.length_drop]; omega
    obtain ⟨v', w', hrun, hown, hg⟩ := run_append_arg_grows (P := c.P) w tt t e i0 z 1 bytes ht hi0 hz0 hz1 hz2 hz (by decide) ⟨b, off, none⟩ n' cap ((cells.drop off).take n') (by rw [e2]; omega) (fun j u hj => by
      rw [add0, cell_ob hb]
      rw [List.getElem?_take] at hj
      split at hj
      · rw [List.getElem?_drop] at hj; exact hj
      · cases hj) ⟨b2, off2, none⟩ m cp ls.flatten hm hnews (by omega) hlen hby
    rw [hexec _ _ hrun]
    rcases hown.2 with ⟨h2, h3⟩ | ⟨g, cap', cur, h2, hb', hg', hc1, hc2, hc3, hc4⟩
    · omega
    · subst h2
      refine h g 0 cap' cur.toList hc1 hc2 (by simp [hc3]) (by rw [List.drop_zero, ← hc4, Nat.mul_one]) w' (hM.change i hi (r' := .blk g (ob cur.toList e)) ?_ ?_ (.inr (.inr ⟨g, rfl, hb'⟩))) _ (hr.put d _ (by simp [Nat.blt] at hd; omega))
      · exact ⟨hg.os, hg.tape, hg.output, hg.size, fun k hk _ => hg.block k hk (by simp)⟩
      · show w'.heap[g]? = some (.cells cur.toList.toArray e)
        rw [hg']
end

/-! ### Reverse -/
def iv (xs : List Int) : List Value := xs.map fun x => .int .i64 x
theorem iv_length (xs : List Int) : (iv xs).length = xs.length := by simp [iv]
theorem mid_at {pre post : List Value} {ys : List Int} {o k : Nat} (ho : o = pre.length + k) (hk : k < ys.length) : (pre ++ iv ys ++ post)[o]? = some (.int .i64 (ys.getD k 0)) := by
  subst ho
  rw [List.append_assoc, List.getElem?_append_right (by omega), Nat.add_sub_cancel_left, List.getElem?_append_left (by rw [iv_length]; exact hk)]
  simp [iv, hk]
theorem mid_set {pre post : List Value} {ys : List Int} {k : Nat} {x : Int} (hk : k < ys.length) : (pre ++ iv ys ++ post).set (pre.length + k) (.int .i64 x) = pre ++ iv (ys.set k x) ++ post := by
  rw [List.append_assoc, List.set_append_right _ _ (by omega), Nat.add_sub_cancel_left, List.set_append_left _ _ (by rw [iv_length]; exact hk), ← List.append_assoc]
  simp [iv, List.map_set]

theorem put_cells (pre post : List Value) (xs ys : List Int) (h : ys.length = xs.length) : Go.Sort.putCells (Value.int .i64) pre.length ys.toArray (pre ++ iv xs ++ post).toArray = (pre ++ iv ys ++ post).toArray := by
  apply Array.ext_getElem?
  intro k
  simp only [Go.Sort.putCells, Array.getElem?_mapIdx, List.getElem?_toArray, List.size_toArray]
  by_cases h1 : k < pre.length
  · rw [List.append_assoc, List.append_assoc, List.getElem?_append_left h1, List.getElem?_append_left h1]
    rw [List.getElem?_eq_getElem h1, Option.map_some, if_neg (by omega)]
  · by_cases h2 : k < pre.length + ys.length
    · rw [mid_at (o := k) (k := k - pre.length) (by omega) (by omega), mid_at (o := k) (k := k - pre.length) (by omega) (by omega), Option.map_some, if_pos (by omega)]
      congr 2
      have : k - pre.length < ys.length := by omega
      simp [this]
    · have e1 : (pre ++ iv xs).length = pre.length + xs.length := by rw [List.length_append, iv_length]
      have e2 : (pre ++ iv ys).length = pre.length + ys.length := by rw [List.length_append, iv_length]
      rw [List.getElem?_append_right (by omega), List.getElem?_append_right (by omega), e1, e2, h]
      cases hp : post[k - (pre.length + xs.length)]? with
      | none => rfl
      | some v => rw [Option.map_some, if_neg (by omega)]

theorem slices_Reverse_ (b off n cap : Nat) (e : TypeId) (pre post : List Value) (xs : List Int) (hn : xs.length = n) (hn2 : n ≤ 100000000) (ho : pre.length = off) :
    Writes PP N_slices_Reverse_int_int #[.slice (some ⟨b, off, none⟩) n cap] b (ob (pre ++ iv xs ++ post) e) (ob (pre ++ iv xs.reverse ++ post) e) (.tuple #[]) := by
  subst hn ho
  intro w hw
  refine (Any.slices_Reverse_int YtmcapgjdflohfaaGreat.lays112 b pre.length cap xs w (fun j hj => ⟨?_, ?_⟩) (by omega)).mono ?_
  · have hj : j < xs.length := by simpa using hj
    rw [cell_ob hw, mid_at rfl hj]
    simp [hj]
  · exact frozen_of_row w b _ _ e hw
  · rintro x w' ⟨rfl, m, rfl⟩
    refine ⟨rfl, ?_, ⟨rfl, rfl, rfl, ?_, ?_⟩⟩
    · have := put_cells pre post xs xs.reverse (by simp)
      simp only [Go.Sort.putRow, Go.Sort.mapBlock, Go.Sort.ahead, Array.getElem?_modify, if_true, hw, Option.map_some, Go.Sort.onCells]
      rw [this]
    · simp [Go.Sort.putRow, Go.Sort.mapBlock, Go.Sort.ahead]
    · intro k hk hne
      simp only [Go.Sort.putRow, Go.Sort.mapBlock, Go.Sort.ahead, Array.getElem?_modify]
      rw [if_neg (by rintro rfl; exact hne rfl)]

theorem split3 {cells : List Value} {off n : Nat} {xs : List Value} (h : (cells.drop off).take n = xs) : cells = cells.take off ++ xs ++ cells.drop (off + n) := by
  subst h
  rw [List.append_assoc, ← List.drop_drop, List.take_append_drop, List.take_append_drop]
/-- The end: a part of a block of one's own is handed back as a slice. -/
theorem retMid {fn : Func} {c : Cx} {n : Nat} {σ : Env} {H : List Res} {K : List Fact} {s i m cap b : Nat} {e : TypeId} {pre post : List Value} {R : List Int} (hr : fn.results = #[.tmp s]) (hS : c.S = []) (hv : σ s = .slice (some ⟨b, pre.length, none⟩) m cap) (hi : H[i]? = some (.blk b (ob (pre ++ iv R ++ post) e))) (hm0 : R.length = m) (h1 : m ≤ cap) (h2 : cap ≤ maxLen) :
    ∀ w, M c H K w → Go.Proofs.YtmcapgjdflohfaaGreat.L.post c.P fn n (RS c.w0 1 (il R)) .ret σ w := fun w hm => by
  have hb := hm.blk i hi
  refine ⟨_, fun a ha => by rw [results_tmp hr, ha.val, hv], some ⟨b, pre.length, none⟩, cap, by rw [il_length, hm0], hm.below hS, ?_⟩
  rw [il_length, hm0]
  refine ⟨by rw [il_length, hm0], h1, h2, il_ok R, fun _ => ⟨b, pre.length, rfl, ?_, fun k l hl j u hu => ?_⟩⟩
  · have := hm.mine b (mem_places.2 ⟨_, List.mem_of_getElem? hi, rfl⟩)
    rw [hS] at this
    exact ⟨by simpa using this.1, this.2⟩
  · obtain ⟨x, hx, rfl⟩ : ∃ x, R[k]? = some x ∧ [Value.int .i64 x] = l := by
      rw [il, List.getElem?_map] at hl
      exact Option.map_eq_some_iff.1 hl
    have hj : j = 0 := by have := (List.getElem?_eq_some_iff.1 hu).1; simpa using this
    subst hj
    have hk : k < R.length := (List.getElem?_eq_some_iff.1 hx).1
    rw [cell_ob hb, Nat.mul_one, Nat.add_zero, mid_at rfl hk, ← hu]
    rw [List.getElem?_eq_getElem hk] at hx
    simp only [List.getElem?_cons_zero, Option.some.injEq] at hx ⊢
    simp [hk, hx]
end Go.Proofs.YtmcapgjdflohfaaGreat.L
