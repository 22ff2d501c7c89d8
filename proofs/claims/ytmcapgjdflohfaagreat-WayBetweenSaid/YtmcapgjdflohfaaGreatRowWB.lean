/- The statement WayBetweenSaid: of each input the given function returns true, and the arguments read as before. Conditions: none. The walk is in LWB, the arguments are opened in Open; the row's steps are the guide's template for a law. -/
import Derived.Test.YtmcapgjdflohfaaGreatRows
import Derived.Test.YtmcapgjdflohfaaGreatLWB
import Derived.Test.YtmcapgjdflohfaaGreatOpen
import Derived.WalkKit
import Derived.ProofKit
import Derived.OpenShut
import Derived.ShutString
import Derived.ChangeOld
import Derived.Below
import Derived.SizedLaws
set_option linter.all false
namespace Go.Proofs.YtmcapgjdflohfaaGreat.L
open Go Go.RowKit
section
variable {H : Type} {enc : TypeId × Value → H} {W : World} {base : Nat} {spare : Nat → Bool} {held : Bool}
theorem dec_ints {fuel : Nat} {cs : List Value} {x : DataW H × List MemPlace} (h : DataW.trod enc PP W base spare held fuel T_sl_int cs = some x) (hw : Wt T_sl_int x.1) :
    ∃ A cap, ∃ l : List Int, cs = [.slice A l.length cap] ∧ (∀ s ∈ l, I64 s) ∧ Sl 1 A l.length cap (il l) (fun k => k < W.heap.size) W :=
  dec_slice (fun n : Int => [.int .i64 n]) I64 u_sl_int (by kernel_rfl) (by decide) h hw (fun f cs y hy _ => dec_int hy) (fun _ _ => ⟨rfl, rfl⟩)
theorem dec_a3 {fuel : Nat} {cs : List Value} {x : DataW H × List MemPlace} (h : DataW.trod enc PP W base spare held fuel T_a3_int cs = some x) : ∃ a b c : Int, cs = iv [a, b, c] := by
  obtain ⟨xs, m, _, _, hlen, hxl, hi⟩ := DataW.trod_array u_a3_int h
  have h3 : PP.cellsOf T_a3_int = 3 := by kernel_rfl
  have h1 : PP.cellsOf 3 = 1 := by kernel_rfl
  rw [h3] at hlen
  obtain ⟨u, v, z, rfl⟩ : ∃ u v z, cs = [u, v, z] := by
    clear hi h h1 h3
    rcases cs with _ | ⟨u, _ | ⟨v, _ | ⟨z, _ | ⟨y, r⟩⟩⟩⟩
    · cases hlen
    · cases hlen
    · cases hlen
    · exact ⟨u, v, z, rfl⟩
    · simp only [List.length_cons] at hlen; omega
  have k0 := hi 0 (by decide)
  have k1 := hi 1 (by decide)
  have k2 := hi 2 (by decide)
  rw [h1] at k0 k1 k2
  rw [List.getElem?_eq_getElem (by omega)] at k0 k1 k2
  obtain ⟨a, ha, _⟩ := dec_int k0
  obtain ⟨b, hb, _⟩ := dec_int k1
  obtain ⟨c, hc, _⟩ := dec_int k2
  refine ⟨a, b, c, ?_⟩
  simp at ha hb hc
  subst ha; subst hb; subst hc
  rfl
end
theorem okAggA {W : World} {r : Reach} {base : Nat} {t : TypeId} {v : Value} {n : Nat} {e : TypeId} (ht : PP.underlying t = some (.array n e)) (h : Value.okWide PP W r base t v) : ∃ cs : Array Value, v = .agg cs := by
  unfold Value.okWide at h
  rw [ht] at h
  obtain ⟨cs, rfl, _⟩ := h
  exact ⟨cs, rfl⟩
end Go.Proofs.YtmcapgjdflohfaaGreat.L
namespace Go.Proofs.YtmcapgjdflohfaaGreat.wayBetween
open Go.ChangeShapes Go.WideShapes Go.ChangeAt Go.RowKit
open Go.ChangeMaps (open_string shut_string)
open Go.Proofs.YtmcapgjdflohfaaGreat.L
set_option linter.unusedVariables false
theorem own : ownKnob Tryz.prog.godebug = none := by kernel_rfl
theorem laidOut : laidOutB Tryz.prog = true := by kernel_rfl
set_option maxRecDepth 100000 in
theorem lifted (os : Os) (started : os.Started) (H : Type) (enc : TypeId × Value → H) :
    ReturnsInHanded {} Tryz.checked os 6 .any (Rows.wayBetweenSpec.pre6 enc Tryz.prog Tryz.f6 Rows.wayBetweenRow.domain false) (Rows.wayBetweenSpec.post enc Tryz.prog Tryz.f6 false true false false) := by
  refine returnsInHanded_of_change_sized (C := Tryz.checked) own started (by kernel_rfl) Tryz.func6
    (ChangeSpec.witness6 (enc := enc) (C := Tryz.checked) false ⟨#[], #[.slice none 0 0, .agg #[.int .i64 0, .int .i64 0, .int .i64 0]], []⟩ 8 (by kernel_rfl) (by kernel_rfl) (by kernel_rfl) (by kernel_rfl)) ?_
  intro W base args ds gs before hval0 hW hcnd hsz0 _
  have hsz : (DataW.weightsEach Tryz.prog (Tryz.f6.params.toList ++ Rows.wayBetweenSpec.plain.varTypes Tryz.prog) (ds ++ gs)).all (· ≤ reachBytes) = true := hsz0
  have hval : ∀ (j : Nat) t v, Tryz.f6.params[j]? = some t → args[j]? = some v → Value.okWide Tryz.prog W .any base t v := hval0
  have hW' := hW
  obtain ⟨p, q, hA0, hV, rfl, hfz, hnd⟩ := hW
  have hA : DataW.TrodAll enc Tryz.prog W 0 (fun _ => true) true Tryz.f6.params.toList args.toList ds p := hA0
  rw [Tryz.params6] at hA hval hsz
  obtain ⟨v0, vs0, d0, ds0, p0, q0, hargs, rfl, rfl, h0, r0⟩ := trodAll_cons hA
  obtain ⟨v1, vs1, d1, ds1, p1, q1, rfl, rfl, rfl, h1, r1⟩ := trodAll_cons r0
  obtain ⟨rfl, rfl, rfl⟩ := trodAll_nil r1
  obtain rfl : args = #[v0, v1] := by cases args; simp_all
  obtain ⟨rfl, rfl⟩ := trodVars_none hV
  obtain ⟨a1, len1, cap1, rfl⟩ := okWide_slice u_sl_int (hval 0 _ v0 rfl rfl)
  obtain ⟨cs0, rfl⟩ := okAggA u_a3_int (hval 1 _ v1 rfl rfl)
  have k0 := h0
  have k1 := h1
  have lt0 : ∀ x ∈ p0, x.block < W.heap.size := by obtain ⟨m, hm⟩ := k0; exact DataW.trod_lt m _ _ _ hm
  have lt1 : ∀ x ∈ p1, x.block < W.heap.size := by obtain ⟨m, hm⟩ := k1; exact DataW.trod_lt m _ _ _ hm
  obtain ⟨x, y, z, hc0⟩ : ∃ x y z : Int, cs0.toList = iv [x, y, z] := by obtain ⟨m, hm⟩ := h1; exact dec_a3 hm
  obtain ⟨A, cap, l, e1, hb, hs⟩ : ∃ A cap, ∃ l : List Int, [Value.slice a1 len1 cap1] = [.slice A l.length cap] ∧ (∀ s ∈ l, I64 s) ∧ Sl 1 A l.length cap (il l) (fun k => k < W.heap.size) W := by
    obtain ⟨m, hm⟩ := h0
    exact dec_ints hm (wt_of hsz (j := 0) rfl rfl)
  have e0 : cs0 = (iv [x, y, z]).toArray := by rw [← hc0]
  subst e0
  simp only [List.cons.injEq, Value.slice.injEq, and_true] at e1
  obtain ⟨rfl, rfl, rfl⟩ := e1
  clear hA0 hval0 hsz0 hsz
  refine (wayBetween_ l x y z a1 cap1 (fun k => k < W.heap.size) W (fun _ h => h) hs).mono fun e W' ⟨he, bel⟩ => ?_
  subst he
  exact ⟨_, rfl, _, _, _, [], _, [], hW', trodAll_mk1 (shut_bool u_bool _), (trodAll_cons_mk (Below.trod laidOut (by kernel_rfl) (of_decide_eq_true (by kernel_rfl)) k0 bel lt0) (trodAll_cons_mk (Below.trod laidOut (by kernel_rfl) (of_decide_eq_true (by kernel_rfl)) k1 bel lt1) trodAll_mk0)), rfl, bel.frame _, fun h => by cases h⟩
theorem over : Rows.wayBetweenRow.holds Tryz.pinned (OpenSpec.ofChange Rows.wayBetweenSpec) :=
  OpenClaim.holds_of_wide 6 Tryz.f6 rfl rfl rfl rfl rfl rfl rfl ⟨rfl, rfl, rfl, rfl, rfl⟩ rfl rfl rfl rfl rfl (by kernel_rfl) Tryz.func6 (by kernel_rfl)
    (of_decide_eq_true (by kernel_rfl)) (by unfold Func.isWrapper; first | (rw [if_pos (by decide +kernel)]; kernel_rfl) | (rw [if_neg (by decide +kernel)]; exact ⟨rfl, rfl⟩))
    (fun os started H enc _ => lifted os started H enc)
theorem proved : Rows.WayBetweenSaid := over
#print axioms proved
end Go.Proofs.YtmcapgjdflohfaaGreat.wayBetween
namespace Go.Proofs.YtmcapgjdflohfaaGreat
/-- The row, under a short name, for the claim. -/
theorem wayBetween_holds : Rows.WayBetweenSaid := wayBetween.proved
end Go.Proofs.YtmcapgjdflohfaaGreat
