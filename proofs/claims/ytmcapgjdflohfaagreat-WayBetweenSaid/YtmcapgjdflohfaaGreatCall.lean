/- How a call begins and how it ends, in the logic of Core. Nothing here speaks of the program. -/
import Derived.Test.YtmcapgjdflohfaaGreatMem
set_option linter.all false
namespace Go.Proofs.YtmcapgjdflohfaaGreat.L
open Go Go.RowKit

def post (P : Program) (fn : Func) (n : Nat) (R : Ending → World → Prop) : Exit → Env → World → Prop
  | .normal, σ, w | .ret, σ, w => ∃ v, (∀ a, Rep n a σ → (results fn a.tmps).run P w = .ok v w) ∧ R (.returned v) w
  | .panic ch, _, w => R (.panicked ch) w
  | .outgrown, _, w => R .outgrown w
  | _, _, _ => False

theorem enter {P : Program} {f : FuncId} {fn : Func} {code : Code} {n : Nat} {args : Array Value} {w : World} {D : Nat → Prop} {S : List Nat} {H : List Res} {K : List Fact} {R : Ending → World → Prop}
    (hf : P.funcs[f]? = some fn) (hb : fn.body = some code) (hn : fn.ntmps = n) (ha : Nat.ble args.size n = true) (hM : M ⟨P, w, D, S⟩ H K w)
    (h : Tr ⟨P, w, D, S⟩ n code (post P fn n R) (start args) H K) : Calls P f args w R := by
  refine calls_of_wp hf hb ?_
  rw [hn]
  refine Code.wp_mono ?_ (h w hM _ (rep_start args n (Nat.le_of_ble_eq_true ha)))
  rintro e a w' ⟨σ, hr, hq⟩
  cases e with
  | normal => obtain ⟨v, h1, h2⟩ := hq; exact ⟨hr.defers, v, h1 a hr, h2⟩
  | ret => obtain ⟨v, h1, h2⟩ := hq; exact ⟨hr.defers, v, h1 a hr, h2⟩
  | panic ch => exact ⟨hr.defers, hq⟩
  | outgrown => exact hq
  | exit id => exact hq.elim
  | goto l => exact hq.elim

/-- A call that computes a value out of values, and makes new memory alone. -/
def Pure (P : Program) (f : FuncId) (args : Array Value) (v : Value) : Prop := ∀ w, Calls P f args w fun e w' => e = .returned v ∧ Below w.heap.size w w'

abbrev cx (P : Program) (w : World) : Cx := ⟨P, w, fun _ => False, []⟩
abbrev PR (w : World) (v : Value) : Ending → World → Prop := fun e w' => e = .returned v ∧ Below w.heap.size w w'

theorem enter0 {P : Program} {f : FuncId} {fn : Func} {code : Code} {n : Nat} {args : Array Value} {v : Value}
    (hf : P.funcs[f]? = some fn) (hb : fn.body = some code) (hn : fn.ntmps = n) (ha : Nat.ble args.size n = true)
    (h : ∀ w, Tr (cx P w) n code (post P fn n (PR w v)) (start args) [] []) : Pure P f args v :=
  fun w => enter hf hb hn ha (M.init P w _ _ [] trivial (fun _ h => h.elim) trivial) (h w)

section
variable {c : Cx} {n : Nat} {σ : Env} {H : List Res} {K : List Fact} {fn : Func} {R : Ending → World → Prop}

theorem retT {s : Nat} {v : Value} (hr : fn.results = #[.tmp s]) (hv : σ s = v) (h : ∀ w, M c H K w → R (.returned v) w) : ∀ w, M c H K w → post c.P fn n R .ret σ w :=
  fun w hm => ⟨v, fun a ha => by rw [results_tmp hr, ha.val, hv], h w hm⟩
theorem retC {s ty : Nat} {b : Nat} {e : TypeId} {l : List Value} (i : Nat) (hr : fn.results = #[.cell s ty]) (hv : σ s = .pointer (some ⟨b, 0, none⟩)) (hi : H[i]? = some (.blk b (ob l e))) (hu : isAg c.P ty l.length)
    (h : ∀ w, M c H K w → R (.returned (ag l)) w) : ∀ w, M c H K w → post c.P fn n R .ret σ w :=
  fun w hm => ⟨ag l, fun a ha => by
    obtain ⟨d, h1, h2, h3⟩ := hu
    exact results_cell_row hr a.tmps w b e l.toArray (0, 0) d (by rw [ha.val, hv]) (hm.blk i hi) h1 (by cases d <;> simp_all) (by simpa using h3), h w hm⟩
theorem ret2 {s s' : Nat} {v v' : Value} (hr : fn.results = #[.tmp s, .tmp s']) (hv : σ s = v) (hv' : σ s' = v') (h : ∀ w, M c H K w → R (.returned (.tuple #[v, v'])) w) : ∀ w, M c H K w → post c.P fn n R .ret σ w :=
  fun w hm => ⟨_, fun a ha => by rw [results_tmp2 hr, ha.val, ha.val, hv, hv'], h w hm⟩
theorem ret0 (hr : fn.results = #[]) (h : ∀ w, M c H K w → R (.returned (.tuple #[])) w) : ∀ w, M c H K w → post c.P fn n R .normal σ w :=
  fun w hm => ⟨_, fun _ _ => results_none hr _ _ _, h w hm⟩

/-- The end of a call that computes. -/
theorem pr {v : Value} (hS : c.S = [] := by rfl) : ∀ w', M c H K w' → PR c.w0 v (.returned v) w' := fun _ hm => ⟨rfl, hm.below hS⟩
theorem pr' {v v' : Value} (h : v' = v) (hS : c.S = [] := by rfl) : ∀ w', M c H K w' → PR c.w0 v (.returned v') w' := fun _ hm => ⟨by rw [h], hm.below hS⟩
end
end Go.Proofs.YtmcapgjdflohfaaGreat.L
