/- Equality of arrays of bytes, and of structs of them; in the logic of Core. Nothing here speaks of the program. -/
import Derived.Test.YtmcapgjdflohfaaGreatSlice
import Derived.ChangeKeysEq
set_option linter.all false
namespace Go.Proofs.YtmcapgjdflohfaaGreat.L
open Go Go.RowKit

theorem run_part1 {P : Program} {e : TypeId} (he : isOne P e) {l : List Value} {o : Nat} {v : Value} (hv : l[o]? = some v) (w : World) : (part e l.toArray o).run P w = .ok v w := by
  simp [part, Sem.run_bind, he.run, hv]
theorem run_partA {P : Program} {e : TypeId} {m : Nat} (he : isAg P e m) (l : List Value) (o : Nat) (w : World) : (part e l.toArray o).run P w = .ok (ag ((l.drop o).take m)) w := by
  obtain ⟨d, _, _, h3⟩ := id he
  simp [part, Sem.run_bind, he.run, run_size h3]

theorem eqItems8 {P : Program} {e : TypeId} (hu : P.underlying e = some (.int .u8)) (d : Nat) (a b : List UInt8) (w : World) (hl : a.length = b.length) : ∀ (r j : Nat), j + r = a.length →
    (Op.eqItems (d + 1) e 1 (b8 a).toArray (b8 b).toArray (List.range' j r)).run P w = .ok (decide (a.drop j = b.drop j)) w := by
  have he : isOne P e := ⟨_, hu, rfl⟩
  intro r
  induction r with
  | zero =>
    intro j hj
    rw [List.drop_of_length_le (by omega), List.drop_of_length_le (by omega)]
    simp [Op.eqItems]
  | succ r ih =>
    intro j hj
    have ha : j < a.length := by omega
    have hb : j < b.length := by omega
    rw [List.range'_succ]
    simp only [Op.eqItems, Sem.run_bind, Nat.mul_one]
    rw [run_part1 he (v := .int .u8 (a[j]).toNat) (by simp [b8, ha]) w]
    simp only [Result.andThen_ok]
    rw [run_part1 he (v := .int .u8 (b[j]).toNat) (by simp [b8, hb]) w]
    simp only [Result.andThen_ok]
    rw [run_equalIn_int w d e .u8 .u8 _ _ hu]
    simp only [Result.andThen_ok]
    have e1 : (a.drop j = b.drop j) ↔ (a[j] = b[j] ∧ a.drop (j + 1) = b.drop (j + 1)) := by
      rw [List.drop_eq_getElem_cons ha, List.drop_eq_getElem_cons hb, List.cons.injEq]
    rw [show decide (a.drop j = b.drop j) = decide (a[j] = b[j] ∧ a.drop (j + 1) = b.drop (j + 1)) from decide_eq_decide.2 e1]
    by_cases hc : a[j] = b[j]
    · rw [hc]
      simp only [beq_self_eq_true, Bool.not_true, Bool.false_eq_true, if_false, ih (j + 1) (by omega), true_and]
    · have hne : (((a[j]).toNat : Int) == ((b[j]).toNat : Int)) = false := by
        rw [beq_eq_false_iff_ne]
        intro h
        apply hc
        apply UInt8.toNat_inj.1
        omega
      rw [hne]
      simp only [hc, false_and, decide_false, Bool.not_false, if_true, Sem.run_pure]
/-- Arrays of bytes. -/
theorem eqHash {P : Program} {t e : TypeId} {n : Nat} (hu : P.underlying t = some (.array n e)) (he : P.underlying e = some (.int .u8)) (hs : (P.info? e).map (·.size) = some 1) (d : Nat) (a b : List UInt8) (ha : a.length = n) (hb : b.length = n) (w : World) :
    (Op.equalIn (d + 2) t (ag (b8 a)) (ag (b8 b))).run P w = .ok (decide (a = b)) w := by
  obtain ⟨i, hi, hi1⟩ := Option.map_eq_some_iff.1 hs
  have hc : P.cellsOf e = 1 := by simp [Program.cellsOf, hi, hi1]
  rw [run_equalIn_array w (d + 1) _ _ hu hi, hc, List.range_eq_range']
  have := eqItems8 he d a b w (by omega) n 0 (by omega)
  simpa using this

theorem eqF {P : Program} {d : Nat} {xs ys : Array Value} {f : Field} {fs : List Field} {a b : Value} {r s : Bool} {w : World} (hn : (f.name == "_") = false) (ha : (part f.type xs f.offset).run P w = .ok a w) (hb : (part f.type ys f.offset).run P w = .ok b w)
    (he : (Op.equalIn d f.type a b).run P w = .ok r w) (hr : (Op.eqFields d xs ys fs).run P w = .ok s w) : (Op.eqFields d xs ys (f :: fs)).run P w = .ok (r && s) w := by
  have hn' : f.name ≠ "_" := by simpa using hn
  rw [Op.eqFields]
  simp only [if_pos hn', Sem.run_bind, ha, hb, he, Result.andThen_ok]
  cases r
  · simp
  · simpa using hr
theorem eqF0 {P : Program} {d : Nat} {xs ys : Array Value} {w : World} : (Op.eqFields d xs ys []).run P w = .ok true w := by simp [Op.eqFields]
theorem eqStruct {P : Program} {d : Nat} {xs ys : Array Value} {r : Bool} {w : World} {t : TypeId} {fs : Array Field} (hu : P.underlying t = some (.struct fs)) (hp : P.stoodInHeld t = false) (h : (Op.eqFields d xs ys fs.toList).run P w = .ok r w) : (Op.equalIn (d + 1) t (.agg xs) (.agg ys)).run P w = .ok r w := by
  have hf : P.fieldsOf t = fs := by simp [Program.fieldsOf, hu]
  rw [run_equalIn_struct (P := P) w d t xs ys (by rw [hf]; exact hu) hp, hf]
  exact h
theorem eqInt {P : Program} {d : Nat} {t : TypeId} {k : IntKind} {a b : Int} {w : World} (h : P.underlying t = some (.int k)) : (Op.equalIn (d + 1) t (.int k a) (.int k b)).run P w = .ok (decide (a = b)) w := by
  rw [run_equalIn_int w d t k k a b h]
  rfl

section
variable {c : Cx} {σ : Env} {H : List Res} {K : List Fact} {d : Option Tmp} {t : TypeId} {p : String} {af : Array Edge} {g : Option (Nat × Bool)}
theorem eqlA {x y : Operand} {tx ty : TypeId} {xs ys : List Value} {r : Bool} (hx : ev σ x = ag xs) (hy : ev σ y = ag ys) (hg : c.P.eqGuardType c.P.depth tx = false) (h : ∀ w, (Op.equalIn 10000 tx (ag xs) (ag ys)).run c.P w = .ok r w) :
    Det c σ H K ⟨d, .binOp .eql tx x y ty, t, p, af, g⟩ (.bool r) := fun w _ => by
  simp only [execOp, hx, hy, Sem.run_bind, run_eqGuard_agg w .eql tx x y _ _ hg, Result.andThen_ok, run_eql_struct, h w, Sem.run_pure]
theorem neqA {x y : Operand} {tx ty : TypeId} {xs ys : List Value} {r : Bool} (hx : ev σ x = ag xs) (hy : ev σ y = ag ys) (hg : c.P.eqGuardType c.P.depth tx = false) (h : ∀ w, (Op.equalIn 10000 tx (ag xs) (ag ys)).run c.P w = .ok r w) :
    Det c σ H K ⟨d, .binOp .neq tx x y ty, t, p, af, g⟩ (.bool (!r)) := fun w _ => by
  simp only [execOp, hx, hy, Sem.run_bind, run_eqGuard_agg w .neq tx x y _ _ hg, Result.andThen_ok, run_neq_struct, h w, Sem.run_pure]
end
end Go.Proofs.YtmcapgjdflohfaaGreat.L
