/- Rules for single operations, in the logic of Core. Nothing here speaks of the program. -/
import Derived.Test.YtmcapgjdflohfaaGreatCore
import Derived.Laws.Slices
import Derived.Laws.Tables
import Derived.Laws.CopyRow
import Derived.Laws.StructEq
import Derived.Laws.MakeOwn
import Derived.Laws.OwnMore
import Derived.Laws.BytesArg
import Derived.Laws.NewBlocks
set_option linter.all false
namespace Go.Proofs.YtmcapgjdflohfaaGreat.L
open Go Go.RowKit

section
variable {c : Cx} {n : Nat} {Q : Exit → Env → World → Prop} {σ : Env} {H : List Res} {K : List Fact}
variable {d : Option Tmp} {t : TypeId} {p : String} {af : Array Edge} {g : Option (Nat × Bool)}

theorem mv {x : Operand} {v : Value} (h : ev σ x = v) : Det c σ H K ⟨d, .move x, t, p, af, g⟩ v := fun w _ => by subst h; rfl
theorem asg {x : Operand} {v : Value} (h : ev σ x = v) : Det c σ H K ⟨d, .assign x, t, p, af, g⟩ v := fun w _ => by subst h; rfl

/-! ### Whole numbers -/
theorem run_eqGuard_int (P : Program) (w : World) (op : BinOp) (t : TypeId) (x y : Operand) (k k' : IntKind) (a b : Int) : (eqGuard op t x y (.int k a) (.int k' b)).run P w = .ok () w := by
  unfold eqGuard
  split <;> rfl

theorem bin_int {op : BinOp} {tx ty : TypeId} {x y : Operand} {k : IntKind} {a b : Int} {v : Value} (hx : ev σ x = .int k a) (hy : ev σ y = .int k b)
    (h : ∀ w, (binOp op tx (.int k a) (.int k b)).run c.P w = .ok v w) : Det c σ H K ⟨d, .binOp op tx x y ty, t, p, af, g⟩ v := by
  intro w _
  simp only [execOp, hx, hy, Sem.run_bind, run_eqGuard_int, Result.andThen_ok, h w]
  rfl

theorem add {tx ty : TypeId} {x y : Operand} {k : IntKind} {a b : Int} (hx : ev σ x = .int k a) (hy : ev σ y = .int k b) : Det c σ H K ⟨d, .binOp .add tx x y ty, t, p, af, g⟩ (.int k (k.wrap (a + b))) :=
  bin_int hx hy fun w => by simp [binOp, Op.intArith]
theorem sub {tx ty : TypeId} {x y : Operand} {k : IntKind} {a b : Int} (hx : ev σ x = .int k a) (hy : ev σ y = .int k b) : Det c σ H K ⟨d, .binOp .sub tx x y ty, t, p, af, g⟩ (.int k (k.wrap (a - b))) :=
  bin_int hx hy fun w => by simp [binOp, Op.intArith]
theorem mul {tx ty : TypeId} {x y : Operand} {k : IntKind} {a b : Int} (hx : ev σ x = .int k a) (hy : ev σ y = .int k b) : Det c σ H K ⟨d, .binOp .mul tx x y ty, t, p, af, g⟩ (.int k (k.wrap (a * b))) :=
  bin_int hx hy fun w => by simp [binOp, Op.intArith]

theorem i64_in {x : Int} (h0 : -9223372036854775808 ≤ x) (h1 : x ≤ 9223372036854775807) : IntKind.i64.wrap x = x := by
  simp only [IntKind.wrap, IntKind.bits, IntKind.signed]
  simp
  omega
theorem addI {tx ty : TypeId} {x y : Operand} {a b : Int} (hx : ev σ x = .int .i64 a) (hy : ev σ y = .int .i64 b) (h0 : -9223372036854775808 ≤ a + b) (h1 : a + b ≤ 9223372036854775807) :
    Det c σ H K ⟨d, .binOp .add tx x y ty, t, p, af, g⟩ (.int .i64 (a + b)) := by have := add (c := c) (H := H) (K := K) (d := d) (t := t) (p := p) (af := af) (g := g) (tx := tx) (ty := ty) hx hy; rwa [i64_in h0 h1] at this
theorem subI {tx ty : TypeId} {x y : Operand} {a b : Int} (hx : ev σ x = .int .i64 a) (hy : ev σ y = .int .i64 b) (h0 : -9223372036854775808 ≤ a - b) (h1 : a - b ≤ 9223372036854775807) :
    Det c σ H K ⟨d, .binOp .sub tx x y ty, t, p, af, g⟩ (.int .i64 (a - b)) := by have := sub (c := c) (H := H) (K := K) (d := d) (t := t) (p := p) (af := af) (g := g) (tx := tx) (ty := ty) hx hy; rwa [i64_in h0 h1] at this
theorem mulI {tx ty : TypeId} {x y : Operand} {a b : Int} (hx : ev σ x = .int .i64 a) (hy : ev σ y = .int .i64 b) (h0 : -9223372036854775808 ≤ a * b) (h1 : a * b ≤ 9223372036854775807) :
    Det c σ H K ⟨d, .binOp .mul tx x y ty, t, p, af, g⟩ (.int .i64 (a * b)) := by have := mul (c := c) (H := H) (K := K) (d := d) (t := t) (p := p) (af := af) (g := g) (tx := tx) (ty := ty) hx hy; rwa [i64_in h0 h1] at this

theorem quo {tx ty : TypeId} {x y : Operand} {k : IntKind} {a b : Int} (hx : ev σ x = .int k a) (hy : ev σ y = .int k b) (hb : b ≠ 0) : Det c σ H K ⟨d, .binOp .quo tx x y ty, t, p, af, g⟩ (.int k (k.wrap (a.tdiv b))) :=
  bin_int hx hy fun w => by simp [binOp, Op.intDiv, hb]
theorem rem {tx ty : TypeId} {x y : Operand} {k : IntKind} {a b : Int} (hx : ev σ x = .int k a) (hy : ev σ y = .int k b) (hb : b ≠ 0) : Det c σ H K ⟨d, .binOp .rem tx x y ty, t, p, af, g⟩ (.int k (a.tmod b)) :=
  bin_int hx hy fun w => by simp [binOp, Op.intDiv, hb]

/-- The bit operations, as numbers. -/
def band (k : IntKind) (a b : Int) : Int := k.wrap (BitVec.ofInt k.bits a &&& BitVec.ofInt k.bits b).toNat
def bor (k : IntKind) (a b : Int) : Int := k.wrap (BitVec.ofInt k.bits a ||| BitVec.ofInt k.bits b).toNat
def bxor (k : IntKind) (a b : Int) : Int := k.wrap (BitVec.ofInt k.bits a ^^^ BitVec.ofInt k.bits b).toNat
def bshl (k : IntKind) (a : Int) (s : Nat) : Int := k.wrap (a * 2 ^ (min s k.bits))
def bshr (k : IntKind) (a : Int) (s : Nat) : Int := a.fdiv (2 ^ (min s k.bits))
def bnot (k : IntKind) (a : Int) : Int := bxor k (if k.signed then -1 else k.max) a
theorem and {tx ty : TypeId} {x y : Operand} {k : IntKind} {a b : Int} (hx : ev σ x = .int k a) (hy : ev σ y = .int k b) : Det c σ H K ⟨d, .binOp .and tx x y ty, t, p, af, g⟩ (.int k (band k a b)) :=
  bin_int hx hy fun w => by simp [binOp, Op.intBits, band]
theorem or {tx ty : TypeId} {x y : Operand} {k : IntKind} {a b : Int} (hx : ev σ x = .int k a) (hy : ev σ y = .int k b) : Det c σ H K ⟨d, .binOp .or tx x y ty, t, p, af, g⟩ (.int k (bor k a b)) :=
  bin_int hx hy fun w => by simp [binOp, Op.intBits, bor]
theorem xor {tx ty : TypeId} {x y : Operand} {k : IntKind} {a b : Int} (hx : ev σ x = .int k a) (hy : ev σ y = .int k b) : Det c σ H K ⟨d, .binOp .xor tx x y ty, t, p, af, g⟩ (.int k (bxor k a b)) :=
  bin_int hx hy fun w => by simp [binOp, Op.intBits, bxor]
theorem shl {tx ty : TypeId} {x y : Operand} {k k' : IntKind} {a b : Int} (hx : ev σ x = .int k a) (hy : ev σ y = .int k' b) (hb : 0 ≤ b) : Det c σ H K ⟨d, .binOp .shl tx x y ty, t, p, af, g⟩ (.int k (bshl k a b.toNat)) := by
  intro w _
  have : ¬ b < 0 := by omega
  simp only [execOp, hx, hy, Sem.run_bind, run_eqGuard_int, Result.andThen_ok]
  simp [binOp, Op.shift, this, bshl]
theorem shr {tx ty : TypeId} {x y : Operand} {k k' : IntKind} {a b : Int} (hx : ev σ x = .int k a) (hy : ev σ y = .int k' b) (hb : 0 ≤ b) : Det c σ H K ⟨d, .binOp .shr tx x y ty, t, p, af, g⟩ (.int k (bshr k a b.toNat)) := by
  intro w _
  have : ¬ b < 0 := by omega
  simp only [execOp, hx, hy, Sem.run_bind, run_eqGuard_int, Result.andThen_ok]
  simp [binOp, Op.shift, this, bshr]
theorem lss {tx ty : TypeId} {x y : Operand} {k : IntKind} {a b : Int} (hx : ev σ x = .int k a) (hy : ev σ y = .int k b) : Det c σ H K ⟨d, .binOp .lss tx x y ty, t, p, af, g⟩ (.bool (decide (a < b))) :=
  bin_int hx hy fun w => by simp [binOp, Op.intCmp]
theorem leq {tx ty : TypeId} {x y : Operand} {k : IntKind} {a b : Int} (hx : ev σ x = .int k a) (hy : ev σ y = .int k b) : Det c σ H K ⟨d, .binOp .leq tx x y ty, t, p, af, g⟩ (.bool (decide (a ≤ b))) :=
  bin_int hx hy fun w => by simp [binOp, Op.intCmp]
theorem gtr {tx ty : TypeId} {x y : Operand} {k : IntKind} {a b : Int} (hx : ev σ x = .int k a) (hy : ev σ y = .int k b) : Det c σ H K ⟨d, .binOp .gtr tx x y ty, t, p, af, g⟩ (.bool (decide (b < a))) :=
  bin_int hx hy fun w => by simp [binOp, Op.intCmp]
theorem geq {tx ty : TypeId} {x y : Operand} {k : IntKind} {a b : Int} (hx : ev σ x = .int k a) (hy : ev σ y = .int k b) : Det c σ H K ⟨d, .binOp .geq tx x y ty, t, p, af, g⟩ (.bool (decide (b ≤ a))) :=
  bin_int hx hy fun w => by simp [binOp, Op.intCmp]
theorem eql {tx ty : TypeId} {x y : Operand} {k : IntKind} {a b : Int} (hx : ev σ x = .int k a) (hy : ev σ y = .int k b) : Det c σ H K ⟨d, .binOp .eql tx x y ty, t, p, af, g⟩ (.bool (decide (a = b))) :=
  bin_int hx hy fun w => by simp [binOp, Op.intCmp]; exact (Bool.beq_eq_decide_eq a b)
theorem neq {tx ty : TypeId} {x y : Operand} {k : IntKind} {a b : Int} (hx : ev σ x = .int k a) (hy : ev σ y = .int k b) : Det c σ H K ⟨d, .binOp .neq tx x y ty, t, p, af, g⟩ (.bool (!decide (a = b))) :=
  bin_int hx hy fun w => by simp only [binOp, Op.intCmp]; simp [bne]; exact (Bool.beq_eq_decide_eq a b)
theorem notB {tx : TypeId} {x : Operand} {b : Bool} (hx : ev σ x = .bool b) : Det c σ H K ⟨d, .unOp .not tx x, t, p, af, g⟩ (.bool (!b)) := fun w _ => by simp [execOp, hx, Op.unary]
theorem xorU {tx : TypeId} {x : Operand} {k : IntKind} {a : Int} (hx : ev σ x = .int k a) : Det c σ H K ⟨d, .unOp .xor tx x, t, p, af, g⟩ (.int k (bnot k a)) := fun w _ => by simp [execOp, hx, Op.unary, Op.intBits, bnot, bxor]
theorem negU {tx : TypeId} {x : Operand} {k : IntKind} {a : Int} (hx : ev σ x = .int k a) : Det c σ H K ⟨d, .unOp .neg tx x, t, p, af, g⟩ (.int k (k.wrap (0 - a))) := fun w _ => by simp [execOp, hx, Op.unary, Op.intArith]

theorem run_und {P : Program} {t : TypeId} {e : TypeDesc} (h : P.underlying t = some e) (w : World) : (underlying t).run P w = .ok e w := run_underlying h w

/-- A whole number to another kind. -/
theorem conv {s e : TypeId} {x : Operand} {k k' : IntKind} {a : Int} {ds : TypeDesc} (hs : c.P.underlying s = some ds) (he : c.P.underlying e = some (.int k')) (hx : ev σ x = .int k a) :
    Det c σ H K ⟨d, .convert s e x, t, p, af, g⟩ (.int k' (k'.wrap a)) := fun w _ => by
  simp [execOp, hx, convert, run_und hs, run_und he, Conv.intToInt]

/-! ### len, max, min -/
theorem lenS {x : Operand} {tx e : TypeId} {A : Option Addr} {m cap : Nat} (hu : c.P.underlying tx = some (.slice e)) (hx : ev σ x = .slice A m cap) :
    Det c σ H K ⟨d, .call { callee := .builtin .len, args := #[x], argTypes := #[tx] }, t, p, af, g⟩ (.int .i64 m) := fun w _ => by
  simp [execOp, resolve, invoke, builtin, hx, Builtin.len_, goInt, run_und hu]
theorem lenB {x : Operand} {tx : TypeId} {s : ByteArray} (hu : c.P.underlying tx = some .string) (hx : ev σ x = .string s) :
    Det c σ H K ⟨d, .call { callee := .builtin .len, args := #[x], argTypes := #[tx] }, t, p, af, g⟩ (.int .i64 s.size) := fun w _ => by
  simp [execOp, resolve, invoke, builtin, hx, Builtin.len_, goInt, run_und hu]
theorem maxI {x y : Operand} {tx ty : TypeId} {k : IntKind} {a b : Int} (hx : ev σ x = .int k a) (hy : ev σ y = .int k b) :
    Det c σ H K ⟨d, .call { callee := .builtin .max, args := #[x, y], argTypes := #[tx, ty] }, t, p, af, g⟩ (.int k (max a b)) := fun w _ => by
  simp [execOp, resolve, invoke, builtin, hx, hy, Builtin.max_, Builtin.max2]
  omega
theorem minI {x y : Operand} {tx ty : TypeId} {k : IntKind} {a b : Int} (hx : ev σ x = .int k a) (hy : ev σ y = .int k b) :
    Det c σ H K ⟨d, .call { callee := .builtin .min, args := #[x, y], argTypes := #[tx, ty] }, t, p, af, g⟩ (.int k (min a b)) := fun w _ => by
  simp [execOp, resolve, invoke, builtin, hx, hy, Builtin.min_, Builtin.min2]
  omega
end
end Go.Proofs.YtmcapgjdflohfaaGreat.L
