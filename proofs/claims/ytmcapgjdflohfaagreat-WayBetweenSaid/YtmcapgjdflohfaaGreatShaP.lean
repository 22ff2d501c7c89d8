/- SHA-256 as numbers and lists, in the words of this walk; no program in sight. -/
import Derived.Test.YtmcapgjdflohfaaGreatWord
set_option linter.all false
namespace Go.Proofs.YtmcapgjdflohfaaGreat.L
open Go Go.RowKit

/-- The lowest five bits. -/
theorem band31 (a : Int) : 0 ≤ band .u64 a 31 ∧ band .u64 a 31 ≤ 31 := by
  have h : (BitVec.ofInt 64 a &&& BitVec.ofInt 64 31).toNat ≤ 31 := by
    rw [BitVec.toNat_and]
    exact Nat.le_trans Nat.and_le_right (by decide)
  have e : band .u64 a 31 = IntKind.u64.wrap (BitVec.ofInt 64 a &&& BitVec.ofInt 64 31).toNat := rfl
  rw [e]
  generalize (BitVec.ofInt 64 a &&& BitVec.ofInt 64 31).toNat = q at h ⊢
  simp [IntKind.wrap, IntKind.signed, IntKind.bits]
  omega
theorem u64_nn (x : Int) : 0 ≤ IntKind.u64.wrap x := by
  simp only [IntKind.wrap, IntKind.bits, IntKind.signed]; simp; omega
def rotI (x n : Int) : Int := bor .u32 (bshr .u32 x (band .u64 (IntKind.u64.wrap n) 31).toNat) (bshl .u32 x (IntKind.u64.wrap (32 - band .u64 (IntKind.u64.wrap n) 31)).toNat)

def w32 (l : List Int) : List Value := l.map fun x => .int .u32 x
theorem w32_length (l : List Int) : (w32 l).length = l.length := by simp [w32]
theorem w32_one (l : List Int) : one (w32 l) = true := by
  rw [one, List.all_eq_true]; intro v hv
  obtain ⟨x, _, rfl⟩ := List.mem_map.1 hv; rfl
theorem w32_at {l : List Int} {o j : Nat} (ho : o = j) (h : j < l.length) : (w32 l)[o]? = some (.int .u32 (l.getD j 0)) := by
  subst ho; simp [w32, h]
theorem w32_set {l : List Int} {j : Nat} {x : Int} : (w32 l).set j (.int .u32 x) = w32 (l.set j x) := by
  simp [w32, List.map_set]
theorem w32_rep (m : Nat) (x : Int) : List.replicate m (Value.int .u32 x) = w32 (List.replicate m x) := by simp [w32]

def kRounds : List Int := [1116352408, 1899447441, 3049323471, 3921009573, 961987163, 1508970993, 2453635748, 2870763221, 3624381080, 310598401, 607225278, 1426881987, 1925078388, 2162078206, 2614888103, 3248222580, 3835390401, 4022224774, 264347078, 604807628, 770255983, 1249150122, 1555081692, 1996064986, 2554220882, 2821834349, 2952996808, 3210313671, 3336571891, 3584528711, 113926993, 338241895, 666307205, 773529912, 1294757372, 1396182291, 1695183700, 1986661051, 2177026350, 2456956037, 2730485921, 2820302411, 3259730800, 3345764771, 3516065817, 3600352804, 4094571909, 275423344, 430227734, 506948616, 659060556, 883997877, 958139571, 1322822218, 1537002063, 1747873779, 1955562222, 2024104815, 2227730452, 2361852424, 2428436474, 2756734187, 3204031479, 3329325298]
def kFirst : List Int := [1779033703, 3144134277, 1013904242, 2773480762, 1359893119, 2600822924, 528734635, 1541459225]

/-- Spread: the place `i`'s word out of those ahead. -/
def sprV (b : List UInt8) (w : List Int) (i : Nat) : Int :=
  if i < 16 then IntKind.u32.wrap (takeN b (4 * (i : Int)) 4) else
  IntKind.u32.wrap (IntKind.u32.wrap (IntKind.u32.wrap (w.getD (i - 16) 0 + bxor .u32 (bxor .u32 (rotI (w.getD (i - 15) 0) 7) (rotI (w.getD (i - 15) 0) 18)) (bshr .u32 (w.getD (i - 15) 0) 3)) + w.getD (i - 7) 0)
    + bxor .u32 (bxor .u32 (rotI (w.getD (i - 2) 0) 17) (rotI (w.getD (i - 2) 0) 19)) (bshr .u32 (w.getD (i - 2) 0) 10))
def spr (b : List UInt8) : Nat → List Int
  | 0 => List.replicate 64 0
  | i + 1 => (spr b i).set i (sprV b (spr b i) i)
theorem spr_length (b : List UInt8) (i : Nat) : (spr b i).length = 64 := by
  induction i with
  | zero => rfl
  | succ i ih => simp only [spr, List.length_set, ih]

/-- One round. -/
def mixStep (w k v : List Int) (i : Nat) : List Int :=
  let g := fun j => v.getD j 0
  let s := bxor .u32 (bxor .u32 (rotI (g 4) 6) (rotI (g 4) 11)) (rotI (g 4) 25)
  let c := bxor .u32 (band .u32 (g 4) (g 5)) (band .u32 (bnot .u32 (g 4)) (g 6))
  let t := IntKind.u32.wrap (IntKind.u32.wrap (IntKind.u32.wrap (IntKind.u32.wrap (g 7 + s) + c) + k.getD i 0) + w.getD i 0)
  let s2 := bxor .u32 (bxor .u32 (rotI (g 0) 2) (rotI (g 0) 13)) (rotI (g 0) 22)
  let m := bxor .u32 (bxor .u32 (band .u32 (g 0) (g 1)) (band .u32 (g 0) (g 2))) (band .u32 (g 1) (g 2))
  [IntKind.u32.wrap (IntKind.u32.wrap (t + s2) + m), g 0, g 1, g 2, IntKind.u32.wrap (g 3 + t), g 4, g 5, g 6]
def mixV (w k h : List Int) : Nat → List Int
  | 0 => h
  | i + 1 => mixStep w k (mixV w k h i) i
theorem mixV_length {w k h : List Int} (hh : h.length = 8) (i : Nat) : (mixV w k h i).length = 8 := by
  cases i <;> simp [mixV, mixStep, hh]
def mixH (h v : List Int) : Nat → List Int
  | 0 => h
  | i + 1 => (mixH h v i).set i (IntKind.u32.wrap ((mixH h v i).getD i 0 + v.getD i 0))
theorem mixH_length (h v : List Int) (i : Nat) : (mixH h v i).length = h.length := by
  induction i with
  | zero => rfl
  | succ i ih => simp only [mixH, List.length_set, ih]
def mixF (h : List Int) (b : List UInt8) : List Int := mixH h (mixV (spr b 64) kRounds h 64) 8
theorem mixF_length {h : List Int} (b : List UInt8) (hh : h.length = 8) : (mixF h b).length = 8 := by rw [mixF, mixH_length, hh]

/-- Whole blocks of 64 bytes, as many as there are. -/
def shaW (h : List Int) (b : List UInt8) : Nat → List Int × List UInt8
  | 0 => (h, b)
  | q + 1 => if 64 ≤ b.length then shaW (mixF h (b.take 64)) (b.drop 64) q else (h, b)
/-- The bytes that a number's padding has. -/
def padL (m : Nat) : List UInt8 := 128 :: (List.replicate ((119 - m % 64) % 64) 0 ++ putL (8 * m) 8)
/-- Sum: the bytes of the words, the highest ahead. -/
def outL (h : List Int) : List UInt8 := (h.map fun x => putL (IntKind.u64.wrap x) 4).flatten
end Go.Proofs.YtmcapgjdflohfaaGreat.L
