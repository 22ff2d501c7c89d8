/- A small logic of my own over the model: states are functions from slots to values, a symbolic heap, and stable facts on data. Nothing here speaks of the program. -/
import Derived.Tactics
import Derived.OwnWalk
import Derived.Below
import Derived.OrdersHeld
import Derived.Deep.Draws
set_option linter.all false
namespace Go.Proofs.YtmcapgjdflohfaaGreat.L
open Go Go.RowKit

/-! ### Slots -/
abbrev Env := Nat → Value
def upd (σ : Env) (d : Nat) (v : Value) : Env := fun i => bif Nat.beq i d then v else σ i

def ev (σ : Env) : Operand → Value
  | .tmp t => σ t
  | .const v => v
  | .global g => .pointer (some ⟨g, 0, none⟩)
  | .func f => .func (.func f) #[] #[]

def put (σ : Env) (d : Option Tmp) (v : Value) : Env :=
  match d with
  | some d => upd σ d v
  | none => σ

structure Rep (n : Nat) (a : Act) (σ : Env) : Prop where
  defers : a.defers = []
  size : a.tmps.size = n
  val : ∀ i, a.tmps.getD i undef = σ i

theorem Rep.eval {n : Nat} {a : Act} {σ : Env} (h : Rep n a σ) : a.eval = ev σ := by
  funext x
  cases x with
  | tmp t => exact h.val t
  | _ => rfl

theorem upd_same (σ : Env) (d : Nat) (v : Value) : upd σ d v d = v := by simp [upd]
theorem upd_ne (σ : Env) (d i : Nat) (v : Value) (h : i ≠ d) : upd σ d v i = σ i := by
  have : Nat.beq i d = false := by
    cases hb : Nat.beq i d with
    | false => rfl
    | true => exact absurd (Nat.eq_of_beq_eq_true hb) h
  simp [upd, this]

theorem Rep.put {n : Nat} {a : Act} {σ : Env} (h : Rep n a σ) (d : Nat) (v : Value) (hd : d < n) : Rep n (a.put (some d) v) (upd σ d v) := by
  refine ⟨h.defers, by simp [Act.put, h.size], fun i => ?_⟩
  by_cases e : i = d
  · subst e
    rw [upd_same]
    simp [Act.put, h.size, hd]
  · rw [upd_ne _ _ _ _ e, ← h.val i]
    simp only [Act.put, Array.getD_eq_getD_getElem?]
    rw [Array.getElem?_setIfInBounds_ne (Ne.symm e)]

theorem Rep.putNone {n : Nat} {a : Act} {σ : Env} (h : Rep n a σ) (v : Value) : Rep n (a.put none v) σ := h

/-- The slots at a call's begin. -/
def start (args : Array Value) : Env := fun i => args.getD i undef

theorem rep_start (args : Array Value) (n : Nat) (h : args.size ≤ n) :
    Rep n { tmps := args ++ Array.replicate (n - args.size) undef, defers := [] } (start args) := by
  refine ⟨rfl, by simp; omega, fun i => ?_⟩
  simp only [start, Array.getD_eq_getD_getElem?]
  by_cases hi : i < args.size
  · rw [Array.getElem?_append_left hi]
  · rw [Array.getElem?_append_right (by omega), Array.getElem?_eq_none (by omega : args.size ≤ i)]
    by_cases h2 : i - args.size < n - args.size
    · simp [h2]
    · rw [Array.getElem?_eq_none (by simp; omega)]

theorem vi {k : IntKind} {a b : Int} (h : a = b) : Value.int k a = .int k b := by rw [h]
theorem vb {a b : Bool} (h : a = b) : Value.bool a = .bool b := by rw [h]
theorem vs {a b : ByteArray} (h : a = b) : Value.string a = .string b := by rw [h]
theorem va {a b : List Value} (h : a = b) : Value.agg a.toArray = .agg b.toArray := by rw [h]

/-! ### The heap: what is held of it -/

/-- A block that is known whole; a row of the call's own. -/
inductive Res where
  | blk (b : Nat) (o : Obj)
  | row (v : Value) (e : TypeId) (sz : Nat) (n : Nat) (xs : List Value)

def Res.at : Res → Option Nat
  | .blk b _ => some b
  | .row v _ _ _ _ => v.ownBlock

def Res.holds (base : Nat) (w : World) : Res → Prop
  | .blk b o => w.heap[b]? = some o
  | .row v e sz n xs => w.ownsRow base e sz v n xs

/-- The places of a list of resources. -/
def places : List Res → List Nat
  | [] => []
  | r :: l => r.at.toList ++ places l

abbrev Fact := (Nat → Prop) → World → Prop

/-- A fact is stable: it speaks of blocks of `D` alone, and goes on to hold where `D` grows. -/
def Stable (f : Fact) : Prop := ∀ (D D' : Nat → Prop) (w w' : World), (∀ k, D k → D' k) → (∀ k, D k → k < w.heap.size → w'.heap[k]? = w.heap[k]?) → f D w → f D' w'

def KAll (K : List Fact) (D : Nat → Prop) (w : World) : Prop :=
  match K with
  | [] => True
  | f :: r => f D w ∧ KAll r D w

def KStable : List Fact → Prop
  | [] => True
  | f :: r => Stable f ∧ KStable r

theorem KAll.step {K : List Fact} (hs : KStable K) {D D' : Nat → Prop} {w w' : World} (hD : ∀ k, D k → D' k) (hw : ∀ k, D k → k < w.heap.size → w'.heap[k]? = w.heap[k]?) (h : KAll K D w) : KAll K D' w' := by
  induction K with
  | nil => trivial
  | cons f r ih => exact ⟨hs.1 D D' w w' hD hw h.1, ih hs.2 h.2⟩

/-- What a call knows at its begin: the world, the blocks of data that it may read, the old blocks that it may write. -/
structure Cx where
  P : Program
  w0 : World
  D0 : Nat → Prop
  S : List Nat

/-- The world `w`, since the call's begin: outside `S` nothing old has turned; the resources hold, each with a block of its own; the facts hold, of data apart from the resources. -/
structure M (c : Cx) (H : List Res) (K : List Fact) (w : World) : Prop where
  os : w.os = c.w0.os
  tape : w.tape = c.w0.tape
  output : w.output = c.w0.output
  size : c.w0.heap.size ≤ w.heap.size
  frame : ∀ k, k < c.w0.heap.size → k ∉ c.S → w.heap[k]? = c.w0.heap[k]?
  holds : ∀ r ∈ H, r.holds c.w0.heap.size w
  mine : ∀ b ∈ places H, (c.w0.heap.size ≤ b ∨ b ∈ c.S) ∧ b < w.heap.size
  nodup : (places H).Nodup
  stable : KStable K
  data : ∃ D : Nat → Prop, (∀ k, D k → (c.D0 k ∨ c.w0.heap.size ≤ k)) ∧ (∀ k, c.D0 k → D k) ∧ (∀ k, D k → k < w.heap.size) ∧ (∀ b ∈ places H, ¬ D b) ∧ KAll K D w

/-! ### Judgements -/
def lift (n : Nat) (Q : Exit → Env → World → Prop) (e : Exit) (a : Act) (w : World) : Prop := ∃ σ, Rep n a σ ∧ Q e σ w

def Wp (c : Cx) (n : Nat) (code : Code) (Q : Exit → Env → World → Prop) (σ : Env) (w : World) : Prop := ∀ a, Rep n a σ → code.wp c.P (lift n Q) a w

def Tr (c : Cx) (n : Nat) (code : Code) (Q : Exit → Env → World → Prop) (σ : Env) (H : List Res) (K : List Fact) : Prop := ∀ w, M c H K w → Wp c n code Q σ w

def TL (c : Cx) (n : Nat) (ops : Array Oper) (l : List Oper) (Q : Exit → Env → World → Prop) (σ : Env) (H : List Res) (K : List Fact) : Prop :=
  ∀ w, M c H K w → ∀ a, Rep n a σ → wpList c.P ops (lift n Q) l a w

def thn (next : Env → World → Prop) (Q : Exit → Env → World → Prop) : Exit → Env → World → Prop
  | .normal, σ, w => next σ w
  | e, σ, w => Q e σ w

theorem lift_thn {n : Nat} {next : Env → World → Prop} {Q : Exit → Env → World → Prop} {N : Act → World → Prop} (h : ∀ a σ w, Rep n a σ → next σ w → N a w) :
    ∀ e a w, lift n (thn next Q) e a w → Exit.then N (lift n Q) e a w := by
  rintro e a w ⟨σ, hr, hq⟩
  cases e with
  | normal => exact h a σ w hr hq
  | _ => exact ⟨σ, hr, hq⟩

section
variable {c : Cx} {n : Nat} {Q : Exit → Env → World → Prop} {σ : Env} {H : List Res} {K : List Fact}

theorem seq {x y : Code} (h : Tr c n x (thn (Wp c n y Q) Q) σ H K) : Tr c n (x.seq y) Q σ H K := by
  intro w hm a hr
  refine wp_seq (Code.wp_mono ?_ (h w hm a hr))
  exact lift_thn (fun a σ w hr hq => hq a hr)

theorem skip (h : ∀ w, M c H K w → Q .normal σ w) : Tr c n .skip Q σ H K := fun w hm _ hr => wp_skip ⟨σ, hr, h w hm⟩
theorem ret (h : ∀ w, M c H K w → Q .ret σ w) : Tr c n .ret Q σ H K := fun w hm _ hr => wp_ret ⟨σ, hr, h w hm⟩
theorem exit {id : Nat} (h : ∀ w, M c H K w → Q (.exit id) σ w) : Tr c n (.exit id) Q σ H K := fun w hm _ hr => wp_exit ⟨σ, hr, h w hm⟩
theorem goto {l : Nat} (h : ∀ w, M c H K w → Q (.goto l) σ w) : Tr c n (.goto l) Q σ H K := fun w hm _ hr => wp_goto ⟨σ, hr, h w hm⟩

def inBlock (id : Nat) (Q : Exit → Env → World → Prop) : Exit → Env → World → Prop
  | .exit id', σ, w => if id' = id then Q .normal σ w else Q (.exit id') σ w
  | e, σ, w => Q e σ w

theorem block {id : Nat} {x : Code} (h : Tr c n x (inBlock id Q) σ H K) : Tr c n (.block id x) Q σ H K := by
  intro w hm a hr
  refine wp_block (Code.wp_mono ?_ (h w hm a hr))
  rintro e a w ⟨σ, hr, hq⟩
  cases e with
  | exit id' =>
    simp only [inBlock, Exit.inBlock] at *
    split
    · rename_i h; rw [if_pos h] at hq; exact ⟨σ, hr, hq⟩
    · rename_i h; rw [if_neg h] at hq; exact ⟨σ, hr, hq⟩
  | _ => exact ⟨σ, hr, hq⟩

theorem condT {x : Operand} {s t : Code} (hc : ev σ x = .bool true) (h : Tr c n s Q σ H K) : Tr c n (.cond x s t) Q σ H K :=
  fun w hm a hr => wp_cond_true (by rw [hr.eval]; exact hc) (h w hm a hr)
theorem condF {x : Operand} {s t : Code} (hc : ev σ x = .bool false) (h : Tr c n t Q σ H K) : Tr c n (.cond x s t) Q σ H K :=
  fun w hm a hr => wp_cond_false (by rw [hr.eval]; exact hc) (h w hm a hr)
theorem cond {x : Operand} {s t : Code} {b : Bool} (hc : ev σ x = .bool b) (ht : b = true → Tr c n s Q σ H K) (hf : b = false → Tr c n t Q σ H K) : Tr c n (.cond x s t) Q σ H K := by
  cases b with
  | true => exact condT hc (ht rfl)
  | false => exact condF hc (hf rfl)

theorem region {id : Nat} {l : List Oper} (h : TL c n l.toArray l Q σ H K) : Tr c n (.region id l.toArray false) Q σ H K :=
  fun w hm a hr => wp_region_lit (h w hm a hr)

theorem nil {ops : Array Oper} (h : ∀ w, M c H K w → Q .normal σ w) : TL c n ops [] Q σ H K := fun w hm _ hr => wpList_nil ⟨σ, hr, h w hm⟩

/-- At a region's end, in a sequence. -/
theorem nilS {ops : Array Oper} {y : Code} (h : Tr c n y Q σ H K) : TL c n ops [] (thn (Wp c n y Q) Q) σ H K := nil h

theorem Tr.mono {x : Code} {Q' : Exit → Env → World → Prop} (h : Tr c n x Q σ H K) (hq : ∀ e σ w, Q e σ w → Q' e σ w) : Tr c n x Q' σ H K :=
  fun w hm a hr => Code.wp_mono (fun e _ w ⟨σ, hr, q⟩ => ⟨σ, hr, hq e σ w q⟩) (h w hm a hr)

/-- A cut: what the rest needs is told by a family of states. -/
theorem cut {ι : Type} {x y : Code} (I : ι → Env → Prop) (HH : ι → List Res) (KK : ι → List Fact)
    (h1 : Tr c n x (thn (fun σ w => ∃ i, I i σ ∧ M c (HH i) (KK i) w) Q) σ H K) (h2 : ∀ i σ, I i σ → Tr c n y Q σ (HH i) (KK i)) : Tr c n (x.seq y) Q σ H K := by
  refine seq (h1.mono ?_)
  intro e σ w q
  cases e with
  | normal => obtain ⟨i, hi, hm⟩ := q; exact h2 i σ hi w hm
  | _ => exact q

/-- A loop: a family of states at its head, each round lowers a number. -/
theorem loop {ι : Type} {x : Code} (I : ι → Env → Prop) (HH : ι → List Res) (KK : ι → List Fact) (μ : ι → Nat) (i0 : ι)
    (h0 : I i0 σ) (hm0 : ∀ w, M c H K w → M c (HH i0) (KK i0) w)
    (round : ∀ i σ, I i σ → Tr c n x (thn (fun σ' w' => ∃ j, I j σ' ∧ M c (HH j) (KK j) w' ∧ μ j < μ i) Q) σ (HH i) (KK i)) : Tr c n (.loop x) Q σ H K := by
  intro w hm a hr
  have key : ∀ (m : Nat) (i : ι) (σ : Env) (a : Act) (w : World), μ i = m → I i σ → M c (HH i) (KK i) w → Rep n a σ →
      ∀ (b : Frame) (k : List Item) (cs : List Frame), ∃ e a' w', lift n Q e a' w' ∧ Arrives c.P (lone (b.at a (.code x :: .inLoop x :: k)) cs w) b k cs e a' w' := by
    intro m
    induction m using Nat.strongRecOn with
    | _ m ih =>
      intro i σ a w hi hI hm hr b k cs
      obtain ⟨e, a₁, w₁, hq, harr⟩ := round i σ hI w hm a hr b (.inLoop x :: k) cs
      obtain ⟨σ₁, hr₁, hq⟩ := hq
      cases e with
      | normal =>
        obtain ⟨j, hj, hmj, hlt⟩ := hq
        obtain ⟨e₂, a₂, w₂, hq₂, harr₂⟩ := ih (μ j) (hi ▸ hlt) j σ₁ a₁ w₁ rfl hj hmj hr₁ b k cs
        exact ⟨e₂, a₂, w₂, hq₂, .of_steps (Steps.trans harr (.one step_inLoop)) harr₂⟩
      | exit id => exact ⟨_, a₁, w₁, ⟨σ₁, hr₁, hq⟩, .pass (x := .inLoop x) rfl (fun _ _ => .inl (by simp)) harr⟩
      | goto l => exact ⟨_, a₁, w₁, ⟨σ₁, hr₁, hq⟩, .pass (x := .inLoop x) rfl (fun _ _ => .inl (by simp)) harr⟩
      | ret => exact ⟨_, a₁, w₁, ⟨σ₁, hr₁, hq⟩, .pass (x := .inLoop x) rfl (fun _ _ => .inl (by simp)) harr⟩
      | panic ch => exact ⟨_, a₁, w₁, ⟨σ₁, hr₁, hq⟩, .pass (x := .inLoop x) rfl (fun _ _ => .inl (by simp)) harr⟩
      | outgrown => exact ⟨_, a₁, w₁, ⟨σ₁, hr₁, hq⟩, .pass (x := .inLoop x) rfl (fun _ _ => .inl (by simp)) harr⟩
  intro b k cs
  obtain ⟨e, a', w', hq, harr⟩ := key _ i0 σ a w rfl h0 (hm0 w hm) hr b k cs
  exact ⟨e, a', w', hq, .of_steps (.one step_loop) harr⟩

/-! ### One operation -/
/-- An operation that yields a value, whatever the world, and leaves it as it is. -/
def Det (c : Cx) (σ : Env) (H : List Res) (K : List Fact) (o : Oper) (v : Value) : Prop :=
  ∀ w, M c H K w → (execOp (ev σ) o).run c.P w = .ok (.value v) w

theorem wpList_run {ops : Array Oper} {o : Oper} {l : List Oper} {a : Act} {w : World} (hg : o.guard = none)
    (h : o.upon c.P a (wpList c.P ops (lift n Q) l) (lift n Q) ((execOp a.eval o).run c.P w)) : wpList c.P ops (lift n Q) (o :: l) a w :=
  wpList_plain hg (fun K hK => by
    unfold Oper.wp
    generalize (execOp a.eval o).run c.P w = r at *
    cases r with
    | ok x w' =>
      cases x <;> simp only [Oper.upon] at h ⊢ <;> first
        | exact hK _ _ h
        | exact h
        | exact Calls.mono h (fun e w'' q => by cases e <;> first | exact hK _ _ q | exact q)
        | exact Rows.mono h (fun _ _ q => hK _ _ q)
    | halt x w' => cases x <;> simp only [Oper.upon] at h ⊢ <;> exact h)

theorem det {ops : Array Oper} {d : Nat} {op : Op} {t : TypeId} {p : String} {af : Array Edge} {l : List Oper} {v : Value}
    (hd : Nat.blt d n = true) (hv : Det c σ H K ⟨some d, op, t, p, af, none⟩ v) (h : TL c n ops l Q (upd σ d v) H K) :
    TL c n ops (⟨some d, op, t, p, af, none⟩ :: l) Q σ H K := by
  intro w hm a hr
  refine wpList_run rfl ?_
  rw [hr.eval, hv w hm]
  simp only [Oper.upon]
  exact h w hm _ (hr.put d v (by simp [Nat.blt] at hd; omega))

/-- A guard that lets the operation run, and one that does not. -/
theorem guardT {ops : Array Oper} {d : Nat} {op : Op} {t : TypeId} {p : String} {af : Array Edge} {l : List Oper} {j s : Nat} {b : Bool}
    (hj : (ops[j]?).bind (·.dst) = some s) (hs : σ s = .bool b) (h : TL c n ops (⟨some d, op, t, p, af, none⟩ :: l) Q σ H K) :
    TL c n ops (⟨some d, op, t, p, af, some (j, b)⟩ :: l) Q σ H K := by
  intro w hm a hr
  have h1 := h w hm a hr
  have hlt : s < a.tmps.size := by
    rcases Nat.lt_or_ge s a.tmps.size with h' | h'
    · exact h'
    · have := hr.val s
      rw [hs] at this
      simp [Array.getElem?_eq_none h', undef] at this
  have hy : Region.wanted ⟨some d, op, t, p, af, some (j, b)⟩ (yielded ops a.tmps) = true := by
    have hv := hr.val s
    rw [hs] at hv
    have : a.tmps[s]? = some (.bool b) := by
      rw [Array.getElem?_eq_getElem hlt]
      simpa [hlt] using hv
    simp [Region.wanted, yielded, hj, this]
  unfold wpList at h1 ⊢
  rw [if_pos hy]
  rw [if_pos (by simp [Region.wanted])] at h1
  exact h1

theorem guardF {ops : Array Oper} {d : Nat} {op : Op} {t : TypeId} {p : String} {af : Array Edge} {l : List Oper} {j s : Nat} {b : Bool}
    (hj : (ops[j]?).bind (·.dst) = some s) (hs : σ s = .bool (!b)) (hd : Nat.blt d n = true) (h : TL c n ops l Q (upd σ d undef) H K) :
    TL c n ops (⟨some d, op, t, p, af, some (j, b)⟩ :: l) Q σ H K := by
  intro w hm a hr
  have hlt : s < a.tmps.size := by
    rcases Nat.lt_or_ge s a.tmps.size with h' | h'
    · exact h'
    · have := hr.val s
      rw [hs] at this
      simp [Array.getElem?_eq_none h', undef] at this
  have hy : Region.wanted ⟨some d, op, t, p, af, some (j, b)⟩ (yielded ops a.tmps) = false := by
    have hv := hr.val s
    rw [hs] at hv
    have : a.tmps[s]? = some (.bool (!b)) := by
      rw [Array.getElem?_eq_getElem hlt]
      simpa [hlt] using hv
    simp [Region.wanted, yielded, hj, this]
  unfold wpList
  rw [if_neg (by rw [hy]; simp)]
  exact h w hm _ (hr.put d undef (by simp [Nat.blt] at hd; omega))

/-- A guard whose base was itself passed over: nothing runs. -/
theorem guardU {ops : Array Oper} {d : Nat} {op : Op} {t : TypeId} {p : String} {af : Array Edge} {l : List Oper} {j s : Nat} {b : Bool}
    (hj : (ops[j]?).bind (·.dst) = some s) (hs : σ s = undef) (hd : Nat.blt d n = true) (h : TL c n ops l Q (upd σ d undef) H K) :
    TL c n ops (⟨some d, op, t, p, af, some (j, b)⟩ :: l) Q σ H K := by
  intro w hm a hr
  have hy : Region.wanted ⟨some d, op, t, p, af, some (j, b)⟩ (yielded ops a.tmps) = false := by
    have hv := hr.val s
    rw [hs] at hv
    simp only [Region.wanted, yielded, hj, Option.bind_some]
    cases hx : a.tmps[s]? with
    | none => simp
    | some x =>
      have : x = undef := by simpa [hx] using hv
      subst this
      simp [undef]
  unfold wpList
  rw [if_neg (by rw [hy]; simp)]
  exact h w hm _ (hr.put d undef (by simp [Nat.blt] at hd; omega))
end
end Go.Proofs.YtmcapgjdflohfaaGreat.L
