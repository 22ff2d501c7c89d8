/- Package chain: Vectors; slices of slices. -/
import Derived.Test.YtmcapgjdflohfaaGreatCheck
set_option linter.all false
namespace Go.Proofs.YtmcapgjdflohfaaGreat.L
open Go Go.RowKit
set_option linter.unusedVariables false

section
variable {c : Cx} {n : Nat} {Q : Exit → Env → World → Prop} {σ : Env} {H : List Res} {K : List Fact}
variable {d : Option Tmp} {t : TypeId} {p : String} {af : Array Edge} {g : Option (Nat × Bool)}
/-- The address of an element of a row of the call's own; what lies there. -/
theorem ixR {x y : Operand} {s e e' : TypeId} {A : Option Addr} {m cap sz sz' : Nat} {xs : List Value} {kk : IntKind} {i : Int} (k : Nat) (hx : ev σ x = .slice A m cap) (hy : ev σ y = .int kk i) (hs : c.P.underlying s = some (.slice e))
    (hz : (c.P.info? e).map (·.size) = some sz) (hk : H[k]? = some (.row (.slice A m cap) e' sz' m xs)) (h0 : 0 ≤ i) (h1 : i < m) : Det c σ H K ⟨d, .indexAddr s x y, t, p, af, g⟩ (at_ A (i.toNat * sz)) := fun w hm => by
  have h := hm.get hk
  rcases h.2 with ⟨h2, _⟩ | ⟨gg, cap', cur, h2, _⟩
  · cases h2; omega
  · cases h2
    simp [execOp, hx, hy, Instr.indexAt, asIntOf, run_und hs, h0, h1, run_size hz, add0, at_]
theorem ldRO {x : Operand} {tx e : TypeId} {A : Option Addr} {m cap i o : Nat} {xs : List Value} {v : Value} (k : Nat) (hx : ev σ x = at_ A o) (hk : H[k]? = some (.row (.slice A m cap) e 1 m xs)) (hu : isOne c.P tx) (ho : o = i) (hl : xs[i]? = some v) :
    Det c σ H K ⟨d, .load tx x, t, p, af, g⟩ v := fun w hm => by
  subst ho
  have h := hm.get hk
  rcases h.2 with ⟨h2, h3⟩ | ⟨gg, cap', cur, h2, _⟩
  · cases h2; have := h.1; simp at this; subst this; cases hl
  · cases h2
    have hcell := World.ownsRow.cells h (g := gg) rfl o v hl
    rw [add0] at hcell
    simp only [execOp, hx, at_, Option.map_some, Instr.loadAt, Instr.sureAddr, Sem.run_bind, Sem.run_pure, Result.andThen_ok]
    rw [run_loadOne hu (by simpa using hcell)]; rfl
end

/-- A slice of hashes as a value. -/
structure Vc where
  A : Option Addr
  cap : Nat
  xs : List (List UInt8)
def Vc.s (v : Vc) : Value := .slice v.A v.xs.length v.cap
def vl (L : List Vc) : List (List Value) := L.map fun v => [v.s]
theorem vl_length (L : List Vc) : (vl L).length = L.length := by simp [vl]
theorem vl_ok (L : List Vc) : ∀ l ∈ vl L, l.length = 1 ∧ one l = true := by
  intro l h; obtain ⟨x, _, rfl⟩ := List.mem_map.1 h; exact ⟨rfl, rfl⟩
theorem vl_app (a : List Vc) (b : Vc) : (vl (a ++ [b])).flatten = (vl a).flatten ++ [b.s] := by simp [vl]
theorem vl_flat (L : List Vc) : (vl L).flatten = L.map Vc.s := by
  induction L with
  | nil => rfl
  | cons x r ih => simp only [vl, List.map_cons, List.flatten_cons] at *; rw [ih]; rfl
theorem vl_at {L : List Vc} {o j : Nat} (ho : o = j) (h : j < L.length) : (vl L)[o]? = some [(L[j]).s] := by
  subst ho; simp [vl, h]
def Vs (L : List Vc) : Fact := fun D w => ∀ v ∈ L, Sl 32 v.A v.xs.length v.cap (hl v.xs) D w
theorem Vs.stable {L : List Vc} : Stable (Vs L) := fun D D' w w' hD hw h v hv => Sl.stable D D' w w' hD hw (h v hv)
/-- A slice of slices of hashes. -/
def VV (A : Option Addr) (n cap : Nat) (L : List Vc) : Fact := fun D w => Sl 1 A n cap (vl L) D w ∧ Vs L D w
theorem VV.stable {A : Option Addr} {n cap : Nat} {L : List Vc} : Stable (VV A n cap L) := fun D D' w w' hD hw h => ⟨Sl.stable D D' w w' hD hw h.1, Vs.stable D D' w w' hD hw h.2⟩
abbrev RV (w : World) (vs : List (List (List UInt8))) : Ending → World → Prop := fun e w' =>
  ∃ A cap L, L.map Vc.xs = vs ∧ e = .returned (.slice A vs.length cap) ∧ Below w.heap.size w w' ∧ VV A vs.length cap L (fun k => w.heap.size ≤ k ∧ k < w'.heap.size) w'

/-- A call that hands back a slice of slices of its own. -/
theorem callV {c : Cx} {n : Nat} {Q : Exit → Env → World → Prop} {σ : Env} {H : List Res} {K : List Fact} {t : TypeId} {p : String} {af : Array Edge} {ops : Array Oper} {d : Nat} {f : FuncId} {args : Array Operand} {ats : Array TypeId} {vs : List Value} {l : List Oper} {ls : List (List (List UInt8))} (hf : Fn c.P f) (ha : args.toList.map (ev σ) = vs) (hd : Nat.blt d n = true)
    (spec : ∀ w, M c H K w → Calls c.P f vs.toArray w (RV w ls)) (h : ∀ A cap L, L.map Vc.xs = ls → TL c n ops l Q (upd σ d (.slice A ls.length cap)) H (VV A ls.length cap L :: K)) :
    TL c n ops (⟨some d, .call { callee := .value (.func f), args := args, argTypes := ats }, t, p, af, none⟩ :: l) Q σ H K := by
  intro w hm a hr
  refine wpList_run rfl ?_
  rw [hr.eval, hf.run, map_args ha]
  refine (spec w hm).mono ?_
  rintro e w' ⟨A, cap, L, hL, rfl, hb, hs⟩
  exact h A cap L hL w' (hm.learn VV.stable (grown_below hb) (fun D _ => VV.stable _ _ _ _ (fun k hk => .inr hk) (fun _ _ _ => rfl) hs)) _ (hr.put d _ (by simp [Nat.blt] at hd; omega))

def vecsA (t : List UInt8) (l : List Bl) (k : Nat) : List (List (List UInt8)) := (List.range (k + 1)).map (vecA t l)
theorem vecsA_succ (t : List UInt8) (l : List Bl) (k : Nat) : vecsA t l (k + 1) = vecsA t l k ++ [vecA t l (k + 1)] := by
  rw [vecsA, List.range_succ, List.map_append, vecsA]; rfl
theorem vecsA_length (t : List UInt8) (l : List Bl) (k : Nat) : (vecsA t l k).length = k + 1 := by simp [vecsA]

theorem chain_Vectors_ (t : List UInt8) (ht : t.length = 32) (l : List Bl) (hn : l.length ≤ 100000) (hx : ∀ b ∈ l, b.h.ok) (A : Option Addr) (cap : Nat) (D : Nat → Prop) (w : World) (hD : ∀ k, D k → k < w.heap.size) (hs : Sl 67 A l.length cap (bl l) D w) :
    Calls PP N_chain_Vectors #[ag (b8 t), .slice A l.length cap] w (RV w (vecsA t l l.length)) := by
  refine enter f_chain_Vectors rfl n_chain_Vectors rfl (M.init1 PP w Sl.stable hD hs) ?_
  refine seq (region (box rfl rfl rfl fun b0 => det rfl (asg rfl) (nilS ?_)))   -- region 0
  refine seq (region (bsl rfl (bs1 u_sl_sl_api_Hash z_sl_api_Hash s_sl_api_Hash (cs := [.slice none 0 0]) rfl rfl rfl (by decide) (by decide)) fun b1 => det rfl (asg rfl) (nilS ?_)))   -- region 1
  refine seq ?_
  refine seq (region (det rfl (mv rfl) (det rfl (lenS u_sl_api_Block rfl) (det rfl (mv rfl) (nilS ?_)))))   -- region 2
  refine block ?_   -- block 0
  refine loopV (ι := Nat × Option Addr × Nat × List Vc) (fun (k, _, _, L) => k ≤ l.length ∧ L.length = k + 1 ∧ L.map Vc.xs = vecsA t l k) (fun (k, B, q, _) => [(2, .pointer (some ⟨b0, 0, none⟩)), (5, .slice B (k + 1) q), (9, .slice A l.length cap), (10, .int .i64 l.length), (11, .int .i64 k)]) (fun (k, B, q, L) => [.row (.slice B (k + 1) q) T_sl_api_Hash 1 (k + 1) (vl L).flatten, .blk b0 (ob (b8 t) T_api_Hash)]) (fun (_, _, _, L) => [Sl 67 A l.length cap (bl l), Fr w.heap.size (Vs L)]) (fun (k, _, _, _) => l.length - k) (0, some ⟨b1, 0, none⟩, 1, [⟨none, 0, []⟩]) ⟨by omega, rfl, rfl⟩ ⟨rfl, rfl, rfl, rfl, rfl, trivial⟩ (fun w hm => ?_) ?_
  · exact M.refact (hm.asRow 0 rfl rfl (m := 1) (sz := 1) rfl (by simp [maxLen])) ⟨Sl.stable, Fr.stable Vs.stable, trivial⟩ fun D h => ⟨h.1, fun v hv => by rw [List.mem_singleton.1 hv]; exact Sl.nil, trivial⟩
  rintro ⟨k, B, q, L⟩ σ ⟨hk, hL, hLv⟩
  dsimp only at hk hL hLv ⊢
  refine seq (region (det rfl (lss rfl rfl) (nilS ?_)))   -- region 3
  refine seq ?_
  refine cond rfl (fun h => ?_) (fun h => ?_)   -- on t12
  · have h := of_decide_eq_true h
    have hk2 : k < l.length := by omega
    obtain ⟨b, hbk⟩ : ∃ b, l[k] = b := ⟨_, rfl⟩
    have hgb : l.getD k bl0 = b := by rw [getB hk2, hbk]
    have hb : b.h.ok := by rw [← hbk]; exact hx _ (List.getElem_mem hk2)
    obtain ⟨v, hv⟩ : ∃ v, L[k]? = some v := ⟨_, List.getElem?_eq_getElem (by omega)⟩
    have hvm : v ∈ L := List.mem_of_getElem? hv
    have hvx : v.xs = vecA t l k := by
      have : (L.map Vc.xs)[k]? = (vecsA t l k)[k]? := by rw [hLv]
      rw [List.getElem?_map, hv, vecsA, List.getElem?_map, List.getElem?_range (by omega)] at this
      exact Option.some.inj this
    have hvok := vecA_ok t l k
    rw [← hvx] at hvok
    have hat : (vl L).flatten[k]? = some (.slice v.A v.xs.length v.cap) := by rw [vl_flat, List.getElem?_map, hv]; rfl
    refine skipS ?_
    refine seq ?_
    refine block ?_   -- block 1
    refine seq (region (det rfl (mv rfl) (det rfl (ixS 0 rfl rfl u_sl_api_Block s_api_Block rfl (by omega) (by omega)) (det rfl (Det.to (ldSA 0 rfl rfl g_api_Block (bl_at (j := k) (by omega) hk2)) (v' := ag b.c) (by rw [hbk])) (alloc z_api_Block rfl rfl fun b2 => det rfl (asg rfl) (stoA 0 rfl rfl rfl s_api_Block (Bl.c_length hb) (Bl.c_one _) rfl (nilS ?_)))))))   -- region 4
    refine draw (m := 10) mix (by kernel_rfl) (take 0 rfl (by kernel_rfl) rfl (mv rfl) (take 1 rfl (by kernel_rfl) rfl (ldAll 2 rfl rfl g_api_Hash (by rw [b8_length]; exact ht)) (take 2 rfl (by kernel_rfl) rfl (mv rfl) (take 3 rfl (by kernel_rfl) rfl (mv rfl) (take 4 rfl (by kernel_rfl) rfl (ixR 1 rfl rfl u_sl_sl_api_Hash s_sl_api_Hash rfl (by omega) (by omega)) (take 5 rfl (by kernel_rfl) rfl (ldRO 1 rfl rfl o_sl_api_Hash (i := k) (by omega) hat) (take 6 rfl (by kernel_rfl) rfl (ldAll 0 rfl rfl g_api_Block (Bl.c_length hb)) (take 7 rfl (by kernel_rfl) rfl (mv rfl) (onlySN 8 rfl (by kernel_rfl) rfl k_chain_behind rfl rfl (fun w hm => by
      obtain ⟨D, d1, d2, hD, d4, d5⟩ := hm.data
      exact chain_behind_ t ht v.xs (by omega) hvok.2 b hb k v.A v.cap D w hD ((d5.2.1 v hvm).mono fun k hk => hk.1)) fun B' q' => (onlyE (β := Nat) (fun b => .slice (some ⟨b, 0, none⟩) 1 1) (fun b9 => .blk b9 (ob [.slice B' (hl (behindS t v.xs b k)).length q'] T_sl_api_Hash) :: _) (fun _ => _) 9 rfl (by kernel_rfl) rfl rfl (run_bsl (bs1 u_sl_sl_api_Hash z_sl_api_Hash s_sl_api_Hash rfl rfl rfl (by decide) (by decide))) (fun _ _ => drop1) fun b3 => (tail (by kernel_rfl) rfl (appB 2 0 u_sl_sl_api_Hash i_sl_api_Hash rfl (by decide) rfl rfl rfl rfl rfl rfl (by simp only [maxLen]; omega) (by omega) rfl fun A' cap' => det rfl (asg rfl) (nil ?_)))))))))))))   -- region 5
    show Tr _ _ _ _ _ _ _
    refine region (det rfl (addI rfl rfl (by omega) (by omega)) (det rfl (mv rfl) (nil ?_)))   -- region 6
    have ev1 : vecA t l (k + 1) = behindS t v.xs b k := by rw [vecA, hgb, hvx]
    refine again (k + 1, A', cap', L ++ [⟨B', q', behindS t v.xs b k⟩]) ⟨by (first | omega | (dsimp only; omega)), by simp [hL], by dsimp only; rw [List.map_append, hLv, vecsA_succ, ev1]; rfl⟩ ⟨rfl, rfl, rfl, rfl, rfl, trivial⟩ (fun w hm => ?_) (by (first | omega | (dsimp only; omega)))
    dsimp only
    rw [vl_app]
    have hm := drop1 (drop1 hm)
    have e1 : Value.slice B' (hl (behindS t v.xs b k)).length q' = (⟨B', q', behindS t v.xs b k⟩ : Vc).s := congrArg (fun n => Value.slice B' n q') (hl_length _)
    rw [← e1]
    refine M.refact hm ⟨Sl.stable, Fr.stable Vs.stable, trivial⟩ fun D h => ⟨h.2.1, fun y hy => ?_, trivial⟩
    rcases List.mem_append.1 hy with hy | hy
    · exact h.2.2.1 y hy
    · rw [List.mem_singleton.1 hy]
      have := h.1
      rw [hl_length] at this
      exact this
  · have h := of_decide_eq_false h
    have e : k = l.length := by omega
    subst e
    refine exit ?_   -- 0
    show Tr _ _ _ _ _ _ _
    refine seq (region (det rfl (mv rfl) (det rfl (asg rfl) (nilS ?_))))   -- region 7
    refine ret fun w' hm => ?_
    obtain ⟨B1, q1, e1, hsl⟩ := row_sl (ls := vl L) (hm.get (i := 0) rfl) (vl_ok L) (by rw [vl_length, hL])
    cases e1
    obtain ⟨D, d1, d2, d3, d4, d5⟩ := hm.data
    refine ⟨.slice B (l.length + 1) q, fun a ha => by rw [results_tmp rfl, ha.val]; rfl, B, q, L, hLv, by rw [vecsA_length], hm.below rfl, ?_, ?_⟩
    · rw [vecsA_length]
      refine hsl _ fun b hb => ?_
      have := hm.mine b (mem_places.2 ⟨_, List.mem_cons_self .., hb⟩)
      exact ⟨by simpa using this.1, this.2⟩
    · exact Vs.stable _ _ _ _ (fun k hk => ⟨hk.2, d3 k hk.1⟩) (fun _ _ _ => rfl) d5.2.1
end Go.Proofs.YtmcapgjdflohfaaGreat.L
