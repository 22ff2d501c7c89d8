/- Package sha: the walks of Pad, New, Write, Sum. -/
import Derived.Test.YtmcapgjdflohfaaGreatSha
import Derived.Test.YtmcapgjdflohfaaGreatWrite
set_option linter.all false
namespace Go.Proofs.YtmcapgjdflohfaaGreat.L
open Go Go.RowKit
set_option linter.unusedVariables false

theorem Lib_rep (k : Nat) : Lib.repeatL [0] k = List.replicate k (0 : UInt8) := by
  induction k with
  | zero => rfl
  | succ k ih => rw [Lib.repeatL, ih]; rfl

theorem gap_eq (m : Nat) (hm : m ≤ 1000000000000) : IntKind.i64.wrap ((IntKind.u64.wrap (119 - ((m : Int).tmod 64))).tmod 64) = (((119 - m % 64) % 64 : Nat) : Int) := by
  have e1 : ((m : Int).tmod 64) = ((m % 64 : Nat) : Int) := by rw [Int.tmod_eq_emod_of_nonneg (by omega)]; omega
  rw [e1]
  have e2 : IntKind.u64.wrap (119 - ((m % 64 : Nat) : Int)) = ((119 - m % 64 : Nat) : Int) := by
    simp [IntKind.wrap, IntKind.signed, IntKind.bits]; omega
  rw [e2, Int.tmod_eq_emod_of_nonneg (by omega), i64_in (by omega) (by omega)]
  omega
theorem wrap_u64_nat (x : Int) (h0 : 0 ≤ x) (h : x ≤ 18446744073709551615) : IntKind.u64.wrap x = x := by
  simp [IntKind.wrap, IntKind.signed, IntKind.bits]; omega

theorem padL_length (m : Nat) : (padL m).length = 1 + (119 - m % 64) % 64 + 8 := by
  simp [padL, putL_length]; omega

theorem sha_Pad_ (m : Nat) (hm : m ≤ 1000000000000) : Pure PP N_sha_Pad #[.int .u64 m] (.string (bs (padL m))) := by
  have hg : (119 - m % 64) % 64 < 64 := Nat.mod_lt _ (by decide)
  refine enter0 f_sha_Pad rfl n_sha_Pad rfl fun w => ?_
  refine seq (region (det rfl (asg rfl) (nilS ?_)))   -- region 0
  refine seq (region (det rfl (mv rfl) (det rfl (rem rfl rfl (by decide)) (det rfl (sub rfl rfl) (det rfl (rem rfl rfl (by decide)) (det rfl (asg rfl) (nilS ?_)))))))   -- region 1
  refine seq (region (det rfl (mv rfl) (det rfl (Det.to (conv u_uint64 u_int rfl) (by exact vi (gap_eq m hm))) (call k_strings_Repeat rfl rfl (fun w _ => strings_Repeat_ [0] _ (by rw [List.length_singleton]; omega) (by omega) w) (det rfl (tadd (a := [128]) rfl rfl (by simp [Lib.repeatL_length]; omega)) (det rfl (mv rfl) (det rfl (Det.to (mul rfl rfl) (vi (wrap_u64_nat (8 * (m : Int)) (by omega) (by omega)))) (call k_word_Put64 rfl rfl (fun w _ => word_Put64_ _ w) (det rfl (tadd rfl rfl (by simp [Lib.repeatL_length, putL_length]; omega)) (det rfl (asg rfl) (nilS ?_)))))))))))   -- region 2
  refine ret (retT rfl rfl (pr' ?_))
  rw [Lib_rep, padL]
  exact vs (congrArg bs (by simp))

theorem one_append (a b : List Value) : one (a ++ b) = (one a && one b) := by simp [one]
/-- A hash under way. -/
def stC (h : List Int) (r : List UInt8) (m : Nat) (on : Bool) : List Value := w32 h ++ [.string (bs r), .int .u64 m, .bool on]
section
variable {h h' : List Int} {r r' : List UInt8} {m m' : Nat} {on on' : Bool} (hh : h.length = 8)
include hh
theorem stC_length : (stC h r m on).length = 11 := by simp [stC, w32_length, hh]
theorem stC_one : one (stC h r m on) = true := by
  rw [stC, one_append, w32_one]; rfl
theorem stC_8 : (stC h r m on)[8]? = some (.string (bs r)) := by rw [stC, List.getElem?_append_right (by rw [w32_length]; omega), w32_length, hh]; rfl
theorem stC_9 : (stC h r m on)[9]? = some (.int .u64 m) := by rw [stC, List.getElem?_append_right (by rw [w32_length]; omega), w32_length, hh]; rfl
theorem stC_10 : (stC h r m on)[10]? = some (.bool on) := by rw [stC, List.getElem?_append_right (by rw [w32_length]; omega), w32_length, hh]; rfl
theorem stC_set8 : (stC h r m on).set 8 (.string (bs r')) = stC h r' m on := by rw [stC, List.set_append_right _ _ (by rw [w32_length]; omega), w32_length, hh]; rfl
theorem stC_set9 : (stC h r m on).set 9 (.int .u64 m') = stC h r m' on := by rw [stC, List.set_append_right _ _ (by rw [w32_length]; omega), w32_length, hh]; rfl
theorem stC_set10 : (stC h r m on).set 10 (.bool on') = stC h r m on' := by rw [stC, List.set_append_right _ _ (by rw [w32_length]; omega), w32_length, hh]; rfl
theorem stC_words : ((stC h r m on).drop 0).take 8 = w32 h := by rw [List.drop_zero, stC, List.take_append_of_le_length (by rw [w32_length]; omega), List.take_of_length_le (by rw [w32_length]; omega)]
theorem stC_put (hh' : h'.length = 8) : (stC h r m on).take 0 ++ w32 h' ++ (stC h r m on).drop (0 + (w32 h').length) = stC h' r m on := by
  rw [List.take_zero, List.nil_append, stC, w32_length, hh', List.drop_append_of_le_length (by rw [w32_length]; omega), List.drop_of_length_le (by rw [w32_length]; omega)]; rfl
end

/-- Whole blocks of 64 bytes, as many as are asked. -/
def shaB (b : List UInt8) (q : Nat) : List UInt8 := (b.take (64 * q + 64)).drop (64 * q)
def shaH (h : List Int) (b : List UInt8) : Nat → List Int
  | 0 => h
  | q + 1 => mixF (shaH h b q) (shaB b q)
theorem shaH_length {h : List Int} (hh : h.length = 8) (b : List UInt8) (q : Nat) : (shaH h b q).length = 8 := by
  induction q with
  | zero => exact hh
  | succ q ih => exact mixF_length _ ih
theorem shaB_length (b : List UInt8) (q : Nat) : (shaB b q).length ≤ 64 := by
  simp [shaB]; omega

theorem run_placesS (P : Program) (w : World) {fs : Array Field} (h : (fs.toList.all fun f => ((P.info? f.type).map (·.size)).isSome) = true) : (fs.mapM (fun f => do Pure.pure (f.offset, ← sizeOf f.type) : Field → Sem (Nat × Nat))).run P w = .ok (fs.map fun f => (f.offset, ((P.info? f.type).map (·.size)).getD 0)) w := by
  have := run_places (P := P) fs.toList (fun f hf => List.all_eq_true.1 h f hf) w
  simpa using this

theorem sha_Write_ (bk : Nat) (h : List Int) (hh : h.length = 8) (r b : List UInt8) (m : Nat) (on : Bool) (hb : r.length + b.length ≤ 1000000000000) (hm : m + b.length ≤ 1000000000000) :
    Writes PP N_sha_State_Write #[.pointer (some ⟨bk, 0, none⟩), .string (bs b)] bk (ob (stC h r m on) T_sha_State)
      (ob (stC (shaH (if on then h else kFirst) (r ++ b) ((r ++ b).length / 64)) ((r ++ b).drop (64 * ((r ++ b).length / 64))) (m + b.length) true) T_sha_State) (.tuple #[]) := by
  obtain ⟨x, hx⟩ : ∃ x, (if on then h else kFirst) = x := ⟨_, rfl⟩
  have hx8 : x.length = 8 := by rw [← hx]; split; exact hh; rfl
  rw [hx]
  refine enterW f_sha_State_Write rfl n_sha_State_Write rfl fun w => ?_
  refine seq ?_
  refine seq (region (det rfl (mv rfl) (det rfl (peqS u_p_sha_State rfl rfl) (nilS ?_))))   -- region 0
  refine condF rfl ?_
  refine skipS ?_
  refine cutV (ι := Unit) (fun _ => True) (fun _ => [(0, .pointer (some ⟨bk, 0, none⟩)), (1, .string (bs b))]) (fun _ => [.blk bk (ob (stC x r m true) T_sha_State)]) (fun _ => []) ?_ ?_
  · refine seq (region (det rfl (mv rfl) (det rfl (nilchk rfl) (det rfl (fadr rfl u_sha_State rfl s_bool) (det rfl (ldB 0 rfl rfl o_bool (stC_10 hh)) (det rfl (notB rfl) (nilS ?_)))))))   -- region 1
    cases on with
    | false =>
      have e : x = kFirst := hx.symm
      subst e
      refine condT rfl ?_
      refine region (det rfl (mv rfl) (det rfl (mv rfl) (call k_sha_First rfl rfl (fun w _ => sha_First_ w) (det rfl (nilchk rfl) (det rfl (fadr rfl u_sha_State rfl s_sha_Words) (sto 0 (vs := w32 kFirst) rfl rfl rfl rfl s_sha_Words rfl (by rw [stC_length hh]; decide) (stC_put hh rfl) (det rfl (nilchk rfl) (det rfl (fadr rfl u_sha_State rfl s_bool) (sto1 0 10 rfl rfl rfl s_bool rfl rfl (by rw [stC_length rfl]; decide) (stC_set10 rfl) (nil ?_))))))))))   -- region 2
      exact meets () trivial ⟨rfl, rfl, trivial⟩ (fun w hm => hm)
    | true =>
      have e : x = h := hx.symm
      subst e
      refine condF rfl ?_
      refine skip ?_
      exact meets () trivial ⟨rfl, rfl, trivial⟩ (fun w hm => hm)
  · intro _ σ _
    obtain ⟨F, hF⟩ : ∃ F, r ++ b = F := ⟨_, rfl⟩
    have hFl : F.length = r.length + b.length := by rw [← hF, List.length_append]
    rw [hF]
    refine seq (region (det rfl (mv rfl) (det rfl (nilchk rfl) (det rfl (fadr rfl u_sha_State rfl s_uint64) (det rfl (ldB 0 rfl rfl o_uint64 (stC_9 hx8)) (det rfl (mv rfl) (det rfl (lenT u_string rfl) (det rfl (Det.to (conv u_int u_uint64 rfl) (by exact vi (wrap_u64_nat b.length (by omega) (by omega)))) (det rfl (Det.to (add rfl rfl) (vi (wrap_u64_nat ((m + b.length : Nat) : Int) (by omega) (by omega)))) (det rfl (nilchk rfl) (det rfl (fadr rfl u_sha_State rfl s_uint64) (sto1 0 9 rfl rfl rfl s_uint64 rfl rfl (by rw [stC_length hx8]; decide) (stC_set9 hx8) (nilS ?_)))))))))))))   -- region 3
    refine seq (region (det rfl (mv rfl) (det rfl (nilchk rfl) (det rfl (fadr rfl u_sha_State rfl s_string) (det rfl (ldB 0 rfl rfl o_string (stC_8 hx8)) (det rfl (mv rfl) (det rfl (tadd rfl rfl (by omega)) (det rfl (nilchk rfl) (det rfl (fadr rfl u_sha_State rfl s_string) (sto1 0 8 rfl rfl rfl s_string rfl rfl (by rw [stC_length hx8]; decide) (stC_set8 hx8) (nilS ?_)))))))))))   -- region 4
    refine seq (region (det rfl (asg rfl) (nilS ?_)))   -- region 5
    rw [hF]
    refine seq ?_
    refine block ?_   -- block 0
    refine loopV (ι := Nat) (fun k => k ≤ F.length / 64) (fun k => [(0, .pointer (some ⟨bk, 0, none⟩)), (4, .int .i64 (64 * (k : Int)))]) (fun k => [.blk bk (ob (stC (shaH x F k) F (m + b.length) true) T_sha_State)]) (fun _ => []) (fun k => F.length / 64 - k) 0 (by omega) ⟨rfl, vi (by omega), trivial⟩ (fun w hm => hm) ?_
    intro k σ hk
    have hk8 := shaH_length hx8 F k
    refine seq ?_
    refine seq (region (det rfl (mv rfl) (det rfl (nilchk rfl) (det rfl (fadr rfl u_sha_State rfl s_string) (det rfl (ldB 0 rfl rfl o_string (stC_8 hk8)) (det rfl (lenT u_string rfl) (det rfl (mv rfl) (det rfl (subI rfl rfl (by omega) (by omega)) (det rfl (geq rfl rfl) (nilS ?_))))))))))   -- region 6
    refine cond rfl (fun h => ?_) (fun h => ?_)   -- on t44
    · have h := of_decide_eq_true h
      refine skipS ?_
      refine block ?_   -- block 1
      refine seq (draw (m := 16) mix (by kernel_rfl) (take 0 rfl (by kernel_rfl) rfl (mv rfl) (take 1 rfl (by kernel_rfl) rfl (mv rfl) (take 2 rfl (by kernel_rfl) rfl (nilchk rfl) (take 3 rfl (by kernel_rfl) rfl (fadr rfl u_sha_State rfl s_sha_Words) (take 4 rfl (by kernel_rfl) rfl (ldA 0 (r := w32 (shaH x F k)) rfl rfl g_sha_Words (stC_words hk8) (by rw [w32_length]; omega)) (take 5 rfl (by kernel_rfl) rfl (mv rfl) (take 6 rfl (by kernel_rfl) rfl (nilchk rfl) (take 7 rfl (by kernel_rfl) rfl (fadr rfl u_sha_State rfl s_string) (take 8 rfl (by kernel_rfl) rfl (ldB 0 rfl rfl o_string (stC_8 hk8)) (take 9 rfl (by kernel_rfl) rfl (mv rfl) (take 10 rfl (by kernel_rfl) rfl (mv rfl) (take 11 rfl (by kernel_rfl) rfl (addI rfl rfl (by omega) (by omega)) (take 12 rfl (by kernel_rfl) rfl (Det.to (cutT u_string rfl rfl rfl (by omega) (by omega) (by omega)) (vs (congrArg bs (show _ = shaB F k by rw [shaB, show (64 * (k : Int) + 64).toNat = 64 * k + 64 by omega, show (64 * (k : Int)).toNat = 64 * k by omega])))) (only 13 rfl (by kernel_rfl) rfl k_sha_Mix rfl rfl (fun w _ => sha_Mix_ _ hk8 _ (Nat.le_trans (shaB_length F k) (by omega)) w) (take 14 rfl (by kernel_rfl) rfl (nilchk rfl) (take 15 rfl (by kernel_rfl) rfl (fadr rfl u_sha_State rfl s_sha_Words) ((tail (by kernel_rfl) rfl (sto 0 (vs := w32 (shaH x F (k + 1))) rfl rfl rfl rfl (by rw [w32_length, shaH_length hx8]; exact s_sha_Words) (w32_one _) (by rw [stC_length hk8, w32_length, shaH_length hx8]; decide) (stC_put hk8 (shaH_length hx8 F (k + 1))) (nilS ?_)))))))))))))))))))))   -- region 7
      refine region (det rfl (mv rfl) (det rfl (addI rfl rfl (by omega) (by omega)) (det rfl (asg rfl) (nil ?_))))   -- region 8
      exact again (k + 1) (by omega) ⟨rfl, vi (by omega), trivial⟩ (fun w hm => hm) (by (first | omega | (dsimp only; omega)))
    · have h := of_decide_eq_false h
      have e : k = F.length / 64 := by omega
      refine exit ?_   -- 0
      show Tr _ _ _ _ _ _ _
      refine region (det rfl (mv rfl) (det rfl (mv rfl) (det rfl (nilchk rfl) (det rfl (fadr rfl u_sha_State rfl s_string) (det rfl (ldB 0 rfl rfl o_string (stC_8 hk8)) (det rfl (mv rfl) (det rfl (cutTl u_string rfl rfl (by omega) (by omega)) (det rfl (nilchk rfl) (det rfl (fadr rfl u_sha_State rfl s_string) (sto1 0 8 rfl rfl rfl s_string rfl rfl (by rw [stC_length hk8]; decide) (stC_set8 hk8) (nil ?_)))))))))))   -- region 9
      refine ret0 rfl (prW 0 rfl ?_)
      rw [← e, show (64 * (k : Int)).toNat = 64 * k by omega]; rfl

theorem sha_New_ : Makes PP N_sha_New #[] (ob (stC (List.replicate 8 0) [] 0 false) T_sha_State) := fun w => by
  refine enter f_sha_New rfl n_sha_New rfl (M.init PP w (fun _ => False) [] [] trivial (fun _ h => h.elim) trivial) ?_
  refine seq (region (det rfl (asg rfl) (nilS ?_)))   -- region 0
  refine seq (region (det rfl (bldZ z_sha_State u_sha_State (fun w => run_placesS PP w (by kernel_rfl))) (box (cs := stC (List.replicate 8 0) [] 0 false) rfl rfl rfl fun b0 => det rfl (asg rfl) (nilS ?_))))   -- region 1
  exact ret (retT rfl rfl (prN 0 rfl rfl))

theorem outL_length {h : List Int} : (outL h).length = 4 * h.length := by
  induction h with
  | nil => rfl
  | cons x r ih => simp only [outL, List.map_cons, List.flatten_cons, List.length_append, putL_length, List.length_cons] at *; omega
theorem outL_app (a b : List Int) : outL (a ++ b) = outL a ++ outL b := by simp [outL]

theorem out_step {x : List Int} {k : Nat} (hk : k < x.length) (h8 : 4 * k + 4 ≤ 32) : (b8 (outL (x.take k)) ++ List.replicate (32 - 4 * k) (Value.int .u8 0)).take (4 * k) ++ b8 ((putL (IntKind.u64.wrap (x.getD k 0)) 4).take 4) ++
    (b8 (outL (x.take k)) ++ List.replicate (32 - 4 * k) (Value.int .u8 0)).drop (4 * k + min (putL (IntKind.u64.wrap (x.getD k 0)) 4).length 4) = b8 (outL (x.take (k + 1))) ++ List.replicate (32 - 4 * (k + 1)) (Value.int .u8 0) := by
  have hl : (b8 (outL (x.take k))).length = 4 * k := by rw [b8_length, outL_length, List.length_take]; omega
  have e1 : ∀ y, (putL y 4).take 4 = putL y 4 := fun y => List.take_of_length_le (by rw [putL_length]; omega)
  have e2 : (b8 (outL (x.take k))).take (4 * k) = b8 (outL (x.take k)) := List.take_of_length_le (by omega)
  have e3 : (b8 (outL (x.take k))).drop (4 * k + 4) = [] := List.drop_of_length_le (by omega)
  rw [putL_length, show min 4 4 = 4 from rfl, List.take_append_of_le_length (by omega), e1, e2, List.drop_append, hl, e3, List.nil_append,
    show 4 * k + 4 - 4 * k = 4 by omega, List.drop_replicate, show 32 - 4 * k - 4 = 32 - 4 * (k + 1) by omega]
  congr 1
  rw [List.take_succ_eq_append_getElem hk, outL_app, b8, b8, b8, List.map_append]
  congr 1
  simp [outL, hk]
/-- The hash of what was written. -/
def sumL (h : List Int) (r : List UInt8) (m : Nat) : List UInt8 := outL (shaH h (r ++ padL m) ((r ++ padL m).length / 64))

theorem sha_StateSum_ (bk : Nat) (y : List Int) (hh : y.length = 8) (r : List UInt8) (m : Nat) (hm : m ≤ 100000000000) (hr : r.length ≤ 100000000000) :
    Writes PP N_sha_State_Sum #[.pointer (some ⟨bk, 0, none⟩)] bk (ob (stC y r m true) T_sha_State) (ob (stC y r m true) T_sha_State) (ag (b8 (sumL y r m))) := by
  have hp := padL_length m
  have hpl : (padL m).length ≤ 100 := by have := Nat.mod_lt (119 - m % 64) (show 0 < 64 by decide); omega
  refine enterW f_sha_State_Sum rfl n_sha_State_Sum rfl fun w => ?_
  refine seq (region (alloc z_api_Hash rfl rfl fun b0 => nilS ?_))   -- region 0
  refine seq (region (det rfl (bldZ z_sha_State u_sha_State (fun w => run_placesS PP w (by kernel_rfl))) (alloc (cs := stC (List.replicate 8 0) [] 0 false) z_sha_State rfl rfl fun b1 => stoA 0 (rs := stC (List.replicate 8 0) [] 0 false) rfl rfl rfl s_sha_State rfl rfl rfl (nilS ?_))))   -- region 1
  refine seq ?_
  refine seq (region (det rfl (mv rfl) (det rfl (pneS u_p_sha_State rfl rfl) (nilS ?_))))   -- region 2
  refine condT rfl ?_
  refine region (det rfl (mv rfl) (det rfl (nilchk rfl) (det rfl (ldA 2 (r := stC y r m true) rfl rfl g_sha_State (by rw [List.drop_zero, List.take_of_length_le (by rw [stC_length hh]; decide)]) (stC_length hh)) (stoA 0 rfl rfl rfl s_sha_State (stC_length hh) (stC_one hh) rfl (nilS ?_)))))   -- region 3
  refine seq (region (det rfl (fadr rfl u_sha_State rfl s_uint64) (det rfl (ldB 0 rfl rfl o_uint64 (stC_9 hh)) (call k_sha_Pad rfl rfl (fun w _ => sha_Pad_ m (by omega) w) (callW 0 k_sha_State_Write rfl rfl rfl (sha_Write_ b1 y hh r (padL m) m true (by omega) (by omega)) (nilS ?_))))))   -- region 4
  obtain ⟨x, hx⟩ : ∃ x, shaH y (r ++ padL m) ((r ++ padL m).length / 64) = x := ⟨_, rfl⟩
  have hx8 : x.length = 8 := by rw [← hx]; exact shaH_length hh _ _
  rw [if_pos rfl, hx]
  refine seq (region (alloc z_api_Hash rfl rfl fun b2 => nilS ?_))   -- region 5
  refine seq ?_
  refine seq (region (det rfl (fadr rfl u_sha_State rfl s_sha_Words) (det rfl (ldA 1 (r := w32 x) rfl rfl g_sha_Words (stC_words hx8) (by rw [w32_length]; omega)) (det rfl (mv rfl) (nilS ?_)))))   -- region 6
  refine block ?_   -- block 0
  have hs0 : sumL y r m = outL x := by rw [sumL, hx]
  refine loopV (ι := Nat) (fun k => k ≤ 8) (fun k => [(2, .pointer (some ⟨b0, 0, none⟩)), (4, .pointer (some ⟨b2, 0, none⟩)), (18, ag (w32 x)), (19, .int .i64 k)])
    (fun k => [.blk b2 (ob (b8 (outL (x.take k)) ++ List.replicate (32 - 4 * k) (.int .u8 0)) T_api_Hash), .blk b0 (ob (List.replicate 32 (.int .u8 0)) T_api_Hash), .blk bk (ob (stC y r m true) T_sha_State)]) (fun _ => []) (fun k => 8 - k) 0 (by omega) ⟨rfl, rfl, rfl, rfl, trivial⟩ (fun w hm => M.sub hm (.cons_cons _ (.cons _ (List.Sublist.refl _)))) ?_
  intro k σ hk
  refine seq (region (det rfl (lss rfl rfl) (nilS ?_)))   -- region 7
  refine seq ?_
  refine cond rfl (fun h => ?_) (fun h => ?_)   -- on t20
  · have h := of_decide_eq_true h
    refine skipS ?_
    refine seq ?_
    refine block ?_   -- block 1
    refine seq (region (det rfl (mv rfl) (det rfl (idxO rfl rfl u_sha_Words o_uint32 s_uint32 (by omega) (by omega) (w32_at (j := k) (by omega) (by omega))) (det rfl (asg rfl) (det rfl (asg rfl) (nilS ?_))))))   -- region 8
    refine draw (m := 11) mix (by kernel_rfl) (take 0 rfl (by kernel_rfl) rfl (mv rfl) (take 1 rfl (by kernel_rfl) rfl (mulI rfl rfl (by omega) (by omega)) (take 2 rfl (by kernel_rfl) rfl (mv rfl) (take 3 rfl (by kernel_rfl) rfl (mulI rfl rfl (by omega) (by omega)) (take 4 rfl (by kernel_rfl) rfl (addI rfl rfl (by omega) (by omega)) (take 5 rfl (by kernel_rfl) rfl (mv rfl) (take 6 rfl (by kernel_rfl) rfl (mulI rfl rfl (by omega) (by omega)) (take 7 rfl (by kernel_rfl) rfl (addI rfl rfl (by omega) (by omega)) (take 8 rfl (by kernel_rfl) rfl (Det.to (arrS3 u_api_Hash s_uint8 rfl rfl rfl rfl (by omega) (by omega) (by omega) (by omega) (by omega)) (show _ = Value.slice (some ⟨b2, 4 * k, none⟩) 4 4 by rw [show 0 + (4 * (k : Int)).toNat = 4 * k by omega, show (4 * (k : Int) + 4).toNat - (4 * (k : Int)).toNat = 4 by omega])) (take 9 rfl (by kernel_rfl) rfl (mv rfl) (only 10 rfl (by kernel_rfl) rfl k_word_Put32 rfl rfl (fun w _ => word_Put32_ _ w) ((tail (by kernel_rfl) rfl (cpT 0 rfl rfl rfl u_sl_uint8 s_uint8 rfl (by simp [b8_length, outL_length, putL_length]; omega) (out_step (by omega) (by omega)) (nil ?_)))))))))))))))   -- region 9
    show Tr _ _ _ _ _ _ _
    refine region (det rfl (addI rfl rfl (by omega) (by omega)) (det rfl (mv rfl) (nil ?_)))   -- region 10
    exact again (k + 1) (by omega) ⟨rfl, rfl, rfl, rfl, trivial⟩ (fun w hm => hm) (by (first | omega | (dsimp only; omega)))
  · have h := of_decide_eq_false h
    have e : k = 8 := by omega
    subst e
    refine exit ?_   -- 0
    show Tr _ _ _ _ _ _ _
    rw [List.take_of_length_le (by omega), show 32 - 4 * 8 = 0 from rfl, List.replicate_zero, List.append_nil, ← hs0]
    have hl : (b8 (sumL y r m)).length = 32 := by rw [hs0, b8_length, outL_length, hx8]
    refine seq (region (det rfl (ldA 0 (r := b8 (sumL y r m)) rfl rfl g_api_Hash (by rw [List.drop_zero, List.take_of_length_le (by omega)]) hl) (stoA 1 rfl rfl rfl s_api_Hash hl (b8_one _) rfl (nilS ?_))))   -- region 11
    exact ret (retC 1 rfl rfl rfl (by rw [hl]; exact g_api_Hash) (prW 2 rfl rfl))

theorem sha_Sum_ (b : List UInt8) (hb : b.length ≤ 10000000000) : Pure PP N_sha_Sum #[.string (bs b)] (ag (b8 (sumL (shaH kFirst b (b.length / 64)) (b.drop (64 * (b.length / 64))) b.length))) := by
  refine enter0 f_sha_Sum rfl n_sha_Sum rfl fun w => ?_
  refine seq (region (alloc z_api_Hash rfl rfl fun b0 => nilS ?_))   -- region 0
  refine seq (region (callN k_sha_New rfl rfl sha_New_ fun b1 => det rfl (asg rfl) (nilS ?_)))   -- region 1
  refine seq (region (det rfl (mv rfl) (det rfl (mv rfl) (callW 0 k_sha_State_Write rfl rfl rfl (sha_Write_ b1 (List.replicate 8 0) rfl [] b 0 false (by simp; omega) (by omega)) (nilS ?_)))))   -- region 2
  rw [if_neg (by decide), List.nil_append, Nat.zero_add]
  have hl : (b8 (sumL (shaH kFirst b (b.length / 64)) (b.drop (64 * (b.length / 64))) b.length)).length = 32 := by rw [sumL, b8_length, outL_length, shaH_length (shaH_length rfl _ _)]
  refine seq (region (det rfl (mv rfl) (callW 0 k_sha_State_Sum rfl rfl rfl (sha_StateSum_ b1 _ (shaH_length rfl _ _) _ _ (by omega) (by rw [List.length_drop]; omega)) (stoA 1 rfl rfl rfl s_api_Hash hl (b8_one _) rfl (nilS ?_)))))   -- region 3
  exact ret (retC 1 rfl rfl rfl (by rw [hl]; exact g_api_Hash) pr)
/-- SHA-256. -/
def sha (b : List UInt8) : List UInt8 := sumL (shaH kFirst b (b.length / 64)) (b.drop (64 * (b.length / 64))) b.length
theorem sha_length (b : List UInt8) : (sha b).length = 32 := by rw [sha, sumL, outL_length, shaH_length (shaH_length rfl _ _)]
end Go.Proofs.YtmcapgjdflohfaaGreat.L
