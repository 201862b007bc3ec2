/- Words: refs, tops; what is read of them, and how they are laid: summaries. -/
import Derived.Test.YtgldnjmnoemccaaGreatSzB0
namespace Go.Sx
set_option maxRecDepth 100000
/-- A word of an index (or none), and a tag, or a generation. -/
def topW (i t : Int) : Int := i + 1 + t * 65536
def idW (w : Int) : Int := w % 65536 - 1
def tgW (w : Int) : Int := w / 65536
theorem idW_topW {i t : Int} (h1 : -1 ≤ i) (h2 : i ≤ 65534) : idW (topW i t) = i := by unfold idW topW; omega
theorem tgW_topW {i t : Int} (h1 : -1 ≤ i) (h2 : i ≤ 65534) : tgW (topW i t) = t := by unfold tgW topW; omega
theorem topW_of (w : Int) : topW (idW w) (tgW w) = w := by unfold tgW topW idW; omega
def rawA (w : Int) : Int := IntKind.wrap .i64 (IntKind.wrap .i64 (IntKind.wrap .u64 ((BitVec.ofInt 64 (Int.fdiv w 1) &&& BitVec.ofInt 64 65535).toNat : Int)) - 1)
def rawB (w m : Int) : Int := IntKind.wrap .i64 (IntKind.wrap .u64 ((BitVec.ofInt 64 (Int.fdiv w 65536) &&& BitVec.ofInt 64 m).toNat : Int))
def rawO (i t : Int) : Int := IntKind.wrap .u64 ((BitVec.ofInt 64 (IntKind.wrap .u64 ((BitVec.ofInt 64 0 ||| BitVec.ofInt 64 (IntKind.wrap .u64 (IntKind.wrap .u64 (IntKind.wrap .i64 (i + 1)) * 1))).toNat : Int)) ||| BitVec.ofInt 64 (IntKind.wrap .u64 (IntKind.wrap .u64 t * 65536))).toNat : Int)
def rawC (x : Int) : Int := IntKind.wrap .u64 ((BitVec.ofInt 64 x &&& ~~~BitVec.ofInt 64 9223372036854775808).toNat : Int)
def genA (w : Int) : Int := IntKind.wrap .i64 (IntKind.wrap .u64 ((BitVec.ofInt 64 w &&& BitVec.ofInt 64 4294967295).toNat : Int))
theorem genA_eq {w : Int} (h1 : 0 ≤ w) (h2 : w < 4294967296) : genA w = w := by
  unfold genA
  have e2 := and_mask 32 w h1 (by omega) (by omega)
  have e3 : (4294967295 : Int) = 2 ^ 32 - 1 := by decide
  have e4 : w % 2 ^ 32 = w := by omega
  rw [e3, e2, e4, wrap_u64 h1 (by omega), wrap_i64 (by omega) (by omega)]
def nxtT (w : Int) : Int := IntKind.wrap .i64 ((BitVec.ofInt 64 (IntKind.wrap .i64 (tgW w + 1)) &&& BitVec.ofInt 64 281474976710655).toNat : Int)
theorem nxtT_eq {w : Int} (h1 : 0 ≤ w) (h2 : w < 18446744073709486080) : nxtT w = tgW w + 1 := by
  unfold nxtT tgW
  rw [wrap_i64 (x := w / 65536 + 1) (by omega) (by omega)]
  have e2 := and_mask 48 (w / 65536 + 1) (by omega) (by omega) (by omega)
  have e3 : (281474976710655 : Int) = 2 ^ 48 - 1 := by decide
  have e4 : (w / 65536 + 1) % 2 ^ 48 = w / 65536 + 1 := by omega
  rw [e3, e2, e4, wrap_i64 (by omega) (by omega)]
theorem rawA_eq {w : Int} (h1 : 0 ≤ w) (h2 : w < 18446744073709551616) : rawA w = idW w := by
  unfold rawA idW
  have e1 : w.fdiv 1 = w := by rw [Int.fdiv_eq_ediv_of_nonneg _ (by decide)]; omega
  have e2 := and_mask 16 w h1 h2 (by omega)
  have e3 : (65535 : Int) = 2 ^ 16 - 1 := by decide
  rw [e1, e3, e2, wrap_u64 (by omega) (by omega), wrap_i64 (x := w % 2 ^ 16) (by omega) (by omega), wrap_i64 (x := w % 2 ^ 16 - 1) (by omega) (by omega)]
  rfl
theorem rawB_eq {w : Int} (h1 : 0 ≤ w) (h2 : w < 18446744073709551616) : rawB w 281474976710655 = tgW w := by
  unfold rawB tgW
  have e1 : w.fdiv 65536 = w / 65536 := Int.fdiv_eq_ediv_of_nonneg _ (by decide)
  have e2 := and_mask 48 (w / 65536) (by omega) (by omega) (by omega)
  have e3 : (281474976710655 : Int) = 2 ^ 48 - 1 := by decide
  have e4 : w / 65536 % 2 ^ 48 = w / 65536 := by omega
  rw [e1, e3, e2, e4, wrap_u64 (by omega) (by omega), wrap_i64 (by omega) (by omega)]
theorem rawB_eq' {w : Int} (h1 : 0 ≤ w) (h2 : w < 281474976710656) : rawB w 4294967295 = tgW w := by
  unfold rawB tgW
  have e1 : w.fdiv 65536 = w / 65536 := Int.fdiv_eq_ediv_of_nonneg _ (by decide)
  have e2 := and_mask 32 (w / 65536) (by omega) (by omega) (by omega)
  have e3 : (4294967295 : Int) = 2 ^ 32 - 1 := by decide
  have e4 : w / 65536 % 2 ^ 32 = w / 65536 := by omega
  rw [e1, e3, e2, e4, wrap_u64 (by omega) (by omega), wrap_i64 (by omega) (by omega)]
theorem rawO_eq {i t : Int} (h1 : -1 ≤ i) (h2 : i ≤ 65534) (h3 : 0 ≤ t) (h4 : t < 281474976710656) : rawO i t = topW i t := by
  unfold rawO topW
  rw [wrap_i64 (x := i + 1) (by omega) (by omega), wrap_u64 (x := i + 1) (by omega) (by omega), wrap_u64 (x := t) h3 (by omega), wrap_u64 (x := (i + 1) * 1) (by omega) (by omega), wrap_u64 (x := t * 65536) (by omega) (by omega), Int.mul_one]
  have k1 : ((BitVec.ofInt 64 0 ||| BitVec.ofInt 64 (i + 1)).toNat : Int) = i + 1 := by
    have := or_add 0 (i + 1) 0 (by omega) (by decide) (by omega) (by omega) (by omega)
    simpa using this
  rw [k1, wrap_u64 (x := i + 1) (by omega) (by omega)]
  have k2 : ((BitVec.ofInt 64 (i + 1) ||| BitVec.ofInt 64 (t * 65536)).toNat : Int) = i + 1 + t * 65536 :=
    or_add (i + 1) t 16 (by omega) (by omega) h3 (by omega) (by omega)
  rw [k2, wrap_u64 (by omega) (by omega)]
theorem rawC_eq {x : Int} (h1 : 0 ≤ x) (h2 : x < 9223372036854775808) : rawC x = x := by
  unfold rawC
  have e : (~~~BitVec.ofInt 64 9223372036854775808) = BitVec.ofInt 64 ((2 : Int) ^ 63 - 1) := by decide
  rw [e, and_mask 63 x h1 (by omega) (by omega)]
  have : x % 2 ^ 63 = x := by omega
  rw [this, wrap_u64 h1 (by omega)]
theorem getTop_call {w : Int} (h1 : 0 ≤ w) (h2 : w < 18446744073709551616) : CallH Go.Proofs.Tryz.prog 102 [.int .u64 w] 0 (hO []) (.tup [.agg [.int .i64 (idW w), .int .i64 (tgW w)], .int .i64 0]) 0 (hO []) := by
  rw [← rawA_eq h1 h2, ← rawB_eq h1 h2]
  exact callH_eval (n := 400) (l := []) (l' := []) (orc := bits 6 0b111111) (πl := []) (nx' := 5) (B := allB []) F0_ok S0_ok (by kernel_rfl) rfl rfl (by kernel_rfl) (by kernel_rfl) (by kernel_rfl) (by kernel_rfl)
theorem putTop_call {i t : Int} (h1 : -1 ≤ i) (h2 : i ≤ 65534) (h3 : 0 ≤ t) (h4 : t < 281474976710656) : CallH Go.Proofs.Tryz.prog 77 [.agg [.int .i64 i, .int .i64 t]] 0 (hO []) (.tup [.int .u64 (topW i t), .int .i64 0]) 0 (hO []) := by
  rw [← rawO_eq h1 h2 h3 h4]
  exact callH_eval (n := 400) (l := []) (l' := []) (orc := bits 36 0b111110000001111100000000111111111110) (πl := []) (nx' := 11) (B := allB [!(decide (t > 281474976710655)), !(decide (t < 0)), !(decide (i > 65534)), !(decide (i < -1))]) F0_ok S0_ok (by kernel_rfl) (by
    simp only [allB_iff, List.forall_mem_cons, Bool.not_eq_true', decide_eq_false_iff_not]
    (and_intros <;> first | omega | (intro _ hb; cases hb; done))) rfl (by kernel_rfl) (by kernel_rfl) (by kernel_rfl) (by kernel_rfl)
theorem putRef_call {i t : Int} (h1 : 0 ≤ i) (h2 : i ≤ 65534) (h3 : 0 ≤ t) (h4 : t < 4294967296) : CallH Go.Proofs.Tryz.prog 62 [.agg [.int .i64 i, .int .i64 t, .bool false]] 0 (hO []) (.tup [.int .u64 (topW i t), .int .i64 0]) 0 (hO []) := by
  have e : topW i t = rawC (rawO i t) := by
    rw [rawO_eq (by omega) h2 h3 (by omega), rawC_eq (by unfold topW; omega) (by unfold topW; omega)]
  rw [e]
  exact callH_eval (n := 400) (l := []) (l' := []) (orc := bits 42 0b111110000001111100000000000001111111111100) (πl := []) (nx' := 11) (B := allB [!(i == -1), !(decide (t > 4294967295)), !(decide (t < 0)), !(decide (i > 65534)), !(decide (i < -1))]) F0_ok S0_ok (by kernel_rfl) (by
    simp only [allB_iff, List.forall_mem_cons, Bool.not_eq_true', decide_eq_false_iff_not, beq_eq_false_iff_ne]
    (and_intros <;> first | omega | (intro _ hb; cases hb; done))) rfl (by kernel_rfl) (by kernel_rfl) (by kernel_rfl) (by kernel_rfl)
def smGetTop (args : List V) (s : St) : Option (V × St) :=
  match args with
  | [.int .u64 w] => (need (decide (0 ≤ w ∧ w < 18446744073709551616)) s).bind fun s1 => some (.tup [.agg [.int .i64 (idW w), .int .i64 (tgW w)], .int .i64 0], s1)
  | _ => none
def smPutTop (args : List V) (s : St) : Option (V × St) :=
  match args with
  | [.agg [.int .i64 i, .int .i64 t]] => (need (decide (-1 ≤ i ∧ i ≤ 65534 ∧ 0 ≤ t ∧ t < 281474976710656)) s).bind fun s1 => some (.tup [.int .u64 (topW i t), .int .i64 0], s1)
  | _ => none
def smPutRef (args : List V) (s : St) : Option (V × St) :=
  match args with
  | [.agg [.int .i64 i, .int .i64 t, .bool b]] => (need (decide (b = false ∧ 0 ≤ i ∧ i ≤ 65534 ∧ 0 ≤ t ∧ t < 4294967296)) s).bind fun s1 => some (.tup [.int .u64 (topW i t), .int .i64 0], s1)
  | _ => none
theorem smGetTop_sm : SmOK Go.Proofs.Tryz.prog 102 smGetTop := by
  refine ⟨fun args s v s' h ho => ?_, Go.Proofs.Tryz.call102⟩
  unfold smGetTop at h
  split at h
  · simp only [Option.bind_eq_some_iff] at h
    obtain ⟨s1, h2, h3⟩ := h
    cases h3
    obtain ⟨hd, hq⟩ := need_ok h2 ho
    have hd := of_decide_eq_true hd
    exact ⟨Lg.of_same hq.1, hq.2, embed0 (l := []) (getTop_call hd.1 hd.2) (fun m hm => absurd hm (Nat.not_lt_zero _)) (by kernel_rfl) (by kernel_rfl) [] rfl (fun m o ho => by simp at ho) List.nodup_nil rfl hq.1 rfl⟩
  · cases h
theorem smPutTop_sm : SmOK Go.Proofs.Tryz.prog 77 smPutTop := by
  refine ⟨fun args s v s' h ho => ?_, Go.Proofs.Tryz.call77⟩
  unfold smPutTop at h
  split at h
  · simp only [Option.bind_eq_some_iff] at h
    obtain ⟨s1, h2, h3⟩ := h
    cases h3
    obtain ⟨hd, hq⟩ := need_ok h2 ho
    have hd := of_decide_eq_true hd
    exact ⟨Lg.of_same hq.1, hq.2, embed0 (l := []) (putTop_call hd.1 hd.2.1 hd.2.2.1 hd.2.2.2) (fun m hm => absurd hm (Nat.not_lt_zero _)) (by kernel_rfl) (by kernel_rfl) [] rfl (fun m o ho => by simp at ho) List.nodup_nil rfl hq.1 rfl⟩
  · cases h
theorem smPutRef_sm : SmOK Go.Proofs.Tryz.prog 62 smPutRef := by
  refine ⟨fun args s v s' h ho => ?_, Go.Proofs.Tryz.call62⟩
  unfold smPutRef at h
  split at h
  · rename_i i t b
    simp only [Option.bind_eq_some_iff] at h
    obtain ⟨s1, h2, h3⟩ := h
    cases h3
    obtain ⟨hd, hq⟩ := need_ok h2 ho
    obtain ⟨hb, d1, d2, d3, d4⟩ := of_decide_eq_true hd
    subst hb
    exact ⟨Lg.of_same hq.1, hq.2, embed0 (l := []) (putRef_call d1 d2 d3 d4) (fun m hm => absurd hm (Nat.not_lt_zero _)) (by kernel_rfl) (by kernel_rfl) [] rfl (fun m o ho => by simp at ho) List.nodup_nil rfl hq.1 rfl⟩
  · cases h
noncomputable def FR : Env := envOf tabT tabF (smOf [(62, smPutRef)]) seT
theorem FR_ok : EnvOK Go.Proofs.Tryz.prog FR := env_ok _
theorem SR_ok : SumOK Go.Proofs.Tryz.prog FR := sumOK_of rfl ⟨smPutRef_sm, trivial⟩
def rawM (w : Int) : Bool := Int.fdiv w 9223372036854775808 == 1
theorem rawM_eq {w : Int} (h1 : 0 ≤ w) (h2 : w < 281474976710656) : rawM w = false := by
  unfold rawM
  rw [Int.fdiv_eq_ediv_of_nonneg _ (by decide)]
  exact beq_eq_false_iff_ne.2 (by omega)
theorem getRef_call {w : Int} (h1 : 0 ≤ w) (h2 : w < 281474976710656) (h3 : w % 65536 ≠ 0) : CallH Go.Proofs.Tryz.prog 38 [.int .u64 w] 0 (hO []) (.tup [.agg [.int .i64 (idW w), .int .i64 (tgW w), .bool false], .int .i64 0]) 0 (hO []) := by
  have eA := rawA_eq h1 (show w < 18446744073709551616 by omega)
  have eB := rawB_eq' h1 h2
  have eM := rawM_eq h1 h2
  rw [← eA, ← eB, ← eM]
  refine callH_eval (n := 400) (l := []) (l' := []) (orc := bits 12 0b111111110000) (πl := []) (nx' := 6) (B := allB [!(topW (rawA w) (rawB w 4294967295) != w), decide (rawM w = false ∧ 0 ≤ rawA w ∧ rawA w ≤ 65534 ∧ 0 ≤ rawB w 4294967295 ∧ rawB w 4294967295 < 4294967296)]) FR_ok SR_ok (by kernel_rfl) ?_ rfl (by kernel_rfl) (by kernel_rfl) (by kernel_rfl) (by kernel_rfl)
  simp only [allB_iff, List.forall_mem_cons, Bool.not_eq_true', decide_eq_true_eq, eA, eB, eM, topW_of, bne_self_eq_false]
  refine ⟨trivial, ⟨trivial, ?_⟩, fun _ hb => by cases hb⟩
  unfold idW tgW
  omega
def smGetRef (args : List V) (s : St) : Option (V × St) :=
  match args with
  | [.int .u64 w] => (need (decide (0 ≤ w ∧ w < 281474976710656 ∧ w % 65536 ≠ 0)) s).bind fun s1 => some (.tup [.agg [.int .i64 (idW w), .int .i64 (tgW w), .bool false], .int .i64 0], s1)
  | _ => none
theorem smGetRef_sm : SmOK Go.Proofs.Tryz.prog 38 smGetRef := by
  refine ⟨fun args s v s' h ho => ?_, Go.Proofs.Tryz.call38⟩
  unfold smGetRef at h
  split at h
  · simp only [Option.bind_eq_some_iff] at h
    obtain ⟨s1, h2, h3⟩ := h
    cases h3
    obtain ⟨hd, hq⟩ := need_ok h2 ho
    obtain ⟨d1, d2, d3⟩ := of_decide_eq_true hd
    exact ⟨Lg.of_same hq.1, hq.2, embed0 (l := []) (getRef_call d1 d2 d3) (fun m hm => absurd hm (Nat.not_lt_zero _)) (by kernel_rfl) (by kernel_rfl) [] rfl (fun m o ho => by simp at ho) List.nodup_nil rfl hq.1 rfl⟩
  · cases h
noncomputable def FP : Env := envOf tabT tabF (smOf [(6, smPick), (62, smPutRef), (38, smGetRef), (77, smPutTop), (102, smGetTop)]) seT
theorem FP_ok : EnvOK Go.Proofs.Tryz.prog FP := env_ok _
theorem SP_ok : SumOK Go.Proofs.Tryz.prog FP := sumOK_of rfl ⟨smPick_sm, smPutRef_sm, smGetRef_sm, smPutTop_sm, smGetTop_sm, trivial⟩
end Go.Sx
