/- may: calls with unlike names. Printed by gen_O7.py. -/
import Derived.Test.YtgldnjmnoemccaaSrO6
namespace Go.Sx
set_option maxRecDepth 100000
abbrev frMy : Frs := ⟨30, none, 58⟩
noncomputable def myBody : Code := bodyOf Go.Proofs.Try.f30
def lMy (cl : List (List Int)) : List (Option Ob) := [some (callsOb cl)]
def slMy (md room : Int) (i : Int) : List (Option V) := [some (.int .i64 md), some (.int .i64 room), some (.osl 0 10), none, none, none, none, some (.int .i64 i)] ++ List.replicate 50 none
def slMyI (md room : Int) (i k : Int) : List (Option V) := [some (.int .i64 md), some (.int .i64 room), some (.osl 0 10), none, none, none, none, some (.int .i64 i), some (.int .i64 k)] ++ List.replicate 49 none
def slMyE : List (Option V) := [none, none, none, none, none, none, some (.int .i64 0)] ++ List.replicate 51 none
noncomputable def todoMyO : List Item := ((ctlN F1 (exec F1 400) frMy 20 [.code myBody] (Tr.ofList [.int .i64 1, .int .i64 1, .osl 0 10]) [] ⟨trO (lMy []), 1, bits 15 0, [], []⟩).map (·.1)).getD []
noncomputable def todoMyI : List Item := ((ctlN F1 (exec F1 400) frMy 11 todoMyO (trO (slots (fun _ => .nilp) 0 (slMy 1 1 0))) [] ⟨trO (lMy [[]]), 1, bits 1 1, [], []⟩).map (·.1)).getD []
section
variable {β : Base} {kind : CallKind} {cs : List Frame} {J : Nat → V} {a : Cf} {cl : List (List Int)} {room i k : Int}
theorem myStart (hβ : β.n0 = 1) (hA : Asrt β frMy (Tr.ofList [.int .i64 1, .int .i64 room, .osl 0 10]) [] (hO (lMy cl)) 1 far a) (hB : allB [!(decide ((cl.length : Int) > 10)), !(decide (room > 64)), !(decide (room < 1))] = true) :
    ∃ J' b', Asrt β frMy (trO (slots J' 0 (slMy 1 room 0))) [] (hO (lMy cl)) 1 far b' ∧ Steps Go.Proofs.Try.prog (At frMy none kind cs a [.code myBody]) (At frMy none kind cs b' todoMyO) :=
  Asrt.eval (n := 400) (m := 20) (orc := bits 15 0b000000000000000) (πl := [0]) (nx' := 1) (far := far) (todo := [.code myBody]) (todo' := todoMyO) (l' := lMy cl) (sl' := slMy 1 room 0) F1_ok S1_ok kind cs hA
    (by kernel_rfl) hB rfl rfl rfl rfl rfl (fun m => Nat.blt m 1) (p_all rfl rfl) (fun m hm => by rw [hβ] at hm; exact Nat.blt_eq.mpr hm) (by rw [hβ]; kernel_rfl) (by kernel_rfl) (by kernel_rfl)
theorem myIn (hβ : β.n0 = 1) (hA : Asrt β frMy (trO (slots J 0 (slMy 1 room i))) [] (hO (lMy cl)) 1 far a) (hB : allB [decide (i < (cl.length : Int))] = true) :
    ∃ J' b', Asrt β frMy (trO (slots J' 0 (slMyI 1 room i 0))) [] (hO (lMy cl)) 1 far b' ∧ Steps Go.Proofs.Try.prog (At frMy none kind cs a todoMyO) (At frMy none kind cs b' todoMyI) :=
  Asrt.eval (n := 400) (m := 11) (orc := bits 1 0b1) (πl := [0]) (nx' := 1) (far := far) (todo := todoMyO) (todo' := todoMyI) (l' := lMy cl) (sl' := slMyI 1 room i 0) F1_ok S1_ok kind cs hA
    (by kernel_rfl) hB rfl rfl rfl rfl rfl (fun m => Nat.blt m 1) (p_all rfl rfl) (fun m hm => by rw [hβ] at hm; exact Nat.blt_eq.mpr hm) (by rw [hβ]; kernel_rfl) (by kernel_rfl) (by kernel_rfl)
theorem myExit (hβ : β.n0 = 1) (hA : Asrt β frMy (trO (slots J 0 (slMy 1 room i))) [] (hO (lMy cl)) 1 far a) (hB : allB [!(decide (i < (cl.length : Int)))] = true) :
    ∃ J' b', Asrt β frMy (trO (slots J' 0 (slMyE))) [] (hO (lMy cl)) 1 far b' ∧ Steps Go.Proofs.Try.prog (At frMy none kind cs a todoMyO) (At frMy none kind cs b' [.code .ret]) :=
  Asrt.eval (n := 400) (m := 7) (orc := bits 1 0b0) (πl := [0]) (nx' := 1) (far := far) (todo := todoMyO) (todo' := [.code .ret]) (l' := lMy cl) (sl' := slMyE) F1_ok S1_ok kind cs hA
    (by kernel_rfl) hB rfl rfl rfl rfl rfl (fun m => Nat.blt m 1) (p_all rfl rfl) (fun m hm => by rw [hβ] at hm; exact Nat.blt_eq.mpr hm) (by rw [hβ]; kernel_rfl) (by kernel_rfl) (by kernel_rfl)
theorem myIter (hβ : β.n0 = 1) (hA : Asrt β frMy (trO (slots J 0 (slMyI 1 room i k))) [] (hO (lMy cl)) 1 far a) (hB : allB [!((cl.getD i.toNat []).getD 0 0 == (cl.getD k.toNat []).getD 0 0), decide (k.toNat < cl.length), decide (0 ≤ k ∧ k < (cl.length : Int)), decide (i.toNat < cl.length), decide (0 ≤ i ∧ i < (cl.length : Int)), decide (k < i)] = true) :
    ∃ J' b', Asrt β frMy (trO (slots J' 0 (slMyI 1 room i (IntKind.i64.wrap (k + 1))))) [] (hO (lMy cl)) 1 far b' ∧ Steps Go.Proofs.Try.prog (At frMy none kind cs a todoMyI) (At frMy none kind cs b' todoMyI) :=
  Asrt.eval (n := 400) (m := 14) (orc := bits 6 0b111110) (πl := [0]) (nx' := 1) (far := far) (todo := todoMyI) (todo' := todoMyI) (l' := lMy cl) (sl' := slMyI 1 room i (IntKind.i64.wrap (k + 1))) F1_ok S1_ok kind cs hA
    (by kernel_rfl) hB rfl rfl rfl rfl rfl (fun m => Nat.blt m 1) (p_all rfl rfl) (fun m hm => by rw [hβ] at hm; exact Nat.blt_eq.mpr hm) (by rw [hβ]; kernel_rfl) (by kernel_rfl) (by kernel_rfl)
theorem myBack (hβ : β.n0 = 1) (hA : Asrt β frMy (trO (slots J 0 (slMyI 1 room i k))) [] (hO (lMy cl)) 1 far a) (hB : allB [!(decide (k < i))] = true) :
    ∃ J' b', Asrt β frMy (trO (slots J' 0 (slMy 1 room (IntKind.i64.wrap (i + 1))))) [] (hO (lMy cl)) 1 far b' ∧ Steps Go.Proofs.Try.prog (At frMy none kind cs a todoMyI) (At frMy none kind cs b' todoMyO) :=
  Asrt.eval (n := 400) (m := 8) (orc := bits 1 0b0) (πl := [0]) (nx' := 1) (far := far) (todo := todoMyI) (todo' := todoMyO) (l' := lMy cl) (sl' := slMy 1 room (IntKind.i64.wrap (i + 1))) F1_ok S1_ok kind cs hA
    (by kernel_rfl) hB rfl rfl rfl rfl rfl (fun m => Nat.blt m 1) (p_all rfl rfl) (fun m hm => by rw [hβ] at hm; exact Nat.blt_eq.mpr hm) (by rw [hβ]; kernel_rfl) (by kernel_rfl) (by kernel_rfl)

theorem myLoopI {i : Nat} (hβ : β.n0 = 1) (hn : cl.length ≤ 10) (hid : ∀ q, q < cl.length → (cl.getD q []).getD 0 0 = (q : Int)) (hi : i < cl.length) : ∀ (d : Nat) (J : Nat → V) (a : Cf) (k : Nat), i = k + d → Asrt β frMy (trO (slots J 0 (slMyI 1 room (i : Int) (k : Int)))) [] (hO (lMy cl)) 1 far a →
    ∃ J' b', Asrt β frMy (trO (slots J' 0 (slMy 1 room ((i + 1 : Nat) : Int)))) [] (hO (lMy cl)) 1 far b' ∧ Steps Go.Proofs.Try.prog (At frMy none kind cs a todoMyI) (At frMy none kind cs b' todoMyO) := by
  intro d
  induction d with
  | zero =>
    intro J a k hd hA
    obtain ⟨J1, b1, h1, h2⟩ := myBack (kind := kind) (cs := cs) hβ hA (by simp only [allB_iff, List.forall_mem_cons]; exact ⟨by simp; omega, fun _ hb => by cases hb⟩)
    rw [wrap_i64 (by omega) (by omega)] at h1
    exact ⟨J1, b1, by exact_mod_cast h1, h2⟩
  | succ d ih =>
    intro J a k hd hA
    obtain ⟨J1, b1, h1, h2⟩ := myIter (kind := kind) (cs := cs) hβ hA (by
      simp only [allB_iff, List.forall_mem_cons, Int.toNat_natCast, hid i hi, hid k (by omega), decide_eq_true_eq, Bool.not_eq_true', beq_eq_false_iff_ne]
      and_intros <;> first | omega | (intro _ hb; cases hb))
    rw [wrap_i64 (by omega) (by omega)] at h1
    obtain ⟨J2, b2, h3, h4⟩ := ih J1 b1 (k + 1) (by omega) (by exact_mod_cast h1)
    exact ⟨J2, b2, h3, h2.trans h4⟩

theorem myLoop (hβ : β.n0 = 1) (hn : cl.length ≤ 10) (hid : ∀ q, q < cl.length → (cl.getD q []).getD 0 0 = (q : Int)) : ∀ (d : Nat) (J : Nat → V) (a : Cf) (i : Nat), cl.length = i + d → Asrt β frMy (trO (slots J 0 (slMy 1 room (i : Int)))) [] (hO (lMy cl)) 1 far a →
    ∃ J' b', Asrt β frMy (trO (slots J' 0 slMyE)) [] (hO (lMy cl)) 1 far b' ∧ Steps Go.Proofs.Try.prog (At frMy none kind cs a todoMyO) (At frMy none kind cs b' [.code .ret]) := by
  intro d
  induction d with
  | zero =>
    intro J a i hd hA
    exact myExit hβ hA (by simp only [allB_iff, List.forall_mem_cons]; exact ⟨by simp; omega, fun _ hb => by cases hb⟩)
  | succ d ih =>
    intro J a i hd hA
    obtain ⟨J1, b1, h1, h2⟩ := myIn (kind := kind) (cs := cs) hβ hA (by simp only [allB_iff, List.forall_mem_cons]; exact ⟨by simp; omega, fun _ hb => by cases hb⟩)
    obtain ⟨J2, b2, h3, h4⟩ := myLoopI (kind := kind) (cs := cs) hβ hn hid (by omega) i J1 b1 0 (by omega) h1
    obtain ⟨J3, b3, h5, h6⟩ := ih J2 b2 (i + 1) (by omega) h3
    exact ⟨J3, b3, h5, (h2.trans h4).trans h6⟩

theorem may_call (hr1 : 1 ≤ room) (hr2 : room ≤ 64) (hn : cl.length ≤ 10) (hid : ∀ q, q < cl.length → (cl.getD q []).getD 0 0 = (q : Int)) : CallH Go.Proofs.Try.prog 30 [.int .i64 1, .int .i64 room, .osl 0 10] 1 (hO (lMy cl)) (.int .i64 0) 1 (hO (lMy cl)) := by
  refine callH_of (c := myBody) (t := 6) (hi := far) Go.Proofs.Try.func30 (by kernel_rfl) (Nat.blt_eq.mp (by kernel_rfl)) (by kernel_rfl) (Nat.ble_eq.mp (by kernel_rfl)) (fun m o ho => ?_) (fun m o ho hr => ?_) rfl ?_
  · have := obsOK_ok (p := fun m => Nat.blt m 1) (lMy cl) 0 (by kernel_rfl) m o ho
    rw [blt_fun] at this
    exact ⟨by simpa using this.2.1, this.2.2⟩
  · rw [noRo_ok (lMy cl) (by kernel_rfl) m o ho] at hr; cases hr
  · intro L w kind cs a hA
    obtain ⟨J1, b1, h1, h2⟩ := myStart (kind := kind) (cs := cs) rfl hA (by
      simp only [allB_iff, List.forall_mem_cons, Bool.not_eq_true', decide_eq_false_iff_not]
      and_intros <;> first | omega | (intro _ hb; cases hb))
    obtain ⟨J2, b2, h3, h4⟩ := myLoop (kind := kind) (cs := cs) rfl hn hid cl.length J1 b1 0 (by omega) h1
    exact ⟨b2, _, 1, far, _, h3, rfl, h2.trans h4, .inr ⟨[], rfl⟩⟩
end
def Named (cl : List (List Int)) : Prop := ∀ q, q < cl.length → (cl.getD q []).getD 0 0 = (q : Int)
instance (cl : List (List Int)) : Decidable (Named cl) := inferInstanceAs (Decidable (∀ q, q < cl.length → (cl.getD q []).getD 0 0 = (q : Int)))
def smMay (args : List V) (s : St) : Option (V × St) :=
  match args with
  | [.int .i64 md, .int .i64 room, .osl c es] => (rowsOfN s c es).bind fun cl => (chk (decide (md = 1))).bind fun _ => (need (decide (1 ≤ room ∧ room ≤ 64 ∧ cl.length ≤ 10 ∧ Named cl)) s).bind fun s1 => some (.int .i64 0, s1)
  | _ => none
theorem smMay_sm : SmOK Go.Proofs.Try.prog 30 smMay := by
  refine ⟨fun args s v s' h ho => ?_, Go.Proofs.Try.call30⟩
  unfold smMay at h
  split at h
  · rename_i md room c es
    obtain ⟨cl, h1, h2⟩ := bind_some' h
    obtain ⟨_, h3, h4⟩ := bind_some' h2
    obtain ⟨s1, h5, h6⟩ := bind_some' h4
    cases h6
    have hmd : md = 1 := of_decide_eq_true (chk_some h3)
    subst hmd
    obtain ⟨hg, rfl⟩ := rowsOfN_ok h1
    obtain ⟨hd, hq⟩ := need_ok h5 ho
    obtain ⟨d1, d2, d3, d4⟩ := of_decide_eq_true hd
    refine ⟨.of_same hq.1, hq.2, ?_⟩
    have := embedRO (l := lMy cl) (ac := [.int .i64 1, .int .i64 room, .osl 0 10]) (vc := .int .i64 0) (s := s') (v := .int .i64 0) (args := [.int .i64 1, .int .i64 room, .osl c 10]) (may_call d1 d2 d3 d4) (fun m hm => allSome_ok rfl m hm) (by kernel_rfl) (by kernel_rfl) [c] rfl (fun q o ho => by
      match q, ho with
      | 0, ho => cases ho; rw [hq.1.H]; exact hg) (by simp) rfl rfl
    refine CallOK.gh this (by rw [hq.1.nx]; exact Nat.le_refl _) (Nat.le_refl _) (fun D L w hSR hD hst => ⟨L, .of_same hq.1 hSR, fun L' hL' => ?_⟩)
    rw [grow_self hq.1.nx.symm] at hL'
    exact hst L' hL'
  · cases h
end Go.Sx
