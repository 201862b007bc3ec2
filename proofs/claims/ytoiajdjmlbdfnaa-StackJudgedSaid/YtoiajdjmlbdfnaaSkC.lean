/- SameInts at slices that are the same. Printed by genSame.py. -/
import Derived.Test.YtoiajdjmlbdfnaaSkB
namespace Go.Sx
set_option maxRecDepth 100000
theorem allB_iff {l : List Bool} : allB l = true ↔ ∀ b ∈ l, b = true := by
  refine ⟨allB_ok, fun h => ?_⟩
  induction l with
  | nil => rfl
  | cons x l ih =>
    simp only [allB]
    rw [h x (List.mem_cons_self ..)]
    exact ih fun b hb => h b (List.mem_cons_of_mem _ hb)
def l26 (A B : List Int) : List (Option Ob) := [some (outOb A), some (outOb B)]
noncomputable def todo26 : List Item := ((ctlN E0 (exec E0 400) ⟨26, none, 31⟩ 9 [.code (bodyOf Go.Proofs.Try.f26)] (Tr.ofList [.osl 0 1, .osl 1 1]) [] ⟨trO (l26 [1] [1]), 2, [], [], []⟩).map (·.1)).getD []
def sl26 (va vb : V) (c : Bool) (i : Int) : List (Option V) := [some va, some vb, none, none, none, some (.bool c), some (.int .i64 i)] ++ List.replicate 24 none
section
variable {β : Base} {kind : CallKind} {cs : List Frame} {J : Nat → V} {a : Cf} {A B : List Int} {i : Int}
theorem live26 : ∀ m, m < 2 → ∃ o, ((l26 A B)[m]?).join = some o := by
  intro m hm
  match m, hm with
  | 0, _ => exact ⟨_, rfl⟩
  | 1, _ => exact ⟨_, rfl⟩

theorem blt_fun {k : Nat} : (fun m => Nat.blt m k) = (fun m => decide (m < k)) := by
  funext m
  cases hb : Nat.blt m k with
  | true => exact (decide_eq_true (Nat.blt_eq.mp hb)).symm
  | false => refine (decide_eq_false fun hlt => ?_).symm; rw [Nat.blt_eq.mpr hlt] at hb; cases hb

theorem iter26_1 (hβ : β.n0 = 2) (hA : Asrt β ⟨26, none, 31⟩ (trO (slots J 0 (sl26 (.osl 0 1) (.osl 1 1) true i))) [] (hO (l26 A B)) 2 far a) (hB : allB [decide (i.toNat < B.length), decide (0 ≤ i ∧ i < ((B.length : Nat) : Int)), decide (i.toNat < A.length), decide (0 ≤ i ∧ i < ((A.length : Nat) : Int)), decide (i < ((A.length : Nat) : Int))] = true) :
    ∃ J' b', Asrt β ⟨26, none, 31⟩ (trO (slots J' 0 (sl26 (.osl 0 1) (.osl 1 1) (A.getD (i.toNat) 0 == B.getD (i.toNat) 0) (IntKind.i64.wrap (i + 1))))) [] (hO (l26 A B)) 2 far b' ∧ Steps Go.Proofs.Try.prog (At ⟨26, none, 31⟩ none kind cs a todo26) (At ⟨26, none, 31⟩ none kind cs b' todo26) :=
  Asrt.eval (n := 400) (m := 11) (orc := [(4,true),(0,true),(0,true),(0,true),(0,true)]) (πl := [0, 1]) (nx' := 2) (far := far) (todo' := todo26) (l' := l26 A B) (sl' := sl26 (.osl 0 1) (.osl 1 1) (A.getD (i.toNat) 0 == B.getD (i.toNat) 0) (IntKind.i64.wrap (i + 1))) E0_ok S0_ok kind cs hA
    (by kernel_rfl) hB rfl rfl rfl rfl rfl (fun m => Nat.blt m 2) (p_ok rfl live26) (fun m hm => by rw [hβ] at hm; exact Nat.blt_eq.mpr (by omega)) (by rw [hβ]; kernel_rfl) (by kernel_rfl) (by kernel_rfl)

theorem exit26_1 (hβ : β.n0 = 2) (hA : Asrt β ⟨26, none, 31⟩ (trO (slots J 0 (sl26 (.osl 0 1) (.osl 1 1) true i))) [] (hO (l26 A B)) 2 far a) (hx : ¬ i < (((A.length) : Nat) : Int)) :
    ∃ J' b', Asrt β ⟨26, none, 31⟩ (trO (slots J' 0 ([none, none, none, none, some (.bool true)] ++ List.replicate 26 none))) [] (hO (l26 A B)) 2 far b' ∧ Steps Go.Proofs.Try.prog (At ⟨26, none, 31⟩ none kind cs a todo26) (At ⟨26, none, 31⟩ none kind cs b' [.code .ret]) :=
  Asrt.eval (n := 400) (m := 7) (orc := [(4,false)]) (πl := [0, 1]) (nx' := 2) (far := far) (todo' := [.code .ret]) (l' := l26 A B) (sl' := [none, none, none, none, some (.bool true)] ++ List.replicate 26 none) (B := allB [!(decide (i < (((A.length) : Nat) : Int)))]) E0_ok S0_ok kind cs hA
    (by kernel_rfl) (by simp only [allB, decide_eq_false hx]; rfl) rfl rfl rfl rfl rfl (fun m => Nat.blt m 2) (p_ok rfl live26) (fun m hm => by rw [hβ] at hm; exact Nat.blt_eq.mpr (by omega)) (by rw [hβ]; kernel_rfl) (by kernel_rfl) (by kernel_rfl)

theorem start26_1 (hβ : β.n0 = 2) (hA : Asrt β ⟨26, none, 31⟩ (Tr.ofList [.osl 0 1, .osl 1 1]) [] (hO (l26 A B)) 2 far a) (hl : (A.length) = (B.length)) :
    ∃ J' b', Asrt β ⟨26, none, 31⟩ (trO (slots J' 0 (sl26 (.osl 0 1) (.osl 1 1) true 0))) [] (hO (l26 A B)) 2 far b' ∧ Steps Go.Proofs.Try.prog (At ⟨26, none, 31⟩ none kind cs a [.code (bodyOf Go.Proofs.Try.f26)]) (At ⟨26, none, 31⟩ none kind cs b' todo26) := by
  have h := Asrt.eval (todo := [.code (bodyOf Go.Proofs.Try.f26)]) (n := 400) (m := 9) (orc := []) (πl := [0, 1]) (nx' := 2) (far := far) (todo' := todo26) (l' := l26 A B) (sl' := sl26 (.osl 0 1) (.osl 1 1) ((((A.length) : Nat) : Int) == (((B.length) : Nat) : Int)) 0) (B := true) E0_ok S0_ok kind cs hA
    (by kernel_rfl) rfl rfl rfl rfl rfl rfl (fun m => Nat.blt m 2) (p_ok rfl live26) (fun m hm => by rw [hβ] at hm; exact Nat.blt_eq.mpr (by omega)) (by rw [hβ]; kernel_rfl) (by kernel_rfl) (by kernel_rfl)
  have he : ((((A.length) : Nat) : Int) == (((B.length) : Nat) : Int)) = true := by rw [hl]; exact beq_self_eq_true _
  rw [he] at h
  exact h

theorem loop26_1 (hβ : β.n0 = 2) (hsa : A.length ≤ 1000) (hAB : A = B) : ∀ (k : Nat) (J : Nat → V) (a : Cf) (q : Nat), q ≤ (A.length) → (A.length) ≤ q + k → Asrt β ⟨26, none, 31⟩ (trO (slots J 0 (sl26 (.osl 0 1) (.osl 1 1) true (q : Int)))) [] (hO (l26 A B)) 2 far a →
    ∃ J' b', Asrt β ⟨26, none, 31⟩ (trO (slots J' 0 ([none, none, none, none, some (.bool true)] ++ List.replicate 26 none))) [] (hO (l26 A B)) 2 far b' ∧ Steps Go.Proofs.Try.prog (At ⟨26, none, 31⟩ none kind cs a todo26) (At ⟨26, none, 31⟩ none kind cs b' [.code .ret]) := by
  have hl : (A.length) = (B.length) := by rw [hAB]
  intro k
  induction k with
  | zero => intro J a q h1 h2 hA; exact exit26_1 hβ hA (by omega)
  | succ k ih =>
    intro J a q h1 h2 hA
    by_cases h : (q : Int) < (((A.length) : Nat) : Int)
    · obtain ⟨J1, b1, g1, g2⟩ := iter26_1 (kind := kind) (cs := cs) hβ hA (by
        rw [allB_iff]
        simp only [List.forall_mem_cons, decide_eq_true_eq, Int.toNat_natCast]
        refine ⟨?_, ?_, ?_, ?_, ?_, fun _ hb => by cases hb⟩ <;> omega)
      have he : (A.getD (((q : Nat) : Int).toNat) 0 == B.getD (((q : Nat) : Int).toNat) 0) = true := by
        simp only [Int.toNat_natCast]
        simp [hAB]
      have hw : IntKind.i64.wrap ((q : Int) + 1) = ((q + 1 : Nat) : Int) := by rw [wrap_i64 (by omega) (by omega)]; rfl
      rw [he, hw] at g1
      obtain ⟨J2, b2, g3, g4⟩ := ih J1 b1 (q + 1) (by omega) (by omega) g1
      exact ⟨J2, b2, g3, g2.trans g4⟩
    · exact exit26_1 hβ hA h

theorem same_1 (hsa : A.length ≤ 1000) (hAB : A = B) : CallH Go.Proofs.Try.prog 26 [.osl 0 1, .osl 1 1] 2 (hO (l26 A B)) (.bool true) 2 (hO (l26 A B)) := by
  refine callH_of (c := bodyOf Go.Proofs.Try.f26) (t := 4) (hi := far) Go.Proofs.Try.func26 (by kernel_rfl) (Nat.blt_eq.mp (by kernel_rfl)) (by kernel_rfl) (Nat.ble_eq.mp (by kernel_rfl)) (fun m o ho => ?_) (fun m o ho hr => ?_) rfl ?_
  · have := obsOK_ok (p := fun m => Nat.blt m 2) (l26 A B) 0 (by kernel_rfl) m o ho
    rw [blt_fun] at this
    exact ⟨by simpa using this.2.1, this.2.2⟩
  · rw [noRo_ok (l26 A B) (by kernel_rfl) m o ho] at hr; cases hr
  · intro L w kind cs a hA
    have hl : (A.length) = (B.length) := by rw [hAB]
    obtain ⟨J1, b1, h1, h2⟩ := start26_1 (kind := kind) (cs := cs) rfl hA hl
    obtain ⟨J2, b2, h3, h4⟩ := loop26_1 (kind := kind) (cs := cs) rfl hsa hAB 1000 J1 b1 0 (by omega) (by omega) h1
    exact ⟨b2, _, 2, far, [.code .ret], h3, rfl, h2.trans h4, .inr ⟨[], rfl⟩⟩

theorem iter26_2 (hβ : β.n0 = 2) (hA : Asrt β ⟨26, none, 31⟩ (trO (slots J 0 (sl26 (.osl 0 1) (.osv 1 1 1 (B.length - 1)) true i))) [] (hO (l26 A B)) 2 far a) (hB : allB [decide (1 + i.toNat < B.length), decide (1 + (B.length - 1) ≤ B.length), decide (0 ≤ i ∧ i < ((B.length - 1 : Nat) : Int)), decide (i.toNat < A.length), decide (0 ≤ i ∧ i < ((A.length : Nat) : Int)), decide (i < ((A.length : Nat) : Int))] = true) :
    ∃ J' b', Asrt β ⟨26, none, 31⟩ (trO (slots J' 0 (sl26 (.osl 0 1) (.osv 1 1 1 (B.length - 1)) (A.getD (i.toNat) 0 == B.getD (1 + i.toNat) 0) (IntKind.i64.wrap (i + 1))))) [] (hO (l26 A B)) 2 far b' ∧ Steps Go.Proofs.Try.prog (At ⟨26, none, 31⟩ none kind cs a todo26) (At ⟨26, none, 31⟩ none kind cs b' todo26) :=
  Asrt.eval (n := 400) (m := 11) (orc := [(4,true),(0,true),(0,true),(0,true),(0,true),(0,true)]) (πl := [0, 1]) (nx' := 2) (far := far) (todo' := todo26) (l' := l26 A B) (sl' := sl26 (.osl 0 1) (.osv 1 1 1 (B.length - 1)) (A.getD (i.toNat) 0 == B.getD (1 + i.toNat) 0) (IntKind.i64.wrap (i + 1))) E0_ok S0_ok kind cs hA
    (by kernel_rfl) hB rfl rfl rfl rfl rfl (fun m => Nat.blt m 2) (p_ok rfl live26) (fun m hm => by rw [hβ] at hm; exact Nat.blt_eq.mpr (by omega)) (by rw [hβ]; kernel_rfl) (by kernel_rfl) (by kernel_rfl)

theorem exit26_2 (hβ : β.n0 = 2) (hA : Asrt β ⟨26, none, 31⟩ (trO (slots J 0 (sl26 (.osl 0 1) (.osv 1 1 1 (B.length - 1)) true i))) [] (hO (l26 A B)) 2 far a) (hx : ¬ i < (((A.length) : Nat) : Int)) :
    ∃ J' b', Asrt β ⟨26, none, 31⟩ (trO (slots J' 0 ([none, none, none, none, some (.bool true)] ++ List.replicate 26 none))) [] (hO (l26 A B)) 2 far b' ∧ Steps Go.Proofs.Try.prog (At ⟨26, none, 31⟩ none kind cs a todo26) (At ⟨26, none, 31⟩ none kind cs b' [.code .ret]) :=
  Asrt.eval (n := 400) (m := 7) (orc := [(4,false)]) (πl := [0, 1]) (nx' := 2) (far := far) (todo' := [.code .ret]) (l' := l26 A B) (sl' := [none, none, none, none, some (.bool true)] ++ List.replicate 26 none) (B := allB [!(decide (i < (((A.length) : Nat) : Int)))]) E0_ok S0_ok kind cs hA
    (by kernel_rfl) (by simp only [allB, decide_eq_false hx]; rfl) rfl rfl rfl rfl rfl (fun m => Nat.blt m 2) (p_ok rfl live26) (fun m hm => by rw [hβ] at hm; exact Nat.blt_eq.mpr (by omega)) (by rw [hβ]; kernel_rfl) (by kernel_rfl) (by kernel_rfl)

theorem start26_2 (hβ : β.n0 = 2) (hA : Asrt β ⟨26, none, 31⟩ (Tr.ofList [.osl 0 1, .osv 1 1 1 (B.length - 1)]) [] (hO (l26 A B)) 2 far a) (hl : (A.length) = (B.length - 1)) :
    ∃ J' b', Asrt β ⟨26, none, 31⟩ (trO (slots J' 0 (sl26 (.osl 0 1) (.osv 1 1 1 (B.length - 1)) true 0))) [] (hO (l26 A B)) 2 far b' ∧ Steps Go.Proofs.Try.prog (At ⟨26, none, 31⟩ none kind cs a [.code (bodyOf Go.Proofs.Try.f26)]) (At ⟨26, none, 31⟩ none kind cs b' todo26) := by
  have h := Asrt.eval (todo := [.code (bodyOf Go.Proofs.Try.f26)]) (n := 400) (m := 9) (orc := []) (πl := [0, 1]) (nx' := 2) (far := far) (todo' := todo26) (l' := l26 A B) (sl' := sl26 (.osl 0 1) (.osv 1 1 1 (B.length - 1)) ((((A.length) : Nat) : Int) == (((B.length - 1) : Nat) : Int)) 0) (B := true) E0_ok S0_ok kind cs hA
    (by kernel_rfl) rfl rfl rfl rfl rfl rfl (fun m => Nat.blt m 2) (p_ok rfl live26) (fun m hm => by rw [hβ] at hm; exact Nat.blt_eq.mpr (by omega)) (by rw [hβ]; kernel_rfl) (by kernel_rfl) (by kernel_rfl)
  have he : ((((A.length) : Nat) : Int) == (((B.length - 1) : Nat) : Int)) = true := by rw [hl]; exact beq_self_eq_true _
  rw [he] at h
  exact h

theorem loop26_2 (hβ : β.n0 = 2) (hsa : A.length ≤ 1000) (hne : B ≠ []) (hAB : A = B.drop 1) : ∀ (k : Nat) (J : Nat → V) (a : Cf) (q : Nat), q ≤ (A.length) → (A.length) ≤ q + k → Asrt β ⟨26, none, 31⟩ (trO (slots J 0 (sl26 (.osl 0 1) (.osv 1 1 1 (B.length - 1)) true (q : Int)))) [] (hO (l26 A B)) 2 far a →
    ∃ J' b', Asrt β ⟨26, none, 31⟩ (trO (slots J' 0 ([none, none, none, none, some (.bool true)] ++ List.replicate 26 none))) [] (hO (l26 A B)) 2 far b' ∧ Steps Go.Proofs.Try.prog (At ⟨26, none, 31⟩ none kind cs a todo26) (At ⟨26, none, 31⟩ none kind cs b' [.code .ret]) := by
  have hl : (A.length) = (B.length - 1) := by rw [hAB]; simp
  intro k
  induction k with
  | zero => intro J a q h1 h2 hA; exact exit26_2 hβ hA (by omega)
  | succ k ih =>
    intro J a q h1 h2 hA
    by_cases h : (q : Int) < (((A.length) : Nat) : Int)
    · have hpos : 0 < B.length := List.length_pos_iff.2 hne
      obtain ⟨J1, b1, g1, g2⟩ := iter26_2 (kind := kind) (cs := cs) hβ hA (by
        rw [allB_iff]
        simp only [List.forall_mem_cons, decide_eq_true_eq, Int.toNat_natCast]
        refine ⟨?_, ?_, ?_, ?_, ?_, ?_, fun _ hb => by cases hb⟩ <;> omega)
      have he : (A.getD (((q : Nat) : Int).toNat) 0 == B.getD (1 + ((q : Nat) : Int).toNat) 0) = true := by
        simp only [Int.toNat_natCast]
        simp [hAB, List.getD_eq_getElem?_getD, Nat.add_comm]
      have hw : IntKind.i64.wrap ((q : Int) + 1) = ((q + 1 : Nat) : Int) := by rw [wrap_i64 (by omega) (by omega)]; rfl
      rw [he, hw] at g1
      obtain ⟨J2, b2, g3, g4⟩ := ih J1 b1 (q + 1) (by omega) (by omega) g1
      exact ⟨J2, b2, g3, g2.trans g4⟩
    · exact exit26_2 hβ hA h

theorem same_2 (hsa : A.length ≤ 1000) (hne : B ≠ []) (hAB : A = B.drop 1) : CallH Go.Proofs.Try.prog 26 [.osl 0 1, .osv 1 1 1 (B.length - 1)] 2 (hO (l26 A B)) (.bool true) 2 (hO (l26 A B)) := by
  refine callH_of (c := bodyOf Go.Proofs.Try.f26) (t := 4) (hi := far) Go.Proofs.Try.func26 (by kernel_rfl) (Nat.blt_eq.mp (by kernel_rfl)) (by kernel_rfl) (Nat.ble_eq.mp (by kernel_rfl)) (fun m o ho => ?_) (fun m o ho hr => ?_) rfl ?_
  · have := obsOK_ok (p := fun m => Nat.blt m 2) (l26 A B) 0 (by kernel_rfl) m o ho
    rw [blt_fun] at this
    exact ⟨by simpa using this.2.1, this.2.2⟩
  · rw [noRo_ok (l26 A B) (by kernel_rfl) m o ho] at hr; cases hr
  · intro L w kind cs a hA
    have hl : (A.length) = (B.length - 1) := by rw [hAB]; simp
    obtain ⟨J1, b1, h1, h2⟩ := start26_2 (kind := kind) (cs := cs) rfl hA hl
    obtain ⟨J2, b2, h3, h4⟩ := loop26_2 (kind := kind) (cs := cs) rfl hsa hne hAB 1000 J1 b1 0 (by omega) (by omega) h1
    exact ⟨b2, _, 2, far, [.code .ret], h3, rfl, h2.trans h4, .inr ⟨[], rfl⟩⟩

theorem iter26_3 (hβ : β.n0 = 2) (hA : Asrt β ⟨26, none, 31⟩ (trO (slots J 0 (sl26 (.osv 0 1 1 (A.length - 1)) (.osl 1 1) true i))) [] (hO (l26 A B)) 2 far a) (hB : allB [decide (i.toNat < B.length), decide (0 ≤ i ∧ i < ((B.length : Nat) : Int)), decide (1 + i.toNat < A.length), decide (1 + (A.length - 1) ≤ A.length), decide (0 ≤ i ∧ i < ((A.length - 1 : Nat) : Int)), decide (i < ((A.length - 1 : Nat) : Int))] = true) :
    ∃ J' b', Asrt β ⟨26, none, 31⟩ (trO (slots J' 0 (sl26 (.osv 0 1 1 (A.length - 1)) (.osl 1 1) (A.getD (1 + i.toNat) 0 == B.getD (i.toNat) 0) (IntKind.i64.wrap (i + 1))))) [] (hO (l26 A B)) 2 far b' ∧ Steps Go.Proofs.Try.prog (At ⟨26, none, 31⟩ none kind cs a todo26) (At ⟨26, none, 31⟩ none kind cs b' todo26) :=
  Asrt.eval (n := 400) (m := 11) (orc := [(4,true),(0,true),(0,true),(0,true),(0,true),(0,true)]) (πl := [0, 1]) (nx' := 2) (far := far) (todo' := todo26) (l' := l26 A B) (sl' := sl26 (.osv 0 1 1 (A.length - 1)) (.osl 1 1) (A.getD (1 + i.toNat) 0 == B.getD (i.toNat) 0) (IntKind.i64.wrap (i + 1))) E0_ok S0_ok kind cs hA
    (by kernel_rfl) hB rfl rfl rfl rfl rfl (fun m => Nat.blt m 2) (p_ok rfl live26) (fun m hm => by rw [hβ] at hm; exact Nat.blt_eq.mpr (by omega)) (by rw [hβ]; kernel_rfl) (by kernel_rfl) (by kernel_rfl)

theorem exit26_3 (hβ : β.n0 = 2) (hA : Asrt β ⟨26, none, 31⟩ (trO (slots J 0 (sl26 (.osv 0 1 1 (A.length - 1)) (.osl 1 1) true i))) [] (hO (l26 A B)) 2 far a) (hx : ¬ i < (((A.length - 1) : Nat) : Int)) :
    ∃ J' b', Asrt β ⟨26, none, 31⟩ (trO (slots J' 0 ([none, none, none, none, some (.bool true)] ++ List.replicate 26 none))) [] (hO (l26 A B)) 2 far b' ∧ Steps Go.Proofs.Try.prog (At ⟨26, none, 31⟩ none kind cs a todo26) (At ⟨26, none, 31⟩ none kind cs b' [.code .ret]) :=
  Asrt.eval (n := 400) (m := 7) (orc := [(4,false)]) (πl := [0, 1]) (nx' := 2) (far := far) (todo' := [.code .ret]) (l' := l26 A B) (sl' := [none, none, none, none, some (.bool true)] ++ List.replicate 26 none) (B := allB [!(decide (i < (((A.length - 1) : Nat) : Int)))]) E0_ok S0_ok kind cs hA
    (by kernel_rfl) (by simp only [allB, decide_eq_false hx]; rfl) rfl rfl rfl rfl rfl (fun m => Nat.blt m 2) (p_ok rfl live26) (fun m hm => by rw [hβ] at hm; exact Nat.blt_eq.mpr (by omega)) (by rw [hβ]; kernel_rfl) (by kernel_rfl) (by kernel_rfl)

theorem start26_3 (hβ : β.n0 = 2) (hA : Asrt β ⟨26, none, 31⟩ (Tr.ofList [.osv 0 1 1 (A.length - 1), .osl 1 1]) [] (hO (l26 A B)) 2 far a) (hl : (A.length - 1) = (B.length)) :
    ∃ J' b', Asrt β ⟨26, none, 31⟩ (trO (slots J' 0 (sl26 (.osv 0 1 1 (A.length - 1)) (.osl 1 1) true 0))) [] (hO (l26 A B)) 2 far b' ∧ Steps Go.Proofs.Try.prog (At ⟨26, none, 31⟩ none kind cs a [.code (bodyOf Go.Proofs.Try.f26)]) (At ⟨26, none, 31⟩ none kind cs b' todo26) := by
  have h := Asrt.eval (todo := [.code (bodyOf Go.Proofs.Try.f26)]) (n := 400) (m := 9) (orc := []) (πl := [0, 1]) (nx' := 2) (far := far) (todo' := todo26) (l' := l26 A B) (sl' := sl26 (.osv 0 1 1 (A.length - 1)) (.osl 1 1) ((((A.length - 1) : Nat) : Int) == (((B.length) : Nat) : Int)) 0) (B := true) E0_ok S0_ok kind cs hA
    (by kernel_rfl) rfl rfl rfl rfl rfl rfl (fun m => Nat.blt m 2) (p_ok rfl live26) (fun m hm => by rw [hβ] at hm; exact Nat.blt_eq.mpr (by omega)) (by rw [hβ]; kernel_rfl) (by kernel_rfl) (by kernel_rfl)
  have he : ((((A.length - 1) : Nat) : Int) == (((B.length) : Nat) : Int)) = true := by rw [hl]; exact beq_self_eq_true _
  rw [he] at h
  exact h

theorem loop26_3 (hβ : β.n0 = 2) (hsb : B.length ≤ 1000) (hne : A ≠ []) (hAB : A.drop 1 = B) : ∀ (k : Nat) (J : Nat → V) (a : Cf) (q : Nat), q ≤ (A.length - 1) → (A.length - 1) ≤ q + k → Asrt β ⟨26, none, 31⟩ (trO (slots J 0 (sl26 (.osv 0 1 1 (A.length - 1)) (.osl 1 1) true (q : Int)))) [] (hO (l26 A B)) 2 far a →
    ∃ J' b', Asrt β ⟨26, none, 31⟩ (trO (slots J' 0 ([none, none, none, none, some (.bool true)] ++ List.replicate 26 none))) [] (hO (l26 A B)) 2 far b' ∧ Steps Go.Proofs.Try.prog (At ⟨26, none, 31⟩ none kind cs a todo26) (At ⟨26, none, 31⟩ none kind cs b' [.code .ret]) := by
  have hl : (A.length - 1) = (B.length) := by rw [← hAB]; simp
  intro k
  induction k with
  | zero => intro J a q h1 h2 hA; exact exit26_3 hβ hA (by omega)
  | succ k ih =>
    intro J a q h1 h2 hA
    by_cases h : (q : Int) < (((A.length - 1) : Nat) : Int)
    · have hpos : 0 < A.length := List.length_pos_iff.2 hne
      obtain ⟨J1, b1, g1, g2⟩ := iter26_3 (kind := kind) (cs := cs) hβ hA (by
        rw [allB_iff]
        simp only [List.forall_mem_cons, decide_eq_true_eq, Int.toNat_natCast]
        refine ⟨?_, ?_, ?_, ?_, ?_, ?_, fun _ hb => by cases hb⟩ <;> omega)
      have he : (A.getD (1 + ((q : Nat) : Int).toNat) 0 == B.getD (((q : Nat) : Int).toNat) 0) = true := by
        simp only [Int.toNat_natCast]
        simp [← hAB, List.getD_eq_getElem?_getD, Nat.add_comm]
      have hw : IntKind.i64.wrap ((q : Int) + 1) = ((q + 1 : Nat) : Int) := by rw [wrap_i64 (by omega) (by omega)]; rfl
      rw [he, hw] at g1
      obtain ⟨J2, b2, g3, g4⟩ := ih J1 b1 (q + 1) (by omega) (by omega) g1
      exact ⟨J2, b2, g3, g2.trans g4⟩
    · exact exit26_3 hβ hA h

theorem same_3 (hsb : B.length ≤ 1000) (hne : A ≠ []) (hAB : A.drop 1 = B) : CallH Go.Proofs.Try.prog 26 [.osv 0 1 1 (A.length - 1), .osl 1 1] 2 (hO (l26 A B)) (.bool true) 2 (hO (l26 A B)) := by
  refine callH_of (c := bodyOf Go.Proofs.Try.f26) (t := 4) (hi := far) Go.Proofs.Try.func26 (by kernel_rfl) (Nat.blt_eq.mp (by kernel_rfl)) (by kernel_rfl) (Nat.ble_eq.mp (by kernel_rfl)) (fun m o ho => ?_) (fun m o ho hr => ?_) rfl ?_
  · have := obsOK_ok (p := fun m => Nat.blt m 2) (l26 A B) 0 (by kernel_rfl) m o ho
    rw [blt_fun] at this
    exact ⟨by simpa using this.2.1, this.2.2⟩
  · rw [noRo_ok (l26 A B) (by kernel_rfl) m o ho] at hr; cases hr
  · intro L w kind cs a hA
    have hl : (A.length - 1) = (B.length) := by rw [← hAB]; simp
    obtain ⟨J1, b1, h1, h2⟩ := start26_3 (kind := kind) (cs := cs) rfl hA hl
    obtain ⟨J2, b2, h3, h4⟩ := loop26_3 (kind := kind) (cs := cs) rfl hsb hne hAB 1000 J1 b1 0 (by omega) (by omega) h1
    exact ⟨b2, _, 2, far, [.code .ret], h3, rfl, h2.trans h4, .inr ⟨[], rfl⟩⟩
end
end Go.Sx
