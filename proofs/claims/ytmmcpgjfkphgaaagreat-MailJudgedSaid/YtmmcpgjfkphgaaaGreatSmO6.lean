/- can: its contract. -/
import Derived.Test.YtmmcpgjfkphgaaaGreatSmO5
namespace Go.Sx
set_option maxRecDepth 100000
/-- What can does with one call. -/
def cnStep (cl : List (List Int)) (room : Int) (f : Nat) (F D N : List Int) (i : Nat) : Bool :=
  cond (cond (decide (N.length = 0)) true (decide ((i : Int) = N.getD 0 0))) (cond (readyP cl D i) (cond (cnIs cl room F i) (canP cl room f ((cnG cl room F i).2.1.drop (cnG cl room F i).2.2) (D ++ [(i : Int)]) (N.drop 1)) false) false) false
theorem canP_succ (cl : List (List Int)) (room : Int) (f : Nat) (F D N : List Int) : canP cl room (f + 1) F D N = cond (cond (decide (N.length = 0)) (!(leftP cl.length D)) false) true ((List.range cl.length).any (cnStep cl room f F D N)) := rfl

theorem fifoS_fit {room : Int} {Q : List Int} {k w : Int} (h : (Q.length : Int) ≤ room) : (((fifoS room Q k w).2.1.drop (fifoS room Q k w).2.2).length : Int) ≤ room := by
  unfold fifoS
  split
  · simpa using h
  · rename_i h1
    split
    · rename_i h2
      have : ¬ (Q.length : Int) = room := fun e => h1 ⟨h2, e⟩
      simp; omega
    · split
      · simpa using h
      · split
        · simpa using h
        · simp; omega

theorem readyP_notin {cl : List (List Int)} {D : List Int} {i : Nat} (h : readyP cl D i = true) : ¬ (i : Int) ∈ D := by
  intro hm
  simp only [readyP, decide_eq_true hm, cond_true] at h
  cases h

theorem CanPre.next {cl : List (List Int)} {room : Int} {F D N : List Int} {i : Nat} (h : CanPre cl room F D N) (hi : i < cl.length) (hr : readyP cl D i = true) : CanPre cl room ((cnG cl room F i).2.1.drop (cnG cl room F i).2.2) (D ++ [(i : Int)]) (N.drop 1) where
  ended := h.ended
  many := h.many
  room1 := h.room1
  room2 := h.room2
  kinds := h.kinds
  fit := fifoS_fit h.fit
  dn := by
    rw [List.nodup_append]
    refine ⟨h.dn, by simp, fun x hx y hy e => ?_⟩
    simp at hy
    subst hy; subst e
    exact readyP_notin hr hx
  dr := fun x hx => by
    rcases List.mem_append.1 hx with hx | hx
    · exact h.dr x hx
    · simp at hx; subst hx; exact ⟨by omega, by omega⟩
  nl := by have := h.nl; simp; omega
theorem CanPre.len {cl : List (List Int)} {room : Int} {F D N : List Int} (h : CanPre cl room F D N) : D.length ≤ cl.length := by
  have := nodup_int h.dn h.dr; omega

section
variable {β : Base} {kind : CallKind} {cs : List Frame} {J : Nat → V} {a : Cf} {cl : List (List Int)} {Fw Dw Nw : List Int} {bf sf lf bd sd ld bn sn ln K : Nat} {room : Int}

theorem part_whole (l : List Int) : part l 0 l.length = l := by simp [part]
theorem cnD_eq (i : Int) : cnD Dw sd ld i = part Dw sd ld ++ [i] := rfl

theorem cnIterE {i : Nat} (hβ : β.n0 = 4) (hS : SumOK Go.Proofs.Tryz.prog (F2 K)) (hA : Asrt β frCn (trO (slots J 0 (slC room bd sd ld bn sn ln (i : Int)))) [] (hO (lCan5 cl Fw Dw Nw bf sf lf)) 5 far a)
    (hf : sf + lf ≤ Fw.length) (hd : sd + ld ≤ Dw.length) (hn : sn + ln ≤ Nw.length) (hp : CanPre cl room (part Fw sf lf) (part Dw sd ld) (part Nw sn ln)) (hK : cl.length + 1 - ld ≤ K + 1) (hi : i < cl.length) (h0 : ln = 0) :
    (cnStep cl room (cl.length - ld) (part Fw sf lf) (part Dw sd ld) (part Nw sn ln) i = true ∧ ∃ J' b', Asrt β frCn (trO (slots J' 0 (slCE true))) [] (hO (lCan cl Fw Dw Nw)) 4 far b' ∧ Steps Go.Proofs.Tryz.prog (At frCn none kind cs a todoC) (At frCn none kind cs b' todoCT)) ∨
    (cnStep cl room (cl.length - ld) (part Fw sf lf) (part Dw sd ld) (part Nw sn ln) i = false ∧ ∃ J' b', Asrt β frCn (trO (slots J' 0 (slC room bd sd ld bn sn ln (IntKind.i64.wrap ((i : Int) + 1))))) [] (hO (lCan5 cl Fw Dw Nw bf sf lf)) 5 far b' ∧ Steps Go.Proofs.Tryz.prog (At frCn none kind cs a todoC) (At frCn none kind cs b' todoC)) := by
  have hld := part_length hd
  have hlf := part_length hf
  have hln := part_length hn
  have hlen := hp.len
  rw [hld] at hlen
  have hm := hp.many
  have hE := hp.ended
  have hk := hp.kinds i hi
  have hfit := hp.fit
  rw [hlf] at hfit
  have hr1 := hp.room1
  have hr2 := hp.room2
  have he := hE i hi
  have hN : part Nw sn ln = [] := List.length_eq_zero_iff.1 (by rw [hln, h0])
  cases hr : readyP cl (part Dw sd ld) i with
  | false =>
    refine .inr ⟨by simp only [cnStep, hr, cond_false]; cases (cond (decide ((part Nw sn ln).length = 0)) true (decide ((i : Int) = (part Nw sn ln).getD 0 0))) <;> rfl, cnSkipE hβ hS hA ?_⟩
    simp only [allB_iff, List.forall_mem_append, List.forall_mem_cons, List.forall_mem_replicate, Int.toNat_natCast, hr, decide_eq_true_eq, Bool.not_false, Bool.not_eq_true', decide_eq_false_iff_not]
    and_intros <;> first | trivial | assumption | omega | (intro _ hb; cases hb)
  | true =>
    have hsel : cond (decide ((part Nw sn ln).length = 0)) true (decide ((i : Int) = (part Nw sn ln).getD 0 0)) = true := by rw [decide_eq_true (by rw [hln, h0]), cond_true]
    have hfuel : cl.length + 1 - (cnD Dw sd ld (i : Int)).length = cl.length - ld := by rw [cnD_eq]; simp only [List.length_append, hld, List.length_singleton]; omega
    cases his : cnIs cl room (part Fw sf lf) i with
    | false =>
      refine .inr ⟨by simp only [cnStep, hsel, hr, his, cond_true, cond_false], cnGoIE hβ hS hA ?_⟩
      simp only [allB_iff, List.forall_mem_append, List.forall_mem_cons, List.forall_mem_replicate, Int.toNat_natCast, hr, his, decide_eq_true_eq, Bool.not_false, Bool.not_true, Bool.not_eq_true', decide_eq_false_iff_not]
      and_intros <;> first | trivial | assumption | omega | (intro _ hb; cases hb) | (right; assumption)
    | true =>
      have hrow : part (cnRow cl room (part Fw sf lf) i) (cnSt cl room (part Fw sf lf) i) (cnLn cl room (part Fw sf lf) i) = (cnG cl room (part Fw sf lf) i).2.1.drop (cnG cl room (part Fw sf lf) i).2.2 := by
        have e1 : cnRow cl room (part Fw sf lf) i = (cnG cl room (part Fw sf lf) i).2.1 := by simp only [cnRow, his, cond_true]
        have e2 : cnSt cl room (part Fw sf lf) i = (cnG cl room (part Fw sf lf) i).2.2 := by simp only [cnSt, his, cond_true]
        have e3 : cnLn cl room (part Fw sf lf) i = (cnG cl room (part Fw sf lf) i).2.1.length - (cnG cl room (part Fw sf lf) i).2.2 := by simp only [cnLn, his, cond_true]
        rw [e1, e2, e3]
        exact List.take_of_length_le (Nat.le_of_eq (List.length_drop ..))
      have hstep : cnStep cl room (cl.length - ld) (part Fw sf lf) (part Dw sd ld) (part Nw sn ln) i = canP cl room (cl.length + 1 - (cnD Dw sd ld (i : Int)).length) (part (cnRow cl room (part Fw sf lf) i) (cnSt cl room (part Fw sf lf) i) (cnLn cl room (part Fw sf lf) i)) (part (cnD Dw sd ld (i : Int)) 0 (cnD Dw sd ld (i : Int)).length) (part Nw sn ln) := by
        simp only [cnStep, hsel, hr, his, cond_true]
        rw [hfuel, hrow, part_whole, hN, cnD_eq]; rfl
      have hpre : CanPre cl room (part (cnRow cl room (part Fw sf lf) i) (cnSt cl room (part Fw sf lf) i) (cnLn cl room (part Fw sf lf) i)) (part (cnD Dw sd ld (i : Int)) 0 (cnD Dw sd ld (i : Int)).length) (part Nw sn ln) ∧ cl.length + 1 - (cnD Dw sd ld (i : Int)).length ≤ K := by
        refine ⟨?_, by rw [hfuel]; omega⟩
        have := hp.next hi hr
        rw [hrow, part_whole, hN, cnD_eq]
        rw [hN] at this
        exact this
      have hin : cnSt cl room (part Fw sf lf) i + cnLn cl room (part Fw sf lf) i ≤ (cnRow cl room (part Fw sf lf) i).length := by
        simp only [cnRow, cnSt, cnLn, his, cond_true]
        have : (cnG cl room (part Fw sf lf) i).2.2 ≤ (cnG cl room (part Fw sf lf) i).2.1.length := by
          unfold cnG fifoS
          split
          · exact Nat.zero_le _
          · split
            · exact Nat.zero_le _
            · split
              · exact Nat.zero_le _
              · split
                · exact Nat.zero_le _
                · rename_i h1 _; show 1 ≤ (part Fw sf lf).length; omega
        omega
      have hlD : ([] ++ (Dw.drop sd).take ld : List Int).length = ld := hld
      cases hc : canP cl room (cl.length + 1 - (cnD Dw sd ld (i : Int)).length) (part (cnRow cl room (part Fw sf lf) i) (cnSt cl room (part Fw sf lf) i) (cnLn cl room (part Fw sf lf) i)) (part (cnD Dw sd ld (i : Int)) 0 (cnD Dw sd ld (i : Int)).length) (part Nw sn ln) with
      | true =>
        rw [hc] at hstep
        refine .inl ⟨hstep, cnGoTE hβ hS hA ?_⟩
        simp only [allB_iff, List.forall_mem_append, List.forall_mem_cons, List.forall_mem_replicate, Int.toNat_natCast, hr, his, hc, hlD, propB_iff, List.length_nil, List.length_singleton, decide_eq_true_eq, Bool.not_false, Bool.not_true, Bool.not_eq_true', decide_eq_false_iff_not]
        and_intros <;> first | trivial | assumption | omega | (intro _ hb; cases hb) | (right; assumption) | exact hpre.1 | exact hpre.2
      | false =>
        rw [hc] at hstep
        refine .inr ⟨hstep, cnGoCE hβ hS hA ?_⟩
        simp only [allB_iff, List.forall_mem_append, List.forall_mem_cons, List.forall_mem_replicate, Int.toNat_natCast, hr, his, hc, hlD, propB_iff, List.length_nil, List.length_singleton, decide_eq_true_eq, Bool.not_false, Bool.not_true, Bool.not_eq_true', decide_eq_false_iff_not]
        and_intros <;> first | trivial | assumption | omega | (intro _ hb; cases hb) | (right; assumption) | exact hpre.1 | exact hpre.2
theorem cnIterN {i : Nat} (hβ : β.n0 = 4) (hS : SumOK Go.Proofs.Tryz.prog (F2 K)) (hA : Asrt β frCn (trO (slots J 0 (slC room bd sd ld bn sn ln (i : Int)))) [] (hO (lCan5 cl Fw Dw Nw bf sf lf)) 5 far a)
    (hf : sf + lf ≤ Fw.length) (hd : sd + ld ≤ Dw.length) (hn : sn + ln ≤ Nw.length) (hp : CanPre cl room (part Fw sf lf) (part Dw sd ld) (part Nw sn ln)) (hK : cl.length + 1 - ld ≤ K + 1) (hi : i < cl.length) (h0 : ln ≠ 0) :
    (cnStep cl room (cl.length - ld) (part Fw sf lf) (part Dw sd ld) (part Nw sn ln) i = true ∧ ∃ J' b', Asrt β frCn (trO (slots J' 0 (slCE true))) [] (hO (lCan cl Fw Dw Nw)) 4 far b' ∧ Steps Go.Proofs.Tryz.prog (At frCn none kind cs a todoC) (At frCn none kind cs b' todoCT)) ∨
    (cnStep cl room (cl.length - ld) (part Fw sf lf) (part Dw sd ld) (part Nw sn ln) i = false ∧ ∃ J' b', Asrt β frCn (trO (slots J' 0 (slC room bd sd ld bn sn ln (IntKind.i64.wrap ((i : Int) + 1))))) [] (hO (lCan5 cl Fw Dw Nw bf sf lf)) 5 far b' ∧ Steps Go.Proofs.Tryz.prog (At frCn none kind cs a todoC) (At frCn none kind cs b' todoC)) := by
  have hld := part_length hd
  have hlf := part_length hf
  have hln := part_length hn
  have hlen := hp.len
  rw [hld] at hlen
  have hm := hp.many
  have hE := hp.ended
  have hk := hp.kinds i hi
  have hfit := hp.fit
  rw [hlf] at hfit
  have hr1 := hp.room1
  have hr2 := hp.room2
  have he := hE i hi
  have hN : part Nw (sn + Int.toNat 1) (ln - Int.toNat 1) = (part Nw sn ln).drop 1 := by
    simp only [part, Int.toNat_one]
    rw [List.drop_take, List.drop_drop]
  have hw : (part Nw sn ln).getD 0 0 = Nw.getD (sn + Int.toNat 0) 0 := by rw [part_getD hn (by omega)]; rfl
  by_cases hsl : (i : Int) = Nw.getD (sn + Int.toNat 0) 0
  case neg =>
    refine .inr ⟨by simp only [cnStep, hw, decide_eq_false hsl, decide_eq_false (show ¬ (part Nw sn ln).length = 0 by rw [hln]; exact h0), cond_false], cnSkipN hβ hS hA ?_⟩
    have hne : ((i : Int) != Nw.getD (sn + Int.toNat 0) 0) = true := by simpa using hsl
    simp only [allB_iff, List.forall_mem_append, List.forall_mem_cons, List.forall_mem_replicate, Int.toNat_natCast, hne, decide_eq_true_eq]
    and_intros <;> first | trivial | assumption | omega | (intro _ hb; cases hb) | (simp only [Int.toNat_zero]; omega)
  have heq : ((i : Int) != Nw.getD (sn + Int.toNat 0) 0) = false := by rw [← hsl]; simp
  cases hr : readyP cl (part Dw sd ld) i with
  | false =>
    refine .inr ⟨by simp only [cnStep, hr, cond_false]; cases (cond (decide ((part Nw sn ln).length = 0)) true (decide ((i : Int) = (part Nw sn ln).getD 0 0))) <;> rfl, cnSkipR hβ hS hA ?_⟩
    simp only [allB_iff, List.forall_mem_append, List.forall_mem_cons, List.forall_mem_replicate, Int.toNat_natCast, hr, heq, decide_eq_true_eq, Bool.not_false, Bool.not_eq_true', decide_eq_false_iff_not]
    and_intros <;> first | trivial | assumption | omega | (intro _ hb; cases hb) | (simp only [Int.toNat_zero]; omega)
  | true =>
    have hsel : cond (decide ((part Nw sn ln).length = 0)) true (decide ((i : Int) = (part Nw sn ln).getD 0 0)) = true := by rw [decide_eq_false (by rw [hln]; exact h0), cond_false, hw]; exact decide_eq_true hsl
    have hfuel : cl.length + 1 - (cnD Dw sd ld (i : Int)).length = cl.length - ld := by rw [cnD_eq]; simp only [List.length_append, hld, List.length_singleton]; omega
    cases his : cnIs cl room (part Fw sf lf) i with
    | false =>
      refine .inr ⟨by simp only [cnStep, hsel, hr, his, cond_true, cond_false], cnGoIN hβ hS hA ?_⟩
      simp only [allB_iff, List.forall_mem_append, List.forall_mem_cons, List.forall_mem_replicate, Int.toNat_natCast, hr, heq, his, decide_eq_true_eq, Bool.not_false, Bool.not_true, Bool.not_eq_true', decide_eq_false_iff_not]
      and_intros <;> first | trivial | assumption | omega | (intro _ hb; cases hb) | (right; assumption) | (intro z hz; simp at hz; omega) | (simp only [Int.toNat_zero, Int.toNat_one]; omega)
    | true =>
      have hrow : part (cnRow cl room (part Fw sf lf) i) (cnSt cl room (part Fw sf lf) i) (cnLn cl room (part Fw sf lf) i) = (cnG cl room (part Fw sf lf) i).2.1.drop (cnG cl room (part Fw sf lf) i).2.2 := by
        have e1 : cnRow cl room (part Fw sf lf) i = (cnG cl room (part Fw sf lf) i).2.1 := by simp only [cnRow, his, cond_true]
        have e2 : cnSt cl room (part Fw sf lf) i = (cnG cl room (part Fw sf lf) i).2.2 := by simp only [cnSt, his, cond_true]
        have e3 : cnLn cl room (part Fw sf lf) i = (cnG cl room (part Fw sf lf) i).2.1.length - (cnG cl room (part Fw sf lf) i).2.2 := by simp only [cnLn, his, cond_true]
        rw [e1, e2, e3]
        exact List.take_of_length_le (Nat.le_of_eq (List.length_drop ..))
      have hstep : cnStep cl room (cl.length - ld) (part Fw sf lf) (part Dw sd ld) (part Nw sn ln) i = canP cl room (cl.length + 1 - (cnD Dw sd ld (i : Int)).length) (part (cnRow cl room (part Fw sf lf) i) (cnSt cl room (part Fw sf lf) i) (cnLn cl room (part Fw sf lf) i)) (part (cnD Dw sd ld (i : Int)) 0 (cnD Dw sd ld (i : Int)).length) (part Nw (sn + Int.toNat 1) (ln - Int.toNat 1)) := by
        simp only [cnStep, hsel, hr, his, cond_true]
        rw [hfuel, hrow, part_whole, hN, cnD_eq]
      have hpre : CanPre cl room (part (cnRow cl room (part Fw sf lf) i) (cnSt cl room (part Fw sf lf) i) (cnLn cl room (part Fw sf lf) i)) (part (cnD Dw sd ld (i : Int)) 0 (cnD Dw sd ld (i : Int)).length) (part Nw (sn + Int.toNat 1) (ln - Int.toNat 1)) ∧ cl.length + 1 - (cnD Dw sd ld (i : Int)).length ≤ K := by
        refine ⟨?_, by rw [hfuel]; omega⟩
        have := hp.next hi hr
        rw [hrow, part_whole, hN, cnD_eq]
        exact this
      have hin : cnSt cl room (part Fw sf lf) i + cnLn cl room (part Fw sf lf) i ≤ (cnRow cl room (part Fw sf lf) i).length := by
        simp only [cnRow, cnSt, cnLn, his, cond_true]
        have : (cnG cl room (part Fw sf lf) i).2.2 ≤ (cnG cl room (part Fw sf lf) i).2.1.length := by
          unfold cnG fifoS
          split
          · exact Nat.zero_le _
          · split
            · exact Nat.zero_le _
            · split
              · exact Nat.zero_le _
              · split
                · exact Nat.zero_le _
                · rename_i h1 _; show 1 ≤ (part Fw sf lf).length; omega
        omega
      have hlD : ([] ++ (Dw.drop sd).take ld : List Int).length = ld := hld
      cases hc : canP cl room (cl.length + 1 - (cnD Dw sd ld (i : Int)).length) (part (cnRow cl room (part Fw sf lf) i) (cnSt cl room (part Fw sf lf) i) (cnLn cl room (part Fw sf lf) i)) (part (cnD Dw sd ld (i : Int)) 0 (cnD Dw sd ld (i : Int)).length) (part Nw (sn + Int.toNat 1) (ln - Int.toNat 1)) with
      | true =>
        rw [hc] at hstep
        refine .inl ⟨hstep, cnGoTN hβ hS hA ?_⟩
        simp only [allB_iff, List.forall_mem_append, List.forall_mem_cons, List.forall_mem_replicate, Int.toNat_natCast, hr, heq, his, hc, hlD, propB_iff, List.length_nil, List.length_singleton, decide_eq_true_eq, Bool.not_false, Bool.not_true, Bool.not_eq_true', decide_eq_false_iff_not]
        and_intros <;> first | trivial | assumption | omega | (intro _ hb; cases hb) | (right; assumption) | (intro z hz; simp at hz; omega) | (simp only [Int.toNat_zero, Int.toNat_one]; omega) | exact hpre.1 | exact hpre.2
      | false =>
        rw [hc] at hstep
        refine .inr ⟨hstep, cnGoCN hβ hS hA ?_⟩
        simp only [allB_iff, List.forall_mem_append, List.forall_mem_cons, List.forall_mem_replicate, Int.toNat_natCast, hr, heq, his, hc, hlD, propB_iff, List.length_nil, List.length_singleton, decide_eq_true_eq, Bool.not_false, Bool.not_true, Bool.not_eq_true', decide_eq_false_iff_not]
        and_intros <;> first | trivial | assumption | omega | (intro _ hb; cases hb) | (right; assumption) | (intro z hz; simp at hz; omega) | (simp only [Int.toNat_zero, Int.toNat_one]; omega) | exact hpre.1 | exact hpre.2

theorem cnLoop (hβ : β.n0 = 4) (hS : SumOK Go.Proofs.Tryz.prog (F2 K)) (hf : sf + lf ≤ Fw.length) (hd : sd + ld ≤ Dw.length) (hn : sn + ln ≤ Nw.length) (hp : CanPre cl room (part Fw sf lf) (part Dw sd ld) (part Nw sn ln)) (hK : cl.length + 1 - ld ≤ K + 1) :
    ∀ (d : Nat) (J : Nat → V) (a : Cf) (i : Nat), cl.length = i + d → (∀ q, q < i → cnStep cl room (cl.length - ld) (part Fw sf lf) (part Dw sd ld) (part Nw sn ln) q = false) →
      Asrt β frCn (trO (slots J 0 (slC room bd sd ld bn sn ln (i : Int)))) [] (hO (lCan5 cl Fw Dw Nw bf sf lf)) 5 far a →
      ∃ J' b' todo, Asrt β frCn (trO (slots J' 0 (slCE ((List.range cl.length).any (cnStep cl room (cl.length - ld) (part Fw sf lf) (part Dw sd ld) (part Nw sn ln)))))) [] (hO (lCan cl Fw Dw Nw)) 4 far b' ∧ Steps Go.Proofs.Tryz.prog (At frCn none kind cs a todoC) (At frCn none kind cs b' todo) ∧ ∃ k, todo = .code .ret :: k := by
  have hm := hp.many
  intro d
  induction d with
  | zero =>
    intro J a i hid hno hA
    obtain ⟨J', b', h1, h2⟩ := cnExit (kind := kind) (cs := cs) hβ hS hA (by simp only [allB_iff, List.forall_mem_cons]; exact ⟨by simp; omega, fun _ hb => by cases hb⟩)
    have hfa : (List.range cl.length).any (cnStep cl room (cl.length - ld) (part Fw sf lf) (part Dw sd ld) (part Nw sn ln)) = false := by
      rw [List.any_eq_false]
      intro q hq
      simp only [List.mem_range] at hq
      rw [hno q (by omega)]
      simp
    rw [← hfa] at h1
    exact ⟨J', b', _, h1, h2, [], rfl⟩
  | succ d ih =>
    intro J a i hid hno hA
    have key : (cnStep cl room (cl.length - ld) (part Fw sf lf) (part Dw sd ld) (part Nw sn ln) i = true ∧ ∃ J' b', Asrt β frCn (trO (slots J' 0 (slCE true))) [] (hO (lCan cl Fw Dw Nw)) 4 far b' ∧ Steps Go.Proofs.Tryz.prog (At frCn none kind cs a todoC) (At frCn none kind cs b' todoCT)) ∨
        (cnStep cl room (cl.length - ld) (part Fw sf lf) (part Dw sd ld) (part Nw sn ln) i = false ∧ ∃ J' b', Asrt β frCn (trO (slots J' 0 (slC room bd sd ld bn sn ln (IntKind.i64.wrap ((i : Int) + 1))))) [] (hO (lCan5 cl Fw Dw Nw bf sf lf)) 5 far b' ∧ Steps Go.Proofs.Tryz.prog (At frCn none kind cs a todoC) (At frCn none kind cs b' todoC)) := by
      by_cases h0 : ln = 0
      · exact cnIterE hβ hS hA hf hd hn hp hK (by omega) h0
      · exact cnIterN hβ hS hA hf hd hn hp hK (by omega) h0
    rcases key with ⟨ht, J', b', h1, h2⟩ | ⟨ht, J1, b1, h1, h2⟩
    · have hfa : (List.range cl.length).any (cnStep cl room (cl.length - ld) (part Fw sf lf) (part Dw sd ld) (part Nw sn ln)) = true := by
        rw [List.any_eq_true]
        exact ⟨i, List.mem_range.2 (by omega), ht⟩
      rw [← hfa] at h1
      exact ⟨J', b', _, h1, h2, _, rfl⟩
    · rw [wrap_i64 (by omega) (by omega)] at h1
      obtain ⟨J2, b2, todo, h3, h4, h5⟩ := ih J1 b1 (i + 1) (by omega) (fun q hq => by
        by_cases hqi : q = i
        · subst hqi; exact ht
        · exact hno q (by omega)) (by exact_mod_cast h1)
      exact ⟨J2, b2, todo, h3, h2.trans h4, h5⟩

theorem can_step (hS : SumOK Go.Proofs.Tryz.prog (F2 K)) (hf : sf + lf ≤ Fw.length) (hd : sd + ld ≤ Dw.length) (hn : sn + ln ≤ Nw.length) (hp : CanPre cl room (part Fw sf lf) (part Dw sd ld) (part Nw sn ln)) (hK : cl.length + 1 - ld ≤ K + 1) :
    CallH Go.Proofs.Tryz.prog 27 (canArgs room bf sf lf bd sd ld bn sn ln) 4 (hO (lCan cl Fw Dw Nw)) (.bool (canP cl room (cl.length + 1 - ld) (part Fw sf lf) (part Dw sd ld) (part Nw sn ln))) 4 (hO (lCan cl Fw Dw Nw)) := by
  have hld := part_length hd
  have hln := part_length hn
  have hlen := hp.len
  rw [hld] at hlen
  have hm := hp.many
  have hE := hp.ended
  refine callH_of (c := cnBody) (t := 12) (hi := far) Go.Proofs.Tryz.func27 (by kernel_rfl) (Nat.blt_eq.mp (by kernel_rfl)) (by kernel_rfl) (Nat.ble_eq.mp (by kernel_rfl)) (fun m o ho => ?_) (fun m o ho hr => ?_) rfl ?_
  · have := obsOK_ok (p := fun m => Nat.blt m 4) (lCan cl Fw Dw Nw) 0 (by kernel_rfl) m o ho
    rw [blt_fun] at this
    exact ⟨by simpa using this.2.1, this.2.2⟩
  · rw [noRo_ok (lCan cl Fw Dw Nw) (by kernel_rfl) m o ho] at hr; cases hr
  · intro L w kind cs a hA
    have hfu : cl.length + 1 - ld = (cl.length - ld) + 1 := by omega
    rw [hfu, canP_succ]
    have go : ∀ (J1 : Nat → V) (b1 : Cf), cond (decide ((part Nw sn ln).length = 0)) (!(leftP cl.length (part Dw sd ld))) false = false → Asrt ⟨w, Handed (hO (lCan cl Fw Dw Nw)) L, 4, L⟩ frCn (trO (slots J1 0 (slC room bd sd ld bn sn ln 0))) [] (hO (lCan5 cl Fw Dw Nw bf sf lf)) 5 far b1 → Steps Go.Proofs.Tryz.prog (At frCn none kind cs a [.code cnBody]) (At frCn none kind cs b1 todoC) →
        ∃ (b : Cf) (T' : Tr V) (nx' hi' : Nat) (todo : List Item), Asrt ⟨w, Handed (hO (lCan cl Fw Dw Nw)) L, 4, L⟩ frCn T' [] (hO (lCan cl Fw Dw Nw)) nx' hi' b ∧ (T'.get 12).getD undefV = .bool (cond (cond (decide ((part Nw sn ln).length = 0)) (!(leftP cl.length (part Dw sd ld))) false) true ((List.range cl.length).any (cnStep cl room (cl.length - ld) (part Fw sf lf) (part Dw sd ld) (part Nw sn ln)))) ∧
          Steps Go.Proofs.Tryz.prog (At frCn none kind cs a [.code cnBody]) (At frCn none kind cs b todo) ∧ (todo = [] ∨ ∃ k, todo = .code .ret :: k) := by
      intro J1 b1 hz h1 h2
      obtain ⟨J2, b2, todo, h3, h4, h5⟩ := cnLoop (kind := kind) (cs := cs) rfl hS hf hd hn hp hK cl.length J1 b1 0 (by omega) (fun q hq => absurd hq (Nat.not_lt_zero _)) h1
      rw [hz]
      exact ⟨b2, _, 4, far, todo, h3, rfl, h2.trans h4, .inr h5⟩
    by_cases h0 : ln = 0
    · have hz0 : decide ((part Nw sn ln).length = 0) = true := by rw [hln, decide_eq_true h0]
      cases hl : leftP cl.length (part Dw sd ld) with
      | false =>
        obtain ⟨J1, b1, h1, h2⟩ := cnStD (kind := kind) (cs := cs) rfl hS hA (by
          simp only [allB_iff, List.forall_mem_cons, hl, decide_eq_true_eq, Bool.not_false]
          and_intros <;> first | trivial | assumption | omega | (intro _ hb; cases hb) | (simp [h0]))
        rw [hz0]
        exact ⟨b1, _, 4, far, _, h1, rfl, h2, .inr ⟨_, rfl⟩⟩
      | true =>
        obtain ⟨J1, b1, h1, h2⟩ := cnStL (kind := kind) (cs := cs) rfl hS hA (by
          simp only [allB_iff, List.forall_mem_cons, hl, decide_eq_true_eq, Bool.not_true, Bool.not_false]
          and_intros <;> first | trivial | assumption | omega | (intro _ hb; cases hb) | (simp [h0]))
        have := go J1 b1 (by rw [hz0, hl]; rfl) h1 h2
        rw [hl] at this
        exact this
    · have hz0 : decide ((part Nw sn ln).length = 0) = false := by rw [hln, decide_eq_false h0]
      obtain ⟨J1, b1, h1, h2⟩ := cnStN (kind := kind) (cs := cs) rfl hS hA (by
        simp only [allB_iff, List.forall_mem_cons]
        exact ⟨by simp; omega, fun _ hb => by cases hb⟩)
      exact go J1 b1 (by rw [hz0]; rfl) h1 h2
end

theorem distinct4 {a b c d : Nat} (h : distinct [a, b, c, d] = true) : [a, b, c, d].Nodup := distinct_ok h

/-- The summary, as far as calls of a depth are known. -/
theorem smCan_of {K : Nat} (hK : ∀ (cl : List (List Int)) (Fw Dw Nw : List Int) (bf sf lf bd sd ld bn sn ln : Nat) (room : Int), sf + lf ≤ Fw.length → sd + ld ≤ Dw.length → sn + ln ≤ Nw.length → CanPre cl room (part Fw sf lf) (part Dw sd ld) (part Nw sn ln) → cl.length + 1 - ld ≤ K →
    CallH Go.Proofs.Tryz.prog 27 (canArgs room bf sf lf bd sd ld bn sn ln) 4 (hO (lCan cl Fw Dw Nw)) (.bool (canP cl room (cl.length + 1 - ld) (part Fw sf lf) (part Dw sd ld) (part Nw sn ln))) 4 (hO (lCan cl Fw Dw Nw))) :
    SmOK Go.Proofs.Tryz.prog 27 (smCan K) := by
  refine ⟨fun args s v s' h ho => ?_, Go.Proofs.Tryz.call27⟩
  unfold smCan at h
  split at h
  · rename_i md room c es f d x
    obtain ⟨cl, h1, h2⟩ := bind_some' h
    obtain ⟨⟨⟨mf, bf, sf, lf, Fw⟩, s1⟩, h3, h4⟩ := bind_some' h2
    obtain ⟨⟨⟨mD, bd, sd, ld, Dw⟩, s2⟩, h5, h6⟩ := bind_some' h4
    obtain ⟨⟨⟨mn, bn, sn, ln, Nw⟩, s3⟩, h7, h8⟩ := bind_some' h6
    obtain ⟨_, h9, h10⟩ := bind_some' h8
    obtain ⟨s4, h11, h12⟩ := bind_some' h10
    cases h12
    obtain ⟨hg, rfl⟩ := rowsOfN_ok h1
    obtain ⟨hd, hq⟩ := need_ok h11 ho
    obtain ⟨hp, hk⟩ := propB_iff.1 hd
    have h9' := chk_some h9
    have hmd : md = 1 := by
      by_cases e : md = 1
      · exact e
      · rw [decide_eq_false e] at h9'; cases h9'
    subst hmd
    have hnd := distinct4 (show distinct [c, mf, mD, mn] = true from h9')
    simp only [List.nodup_cons, List.mem_cons, List.not_mem_nil, or_false, not_or, not_false_eq_true, List.nodup_nil, and_true] at hnd
    obtain ⟨⟨n1, n2, n3⟩, ⟨n4, n5⟩, n6⟩ := hnd
    obtain ⟨a1, a2, a3, a4, a5, a6⟩ := nrm_ok h7 hq.2
    obtain ⟨b1, b2, b3, b4, b5, b6⟩ := nrm_ok h5 a2
    obtain ⟨c1, c2, c3, c4, c5, c6⟩ := nrm_ok h3 b2
    have e1 : s'.nx = s3.nx := hq.1.nx
    have e2 : s'.H = s3.H := hq.1.H
    refine ⟨((c1.trans b1).trans a1).trans (.of_same hq.1), c2, ?_⟩
    have gc : s'.H.get c = some (callsOb cl) := by rw [e2]; exact a5 c _ n3 (b5 c _ n2 (c5 c _ n1 hg))
    have gf : s'.H.get mf = some (rowU Fw) := by rw [e2]; exact a5 mf _ n5 (b5 mf _ n4 c3)
    have gd : s'.H.get mD = some (rowI Dw) := by rw [e2]; exact a5 mD _ n6 b3
    have gn : s'.H.get mn = some (rowI Nw) := by rw [e2]; exact a3
    have hcall : CallOK Go.Proofs.Tryz.prog 27 [.int .i64 1, .int .i64 room, .osl c 10, .agg [.osv mf 1 bf sf lf, .nils, .nils], .osv mD 1 bd sd ld, .osv mn 1 bn sn ln] s' (.bool (canP cl room (cl.length + 1 - ld) (part Fw sf lf) (part Dw sd ld) (part Nw sn ln))) s' :=
      embedRO (l := lCan cl Fw Dw Nw) (ac := canArgs room bf sf lf bd sd ld bn sn ln) (vc := .bool _) (hK cl Fw Dw Nw bf sf lf bd sd ld bn sn ln room c4 b4 a4 hp hk) (fun m hm => allSome_ok rfl m hm) (by kernel_rfl) (by kernel_rfl) [c, mf, mD, mn] rfl (fun q o ho => by
        match q, ho with
        | 0, ho => cases ho; exact gc
        | 1, ho => cases ho; exact gf
        | 2, ho => cases ho; exact gd
        | 3, ho => cases ho; exact gn) (by simp; exact ⟨⟨n1, n2, n3⟩, ⟨n4, n5⟩, n6⟩) rfl rfl
    have l1 : s.nx ≤ s1.nx := c1.le
    have l2 : s1.nx ≤ s2.nx := b1.le
    have l3 : s2.nx ≤ s3.nx := a1.le
    refine CallOK.gh hcall (by omega) (Nat.le_refl _) (fun D L w hSR hD hst => ?_)
    obtain ⟨L1, k1, k2⟩ := c6 D L w hSR (fun n hn => (hD n hn).imp id fun h => by omega)
    obtain ⟨L2, k3, k4⟩ := b6 _ L1 w k1.sr (fun n hn => by
      rcases hn with hn | hn
      · exact (hD n hn).imp (fun h => by omega) fun h => by omega
      · exact .inl hn.2)
    have k13 := k1.trans k3
    obtain ⟨L3, k5, k6⟩ := a6 _ L2 w k13.sr (fun n hn => by
      rcases hn with hn | hn
      · exact (hD n hn).imp (fun h => by omega) fun h => by omega
      · exact .inl hn.2)
    have k15 := k13.trans k5
    refine ⟨L3, ⟨by omega, k15.agree, by rw [e1, e2]; exact k15.sr, fun n o b ho => by rw [e2] at ho; exact k15.sub n o b ho, fun n o ho => by rw [e2] at ho; exact k15.ro n o ho⟩, fun L'' hL'' => ?_⟩
    rw [e1] at hL''
    have hL2 : Agree (Grow D s.nx s2.nx) L2 L'' := fun n hn => by
      rw [k5.agree n hn]
      refine hL'' n ?_
      rcases hn with hn | hn
      · exact .inl hn
      · exact .inr ⟨hn.1, by omega⟩
    have hL1 : Agree (Grow D s.nx s1.nx) L1 L'' := fun n hn => by
      rw [k3.agree n hn]
      refine hL2 n ?_
      rcases hn with hn | hn
      · exact .inl hn
      · exact .inr ⟨hn.1, by omega⟩
    have hx : (V.osv mn 1 bn sn ln).den L'' = x.den L2 := k6 L'' (by rw [grow_grow (by omega) l3]; exact hL'')
    have hd' : (V.osv mD 1 bd sd ld).den L'' = d.den L1 := k4 L'' (by rw [grow_grow l1 l2]; exact hL2)
    have hf' : (V.osv mf 1 bf sf lf).den L'' = f.den L := k2 L'' hL1
    have st1 := hst L1 k1.agree
    have st2 := hst L2 k13.agree
    have st3 := hst L'' (fun n hn => by rw [k15.agree n hn]; exact hL'' n (.inl hn))
    simp only [List.map_cons, List.map_nil, List.cons.injEq, and_true] at st1 st2 st3
    rw [st1.2.2.2.2.1] at hd'
    rw [st2.2.2.2.2.2] at hx
    simp only [List.map_cons, List.map_nil, hd', hx, st3.2.2.1]
    simp only [V.den, V.denL] at hf' ⊢
    rw [hf']
  · cases h

theorem can_all : ∀ (K : Nat) (cl : List (List Int)) (Fw Dw Nw : List Int) (bf sf lf bd sd ld bn sn ln : Nat) (room : Int), sf + lf ≤ Fw.length → sd + ld ≤ Dw.length → sn + ln ≤ Nw.length → CanPre cl room (part Fw sf lf) (part Dw sd ld) (part Nw sn ln) → cl.length + 1 - ld ≤ K →
    CallH Go.Proofs.Tryz.prog 27 (canArgs room bf sf lf bd sd ld bn sn ln) 4 (hO (lCan cl Fw Dw Nw)) (.bool (canP cl room (cl.length + 1 - ld) (part Fw sf lf) (part Dw sd ld) (part Nw sn ln))) 4 (hO (lCan cl Fw Dw Nw)) := by
  intro K
  induction K with
  | zero =>
    intro cl Fw Dw Nw bf sf lf bd sd ld bn sn ln room hf hd hn hp hK
    have := hp.len
    rw [part_length hd] at this
    omega
  | succ K ih =>
    intro cl Fw Dw Nw bf sf lf bd sd ld bn sn ln room hf hd hn hp hK
    exact can_step (sumOK_of rfl ⟨smLf_sm, smRd_sm, smNx_sm, smCan_of ih, trivial⟩) hf hd hn hp hK
theorem smCan_sm (K : Nat) : SmOK Go.Proofs.Tryz.prog 27 (smCan K) := smCan_of (can_all K)
end Go.Sx
/- may: calls with unlike names. Printed by gen_O7.py. -/
namespace Go.Sx
set_option maxRecDepth 100000
abbrev frMy : Frs := ⟨25, none, 58⟩
noncomputable def myBody : Code := bodyOf Go.Proofs.Tryz.f25
def lMy (cl : List (List Int)) : List (Option Ob) := [some (callsOb cl)]
def slMy (md room : Int) (i : Int) : List (Option V) := [some (.int .i64 md), some (.int .i64 room), some (.osl 0 10), none, none, none, none, some (.int .i64 i)] ++ List.replicate 50 none
def slMyI (md room : Int) (i k : Int) : List (Option V) := [some (.int .i64 md), some (.int .i64 room), some (.osl 0 10), none, none, none, none, some (.int .i64 i), some (.int .i64 k)] ++ List.replicate 49 none
def slMyE : List (Option V) := [none, none, none, none, none, none, some (.int .i64 0)] ++ List.replicate 51 none
noncomputable def todoMyO : List Item := ((ctlN F1 (exec F1 400) frMy 20 [.code myBody] (Tr.ofList [.int .i64 1, .int .i64 1, .osl 0 10]) [] ⟨trO (lMy []), 1, bits 15 0, [], []⟩).map (·.1)).getD []
noncomputable def todoMyI : List Item := ((ctlN F1 (exec F1 400) frMy 11 todoMyO (trO (slots (fun _ => .nilp) 0 (slMy 1 1 0))) [] ⟨trO (lMy [[]]), 1, bits 1 1, [], []⟩).map (·.1)).getD []
section
variable {β : Base} {kind : CallKind} {cs : List Frame} {J : Nat → V} {a : Cf} {cl : List (List Int)} {room i k : Int}
theorem myStart (hβ : β.n0 = 1) (hA : Asrt β frMy (Tr.ofList [.int .i64 1, .int .i64 room, .osl 0 10]) [] (hO (lMy cl)) 1 far a) (hB : allB [!(decide ((cl.length : Int) > 10)), !(decide (room > 64)), !(decide (room < 1))] = true) :
    ∃ J' b', Asrt β frMy (trO (slots J' 0 (slMy 1 room 0))) [] (hO (lMy cl)) 1 far b' ∧ Steps Go.Proofs.Tryz.prog (At frMy none kind cs a [.code myBody]) (At frMy none kind cs b' todoMyO) :=
  Asrt.eval (n := 400) (m := 20) (orc := bits 15 0b000000000000000) (πl := [0]) (nx' := 1) (far := far) (todo := [.code myBody]) (todo' := todoMyO) (l' := lMy cl) (sl' := slMy 1 room 0) F1_ok S1_ok kind cs hA
    (by kernel_rfl) hB rfl rfl rfl rfl rfl (fun m => Nat.blt m 1) (p_all rfl rfl) (fun m hm => by rw [hβ] at hm; exact Nat.blt_eq.mpr hm) (by rw [hβ]; kernel_rfl) (by kernel_rfl) (by kernel_rfl)
theorem myIn (hβ : β.n0 = 1) (hA : Asrt β frMy (trO (slots J 0 (slMy 1 room i))) [] (hO (lMy cl)) 1 far a) (hB : allB [decide (i < (cl.length : Int))] = true) :
    ∃ J' b', Asrt β frMy (trO (slots J' 0 (slMyI 1 room i 0))) [] (hO (lMy cl)) 1 far b' ∧ Steps Go.Proofs.Tryz.prog (At frMy none kind cs a todoMyO) (At frMy none kind cs b' todoMyI) :=
  Asrt.eval (n := 400) (m := 11) (orc := bits 1 0b1) (πl := [0]) (nx' := 1) (far := far) (todo := todoMyO) (todo' := todoMyI) (l' := lMy cl) (sl' := slMyI 1 room i 0) F1_ok S1_ok kind cs hA
    (by kernel_rfl) hB rfl rfl rfl rfl rfl (fun m => Nat.blt m 1) (p_all rfl rfl) (fun m hm => by rw [hβ] at hm; exact Nat.blt_eq.mpr hm) (by rw [hβ]; kernel_rfl) (by kernel_rfl) (by kernel_rfl)
theorem myExit (hβ : β.n0 = 1) (hA : Asrt β frMy (trO (slots J 0 (slMy 1 room i))) [] (hO (lMy cl)) 1 far a) (hB : allB [!(decide (i < (cl.length : Int)))] = true) :
    ∃ J' b', Asrt β frMy (trO (slots J' 0 (slMyE))) [] (hO (lMy cl)) 1 far b' ∧ Steps Go.Proofs.Tryz.prog (At frMy none kind cs a todoMyO) (At frMy none kind cs b' [.code .ret]) :=
  Asrt.eval (n := 400) (m := 7) (orc := bits 1 0b0) (πl := [0]) (nx' := 1) (far := far) (todo := todoMyO) (todo' := [.code .ret]) (l' := lMy cl) (sl' := slMyE) F1_ok S1_ok kind cs hA
    (by kernel_rfl) hB rfl rfl rfl rfl rfl (fun m => Nat.blt m 1) (p_all rfl rfl) (fun m hm => by rw [hβ] at hm; exact Nat.blt_eq.mpr hm) (by rw [hβ]; kernel_rfl) (by kernel_rfl) (by kernel_rfl)
theorem myIter (hβ : β.n0 = 1) (hA : Asrt β frMy (trO (slots J 0 (slMyI 1 room i k))) [] (hO (lMy cl)) 1 far a) (hB : allB [!((cl.getD i.toNat []).getD 0 0 == (cl.getD k.toNat []).getD 0 0), decide (k.toNat < cl.length), decide (0 ≤ k ∧ k < (cl.length : Int)), decide (i.toNat < cl.length), decide (0 ≤ i ∧ i < (cl.length : Int)), decide (k < i)] = true) :
    ∃ J' b', Asrt β frMy (trO (slots J' 0 (slMyI 1 room i (IntKind.i64.wrap (k + 1))))) [] (hO (lMy cl)) 1 far b' ∧ Steps Go.Proofs.Tryz.prog (At frMy none kind cs a todoMyI) (At frMy none kind cs b' todoMyI) :=
  Asrt.eval (n := 400) (m := 14) (orc := bits 6 0b111110) (πl := [0]) (nx' := 1) (far := far) (todo := todoMyI) (todo' := todoMyI) (l' := lMy cl) (sl' := slMyI 1 room i (IntKind.i64.wrap (k + 1))) F1_ok S1_ok kind cs hA
    (by kernel_rfl) hB rfl rfl rfl rfl rfl (fun m => Nat.blt m 1) (p_all rfl rfl) (fun m hm => by rw [hβ] at hm; exact Nat.blt_eq.mpr hm) (by rw [hβ]; kernel_rfl) (by kernel_rfl) (by kernel_rfl)
theorem myBack (hβ : β.n0 = 1) (hA : Asrt β frMy (trO (slots J 0 (slMyI 1 room i k))) [] (hO (lMy cl)) 1 far a) (hB : allB [!(decide (k < i))] = true) :
    ∃ J' b', Asrt β frMy (trO (slots J' 0 (slMy 1 room (IntKind.i64.wrap (i + 1))))) [] (hO (lMy cl)) 1 far b' ∧ Steps Go.Proofs.Tryz.prog (At frMy none kind cs a todoMyI) (At frMy none kind cs b' todoMyO) :=
  Asrt.eval (n := 400) (m := 8) (orc := bits 1 0b0) (πl := [0]) (nx' := 1) (far := far) (todo := todoMyI) (todo' := todoMyO) (l' := lMy cl) (sl' := slMy 1 room (IntKind.i64.wrap (i + 1))) F1_ok S1_ok kind cs hA
    (by kernel_rfl) hB rfl rfl rfl rfl rfl (fun m => Nat.blt m 1) (p_all rfl rfl) (fun m hm => by rw [hβ] at hm; exact Nat.blt_eq.mpr hm) (by rw [hβ]; kernel_rfl) (by kernel_rfl) (by kernel_rfl)

theorem myLoopI {i : Nat} (hβ : β.n0 = 1) (hn : cl.length ≤ 10) (hid : ∀ q, q < cl.length → ∀ p, p < q → (cl.getD p []).getD 0 0 ≠ (cl.getD q []).getD 0 0) (hi : i < cl.length) : ∀ (d : Nat) (J : Nat → V) (a : Cf) (k : Nat), i = k + d → Asrt β frMy (trO (slots J 0 (slMyI 1 room (i : Int) (k : Int)))) [] (hO (lMy cl)) 1 far a →
    ∃ J' b', Asrt β frMy (trO (slots J' 0 (slMy 1 room ((i + 1 : Nat) : Int)))) [] (hO (lMy cl)) 1 far b' ∧ Steps Go.Proofs.Tryz.prog (At frMy none kind cs a todoMyI) (At frMy none kind cs b' todoMyO) := by
  intro d
  induction d with
  | zero =>
    intro J a k hd hA
    obtain ⟨J1, b1, h1, h2⟩ := myBack (kind := kind) (cs := cs) hβ hA (by simp only [allB_iff, List.forall_mem_cons]; exact ⟨by simp; omega, fun _ hb => by cases hb⟩)
    rw [wrap_i64 (by omega) (by omega)] at h1
    exact ⟨J1, b1, by exact_mod_cast h1, h2⟩
  | succ d ih =>
    intro J a k hd hA
    obtain ⟨J1, b1, h1, h2⟩ := myIter (kind := kind) (cs := cs) hβ hA (by
      simp only [allB_iff, List.forall_mem_cons, Int.toNat_natCast, decide_eq_true_eq, Bool.not_eq_true', beq_eq_false_iff_ne]
      and_intros <;> first | exact fun h => hid i hi k (by omega) h.symm | omega | (intro _ hb; cases hb))
    rw [wrap_i64 (by omega) (by omega)] at h1
    obtain ⟨J2, b2, h3, h4⟩ := ih J1 b1 (k + 1) (by omega) (by exact_mod_cast h1)
    exact ⟨J2, b2, h3, h2.trans h4⟩

theorem myLoop (hβ : β.n0 = 1) (hn : cl.length ≤ 10) (hid : ∀ q, q < cl.length → ∀ p, p < q → (cl.getD p []).getD 0 0 ≠ (cl.getD q []).getD 0 0) : ∀ (d : Nat) (J : Nat → V) (a : Cf) (i : Nat), cl.length = i + d → Asrt β frMy (trO (slots J 0 (slMy 1 room (i : Int)))) [] (hO (lMy cl)) 1 far a →
    ∃ J' b', Asrt β frMy (trO (slots J' 0 slMyE)) [] (hO (lMy cl)) 1 far b' ∧ Steps Go.Proofs.Tryz.prog (At frMy none kind cs a todoMyO) (At frMy none kind cs b' [.code .ret]) := by
  intro d
  induction d with
  | zero =>
    intro J a i hd hA
    exact myExit hβ hA (by simp only [allB_iff, List.forall_mem_cons]; exact ⟨by simp; omega, fun _ hb => by cases hb⟩)
  | succ d ih =>
    intro J a i hd hA
    obtain ⟨J1, b1, h1, h2⟩ := myIn (kind := kind) (cs := cs) hβ hA (by simp only [allB_iff, List.forall_mem_cons]; exact ⟨by simp; omega, fun _ hb => by cases hb⟩)
    obtain ⟨J2, b2, h3, h4⟩ := myLoopI (kind := kind) (cs := cs) hβ hn hid (by omega) i J1 b1 0 (by omega) h1
    obtain ⟨J3, b3, h5, h6⟩ := ih J2 b2 (i + 1) (by omega) h3
    exact ⟨J3, b3, h5, (h2.trans h4).trans h6⟩

theorem may_call (hr1 : 1 ≤ room) (hr2 : room ≤ 64) (hn : cl.length ≤ 10) (hid : ∀ q, q < cl.length → ∀ p, p < q → (cl.getD p []).getD 0 0 ≠ (cl.getD q []).getD 0 0) : CallH Go.Proofs.Tryz.prog 25 [.int .i64 1, .int .i64 room, .osl 0 10] 1 (hO (lMy cl)) (.int .i64 0) 1 (hO (lMy cl)) := by
  refine callH_of (c := myBody) (t := 6) (hi := far) Go.Proofs.Tryz.func25 (by kernel_rfl) (Nat.blt_eq.mp (by kernel_rfl)) (by kernel_rfl) (Nat.ble_eq.mp (by kernel_rfl)) (fun m o ho => ?_) (fun m o ho hr => ?_) rfl ?_
  · have := obsOK_ok (p := fun m => Nat.blt m 1) (lMy cl) 0 (by kernel_rfl) m o ho
    rw [blt_fun] at this
    exact ⟨by simpa using this.2.1, this.2.2⟩
  · rw [noRo_ok (lMy cl) (by kernel_rfl) m o ho] at hr; cases hr
  · intro L w kind cs a hA
    obtain ⟨J1, b1, h1, h2⟩ := myStart (kind := kind) (cs := cs) rfl hA (by
      simp only [allB_iff, List.forall_mem_cons, Bool.not_eq_true', decide_eq_false_iff_not]
      and_intros <;> first | omega | (intro _ hb; cases hb))
    obtain ⟨J2, b2, h3, h4⟩ := myLoop (kind := kind) (cs := cs) rfl hn hid cl.length J1 b1 0 (by omega) h1
    exact ⟨b2, _, 1, far, _, h3, rfl, h2.trans h4, .inr ⟨[], rfl⟩⟩
end
def Named (cl : List (List Int)) : Prop := ∀ q, q < cl.length → ∀ p, p < q → (cl.getD p []).getD 0 0 ≠ (cl.getD q []).getD 0 0
instance (cl : List (List Int)) : Decidable (Named cl) := inferInstanceAs (Decidable (∀ q, q < cl.length → ∀ p, p < q → (cl.getD p []).getD 0 0 ≠ (cl.getD q []).getD 0 0))
def smMay (args : List V) (s : St) : Option (V × St) :=
  match args with
  | [.int .i64 md, .int .i64 room, .osl c es] => (rowsOfN s c es).bind fun cl => (chk (decide (md = 1))).bind fun _ => (need (decide (1 ≤ room ∧ room ≤ 64 ∧ cl.length ≤ 10 ∧ Named cl)) s).bind fun s1 => some (.int .i64 0, s1)
  | _ => none
theorem smMay_sm : SmOK Go.Proofs.Tryz.prog 25 smMay := by
  refine ⟨fun args s v s' h ho => ?_, Go.Proofs.Tryz.call25⟩
  unfold smMay at h
  split at h
  · rename_i md room c es
    obtain ⟨cl, h1, h2⟩ := bind_some' h
    obtain ⟨_, h3, h4⟩ := bind_some' h2
    obtain ⟨s1, h5, h6⟩ := bind_some' h4
    cases h6
    have hmd : md = 1 := of_decide_eq_true (chk_some h3)
    subst hmd
    obtain ⟨hg, rfl⟩ := rowsOfN_ok h1
    obtain ⟨hd, hq⟩ := need_ok h5 ho
    obtain ⟨d1, d2, d3, d4⟩ := of_decide_eq_true hd
    refine ⟨.of_same hq.1, hq.2, ?_⟩
    have := embedRO (l := lMy cl) (ac := [.int .i64 1, .int .i64 room, .osl 0 10]) (vc := .int .i64 0) (s := s') (v := .int .i64 0) (args := [.int .i64 1, .int .i64 room, .osl c 10]) (may_call d1 d2 d3 d4) (fun m hm => allSome_ok rfl m hm) (by kernel_rfl) (by kernel_rfl) [c] rfl (fun q o ho => by
      match q, ho with
      | 0, ho => cases ho; rw [hq.1.H]; exact hg) (by simp) rfl rfl
    refine CallOK.gh this (by rw [hq.1.nx]; exact Nat.le_refl _) (Nat.le_refl _) (fun D L w hSR hD hst => ⟨L, .of_same hq.1 hSR, fun L' hL' => ?_⟩)
    rw [grow_self hq.1.nx.symm] at hL'
    exact hst L' hL'
  · cases h
end Go.Sx
