/- The plain law of a ring: a Push's steps. -/
import Derived.Test.YtgldnjmnoemccaaSrR5
import Derived.Test.YtgldnjmnoemccaaSrR3b
import Derived.Test.YtgldnjmnoemccaaSrR3c
import Derived.Test.YtgldnjmnoemccaaSrR3d
namespace Go.Sx
set_option maxRecDepth 100000
abbrev of0 (S : Int) (j : MJ) (ws q : List Int) (cl : List (List Int)) (A B : Cr) (fo : FO) (dr : DO) (nx : Bool) (o2 ck pu : Int) : RS := ⟨S, j, ws, A.v, B.v, A.h, B.h, A.o, B.o, o2, q, cl, A.p, B.p, fo, dr, nx, ck, pu⟩
abbrev of1 (S : Int) (j : MJ) (ws q : List Int) (cl : List (List Int)) (A B : Cr) (fo : FO) (dr : DO) (nx : Bool) (o2 ck pu : Int) : RS := ⟨S, j, ws, B.v, A.v, B.h, A.h, B.o, A.o, o2, q, cl, B.p, A.p, fo, dr, nx, ck, pu⟩
theorem rs_len {cl : List (List Int)} {k f : Nat} {x : Int} : (rs cl k f x).length = cl.length := by unfold rs; simp
section
variable {K S ck pu o2 D P T Hd : Int} {ws q : List Int} {cl : List (List Int)} {A B : Cr} {fo : FO} {dr : DO} {nx : Bool} {lin : List Nat}
theorem Hist.effEnd {O O' : Nat → Prop} (H : Hist S cl q lin ck O) {k : Nat} {f kd w e x : Int} {q1 : List Int} {d : Nat} (hk : k < cl.length) (hr : cl.getD k [] = rowC k f (-1) kd w 0 0) (hl : ¬ k ∈ lin)
    (hf : fifoS S q kd w = ([e, 0, x], q1, d)) (hO : ∀ j, j < cl.length → j ≠ k → O j → O' j) : Hist S (cl.set k (rowC k f (ck + 1) kd w e x)) (q1.drop d) (lin ++ [k]) (ck + 1) O' := by
  have h1 := H.ans e x hk hr hl
  have h2 := h1.eff (by simpa using hk) (getD_setL hk) hl hf
  have h3 := h2.fin (O' := O') (by simpa using hk) (getD_setL hk) (by simp) (fun j hj => hO j (by simpa using hj))
  rwa [List.set_set] at h3
theorem RInv.upd (I : RInv K S ws q cl ck pu A B fo dr nx o2 D P T Hd lin) {k : Nat} {ws' q' : List Int} {cl' : List (List Int)} {ck' P' T' : Int} {A' : Cr} {lin' : List Nat} (hAo : A.o = (k : Int)) (hR : Ring S ws' q' D P' T' Hd) (hP : P ≤ P') (hP' : P' ≤ P + 1) (hT : T ≤ T') (hq : q ≠ [] → q' ≠ [])
    (hcl : cl'.length = cl.length) (hcl' : ∀ j, j ≠ k → cl'.getD j [] = cl.getD j []) (hlin : ∀ j, j ≠ k → (j ∈ lin ↔ j ∈ lin')) (hck : ck' ≤ ck + 1)
    (hH : Hist S cl' q' lin' ck' (fun j => A'.o = (j : Int) ∨ B.o = (j : Int) ∨ o2 = (j : Int))) (hA' : PCore S D P' T' cl' lin' A') (ho : A'.o = -1 ∨ A'.o = A.o) :
    RInv (K + 1) S ws' q' cl' ck' pu A' B fo dr nx o2 D P' T' Hd lin' := by
  have ha : A.o ≠ -1 := by rw [hAo]; omega
  have hb : ∀ j : Nat, B.o = (j : Int) → j ≠ k := fun j hj e => I.ab ha (by rw [hAo, hj, e])
  have ht : ∀ j : Nat, o2 = (j : Int) → j ≠ k := fun j hj e => I.at2 ha (by rw [hAo, hj, e])
  have := I.kl; have := I.kc; have := I.kp; have := I.kP
  refine ⟨hR, hH, hA', I.b.mono (Int.le_refl _) hP hT (fun j hj hl => ⟨by omega, hcl' j (hb j hj), hlin j (hb j hj)⟩), I.t.mono hq (fun j hj hl => ⟨by omega, hcl' j (ht j hj), hlin j (ht j hj)⟩), fun h => ?_, fun h => ?_, I.bt2, by omega, by omega, I.pu0, by omega, by omega⟩
  · rcases ho with ho | ho
    · exact absurd ho h
    · rw [ho]; exact I.ab ha
  · rcases ho with ho | ho
    · exact absurd ho h
    · rw [ho]; exact I.at2 ha
def PushOut (K S : Int) (ws q : List Int) (cl : List (List Int)) (ck pu : Int) (A B : Cr) (fo : FO) (dr : DO) (nx : Bool) (o2 D P T Hd : Int) (j : MJ) : Prop :=
  ∃ j' ws' q' cl' ck' A' P' T' lin', Stp 0 (of0 S j ws q cl A B fo dr nx o2 ck pu) (of0 S j' ws' q' cl' A' B fo dr nx o2 ck' pu) ∧ Stp 1 (of1 S j ws q cl A B fo dr nx o2 ck pu) (of1 S j' ws' q' cl' A' B fo dr nx o2 ck' pu) ∧
    RInv (K + 1) S ws' q' cl' ck' pu A' B fo dr nx o2 D P' T' Hd lin' ∧ cl'.length = cl.length ∧ (A'.o = -1 ∨ mu P' T' A'.p < mu P T A.p)
variable {j : MJ}
theorem push_tail {k : Nat} {e h v t w fr : Int} (I : RInv K S ws q cl ck pu ⟨.act 40 e v t w, h, v, k⟩ B fo dr nx o2 D P T Hd lin) (hk : k < cl.length) (hr : cl.getD k [] = rowC k fr (-1) 1 v 0 0) (hv : 0 ≤ v ∧ v < 65536)
    (h1 : h = 14) (h2 : ¬ k ∈ lin) : PushOut K S ws q cl ck pu ⟨.act 40 e v t w, h, v, k⟩ B fo dr nx o2 D P T Hd j := by
  have R := I.ring
  have hs1 := R.s1; have hs4 := R.s4; have hwl := R.wl
  have hB : allB [decide (1 < ws.length), decide (1 < ws.length), decide (1 < ws.length), !(decide (1 ≥ 2 + S))] = true := by
    simp only [allB_iff, List.forall_mem_cons, decide_eq_true_eq, Bool.not_eq_true', decide_eq_false_iff_not, hwl]
    (and_intros <;> first | trivial | omega | assumption | (intro _ hb; cases hb; done))
  have e1 : ws.set 1 (ws.getD 1 0) = ws := set_self (by omega)
  refine ⟨_, _, _, _, _, ⟨.act 65 e v (ws.getD 1 0) w, h, v, k⟩, P, T, lin, tail0 (by show (k : Int) ≥ 0; omega) hB, tail1 (by show (k : Int) ≥ 0; omega) hB, ?_, rfl, .inr ?_⟩
  · rw [e1, R.tail]
    exact I.upd rfl R (Int.le_refl _) (by omega) (Int.le_refl _) id rfl (fun _ _ => rfl) (fun _ _ => .rfl) (by omega) I.hist (.inr ⟨k, _, e, T, w, fr, rfl, hk, hr, hv.1, hv.2, rfl, .look h1 h2 R.t0 (Int.le_refl _)⟩) (.inr rfl)
  · rw [R.tail]
    by_cases c : T = P <;> simp [mu, c]
theorem push_look {k : Nat} {e h v t w fr : Int} (I : RInv K S ws q cl ck pu ⟨.act 65 e v t w, h, v, k⟩ B fo dr nx o2 D P T Hd lin) (hK : K ≤ 1000) (hk : k < cl.length) (hr : cl.getD k [] = rowC k fr (-1) 1 v 0 0) (hv : 0 ≤ v ∧ v < 65536)
    (h1 : h = 14) (h2 : ¬ k ∈ lin) (h3 : 0 ≤ t) (h4 : t ≤ T) : PushOut K S ws q cl ck pu ⟨.act 65 e v t w, h, v, k⟩ B fo dr nx o2 D P T Hd j := by
  have R := I.ring
  have hs1 := R.s1; have hs4 := R.s4; have hwl := R.wl; have htP := R.tP; have hkP := I.kP; have hkl := I.kl; have hd0 := R.d0; have hpT := R.pT; have hpq := R.pq
  have hp : plR S t = 2 + t % S := plR_eq hs1 hs4 h3 (by omega)
  have hl : lapR S t = t / S := lapR_eq hs1 hs4 h3 (by omega)
  have hm := mod_lt4 (m := t) hs1 hs4
  have hdv := div_le hs1 hs4 h3
  have hmS := Int.emod_lt_of_pos t (show 0 < S by omega)
  have hn : (IntKind.u64.wrap S == 0) = false := by rw [uN hs1 hs4]; exact beq_eq_false_iff_ne.2 (by omega)
  have e1 : ws.set (2 + t % S).toNat (ws.getD (2 + t % S).toNat 0) = ws := set_self (by omega)
  have hkk : (k : Int) ≥ 0 := by omega
  rcases R.sees h3 (show t ≤ P by omega) with ⟨c1, c2, c3, c4⟩ | ⟨c1, c2, c3⟩ | ⟨c1, c2, c3, c4⟩ | ⟨l, c1, c2, c3, c4⟩
  · -- full: ErrFull
    have hql : (q.length : Int) = S := by omega
    have hqv := R.qval (k := 0) (by omega)
    have hhi : hiR (ws.getD (2 + t % S).toNat 0) = t / S - 1 := by rw [c4]; exact hi_full (by omega) (by omega) hqv.1 hqv.2
    have hbt : bitR (ws.getD (2 + t % S).toNat 0) = 65536 := by rw [c4]; exact bit_full (by omega) (by omega) hqv.1 hqv.2
    have hw1 : IntKind.u32.wrap (t / S - 1) = t / S - 1 := wrap_u32 (by omega) (by omega)
    refine ⟨_, _, _, _, _, ⟨.ended 7 v t _, 7, v, -1⟩, P, T, lin ++ [k], lookF0 hkk ?_, lookF1 hkk ?_, ?_, by simp [rs_len], .inl rfl⟩
    iterate 2
      simp only [allB_iff, List.forall_mem_cons, decide_eq_true_eq, Bool.not_eq_true', decide_eq_false_iff_not, beq_iff_eq, beq_eq_false_iff_ne, ne_eq, hp, hl, hn, hhi, hbt, hw1, hwl, rs_len, Int.toNat_natCast, h1]
      (and_intros <;> first | trivial | omega | assumption | (intro _ hb; cases hb; done))
    · have e2 : IntKind.i64.wrap (ck + 1) = ck + 1 := wrap_i64 (by have := I.hist.ck0; omega) (by have := I.kc; omega)
      rw [hp, e1, Int.toNat_natCast, e2, rs4_eq hk hr]
      refine I.upd rfl R (Int.le_refl _) (by omega) (Int.le_refl _) id (by simp) (fun j hj => getD_setL_ne (fun h => hj h.symm)) (fun j hj => by simp [hj]) (by omega) ?_ (.inl rfl) (.inl rfl)
      exact I.hist.effEnd (q1 := q) (d := 0) hk hr h2 (by simp [fifoS, hql]) (fun j _ hj h => by
        rcases h with h | h | h
        · exact absurd (show k = j from by have h : (k : Int) = (j : Int) := h; omega) (fun e => hj e.symm)
        · exact .inr (.inl h)
        · exact .inr (.inr h))
  · -- full
    have hqv := R.qval (k := (t - D).toNat) (by omega)
    have hhi : hiR (ws.getD (2 + t % S).toNat 0) = t / S := by rw [c3]; exact hi_full (by omega) (by omega) hqv.1 hqv.2
    have hbt : bitR (ws.getD (2 + t % S).toNat 0) = 65536 := by rw [c3]; exact bit_full (by omega) (by omega) hqv.1 hqv.2
    have hw1 : ¬ t / S = IntKind.u32.wrap (t / S - 1) := by
      by_cases z : t / S = 0
      · rw [z]; decide
      · rw [wrap_u32 (by omega) (by omega)]; omega
    refine ⟨_, _, _, _, _, ⟨.act 82 e v t _, h, v, k⟩, P, T, lin, lookH0 hkk ?_, lookH1 hkk ?_, ?_, rfl, .inr ?_⟩
    iterate 2
      simp only [allB_iff, List.forall_mem_cons, decide_eq_true_eq, Bool.not_eq_true', decide_eq_false_iff_not, beq_iff_eq, beq_eq_false_iff_ne, ne_eq, hp, hl, hn, hhi, hbt, hwl]
      (and_intros <;> first | trivial | omega | assumption | (intro _ hb; cases hb; done))
    · rw [hp, e1]
      exact I.upd rfl R (Int.le_refl _) (by omega) (Int.le_refl _) id rfl (fun _ _ => rfl) (fun _ _ => .rfl) (by omega) I.hist (.inr ⟨k, _, e, t, _, fr, rfl, hk, hr, hv.1, hv.2, rfl, .help h1 h2 h3 h4 c2⟩) (.inr rfl)
    · have : ¬ t = P := by omega
      by_cases c : T = P ∨ T = t <;> simp [mu, c, this]
  · -- free
    have hhi : hiR (ws.getD (2 + t % S).toNat 0) = t / S := by rw [c4]; exact hi_empty (by omega) (by omega)
    have hbt : bitR (ws.getD (2 + t % S).toNat 0) = 0 := by rw [c4]; exact bit_empty (by omega) (by omega)
    refine ⟨_, _, _, _, _, ⟨.act 81 e v t _, h, v, k⟩, P, T, lin, lookL0 hkk ?_, lookL1 hkk ?_, ?_, rfl, .inr ?_⟩
    iterate 2
      simp only [allB_iff, List.forall_mem_cons, decide_eq_true_eq, Bool.not_eq_true', decide_eq_false_iff_not, beq_iff_eq, beq_eq_false_iff_ne, ne_eq, hp, hl, hn, hhi, hbt, hwl]
      (and_intros <;> first | trivial | omega | assumption | (intro _ hb; cases hb; done))
    · rw [hp, e1]
      exact I.upd rfl R (Int.le_refl _) (by omega) (Int.le_refl _) id rfl (fun _ _ => rfl) (fun _ _ => .rfl) (by omega) I.hist (.inr ⟨k, _, e, t, _, fr, rfl, hk, hr, hv.1, hv.2, rfl, .lay h1 h2 h3 h4 c4 c3⟩) (.inr rfl)
    · simp [mu, c2]
  · -- stale
    have hhi : hiR (ws.getD (2 + t % S).toNat 0) = l := by
      rcases c4 with c4 | ⟨x, x1, x2, c4⟩
      · rw [c4]; exact hi_empty (by omega) (by omega)
      · rw [c4]; exact hi_full (by omega) (by omega) x1 x2
    have hw1 : ¬ l = IntKind.u32.wrap (t / S - 1) := by
      by_cases z : t / S = 0
      · rw [z]
        have : IntKind.u32.wrap (0 - 1) = 4294967295 := by decide
        omega
      · rw [wrap_u32 (by omega) (by omega)]; omega
    have hne : ¬ l = t / S := by omega
    refine ⟨_, _, _, _, _, ⟨.act 82 e v t _, h, v, k⟩, P, T, lin, lookX0 hkk ?_, lookX1 hkk ?_, ?_, rfl, .inr ?_⟩
    iterate 2
      simp only [allB_iff, List.forall_mem_cons, decide_eq_true_eq, Bool.not_eq_true', decide_eq_false_iff_not, beq_iff_eq, beq_eq_false_iff_ne, ne_eq, hp, hl, hn, hhi, hwl]
      (and_intros <;> first | trivial | omega | assumption | (intro _ hb; cases hb; done))
    · rw [hp, e1]
      exact I.upd rfl R (Int.le_refl _) (by omega) (Int.le_refl _) id rfl (fun _ _ => rfl) (fun _ _ => .rfl) (by omega) I.hist (.inr ⟨k, _, e, t, _, fr, rfl, hk, hr, hv.1, hv.2, rfl, .help h1 h2 h3 h4 (by omega)⟩) (.inr rfl)
    · have : ¬ t = P := by omega
      by_cases c : T = P ∨ T = t <;> simp [mu, c, this]
end
end Go.Sx
/- The plain law of a ring: a Push's last steps. -/
namespace Go.Sx
set_option maxRecDepth 100000
section
variable {K S ck pu o2 D P T Hd : Int} {ws q : List Int} {cl : List (List Int)} {A B : Cr} {fo : FO} {dr : DO} {nx : Bool} {lin : List Nat} {j : MJ}
theorem push_lay {k : Nat} {e h v t w fr : Int} (I : RInv K S ws q cl ck pu ⟨.act 81 e v t w, h, v, k⟩ B fo dr nx o2 D P T Hd lin) (hK : K ≤ 1000) (hk : k < cl.length) (hr : cl.getD k [] = rowC k fr (-1) 1 v 0 0) (hv : 0 ≤ v ∧ v < 65536)
    (h1 : h = 14) (h2 : ¬ k ∈ lin) (h3 : 0 ≤ t) (h4 : t ≤ T) (h5 : w = emptyW (t / S)) (h6 : t < D + S) : PushOut K S ws q cl ck pu ⟨.act 81 e v t w, h, v, k⟩ B fo dr nx o2 D P T Hd j := by
  have R := I.ring
  have hs1 := R.s1; have hs4 := R.s4; have hwl := R.wl; have htP := R.tP; have hkP := I.kP; have hkl := I.kl; have hd0 := R.d0; have hpT := R.pT; have hpq := R.pq; have hqS := R.qS
  have hp : plR S t = 2 + t % S := plR_eq hs1 hs4 h3 (by omega)
  have hl : layW S t v = fullW (t / S) v := layW_eq hs1 hs4 h3 (by omega) hv.1 hv.2
  have hm := mod_lt4 (m := t) hs1 hs4
  have hdv := div_le hs1 hs4 h3
  have hmS := Int.emod_lt_of_pos t (show 0 < S by omega)
  have hn : (IntKind.u64.wrap S == 0) = false := by rw [uN hs1 hs4]; exact beq_eq_false_iff_ne.2 (by omega)
  have e1 : ws.set (2 + t % S).toNat (ws.getD (2 + t % S).toNat 0) = ws := set_self (by omega)
  have hkk : (k : Int) ≥ 0 := by omega
  have hfail : t < P → ws.getD (2 + t % S).toNat 0 ≠ w → PushOut K S ws q cl ck pu ⟨.act 81 e v t w, h, v, k⟩ B fo dr nx o2 D P T Hd j := fun ht hne => by
    refine ⟨_, _, _, _, _, ⟨.act 82 e v t w, h, v, k⟩, P, T, lin, layF0 hkk ?_, layF1 hkk ?_, ?_, rfl, .inr ?_⟩
    iterate 2
      simp only [allB_iff, List.forall_mem_cons, decide_eq_true_eq, Bool.not_eq_true', decide_eq_false_iff_not, beq_iff_eq, beq_eq_false_iff_ne, ne_eq, hp, hn, hwl]
      (and_intros <;> first | trivial | omega | assumption | (intro _ hb; cases hb; done))
    · rw [hp, e1]
      exact I.upd rfl R (Int.le_refl _) (by omega) (Int.le_refl _) id rfl (fun _ _ => rfl) (fun _ _ => .rfl) (by omega) I.hist (.inr ⟨k, _, e, t, _, fr, rfl, hk, hr, hv.1, hv.2, rfl, .help h1 h2 h3 h4 ht⟩) (.inr rfl)
    · have : ¬ t = P := by omega
      by_cases c : T = P ∨ T = t <;> simp [mu, c, this]
  rcases R.sees h3 (show t ≤ P by omega) with ⟨c1, c2, c3, c4⟩ | ⟨c1, c2, c3⟩ | ⟨c1, c2, c3, c4⟩ | ⟨l, c1, c2, c3, c4⟩
  · omega
  · have hqv := R.qval (k := (t - D).toNat) (by omega)
    exact hfail c2 (by rw [c3, h5]; exact full_ne_empty hqv.1 hqv.2)
  · -- it holds
    have hw : ws.getD (2 + t % S).toNat 0 = w := by rw [c4, h5]
    refine ⟨_, _, _, _, _, ⟨.act 94 e v t w, 0, v, k⟩, P + 1, T, lin ++ [k], layK0 hkk ?_, layK1 hkk ?_, ?_, rfl, .inr ?_⟩
    iterate 2
      simp only [allB_iff, List.forall_mem_cons, decide_eq_true_eq, Bool.not_eq_true', decide_eq_false_iff_not, beq_iff_eq, beq_eq_false_iff_ne, bne_eq_false_iff_eq, ne_eq, hp, hn, hwl, List.nil_append]
      (and_intros <;> first | trivial | omega | assumption | (intro _ hb; cases hb; done))
    · rw [hp, hl, List.nil_append, c2]
      have hR := R.lay (v := v) (by omega) (by omega) hv
      refine I.upd rfl hR (by omega) (by omega) (Int.le_refl _) (by simp) rfl (fun _ _ => rfl) (fun j hj => by simp [hj]) (by omega) ?_ (.inr ⟨k, _, e, P, w, fr, rfl, hk, hr, hv.1, hv.2, rfl, .last rfl (by simp) (by omega) (by omega) (by omega)⟩) (.inr rfl)
      have hf : fifoS S q 1 v = ([0, 0, 0], q ++ [v], 0) := by
        have : ¬ (q.length : Int) = S := by omega
        simp [fifoS, this]
      exact I.hist.eff hk hr h2 hf
    · simp [mu, c2]
  · refine hfail (by omega) ?_
    rw [h5]
    rcases c4 with c4 | ⟨x, x1, x2, c4⟩
    · rw [c4]; exact fun h => by have := empty_inj h; omega
    · rw [c4]; exact full_ne_empty x1 x2
theorem push_help {k : Nat} {e h v t w fr : Int} (I : RInv K S ws q cl ck pu ⟨.act 82 e v t w, h, v, k⟩ B fo dr nx o2 D P T Hd lin) (hK : K ≤ 1000) (hk : k < cl.length) (hr : cl.getD k [] = rowC k fr (-1) 1 v 0 0) (hv : 0 ≤ v ∧ v < 65536)
    (h1 : h = 14) (h2 : ¬ k ∈ lin) (h3 : 0 ≤ t) (h4 : t ≤ T) (h5 : t < P) : PushOut K S ws q cl ck pu ⟨.act 82 e v t w, h, v, k⟩ B fo dr nx o2 D P T Hd j := by
  have R := I.ring
  have hs1 := R.s1; have hs4 := R.s4; have hwl := R.wl; have htP := R.tP; have hkP := I.kP; have hpT := R.pT
  have e1 : ws.set 1 (ws.getD 1 0) = ws := set_self (by omega)
  have e2 : IntKind.u64.wrap (t + 1) = t + 1 := wrap_u64 (by omega) (by omega)
  have ht := R.tail
  have hkk : (k : Int) ≥ 0 := by omega
  by_cases c : T = t
  · refine ⟨_, _, _, _, _, ⟨.act 40 e v t w, h, v, k⟩, P, T + 1, lin, helpK0 hkk ?_, helpK1 hkk ?_, ?_, rfl, .inr ?_⟩
    iterate 2
      simp only [allB_iff, List.forall_mem_cons, decide_eq_true_eq, Bool.not_eq_true', decide_eq_false_iff_not, beq_iff_eq, beq_eq_false_iff_ne, bne_eq_false_iff_eq, ne_eq, hwl]
      (and_intros <;> first | trivial | omega | assumption | (intro _ hb; cases hb; done))
    · rw [e2, ← c]
      exact I.upd rfl (R.move (by omega)) (Int.le_refl _) (by omega) (by omega) id rfl (fun _ _ => rfl) (fun _ _ => .rfl) (by omega) I.hist (.inr ⟨k, _, e, t, _, fr, rfl, hk, hr, hv.1, hv.2, by rw [c], .tail h1 h2⟩) (.inr rfl)
    · have : T + 1 = P := by omega
      simp [mu, c, this]
      have : t + 1 = P := by omega
      simp [this]
  · refine ⟨_, _, _, _, _, ⟨.act 40 e v t w, h, v, k⟩, P, T, lin, helpF0 hkk ?_, helpF1 hkk ?_, ?_, rfl, .inr ?_⟩
    iterate 2
      simp only [allB_iff, List.forall_mem_cons, decide_eq_true_eq, Bool.not_eq_true', decide_eq_false_iff_not, beq_iff_eq, beq_eq_false_iff_ne, bne_eq_false_iff_eq, ne_eq, hwl]
      (and_intros <;> first | trivial | omega | assumption | (intro _ hb; cases hb; done))
    · rw [e1]
      exact I.upd rfl R (Int.le_refl _) (by omega) (by omega) id rfl (fun _ _ => rfl) (fun _ _ => .rfl) (by omega) I.hist (.inr ⟨k, _, e, t, _, fr, rfl, hk, hr, hv.1, hv.2, rfl, .tail h1 h2⟩) (.inr rfl)
    · by_cases d : T = P
      · simp [mu, d]
      · simp [mu, c, d]
theorem push_last {k : Nat} {e h v t w fr : Int} (I : RInv K S ws q cl ck pu ⟨.act 94 e v t w, h, v, k⟩ B fo dr nx o2 D P T Hd lin) (hK : K ≤ 1000) (hk : k < cl.length) (hr : cl.getD k [] = rowC k fr (-1) 1 v 0 0) (hv : 0 ≤ v ∧ v < 65536)
    (h1 : h = 0) (h2 : k ∈ lin) (h3 : 0 ≤ t) (h4 : t ≤ T) (h5 : t < P) : PushOut K S ws q cl ck pu ⟨.act 94 e v t w, h, v, k⟩ B fo dr nx o2 D P T Hd j := by
  have R := I.ring
  have hs1 := R.s1; have hs4 := R.s4; have hwl := R.wl; have htP := R.tP; have hkP := I.kP; have hpT := R.pT
  have e1 : ws.set 1 (ws.getD 1 0) = ws := set_self (by omega)
  have e2 : IntKind.u64.wrap (t + 1) = t + 1 := wrap_u64 (by omega) (by omega)
  have e3 : IntKind.i64.wrap (ck + 1) = ck + 1 := wrap_i64 (by have := I.hist.ck0; omega) (by have := I.kc; omega)
  have ht := R.tail
  have hkk : (k : Int) ≥ 0 := by omega
  have hH : Hist S (cl.set k (rowC k fr (ck + 1) 1 v 0 0)) q lin (ck + 1) (fun j => (-1 : Int) = (j : Int) ∨ B.o = (j : Int) ∨ o2 = (j : Int)) := I.hist.fin hk hr h2 (fun j _ hj h => by
    rcases h with h | h | h
    · exact absurd (show k = j from by have h : (k : Int) = (j : Int) := h; omega) (fun e => hj e.symm)
    · exact .inr (.inl h)
    · exact .inr (.inr h))
  by_cases c : T = t
  · refine ⟨_, _, _, _, _, ⟨.ended 0 v t w, h, v, -1⟩, P, T + 1, lin, lastK0 hkk ?_, lastK1 hkk ?_, ?_, by simp [rs_len], .inl rfl⟩
    iterate 2
      simp only [allB_iff, List.forall_mem_cons, decide_eq_true_eq, Bool.not_eq_true', Bool.not_not, Bool.not_eq_false', decide_eq_false_iff_not, beq_iff_eq, beq_eq_false_iff_ne, bne_eq_false_iff_eq, ne_eq, hwl, rs_len, Int.toNat_natCast, h1]
      (and_intros <;> first | trivial | omega | assumption | (intro _ hb; cases hb; done))
    · rw [e2, ← c, e3, Int.toNat_natCast, rs4_eq hk hr]
      exact I.upd rfl (R.move (by omega)) (Int.le_refl _) (by omega) (by omega) id (by simp) (fun j hj => getD_setL_ne (fun h => hj h.symm)) (fun _ _ => .rfl) (by omega) hH (.inl rfl) (.inl rfl)
  · refine ⟨_, _, _, _, _, ⟨.ended 0 v t w, h, v, -1⟩, P, T, lin, lastF0 hkk ?_, lastF1 hkk ?_, ?_, by simp [rs_len], .inl rfl⟩
    iterate 2
      simp only [allB_iff, List.forall_mem_cons, decide_eq_true_eq, Bool.not_eq_true', Bool.not_not, Bool.not_eq_false', decide_eq_false_iff_not, beq_iff_eq, beq_eq_false_iff_ne, bne_eq_false_iff_eq, ne_eq, hwl, rs_len, Int.toNat_natCast, h1]
      (and_intros <;> first | trivial | omega | assumption | (intro _ hb; cases hb; done))
    · rw [e1, e3, Int.toNat_natCast, rs4_eq hk hr]
      exact I.upd rfl R (Int.le_refl _) (by omega) (by omega) id (by simp) (fun j hj => getD_setL_ne (fun h => hj h.symm)) (fun _ _ => .rfl) (by omega) hH (.inl rfl) (.inl rfl)
/-- A Push's step. -/
theorem push_step (I : RInv K S ws q cl ck pu A B fo dr nx o2 D P T Hd lin) (hK : K ≤ 1000) (hb : A.o ≠ -1) : PushOut K S ws q cl ck pu A B fo dr nx o2 D P T Hd j := by
  rcases I.a with h | ⟨k, f, e, t, w, fr, g1, g2, g3, g4, g5, g6, g7⟩
  · exact absurd h hb
  · obtain ⟨p, h, v, o⟩ := A
    simp only at g1 g3 g4 g5 g6 g7
    subst g1; subst g6
    cases g7 with
    | tail a b => exact push_tail I g2 g3 ⟨g4, g5⟩ a b
    | look a b c d => exact push_look I hK g2 g3 ⟨g4, g5⟩ a b c d
    | lay a b c d x y => exact push_lay I hK g2 g3 ⟨g4, g5⟩ a b c d x y
    | help a b c d x => exact push_help I hK g2 g3 ⟨g4, g5⟩ a b c d x
    | last a b c d x => exact push_last I hK g2 g3 ⟨g4, g5⟩ a b c d x
theorem mu_le (p : PO) : mu P T p ≤ 9 := by
  unfold mu
  split
  · split
    · decide
    · split
      · split <;> decide
      · split
        · split <;> decide
        · split
          · split <;> decide
          · split <;> decide
  · decide
end
end Go.Sx
/- The plain law of a ring: the steps of the core that takes. -/
namespace Go.Sx
set_option maxRecDepth 100000
/-- How many steps the core that takes makes alone, at the most. -/
def tmu (fo : FO) (dr : DO) (nx : Bool) : Nat :=
  cond nx (match dr with | .act f _ _ => if f = 67 then 2 else 1 | _ => 0) (match fo with | .act f _ _ _ => if f = 56 then 2 else 1 | _ => 0)
section
variable {K S ck pu o2 D P T Hd : Int} {ws q : List Int} {cl : List (List Int)} {A B : Cr} {fo : FO} {dr : DO} {nx : Bool} {lin : List Nat} {j : MJ}
theorem RInv.updT (I : RInv K S ws q cl ck pu A B fo dr nx o2 D P T Hd lin) {k : Nat} {ws' q' : List Int} {cl' : List (List Int)} {ck' D' Hd' o2' : Int} {fo' : FO} {dr' : DO} {nx' : Bool} {lin' : List Nat} (hAo : o2 = (k : Int)) (hR : Ring S ws' q' D' P T Hd') (hD : D ≤ D')
    (hcl : cl'.length = cl.length) (hcl' : ∀ j, j ≠ k → cl'.getD j [] = cl.getD j []) (hlin : ∀ j, j ≠ k → (j ∈ lin ↔ j ∈ lin')) (hck : ck' ≤ ck + 1)
    (hH : Hist S cl' q' lin' ck' (fun j => A.o = (j : Int) ∨ B.o = (j : Int) ∨ o2' = (j : Int))) (hT : TCore D' Hd' q' cl' lin' fo' dr' nx' o2') (ho : o2' = -1 ∨ o2' = o2) :
    RInv (K + 1) S ws' q' cl' ck' pu A B fo' dr' nx' o2' D' P T Hd' lin' := by
  have ha : ∀ j : Nat, A.o = (j : Int) → j ≠ k := fun j hj e => I.at2 (by rw [hj]; omega) (by rw [hAo, hj, e])
  have hb : ∀ j : Nat, B.o = (j : Int) → j ≠ k := fun j hj e => I.bt2 (by rw [hj]; omega) (by rw [hAo, hj, e])
  have := I.kl; have := I.kc; have := I.kp; have := I.kP
  refine ⟨hR, hH, I.a.mono hD (Int.le_refl _) (Int.le_refl _) (fun j hj hl => ⟨by omega, hcl' j (ha j hj), hlin j (ha j hj)⟩), I.b.mono hD (Int.le_refl _) (Int.le_refl _) (fun j hj hl => ⟨by omega, hcl' j (hb j hj), hlin j (hb j hj)⟩), hT, I.ab, fun h => ?_, fun h => ?_, by omega, by omega, I.pu0, by omega, by omega⟩
  · rcases ho with ho | ho
    · rw [ho]; exact h
    · rw [ho]; exact I.at2 h
  · rcases ho with ho | ho
    · rw [ho]; exact h
    · rw [ho]; exact I.bt2 h
def TakeOut (K S : Int) (ws q : List Int) (cl : List (List Int)) (ck pu : Int) (A B : Cr) (fo : FO) (dr : DO) (nx : Bool) (o2 P T : Int) (j : MJ) : Prop :=
  ∃ j' ws' q' cl' ck' fo' dr' nx' o2' D' Hd' lin', Stp 2 (of0 S j ws q cl A B fo dr nx o2 ck pu) (of0 S j' ws' q' cl' A B fo' dr' nx' o2' ck' pu) ∧
    RInv (K + 1) S ws' q' cl' ck' pu A B fo' dr' nx' o2' D' P T Hd' lin' ∧ cl'.length = cl.length ∧ (o2' = -1 ∨ tmu fo' dr' nx' < tmu fo dr nx)
theorem Hist.endO {k : Nat} {A B : Cr} (j : Nat) (hj : j ≠ k) (h : A.o = (j : Int) ∨ B.o = (j : Int) ∨ (k : Int) = (j : Int)) : A.o = (j : Int) ∨ B.o = (j : Int) ∨ (-1 : Int) = (j : Int) := by
  rcases h with h | h | h
  · exact .inl h
  · exact .inr (.inl h)
  · exact absurd (show k = j by omega) (fun e => hj e.symm)
theorem take_step (I : RInv K S ws q cl ck pu A B fo dr nx o2 D P T Hd lin) (hK : K ≤ 1000) (hb : o2 ≠ -1) : TakeOut K S ws q cl ck pu A B fo dr nx o2 P T j := by
  have R := I.ring
  have hs1 := R.s1; have hs4 := R.s4; have hwl := R.wl; have htP := R.tP; have hkP := I.kP; have hpT := R.pT; have hd0 := R.d0; have hpq := R.pq; have hqS := R.qS; have hkl := I.kl
  have hp : plR S D = 2 + D % S := plR_eq hs1 hs4 hd0 (by omega)
  have hl : lapR S D = D / S := lapR_eq hs1 hs4 hd0 (by omega)
  have hm := mod_lt4 (m := D) hs1 hs4
  have hdv := div_le hs1 hs4 hd0
  have hmS := Int.emod_lt_of_pos D (show 0 < S by omega)
  have hn : (IntKind.u64.wrap S == 0) = false := by rw [uN hs1 hs4]; exact beq_eq_false_iff_ne.2 (by omega)
  have e0 : ws.set 0 (ws.getD 0 0) = ws := set_self (by omega)
  have e1 : ws.set (2 + D % S).toNat (ws.getD (2 + D % S).toNat 0) = ws := set_self (by omega)
  have e3 : IntKind.i64.wrap (ck + 1) = ck + 1 := wrap_i64 (by have := I.hist.ck0; omega) (by have := I.kc; omega)
  have hh := R.head
  rcases I.t with ⟨h, _⟩ | ⟨k, fr, e, rfl, hk, hr, h2, rfl, rfl, ⟨h, rfl⟩ | rfl⟩ | ⟨k, fr, e, rfl, hk, hr, rfl, ⟨rfl, rfl, hq, h2⟩ | ⟨rfl, rfl, h2⟩⟩
  · exact absurd h hb
  · -- Front.head
    have hkk : (k : Int) ≥ 0 := by omega
    refine ⟨_, _, _, _, _, .act 71 e (ws.getD 0 0) 0, dr, false, k, Hd, Hd, lin, fhead hkk ?_, ?_, rfl, .inr ?_⟩
    · simp only [allB_iff, List.forall_mem_cons, decide_eq_true_eq, Bool.not_eq_true', decide_eq_false_iff_not, hwl]
      (and_intros <;> first | trivial | omega | assumption | (intro _ hb; cases hb; done))
    · rw [e0, hh]
      exact I.updT rfl R (Int.le_refl _) rfl (fun _ _ => rfl) (fun _ _ => .rfl) (by omega) I.hist (.inr (.inl ⟨k, fr, e, rfl, hk, hr, h2, rfl, rfl, .inr rfl⟩)) (.inr rfl)
    · simp [tmu]
  · -- Front.look
    have hkk : (k : Int) ≥ 0 := by omega
    rcases R.sees hd0 (show Hd ≤ P by omega) with ⟨c1, c2, c3, c4⟩ | ⟨c1, c2, c3⟩ | ⟨c1, c2, c3, c4⟩ | ⟨l, c1, c2, c3, c4⟩
    · omega
    · have z0 : (Hd - Hd).toNat = 0 := by omega
      rw [z0] at c3
      have hqv := R.qval (k := 0) (by omega)
      have hhi : hiR (ws.getD (2 + Hd % S).toNat 0) = Hd / S := by rw [c3]; exact hi_full (by omega) (by omega) hqv.1 hqv.2
      have hbt : bitR (ws.getD (2 + Hd % S).toNat 0) = 65536 := by rw [c3]; exact bit_full (by omega) (by omega) hqv.1 hqv.2
      have hvl : valR (ws.getD (2 + Hd % S).toNat 0) = q.getD 0 0 := by rw [c3]; exact val_full (by omega) (by omega) hqv.1 hqv.2
      have hvw : IntKind.u64.wrap (q.getD 0 0) = q.getD 0 0 := wrap_u64 (by omega) (by omega)
      refine ⟨_, _, _, _, _, .ended 0 Hd (valR (ws.getD (plR S Hd).toNat 0)), dr, true, -1, Hd, Hd, lin ++ [k], flookK hkk ?_, ?_, by simp [rs_len], .inl rfl⟩
      · simp only [allB_iff, List.forall_mem_cons, decide_eq_true_eq, Bool.not_eq_true', Bool.not_not, Bool.not_eq_false', decide_eq_false_iff_not, beq_iff_eq, beq_eq_false_iff_ne, ne_eq, hp, hl, hn, hhi, hbt, hvl, hwl, rs_len, Int.toNat_natCast]
        (and_intros <;> first | trivial | omega | assumption | (intro _ hb; cases hb; done))
      · rw [hp, hvl, hvw, e1, e3, Int.toNat_natCast, rs4_eq hk hr]
        have hf : fifoS S q 2 0 = ([0, 0, q.getD 0 0], q, 0) := by
          have : ¬ q.length = 0 := by omega
          simp [fifoS, this]
        exact I.updT rfl R (Int.le_refl _) (by simp) (fun j hj => getD_setL_ne (fun h => hj h.symm)) (fun j hj => by simp [hj]) (by omega) (I.hist.effEnd (q1 := q) (d := 0) hk hr h2 hf (fun j _ hj h => Hist.endO j hj h)) (.inl ⟨rfl, rfl, fun _ => ⟨fun h => by rw [h] at hpq; simp at hpq; omega, 0, _, rfl⟩⟩) (.inl rfl)
    · have hhi : hiR (ws.getD (2 + Hd % S).toNat 0) = Hd / S := by rw [c4]; exact hi_empty (by omega) (by omega)
      have hbt : bitR (ws.getD (2 + Hd % S).toNat 0) = 0 := by rw [c4]; exact bit_empty (by omega) (by omega)
      have hq0 : q.length = 0 := by omega
      have hvw : IntKind.u64.wrap 0 = 0 := by decide
      refine ⟨_, _, _, _, _, .ended 15 Hd 0, dr, false, -1, Hd, Hd, lin ++ [k], flookN hkk ?_, ?_, by simp [rs_len], .inl rfl⟩
      · simp only [allB_iff, List.forall_mem_cons, decide_eq_true_eq, Bool.not_eq_true', decide_eq_false_iff_not, beq_iff_eq, beq_eq_false_iff_ne, bne_eq_false_iff_eq, ne_eq, hp, hl, hn, hhi, hbt, hwl, rs_len, Int.toNat_natCast]
        (and_intros <;> first | trivial | omega | assumption | (intro _ hb; cases hb; done))
      · rw [hp, hvw, e1, e3, Int.toNat_natCast, rs4_eq hk hr]
        have hf : fifoS S q 2 0 = ([15, 0, 0], q, 0) := by simp [fifoS, hq0]
        exact I.updT rfl R (Int.le_refl _) (by simp) (fun j hj => getD_setL_ne (fun h => hj h.symm)) (fun j hj => by simp [hj]) (by omega) (I.hist.effEnd (q1 := q) (d := 0) hk hr h2 hf (fun j _ hj h => Hist.endO j hj h)) (.inl ⟨rfl, rfl, fun h => by cases h⟩) (.inl rfl)
    · omega
  · -- Drop.clear
    have hkk : (k : Int) ≥ 0 := by omega
    have hq1 : 1 ≤ q.length := by cases q with | nil => exact absurd rfl hq | cons _ _ => simp
    have hcw : clrW S Hd = emptyW (Hd / S + 1) := clrW_eq hs1 hs4 hd0 (by omega)
    have e4 : [] ++ (q.drop 1).take (q.length - 1) = q.drop 1 := by
      rw [List.nil_append, List.take_of_length_le (by simp)]
    refine ⟨_, _, _, _, _, fo, .act 84 e Hd, true, k, Hd + 1, Hd, lin ++ [k], dclear (v := 0) hkk ?_, ?_, rfl, .inr ?_⟩
    · simp only [allB_iff, List.forall_mem_cons, decide_eq_true_eq, Bool.not_eq_true', decide_eq_false_iff_not, beq_iff_eq, beq_eq_false_iff_ne, ne_eq, hp, hn, hwl, hiOK, Option.mem_def, Option.some.injEq]
      (and_intros <;> first | trivial | omega | assumption | (intro _ hb; cases hb; done))
    · rw [hp, hcw, e4]
      have hf : fifoS S q 3 0 = ([0, 0, 0], q, 1) := by
        have : ¬ q.length = 0 := by omega
        simp [fifoS, this]
      exact I.updT rfl (R.clear hq) (by omega) rfl (fun _ _ => rfl) (fun j hj => by simp [hj]) (by omega) (I.hist.eff hk hr h2 hf) (.inr (.inr ⟨k, fr, e, rfl, hk, hr, rfl, .inr ⟨by rw [Int.add_sub_cancel], by omega, by simp⟩⟩)) (.inr rfl)
    · simp [tmu]
  · -- Drop.head
    have hkk : (k : Int) ≥ 0 := by omega
    have hw : IntKind.u64.wrap (D - 1 + 1) = D := by rw [Int.sub_add_cancel]; exact wrap_u64 (by omega) (by omega)
    refine ⟨_, _, _, _, _, fo, .ended 0 (D - 1), false, -1, D, D, lin, dhead (v := 0) hkk ?_, ?_, by simp [rs_len], .inl rfl⟩
    · simp only [allB_iff, List.forall_mem_cons, decide_eq_true_eq, Bool.not_eq_true', decide_eq_false_iff_not, hwl, rs_len, Int.toNat_natCast]
      (and_intros <;> first | trivial | omega | assumption | (intro _ hb; cases hb; done))
    · rw [hw, e3, Int.toNat_natCast, rs4_eq hk hr]
      exact I.updT rfl (R.heads D) (Int.le_refl _) (by simp) (fun j hj => getD_setL_ne (fun h => hj h.symm)) (fun _ _ => .rfl) (by omega) (I.hist.fin hk hr h2 (fun j _ hj h => Hist.endO j hj h)) (.inl ⟨rfl, rfl, fun h => by cases h⟩) (.inl rfl)
theorem tmu_le : tmu fo dr nx ≤ 2 := by
  unfold tmu
  cases nx <;> simp only [cond_true, cond_false] <;> split <;> first | omega | (split <;> omega)
end
end Go.Sx
/- The plain law of a ring: a core begins. -/
namespace Go.Sx
set_option maxRecDepth 100000
section
variable {K S ck pu o2 D P T Hd : Int} {ws q : List Int} {cl : List (List Int)} {A B : Cr} {fo : FO} {dr : DO} {nx : Bool} {lin : List Nat} {j : MJ}
theorem PCore.lt (H : PCore S D P T cl lin A) : A.o = -1 ∨ (0 ≤ A.o ∧ A.o < (cl.length : Int)) := by
  rcases H with h | ⟨k, f, e, t, w, fr, g1, g2, _⟩
  · exact .inl h
  · exact .inr (by omega)
theorem TCore.lt (H : TCore D Hd q cl lin fo dr nx o2) : o2 = -1 ∨ (0 ≤ o2 ∧ o2 < (cl.length : Int)) := by
  rcases H with ⟨h, _⟩ | ⟨k, fr, e, g1, g2, _⟩ | ⟨k, fr, e, g1, g2, _⟩
  · exact .inl h
  · exact .inr (by omega)
  · exact .inr (by omega)
theorem RInv.up (I : RInv K S ws q cl ck pu A B fo dr nx o2 D P T Hd lin) : RInv (K + 1) S ws q cl ck pu A B fo dr nx o2 D P T Hd lin := by
  have := I.kl; have := I.kc; have := I.kp; have := I.kP
  exact ⟨I.ring, I.hist, I.a, I.b, I.t, I.ab, I.at2, I.bt2, by omega, by omega, I.pu0, by omega, by omega⟩
theorem push_begin (I : RInv K S ws q cl ck pu A B fo dr nx o2 D P T Hd lin) (hK : K ≤ 1000) :
    ∃ cl' ck' pu' A', Bgn 0 (of0 S j ws q cl A B fo dr nx o2 ck pu) (of0 S j ws q cl' A' B fo dr nx o2 ck' pu') ∧ Bgn 1 (of1 S j ws q cl A B fo dr nx o2 ck pu) (of1 S j ws q cl' A' B fo dr nx o2 ck' pu') ∧
      RInv (K + 1) S ws q cl' ck' pu' A' B fo dr nx o2 D P T Hd lin ∧ A'.o ≠ -1 := by
  have R := I.ring
  have hs1 := R.s1; have hs4 := R.s4; have hkl := I.kl; have hkc := I.kc; have hp0 := I.pu0; have hkp := I.kp; have hkP := I.kP; have hc0 := I.hist.ck0
  rcases I.a.lt with h | ⟨h, h'⟩
  · have e1 : IntKind.i64.wrap (ck + 1) = ck + 1 := wrap_i64 (by omega) (by omega)
    have e2 : IntKind.i64.wrap (pu + 1) = pu + 1 := wrap_i64 (by omega) (by omega)
    have e3 : (pu + 1).tmod 65536 = pu + 1 := by rw [Int.tmod_eq_emod_of_nonneg (by omega)]; omega
    have e4 : IntKind.u64.wrap (pu + 1) = pu + 1 := wrap_u64 (by omega) (by omega)
    refine ⟨_, _, _, ⟨.act 40 0 ((IntKind.i64.wrap (pu + 1)).tmod 65536) 0 0, 14, (IntKind.i64.wrap (pu + 1)).tmod 65536, cl.length⟩, begin0 ?_, begin1 ?_, ?_, by show (cl.length : Int) ≠ -1; omega⟩
    iterate 2
      simp only [allB_iff, List.forall_mem_cons, decide_eq_true_eq, Bool.not_eq_true', Bool.not_eq_false', decide_eq_false_iff_not, e2, e3, h]
      (and_intros <;> first | trivial | omega | assumption | (intro _ hb; cases hb; done))
    · rw [e1, e2, e3, e4]
      have hlt : ∀ x : Int, x = -1 ∨ (0 ≤ x ∧ x < (cl.length : Int)) → (cl.length : Int) ≠ x := fun x hx => by omega
      refine ⟨R, I.hist.begin (by decide) (by decide) (fun k hk ho => ?_) (.inl rfl), .inr ⟨cl.length, _, 0, 0, 0, ck + 1, rfl, by simp, getD_snocE, by show 0 ≤ pu + 1; omega, by show pu + 1 < 65536; omega, rfl, .tail rfl (fun hm => ?_)⟩,
        I.b.mono (Int.le_refl _) (Int.le_refl _) (Int.le_refl _) (fun k _ hk => ⟨by simp; omega, getD_snocL hk, .rfl⟩), I.t.mono id (fun k _ hk => ⟨by simp; omega, getD_snocL hk, .rfl⟩), fun _ => hlt _ I.b.lt, fun _ => hlt _ I.t.lt, I.bt2, by simp; omega, by omega, by omega, by omega, by omega⟩
      · rcases ho with ho | ho | ho
        · rw [h] at ho; omega
        · exact .inr (.inl ho)
        · exact .inr (.inr ho)
      · have := I.hist.lt _ hm
        omega
  · refine ⟨cl, ck, pu, A, busy0 ?_, busy1 ?_, I.up, by omega⟩
    iterate 2
      simp only [allB_iff, List.forall_mem_cons, decide_eq_true_eq, Bool.not_eq_true', Bool.not_eq_false', Bool.not_not, decide_eq_false_iff_not]
      (and_intros <;> first | trivial | omega | assumption | (intro _ hb; cases hb; done))
theorem take_begin (I : RInv K S ws q cl ck pu A B fo dr nx o2 D P T Hd lin) (hK : K ≤ 1000) :
    ∃ cl' ck' fo' dr' o2', Bgn 2 (of0 S j ws q cl A B fo dr nx o2 ck pu) (of0 S j ws q cl' A B fo' dr' nx o2' ck' pu) ∧
      RInv (K + 1) S ws q cl' ck' pu A B fo' dr' nx o2' D P T Hd lin ∧ o2' ≠ -1 := by
  have R := I.ring
  have hs1 := R.s1; have hs4 := R.s4; have hkl := I.kl; have hkc := I.kc; have hp0 := I.pu0; have hkp := I.kp; have hkP := I.kP; have hc0 := I.hist.ck0
  have hlt : ∀ x : Int, x = -1 ∨ (0 ≤ x ∧ x < (cl.length : Int)) → x ≠ -1 → x ≠ (cl.length : Int) := fun x hx _ => by omega
  have e1 : IntKind.i64.wrap (ck + 1) = ck + 1 := wrap_i64 (by omega) (by omega)
  rcases I.t.lt with h | ⟨h, h'⟩
  · have hO : ∀ k, k < cl.length → (A.o = (k : Int) ∨ B.o = (k : Int) ∨ o2 = (k : Int)) → (A.o = (k : Int) ∨ B.o = (k : Int) ∨ (cl.length : Int) = (k : Int)) := fun k hk ho => by
      rcases ho with ho | ho | ho
      · exact .inl ho
      · exact .inr (.inl ho)
      · rw [h] at ho; omega
    have hni : ¬ cl.length ∈ lin := fun hm => by have := I.hist.lt _ hm; omega
    have hHd : Hd = D ∧ (nx = true → q ≠ [] ∧ ∃ e v, fo = .ended e D v) := by
      rcases I.t with ⟨_, g⟩ | ⟨k, fr, e, g1, _⟩ | ⟨k, fr, e, g1, _⟩
      · exact g
      · omega
      · omega
    cases nx with
    | false =>
      refine ⟨_, _, .act 56 0 0 0, dr, cl.length, beginF ?_, ?_, by omega⟩
      · simp only [allB_iff, List.forall_mem_cons, decide_eq_true_eq, Bool.not_eq_true', Bool.not_eq_false', decide_eq_false_iff_not, h]
        (and_intros <;> first | trivial | omega | assumption | (intro _ hb; cases hb; done))
      · rw [e1]
        exact ⟨R, I.hist.begin (by decide) (by decide) hO (.inr (.inr rfl)), I.a.mono (Int.le_refl _) (Int.le_refl _) (Int.le_refl _) (fun k _ hk => ⟨by simp; omega, getD_snocL hk, .rfl⟩), I.b.mono (Int.le_refl _) (Int.le_refl _) (Int.le_refl _) (fun k _ hk => ⟨by simp; omega, getD_snocL hk, .rfl⟩),
          .inr (.inl ⟨cl.length, ck + 1, 0, rfl, by simp, getD_snocE, hni, rfl, hHd.1, .inl ⟨0, rfl⟩⟩), I.ab, hlt _ I.a.lt, hlt _ I.b.lt, by simp; omega, by omega, by omega, by omega, by omega⟩
    | true =>
      obtain ⟨hHd, g⟩ := hHd
      obtain ⟨hq, e, v, rfl⟩ := g rfl
      refine ⟨_, _, .ended e D v, .act 67 0 D, cl.length, beginD ?_, ?_, by omega⟩
      · simp only [allB_iff, List.forall_mem_cons, decide_eq_true_eq, Bool.not_eq_true', Bool.not_eq_false', decide_eq_false_iff_not, h]
        (and_intros <;> first | trivial | omega | assumption | (intro _ hb; cases hb; done))
      · rw [e1]
        exact ⟨R, I.hist.begin (by decide) (by decide) hO (.inr (.inr rfl)), I.a.mono (Int.le_refl _) (Int.le_refl _) (Int.le_refl _) (fun k _ hk => ⟨by simp; omega, getD_snocL hk, .rfl⟩), I.b.mono (Int.le_refl _) (Int.le_refl _) (Int.le_refl _) (fun k _ hk => ⟨by simp; omega, getD_snocL hk, .rfl⟩),
          .inr (.inr ⟨cl.length, ck + 1, 0, rfl, by simp, getD_snocE, rfl, .inl ⟨rfl, hHd, hq, hni⟩⟩), I.ab, hlt _ I.a.lt, hlt _ I.b.lt, by simp; omega, by omega, by omega, by omega, by omega⟩
  · refine ⟨cl, ck, fo, dr, o2, busy2 ?_, I.up, by omega⟩
    simp only [allB_iff, List.forall_mem_cons, decide_eq_true_eq, Bool.not_eq_true', Bool.not_eq_false', Bool.not_not, decide_eq_false_iff_not]
    (and_intros <;> first | trivial | omega | assumption | (intro _ hb; cases hb; done))
end
end Go.Sx
