/- The plain law of a mailbox: a Push's steps. -/
import Derived.Test.YtmmcpgjfkphgaaaGreatSmW4
namespace Go.Sx
set_option maxRecDepth 100000
section
variable {K S o2 D P T Hd : Int} {ws q : List Int} {cl : List (List Int)} {A B : Cr} {d : DO} {lin : List Nat} {ov : Option (Nat × List Int × List Int)} {j : MJ} {len : Nat}
theorem Hist.endP {k : Nat} {o : Int} (j : Nat) (hj : j ≠ k) (h : (k : Int) = (j : Int) ∨ B.o = (j : Int) ∨ o = (j : Int) ∨ j = 1000) : (-1 : Int) = (j : Int) ∨ B.o = (j : Int) ∨ o = (j : Int) ∨ j = 1000 := by
  rcases h with h | h
  · exact absurd (show k = j by omega) (fun e => hj e.symm)
  · exact .inr h
def PushOut (len : Nat) (K S : Int) (ws q : List Int) (cl : List (List Int)) (A B : Cr) (d : DO) (o2 D P T Hd : Int) (ov : Option (Nat × List Int × List Int)) (j : MJ) : Prop :=
  ∃ j' ws' q' cl' A' P' T' lin', Stp 0 len K (of0 S j ws cl A B d o2) (of0 S j' ws' cl' A' B d o2) ∧ Stp 1 len K (of1 S j ws cl A B d o2) (of1 S j' ws' cl' A' B d o2) ∧
    MInv (K + 1) S ws' q' cl' A' B d o2 D P' T' Hd lin' ov ∧ cl'.length = cl.length ∧ (A'.o = -1 ∨ mu P' T' A'.p < mu P T A.p)
/-- What an ended Send makes of the calls. -/
theorem MInv.ends (I : MInv K S ws q cl A B d o2 D P T Hd lin ov) (hK : K ≤ 1000) {k : Nat} {i fr v e : Int} {q' : List Int} {lin' : List Nat} (hAo : A.o = (k : Int)) (hk : k < cl.length) (hr : cl.getD k [] = rowM i fr (-1) 1 v 0 0)
    (hH : Hist S (updR (rl cl ov) k (rowM i fr (-1) 1 v e 0)) (dm cl ov) q' lin' (2 * K) (fun k => A.o = (k : Int) ∨ B.o = (k : Int) ∨ o2 = (k : Int) ∨ k = 1000)) (hl : k ∈ lin') :
    rs (rs (rs (rs cl k 2 (IntKind.i64.wrap (IntKind.i64.wrap (2 * K) + 1))) k 7 e) k 8 0) k 9 0 = cl.set k (rowM i fr (2 * K + 1) 1 v e 0) ∧ IdsR (cl.set k (rowM i fr (2 * K + 1) 1 v e 0)) K ∧
      Hist S (rl (cl.set k (rowM i fr (2 * K + 1) 1 v e 0)) ov) (dm (cl.set k (rowM i fr (2 * K + 1) 1 v e 0)) ov) q' lin' (2 * (K + 1)) (fun j => (-1 : Int) = (j : Int) ∨ B.o = (j : Int) ∨ o2 = (j : Int) ∨ j = 1000) := by
  have hk0 := I.k0
  have ha : A.o ≠ -1 := by rw [hAo]; omega
  have e1 : IntKind.i64.wrap (IntKind.i64.wrap (2 * K) + 1) = 2 * K + 1 := by rw [wrap_i64 (x := 2 * K) (by omega) (by omega), wrap_i64 (by omega) (by omega)]
  have hne : o2 ≠ (k : Int) := fun h => I.at2 ha (by rw [hAo, h])
  refine ⟨by rw [e1]; exact rs4_eq hk hr, I.ids.set hk (by rw [hr]; rfl), ?_⟩
  have h2 := hH.fin (i' := i) (t := 2 * K + 1) (O' := fun j => (-1 : Int) = (j : Int) ∨ B.o = (j : Int) ∨ o2 = (j : Int) ∨ j = 1000) (.inl hk) updR_eq hl (by omega) (fun j _ hj h => Hist.endP j hj (by rw [hAo] at h; exact h))
  refine h2.to (fun j => dm_set j) (fun j _ => ?_) (by omega) (fun _ _ h => h)
  rw [rl_set I.t.ovk hk I.kl hne j]
  simp only [updR]
  split <;> rfl
theorem MInv.hk (I : MInv K S ws q cl A B d o2 D P T Hd lin ov) {k : Nat} (hAo : A.o = (k : Int)) (hk : k < cl.length) : rl cl ov k = cl.getD k [] :=
  rl_own I.t.ovk hk I.kl (fun h => I.at2 (by rw [hAo]; omega) (by rw [hAo, h]))
theorem push_tail {k : Nat} {v t w i fr : Int} (I : MInv K S ws q cl ⟨.act 62 v t w, k⟩ B d o2 D P T Hd lin ov) (hk : k < cl.length) (hr : cl.getD k [] = rowM i fr (-1) 1 v 0 0) (hv : 0 ≤ v ∧ v < 65536)
    (h2 : ¬ k ∈ lin) : PushOut len K S ws q cl ⟨.act 62 v t w, k⟩ B d o2 D P T Hd ov j := by
  have R := I.ring
  have hs1 := R.s1; have hs4 := R.s4; have hwl := R.wl
  have e1 : ws.set (6 + S).toNat (ws.getD (6 + S).toNat 0) = ws := set_self (by omega)
  refine ⟨_, _, q, _, ⟨.act 76 v (ws.getD (6 + S).toNat 0) w, k⟩, P, T, lin, tl0 ?_, tl1 ?_, ?_, rfl, .inr ?_⟩
  iterate 2
    simp only [allB_iff, List.forall_mem_cons, decide_eq_true_eq, Bool.not_eq_true', decide_eq_false_iff_not, bne_iff_ne, bne_eq_false_iff_eq, ne_eq, hwl, rs_len, Int.toNat_natCast]
    (and_intros <;> first | trivial | omega | assumption | (intro _ hb; cases hb; done))
  · rw [e1, R.tail]
    exact I.upd rfl R (Int.le_refl _) (by omega) (Int.le_refl _) id rfl (fun _ _ => rfl) (fun _ _ => .rfl) I.ids (I.hist.to (fun _ => .rfl) (fun _ _ => rfl) (by omega) (fun _ _ h => h)) (.inr ⟨k, _, v, T, w, i, fr, rfl, hk, hr, hv.1, hv.2, rfl, .look h2 R.t0 (Int.le_refl _)⟩) (.inr rfl)
  · rw [R.tail]
    by_cases c : T = P <;> simp [mu, c]
theorem push_look {k : Nat} {v t w i fr : Int} (I : MInv K S ws q cl ⟨.act 76 v t w, k⟩ B d o2 D P T Hd lin ov) (hK : K ≤ 1000) (hk : k < cl.length) (hr : cl.getD k [] = rowM i fr (-1) 1 v 0 0) (hv : 0 ≤ v ∧ v < 65536)
    (h2 : ¬ k ∈ lin) (h3 : 0 ≤ t) (h4 : t ≤ T) : PushOut len K S ws q cl ⟨.act 76 v t w, k⟩ B d o2 D P T Hd ov j := by
  have R := I.ring
  have hs1 := R.s1; have hs4 := R.s4; have hwl := R.wl; have htP := R.tP; have hkP := I.kP; have hkl := I.kl; have hd0 := R.d0; have hpT := R.pT; have hpq := R.pq; have hk0 := I.k0
  have hm := mod_lt4 (m := t) hs1 hs4
  have hdv := div_le hs1 hs4 h3
  have hmS := Int.emod_lt_of_pos t (show 0 < S by omega)
  have e1 : ws.set (7 + S + t % S).toNat (ws.getD (7 + S + t % S).toNat 0) = ws := set_self (by omega)
  have hsame : Hist S (rl cl ov) (dm cl ov) q lin (2 * (K + 1)) (fun j => (k : Int) = (j : Int) ∨ B.o = (j : Int) ∨ o2 = (j : Int) ∨ j = 1000) := I.hist.to (fun _ => .rfl) (fun _ _ => rfl) (by omega) (fun _ _ h => h)
  have hhelp : t < P → emptyQ (ws.getD (7 + S + t % S).toNat 0) (t / S) = false → fullQ (ws.getD (7 + S + t % S).toNat 0) (IntKind.u32.wrap (t / S - 1)) = false → PushOut len K S ws q cl ⟨.act 76 v t w, k⟩ B d o2 D P T Hd ov j := fun c2 hem hfu => by
    refine ⟨_, _, q, _, ⟨.act 93 v t _, k⟩, P, T, lin, lkH0 ?_, lkH1 ?_, ?_, rfl, .inr ?_⟩
    iterate 2
      simp only [allB_iff, List.forall_mem_cons, decide_eq_true_eq, Bool.not_eq_true', decide_eq_false_iff_not, bne_iff_ne, bne_eq_false_iff_eq, ne_eq, hwl, rs_len, Int.toNat_natCast, hem, hfu]
      (and_intros <;> first | trivial | omega | assumption | (intro _ hb; cases hb; done))
    · rw [e1]
      exact I.upd rfl R (Int.le_refl _) (by omega) (Int.le_refl _) id rfl (fun _ _ => rfl) (fun _ _ => .rfl) I.ids hsame (.inr ⟨k, _, v, t, _, i, fr, rfl, hk, hr, hv.1, hv.2, rfl, .help h2 h3 h4 c2⟩) (.inr rfl)
    · have : ¬ t = P := by omega
      by_cases c : T = P ∨ T = t <;> simp [mu, c, this]
  rcases R.sees h3 (show t ≤ P by omega) with ⟨c1, c2, c3, c4⟩ | ⟨c1, c2, c3⟩ | ⟨c1, c2, c3, c4⟩ | ⟨l, c1, c2, c3, c4⟩
  · -- full: ErrFull
    have hql : (q.length : Int) = S := by omega
    have hqv := R.qval (k := 0) (by omega)
    have hw1 : IntKind.u32.wrap (t / S - 1) = t / S - 1 := wrap_u32 (by omega) (by omega)
    have hem : emptyQ (ws.getD (7 + S + t % S).toNat 0) (t / S) = false := by rw [c4]; exact emptyQ_full (by omega) (by omega) hqv.1 hqv.2
    have hfu : fullQ (ws.getD (7 + S + t % S).toNat 0) (IntKind.u32.wrap (t / S - 1)) = true := by rw [c4, fullQ_full (by omega) (by omega) hqv.1 hqv.2, hw1]; exact decide_eq_true rfl
    have hf : fifoS S q 1 v = ([7, 0, 0], q, 0) := by simp [fifoS, hql]
    have h5 := (I.hist.ans 7 0 (.inl hk) ((I.hk rfl hk).trans hr) h2).eff (.inl hk) updR_eq h2 hf
    obtain ⟨g1, g2, g3⟩ := I.ends hK rfl hk hr h5 (by simp)
    refine ⟨_, _, q, _, ⟨.ended 7, -1⟩, P, T, lin ++ [k], lkF0 ?_, lkF1 ?_, ?_, by simp [rs_len], .inl rfl⟩
    iterate 2
      simp only [allB_iff, List.forall_mem_cons, decide_eq_true_eq, Bool.not_eq_true', decide_eq_false_iff_not, bne_iff_ne, bne_eq_false_iff_eq, ne_eq, hwl, rs_len, Int.toNat_natCast, hem, hfu]
      (and_intros <;> first | trivial | omega | assumption | (intro _ hb; cases hb; done))
    · rw [e1, Int.toNat_natCast, g1]
      exact I.upd rfl R (Int.le_refl _) (by omega) (Int.le_refl _) id (by simp) (fun j hj => getD_setL_ne (fun h => hj h.symm)) (fun j hj => by simp [hj]) g2 g3 (.inl rfl) (.inl rfl)
  · -- full
    have hqv := R.qval (k := (t - D).toNat) (by omega)
    refine hhelp c2 (by rw [c3]; exact emptyQ_full (by omega) (by omega) hqv.1 hqv.2) ?_
    rw [c3, fullQ_full (by omega) (by omega) hqv.1 hqv.2]
    refine decide_eq_false ?_
    by_cases z : t / S = 0
    · rw [z]; decide
    · rw [wrap_u32 (by omega) (by omega)]; omega
  · -- free
    have hem : emptyQ (ws.getD (7 + S + t % S).toNat 0) (t / S) = true := by rw [c4, emptyQ_empty (by omega) (by omega)]; exact decide_eq_true rfl
    refine ⟨_, _, q, _, ⟨.act 92 v t _, k⟩, P, T, lin, lkL0 ?_, lkL1 ?_, ?_, rfl, .inr ?_⟩
    iterate 2
      simp only [allB_iff, List.forall_mem_cons, decide_eq_true_eq, Bool.not_eq_true', decide_eq_false_iff_not, bne_iff_ne, bne_eq_false_iff_eq, ne_eq, hwl, rs_len, Int.toNat_natCast, hem]
      (and_intros <;> first | trivial | omega | assumption | (intro _ hb; cases hb; done))
    · rw [e1]
      exact I.upd rfl R (Int.le_refl _) (by omega) (Int.le_refl _) id rfl (fun _ _ => rfl) (fun _ _ => .rfl) I.ids hsame (.inr ⟨k, _, v, t, _, i, fr, rfl, hk, hr, hv.1, hv.2, rfl, .lay h2 h3 h4 c4 c3⟩) (.inr rfl)
    · simp [mu, c2]
  · -- stale
    have hw1 : ¬ l = IntKind.u32.wrap (t / S - 1) := by
      by_cases z : t / S = 0
      · rw [z]
        have : IntKind.u32.wrap (0 - 1) = 4294967295 := by decide
        omega
      · rw [wrap_u32 (by omega) (by omega)]; omega
    refine hhelp (by omega) ?_ ?_
    · rcases c4 with c4 | ⟨x, x1, x2, c4⟩
      · rw [c4, emptyQ_empty (by omega) (by omega)]; exact decide_eq_false (by omega)
      · rw [c4]; exact emptyQ_full (by omega) (by omega) x1 x2
    · rcases c4 with c4 | ⟨x, x1, x2, c4⟩
      · rw [c4]; exact fullQ_empty (by omega) (by omega)
      · rw [c4, fullQ_full (by omega) (by omega) x1 x2]; exact decide_eq_false hw1
theorem push_lay {k : Nat} {v t w i fr : Int} (I : MInv K S ws q cl ⟨.act 92 v t w, k⟩ B d o2 D P T Hd lin ov) (hK : K ≤ 1000) (hk : k < cl.length) (hr : cl.getD k [] = rowM i fr (-1) 1 v 0 0) (hv : 0 ≤ v ∧ v < 65536)
    (h2 : ¬ k ∈ lin) (h3 : 0 ≤ t) (h4 : t ≤ T) (h5 : w = emptyW (t / S)) (h6 : t < D + S) : PushOut len K S ws q cl ⟨.act 92 v t w, k⟩ B d o2 D P T Hd ov j := by
  have R := I.ring
  have hs1 := R.s1; have hs4 := R.s4; have hwl := R.wl; have htP := R.tP; have hkP := I.kP; have hkl := I.kl; have hd0 := R.d0; have hpT := R.pT; have hpq := R.pq; have hqS := R.qS; have hk0 := I.k0
  have hm := mod_lt4 (m := t) hs1 hs4
  have hdv := div_le hs1 hs4 h3
  have hmS := Int.emod_lt_of_pos t (show 0 < S by omega)
  have e1 : ws.set (7 + S + t % S).toNat (ws.getD (7 + S + t % S).toNat 0) = ws := set_self (by omega)
  have hew : 0 ≤ emptyW (t / S) ∧ emptyW (t / S) < 1000000000000000 ∧ emptyW (t / S) % 4294967296 = 0 ∧ 0 ≤ v ∧ v < 65536 := by unfold emptyW; omega
  have hfail : t < P → ws.getD (7 + S + t % S).toNat 0 ≠ w → PushOut len K S ws q cl ⟨.act 92 v t w, k⟩ B d o2 D P T Hd ov j := fun ht hne => by
    refine ⟨_, _, q, _, ⟨.act 93 v t w, k⟩, P, T, lin, lyF0 ?_, lyF1 ?_, ?_, rfl, .inr ?_⟩
    iterate 2
      simp only [allB_iff, List.forall_mem_cons, decide_eq_true_eq, Bool.not_eq_true', decide_eq_false_iff_not, bne_iff_ne, bne_eq_false_iff_eq, ne_eq, hwl, rs_len, Int.toNat_natCast]
      (and_intros <;> first | trivial | omega | assumption | (intro _ hb; cases hb; done))
    · rw [e1]
      exact I.upd rfl R (Int.le_refl _) (by omega) (Int.le_refl _) id rfl (fun _ _ => rfl) (fun _ _ => .rfl) I.ids (I.hist.to (fun _ => .rfl) (fun _ _ => rfl) (by omega) (fun _ _ h => h)) (.inr ⟨k, _, v, t, _, i, fr, rfl, hk, hr, hv.1, hv.2, rfl, .help h2 h3 h4 ht⟩) (.inr rfl)
    · have : ¬ t = P := by omega
      by_cases c : T = P ∨ T = t <;> simp [mu, c, this]
  rcases R.sees h3 (show t ≤ P by omega) with ⟨c1, c2, c3, c4⟩ | ⟨c1, c2, c3⟩ | ⟨c1, c2, c3, c4⟩ | ⟨l, c1, c2, c3, c4⟩
  · omega
  · have hqv := R.qval (k := (t - D).toNat) (by omega)
    exact hfail c2 (by rw [c3, h5]; exact full_ne_empty hqv.1 hqv.2)
  · -- it holds
    have hw : ws.getD (7 + S + t % S).toNat 0 = w := by rw [c4, h5]
    refine ⟨_, _, q ++ [v], _, ⟨.act 103 v t w, k⟩, P + 1, T, lin ++ [k], lyK0 ?_, lyK1 ?_, ?_, rfl, .inr ?_⟩
    iterate 2
      simp only [allB_iff, List.forall_mem_cons, decide_eq_true_eq, Bool.not_eq_true', decide_eq_false_iff_not, bne_iff_ne, bne_eq_false_iff_eq, ne_eq, hwl, rs_len, Int.toNat_natCast]
      (and_intros <;> first | trivial | omega | assumption | (intro _ hb; cases hb; done))
    · have hR := R.lay (v := v) (by omega) (by omega) hv
      have hfw : emptyW (t / S) + 65536 + v = fullW (t / S) v := rfl
      rw [hfw, c2]
      have hf : fifoS S q 1 v = ([0, 0, 0], q ++ [v], 0) := by
        have : ¬ (q.length : Int) = S := by omega
        simp [fifoS, this]
      have h7 := I.hist.eff (.inl hk) ((I.hk rfl hk).trans hr) h2 hf
      exact I.upd rfl hR (by omega) (by omega) (Int.le_refl _) (by simp) rfl (fun _ _ => rfl) (fun j hj => by simp [hj]) I.ids (h7.to (fun _ => .rfl) (fun _ _ => rfl) (by omega) (fun _ _ h => h)) (.inr ⟨k, _, v, P, w, i, fr, rfl, hk, hr, hv.1, hv.2, rfl, .last (by simp) (by omega) (by omega) (by omega)⟩) (.inr rfl)
    · simp [mu, c2]
  · refine hfail (by omega) ?_
    rw [h5]
    rcases c4 with c4 | ⟨x, x1, x2, c4⟩
    · rw [c4]; exact fun h => by have := empty_inj h; omega
    · rw [c4]; exact full_ne_empty x1 x2
theorem push_help {k : Nat} {v t w i fr : Int} (I : MInv K S ws q cl ⟨.act 93 v t w, k⟩ B d o2 D P T Hd lin ov) (hK : K ≤ 1000) (hk : k < cl.length) (hr : cl.getD k [] = rowM i fr (-1) 1 v 0 0) (hv : 0 ≤ v ∧ v < 65536)
    (h2 : ¬ k ∈ lin) (h3 : 0 ≤ t) (h4 : t ≤ T) (h5 : t < P) : PushOut len K S ws q cl ⟨.act 93 v t w, k⟩ B d o2 D P T Hd ov j := by
  have R := I.ring
  have hs1 := R.s1; have hs4 := R.s4; have hwl := R.wl; have htP := R.tP; have hkP := I.kP; have hpT := R.pT; have hk0 := I.k0
  have e1 : ws.set (6 + S).toNat (ws.getD (6 + S).toNat 0) = ws := set_self (by omega)
  have e2 : IntKind.u64.wrap (t + 1) = t + 1 := wrap_u64 (by omega) (by omega)
  have ht := R.tail
  have hsame : Hist S (rl cl ov) (dm cl ov) q lin (2 * (K + 1)) (fun j => (k : Int) = (j : Int) ∨ B.o = (j : Int) ∨ o2 = (j : Int) ∨ j = 1000) := I.hist.to (fun _ => .rfl) (fun _ _ => rfl) (by omega) (fun _ _ h => h)
  by_cases c : T = t
  · refine ⟨_, _, q, _, ⟨.act 62 v t w, k⟩, P, T + 1, lin, hpK0 ?_, hpK1 ?_, ?_, rfl, .inr ?_⟩
    iterate 2
      simp only [allB_iff, List.forall_mem_cons, decide_eq_true_eq, Bool.not_eq_true', decide_eq_false_iff_not, bne_iff_ne, bne_eq_false_iff_eq, ne_eq, hwl, rs_len, Int.toNat_natCast, ht]
      (and_intros <;> first | trivial | omega | assumption | (intro _ hb; cases hb; done))
    · rw [e2, ← c]
      exact I.upd rfl (R.move (by omega)) (Int.le_refl _) (by omega) (by omega) id rfl (fun _ _ => rfl) (fun _ _ => .rfl) I.ids hsame (.inr ⟨k, _, v, t, _, i, fr, rfl, hk, hr, hv.1, hv.2, by rw [c], .tail h2⟩) (.inr rfl)
    · have : T + 1 = P := by omega
      simp [mu, c, this]
      have : t + 1 = P := by omega
      simp [this]
  · refine ⟨_, _, q, _, ⟨.act 62 v t w, k⟩, P, T, lin, hpF0 ?_, hpF1 ?_, ?_, rfl, .inr ?_⟩
    iterate 2
      simp only [allB_iff, List.forall_mem_cons, decide_eq_true_eq, Bool.not_eq_true', decide_eq_false_iff_not, bne_iff_ne, bne_eq_false_iff_eq, ne_eq, hwl, rs_len, Int.toNat_natCast, ht]
      (and_intros <;> first | trivial | omega | assumption | (intro _ hb; cases hb; done))
    · rw [e1]
      exact I.upd rfl R (Int.le_refl _) (by omega) (by omega) id rfl (fun _ _ => rfl) (fun _ _ => .rfl) I.ids hsame (.inr ⟨k, _, v, t, _, i, fr, rfl, hk, hr, hv.1, hv.2, rfl, .tail h2⟩) (.inr rfl)
    · by_cases d : T = P
      · simp [mu, d]
      · simp [mu, c, d]
theorem push_last {k : Nat} {v t w i fr : Int} (I : MInv K S ws q cl ⟨.act 103 v t w, k⟩ B d o2 D P T Hd lin ov) (hK : K ≤ 1000) (hk : k < cl.length) (hr : cl.getD k [] = rowM i fr (-1) 1 v 0 0) (hv : 0 ≤ v ∧ v < 65536)
    (h2 : k ∈ lin) (h3 : 0 ≤ t) (h4 : t ≤ T) (h5 : t < P) : PushOut len K S ws q cl ⟨.act 103 v t w, k⟩ B d o2 D P T Hd ov j := by
  have R := I.ring
  have hs1 := R.s1; have hs4 := R.s4; have hwl := R.wl; have htP := R.tP; have hkP := I.kP; have hpT := R.pT; have hk0 := I.k0; have hkl := I.kl
  have e1 : ws.set (6 + S).toNat (ws.getD (6 + S).toNat 0) = ws := set_self (by omega)
  have e2 : IntKind.u64.wrap (t + 1) = t + 1 := wrap_u64 (by omega) (by omega)
  have ht := R.tail
  have hu : ∀ j, updR (rl cl ov) k (rowM i fr (-1) 1 v 0 0) j = rl cl ov j := fun j => by
    simp only [updR]
    by_cases c : j = k
    · subst c; rw [if_pos rfl, I.hk rfl hk, hr]
    · rw [if_neg c]
  obtain ⟨g1, g2, g3⟩ := I.ends hK rfl hk hr (I.hist.to (fun _ => .rfl) (fun j _ => hu j) (Int.le_refl _) (fun _ _ h => h)) h2
  by_cases c : T = t
  · refine ⟨_, _, q, _, ⟨.ended 0, -1⟩, P, T + 1, lin, lsK0 ?_, lsK1 ?_, ?_, by simp [rs_len], .inl rfl⟩
    iterate 2
      simp only [allB_iff, List.forall_mem_cons, decide_eq_true_eq, Bool.not_eq_true', decide_eq_false_iff_not, bne_iff_ne, bne_eq_false_iff_eq, ne_eq, hwl, rs_len, Int.toNat_natCast, ht]
      (and_intros <;> first | trivial | omega | assumption | (intro _ hb; cases hb; done))
    · rw [e2, ← c, Int.toNat_natCast, g1]
      exact I.upd rfl (R.move (by omega)) (Int.le_refl _) (by omega) (by omega) id (by simp) (fun j hj => getD_setL_ne (fun h => hj h.symm)) (fun _ _ => .rfl) g2 g3 (.inl rfl) (.inl rfl)
  · refine ⟨_, _, q, _, ⟨.ended 0, -1⟩, P, T, lin, lsF0 ?_, lsF1 ?_, ?_, by simp [rs_len], .inl rfl⟩
    iterate 2
      simp only [allB_iff, List.forall_mem_cons, decide_eq_true_eq, Bool.not_eq_true', decide_eq_false_iff_not, bne_iff_ne, bne_eq_false_iff_eq, ne_eq, hwl, rs_len, Int.toNat_natCast, ht]
      (and_intros <;> first | trivial | omega | assumption | (intro _ hb; cases hb; done))
    · rw [e1, Int.toNat_natCast, g1]
      exact I.upd rfl R (Int.le_refl _) (by omega) (by omega) id (by simp) (fun j hj => getD_setL_ne (fun h => hj h.symm)) (fun _ _ => .rfl) g2 g3 (.inl rfl) (.inl rfl)
/-- A Push's step. -/
theorem push_step (I : MInv K S ws q cl A B d o2 D P T Hd lin ov) (hK : K ≤ 1000) (hb : A.o ≠ -1) : PushOut len K S ws q cl A B d o2 D P T Hd ov j := by
  rcases I.a with h | ⟨k, f, v, t, w, i, fr, g1, g2, g3, g4, g5, g6, g7⟩
  · exact absurd h hb
  · obtain ⟨p, o⟩ := A
    simp only at g1 g3 g4 g5 g6 g7
    subst g1; subst g6
    cases g7 with
    | tail b => exact push_tail I g2 g3 ⟨g4, g5⟩ b
    | look b c d => exact push_look I hK g2 g3 ⟨g4, g5⟩ b c d
    | lay b c d x y => exact push_lay I hK g2 g3 ⟨g4, g5⟩ b c d x y
    | help b c d x => exact push_help I hK g2 g3 ⟨g4, g5⟩ b c d x
    | last b c d x => exact push_last I hK g2 g3 ⟨g4, g5⟩ b c d x
theorem mu_le (p : PO) : mu P T p ≤ 9 := by
  unfold mu
  split
  · split
    · decide
    · split
      · split <;> decide
      · split
        · split <;> decide
        · split
          · split <;> decide
          · split <;> decide
  · decide
end
end Go.Sx
