/- The acts of mailCalls: the loop. -/
import Derived.Test.YtmmcpgjfkphgaaaGreatSmW6
import Derived.Test.YtmmcpgjfkphgaaaGreatSmB3d
namespace Go.Sx
set_option maxRecDepth 100000
def c0 (σ : MS) : Cr := ⟨σ.p0, σ.o0⟩
def c1 (σ : MS) : Cr := ⟨σ.p1, σ.o1⟩
def RIx (K : Int) (σ : MS) (q : List Int) (D P T Hd : Int) (lin : List Nat) (ov : Option (Nat × List Int × List Int)) : Prop := MInv K σ.n σ.ws q σ.cl (c0 σ) (c1 σ) σ.d σ.o2 D P T Hd lin ov
def RI (K : Int) (σ : MS) : Prop := ∃ q D P T Hd lin ov, RIx K σ q D P T Hd lin ov
theorem allB2 {a b : Bool} (h1 : a = true) (h2 : b = true) : allB [a, b] = true := by rw [h1, h2]; rfl
theorem allB3 {a b c : Bool} (h1 : a = true) (h2 : b = true) (h3 : c = true) : allB [a, b, c] = true := by rw [h1, h2, h3]; rfl
section
variable {K : Int} {σ : MS} {zs q : List Int} {len cap : Nat} {D P T Hd : Int} {lin : List Nat} {ov : Option (Nat × List Int × List Int)}
theorem pick3 (x : Int) : pickF x 3 = 0 ∨ pickF x 3 = 1 ∨ pickF x 3 = 2 := by
  unfold pickF
  have h1 := Int.tmod_lt_of_pos x (b := 3) (by decide)
  have h2 : -3 < x.tmod 3 := by have := Int.lt_tmod_of_pos x (b := 3) (by decide); omega
  by_cases h : x.tmod 3 < 0
  · rw [if_pos h, wrap_i64 (by omega) (by omega)]; omega
  · rw [if_neg h]; omega
/-- An act. -/
theorem one (h : RI K σ) (hK : K ≤ 900) {n : Int} (hn : n = 0 ∨ n = 1 ∨ n = 2) : ∃ σ', Stp n len K σ σ' ∧ RI (K + 1) σ' := by
  obtain ⟨q, D, P, T, Hd, lin, ov, I⟩ := h
  rcases hn with rfl | rfl | rfl
  · by_cases ho : σ.o0 = -1
    · by_cases hk : K < (len : Int)
      · by_cases hl : σ.cl.length < 6
        · obtain ⟨cl', A', g1, g2, g3⟩ := push_begin (j := σ.j) I (by omega) ho hk hl
          exact ⟨_, g1, q, D, P, T, Hd, lin, ov, g3⟩
        · exact ⟨σ, skB0 (allB3 (decide_eq_true (by omega)) (by rw [decide_eq_false (by omega)]; rfl) (decide_eq_true (by omega))), q, D, P, T, Hd, lin, ov, I.up⟩
      · exact ⟨σ, skA0 (allB2 (decide_eq_true (by omega)) (decide_eq_true (by omega))), q, D, P, T, Hd, lin, ov, I.up⟩
    · obtain ⟨j', ws', q', cl', A', P', T', lin', g1, g2, g3, _, _⟩ := push_step (len := len) (j := σ.j) I (by omega) ho
      exact ⟨_, g1, q', D, P', T', Hd, lin', ov, g3⟩
  · by_cases ho : σ.o1 = -1
    · by_cases hk : K < (len : Int)
      · by_cases hl : σ.cl.length < 6
        · obtain ⟨cl', A', g1, g2, g3⟩ := push_begin (j := σ.j) (MInv.swap I) (by omega) ho hk hl
          exact ⟨_, g2, q, D, P, T, Hd, lin, ov, g3.swap⟩
        · exact ⟨σ, skB1 (allB3 (decide_eq_true (by omega)) (by rw [decide_eq_false (by omega)]; rfl) (decide_eq_true (by omega))), q, D, P, T, Hd, lin, ov, I.up⟩
      · exact ⟨σ, skA1 (allB2 (decide_eq_true (by omega)) (decide_eq_true (by omega))), q, D, P, T, Hd, lin, ov, I.up⟩
    · obtain ⟨j', ws', q', cl', A', P', T', lin', g1, g2, g3, _, _⟩ := push_step (len := len) (j := σ.j) (MInv.swap I) (by omega) ho
      exact ⟨_, g2, q', D, P', T', Hd, lin', ov, g3.swap⟩
  · by_cases ho : σ.o2 = -1
    · by_cases hk : K < (len : Int)
      · by_cases hl : σ.cl.length < 6
        · obtain ⟨cl', d', o2', g1, g2⟩ := take_begin (j := σ.j) I (by omega) ho hk hl
          exact ⟨_, g1, q, D, P, T, Hd, lin, ov, g2⟩
        · exact ⟨σ, skB2 (allB3 (decide_eq_true (by omega)) (by rw [decide_eq_false (by omega)]; rfl) (decide_eq_true (by omega))), q, D, P, T, Hd, lin, ov, I.up⟩
      · exact ⟨σ, skA2 (allB2 (decide_eq_true (by omega)) (decide_eq_true (by omega))), q, D, P, T, Hd, lin, ov, I.up⟩
    · obtain ⟨j', ws', q', cl', d', o2', D', Hd', lin', ov', g1, g2, _⟩ := take_step (len := len) (j := σ.j) I (by omega) ho
      exact ⟨_, g1, q', D', P, T, Hd', lin', ov', g2⟩
theorem wrapS {k : Int} (h0 : 0 ≤ k) (h1 : k ≤ 900) : IntKind.i64.wrap (k + 1) = k + 1 := wrap_i64 (by omega) (by omega)
theorem way_in {i : Nat} (h1 : i < len) (h2 : len = zs.length) (hl : len ≤ 120) : PlPz zs plH (slH len cap (i : Int)) plM (slM len cap (i : Int) (pickF (zs.getD i 0) 3)) σ σ := by
  have h : PlPz zs plH (slH len cap (i : Int)) plM (slM len cap (i : Int) (pickF (zs.getD (i : Int).toNat 0) 3)) σ σ := hIn (zs := zs) (len := len) (cap := cap) (k := (i : Int)) (n := σ.n) (j := σ.j) (ws := σ.ws) (o0 := σ.o0) (o1 := σ.o1) (o2 := σ.o2) (cl := σ.cl) (p0 := σ.p0) (p1 := σ.p1) (d := σ.d) (by
    rw [wrap_i64 (by omega) (by omega)]
    simp only [allB_iff, List.forall_mem_cons, decide_eq_true_eq, Int.toNat_natCast]
    (and_intros <;> first | trivial | omega | (intro _ hb; cases hb; done)))
  rwa [Int.toNat_natCast] at h
theorem way_dr {i c : Nat} (hc : c ≤ 2) (hi : i < 20) (hl : len ≤ 120) : PlPz zs plH (slH len cap ((len : Int) + 20 * c + i)) plM (slM len cap ((len : Int) + 20 * c + i) c) σ σ := by
  have h : PlPz zs plH (slH len cap ((len : Int) + 20 * c + i)) plM (slM len cap ((len : Int) + 20 * c + i) (IntKind.i64.wrap (Int.tdiv (IntKind.i64.wrap ((len : Int) + 20 * c + i - ((len : Nat) : Int))) 20))) σ σ := hDr (zs := zs) (len := len) (cap := cap) (k := (len : Int) + 20 * c + i) (n := σ.n) (j := σ.j) (ws := σ.ws) (o0 := σ.o0) (o1 := σ.o1) (o2 := σ.o2) (cl := σ.cl) (p0 := σ.p0) (p1 := σ.p1) (d := σ.d) (by
    rw [wrap_i64 (by omega) (by omega)]
    exact allB2 (by rw [decide_eq_false (by omega)]; rfl) (decide_eq_true (by omega)))
  have e : IntKind.i64.wrap (Int.tdiv (IntKind.i64.wrap ((len : Int) + 20 * c + i - ((len : Nat) : Int))) 20) = c := by
    rw [wrap_i64 (x := (len : Int) + 20 * c + i - ((len : Nat) : Int)) (by omega) (by omega), Int.tdiv_eq_ediv_of_nonneg (by omega)]
    have : ((len : Int) + 20 * c + i - ((len : Nat) : Int)) / 20 = c := by omega
    rw [this, wrap_i64 (by omega) (by omega)]
  rwa [e] at h
theorem loop1 (h2 : len = zs.length) (hl : len ≤ 120) : ∀ (d i : Nat) (σ : MS), len = i + d → RI i σ → ∃ σ', RI len σ' ∧ PlPz zs plH (slH len cap i) plH (slH len cap len) σ σ' := by
  intro d
  induction d with
  | zero => intro i σ hd h; have : len = i := by omega
            subst this; exact ⟨σ, h, PlPz.refl⟩
  | succ d ih =>
    intro i σ hd h
    obtain ⟨σ1, g1, g2⟩ := one (len := len) h (by omega) (pick3 (zs.getD i 0))
    obtain ⟨σ2, g3, g4⟩ := ih (i + 1) σ1 (by omega) (by exact_mod_cast g2)
    refine ⟨σ2, g3, PlPz.trans (PlPz.trans (way_in (by omega) h2 hl) (PlPc.z (g1 cap))) ?_⟩
    rw [wrapS (by omega) (by omega)]
    exact_mod_cast g4
theorem mu_pos {S : Int} {cl : List (List Int)} {A : Cr} (H : PCore S D P T cl lin A) (h : A.o ≠ -1) : 1 ≤ mu P T A.p := by
  rcases H with g | ⟨k, f, v, t, w, i, fr, g1, g2, g3, g4, g5, g6, g7⟩
  · exact absurd g h
  · rw [g6]
    simp only [mu]
    repeat' (first | omega | split)
theorem tmu_pos {q : List Int} {cl : List (List Int)} {d : DO} {o2 : Int} (H : TCore D Hd q cl lin ov d o2) (h : o2 ≠ -1) : 1 ≤ tmu d := by
  rcases H with ⟨g, _⟩ | ⟨k, i, fr, _, _, _, _, _, _, ⟨h, rfl⟩ | rfl⟩ | ⟨k, i, fr, v, _, _, _, _, _, _, _, ⟨rfl, _⟩ | ⟨rfl, _⟩⟩
  · exact absurd g h
  all_goals simp [tmu]
theorem drain0 (hl : len ≤ 120) : ∀ (m i : Nat) (σ : MS) (q : List Int) (D P T Hd : Int) (lin : List Nat) (ov : Option (Nat × List Int × List Int)), i + m = 20 → RIx ((len : Int) + 20 * (0 : Nat) + i) σ q D P T Hd lin ov → (σ.o0 = -1 ∨ mu P T σ.p0 ≤ m) →
    ∃ σ', RI ((len : Int) + 20 * (0 : Nat) + (20 : Nat)) σ' ∧ σ'.o0 = -1 ∧ PlPz zs plH (slH len cap ((len : Int) + 20 * (0 : Nat) + i)) plH (slH len cap ((len : Int) + 20 * (0 : Nat) + (20 : Nat))) σ σ' := by
  intro m
  induction m with
  | zero =>
    intro i σ q D P T Hd lin ov hd I hm
    have : i = 20 := by omega
    subst this
    refine ⟨σ, ⟨q, D, P, T, Hd, lin, ov, I⟩, ?_, PlPz.refl⟩
    rcases hm with hm | hm
    · exact hm
    · rcases Int.decEq σ.o0 (-1) with h | h
      · have := mu_pos I.a h
        have : 1 ≤ mu P T σ.p0 := this
        omega
      · exact h
  | succ m ih =>
    intro i σ q D P T Hd lin ov hd I hm
    have hw : PlPz zs plH (slH len cap ((len : Int) + 20 * (0 : Nat) + i)) plM (slM len cap ((len : Int) + 20 * (0 : Nat) + i) (0 : Nat)) σ σ := way_dr (σ := σ) (zs := zs) (cap := cap) (c := 0) (i := i) (by omega) (by omega) hl
    by_cases ho : σ.o0 = -1
    · have g1 : Stp 0 len ((len : Int) + 20 * (0 : Nat) + i) σ σ := skA0 (allB2 (decide_eq_true (by omega)) (decide_eq_true (by omega)))
      obtain ⟨σ2, g3, g4, g5⟩ := ih (i + 1) σ q D P T Hd lin ov (by omega) (by have := I.up; unfold RIx; push_cast; rw [← Int.add_assoc]; exact this) (.inl ho)
      refine ⟨σ2, g3, g4, PlPz.trans (PlPz.trans hw (PlPc.z (g1 cap))) ?_⟩
      rw [wrapS (by omega) (by omega)]
      push_cast at g5 ⊢
      rw [← Int.add_assoc] at g5; exact g5
    · obtain ⟨j', ws', q', cl', A', P', T', lin', g1, g2, g3, _, g6⟩ := push_step (len := len) (j := σ.j) I (by omega) ho
      obtain ⟨σ2, g7, g8, g9⟩ := ih (i + 1) (of0 σ.n j' ws' cl' A' (c1 σ) σ.d σ.o2) q' D P' T' Hd lin' ov (by omega) (by unfold RIx; push_cast; rw [← Int.add_assoc]; exact g3) (by
        rcases g6 with g6 | g6
        · exact .inl g6
        · rcases hm with hm | hm
          · exact absurd hm ho
          · refine .inr ?_
            have hm : mu P T (c0 σ).p ≤ m + 1 := hm
            show mu P' T' A'.p ≤ m
            omega)
      refine ⟨σ2, g7, g8, PlPz.trans (PlPz.trans hw (PlPc.z (g1 cap))) ?_⟩
      rw [wrapS (by omega) (by omega)]
      push_cast at g9 ⊢
      rw [← Int.add_assoc] at g9; exact g9
theorem drain1 (hl : len ≤ 120) : ∀ (m i : Nat) (σ : MS) (q : List Int) (D P T Hd : Int) (lin : List Nat) (ov : Option (Nat × List Int × List Int)), i + m = 20 → RIx ((len : Int) + 20 * (1 : Nat) + i) σ q D P T Hd lin ov → (σ.o1 = -1 ∨ mu P T σ.p1 ≤ m) →
    ∃ σ', RI ((len : Int) + 20 * (1 : Nat) + (20 : Nat)) σ' ∧ σ'.o1 = -1 ∧ σ'.o0 = σ.o0 ∧ PlPz zs plH (slH len cap ((len : Int) + 20 * (1 : Nat) + i)) plH (slH len cap ((len : Int) + 20 * (1 : Nat) + (20 : Nat))) σ σ' := by
  intro m
  induction m with
  | zero =>
    intro i σ q D P T Hd lin ov hd I hm
    have : i = 20 := by omega
    subst this
    refine ⟨σ, ⟨q, D, P, T, Hd, lin, ov, I⟩, ?_, rfl, PlPz.refl⟩
    rcases hm with hm | hm
    · exact hm
    · rcases Int.decEq σ.o1 (-1) with h | h
      · have := mu_pos I.b h
        have : 1 ≤ mu P T σ.p1 := this
        omega
      · exact h
  | succ m ih =>
    intro i σ q D P T Hd lin ov hd I hm
    have hw : PlPz zs plH (slH len cap ((len : Int) + 20 * (1 : Nat) + i)) plM (slM len cap ((len : Int) + 20 * (1 : Nat) + i) (1 : Nat)) σ σ := way_dr (σ := σ) (zs := zs) (cap := cap) (c := 1) (i := i) (by omega) (by omega) hl
    by_cases ho : σ.o1 = -1
    · have g1 : Stp 1 len ((len : Int) + 20 * (1 : Nat) + i) σ σ := skA1 (allB2 (decide_eq_true (by omega)) (decide_eq_true (by omega)))
      obtain ⟨σ2, g3, g4, g4', g5⟩ := ih (i + 1) σ q D P T Hd lin ov (by omega) (by have := I.up; unfold RIx; push_cast at this ⊢; rw [← Int.add_assoc]; exact this) (.inl ho)
      refine ⟨σ2, g3, g4, g4', PlPz.trans (PlPz.trans hw (PlPc.z (g1 cap))) ?_⟩
      rw [wrapS (by omega) (by omega)]
      push_cast at g5 ⊢
      rw [← Int.add_assoc] at g5; exact g5
    · obtain ⟨j', ws', q', cl', A', P', T', lin', g1, g2, g3, _, g6⟩ := push_step (len := len) (j := σ.j) (MInv.swap I) (by omega) ho
      obtain ⟨σ2, g7, g8, g8', g9⟩ := ih (i + 1) (of1 σ.n j' ws' cl' A' (c0 σ) σ.d σ.o2) q' D P' T' Hd lin' ov (by omega) (by have := g3.swap; unfold RIx; push_cast at this ⊢; rw [← Int.add_assoc]; exact this) (by
        rcases g6 with g6 | g6
        · exact .inl g6
        · rcases hm with hm | hm
          · exact absurd hm ho
          · refine .inr ?_
            have hm : mu P T (c1 σ).p ≤ m + 1 := hm
            show mu P' T' A'.p ≤ m
            omega)
      refine ⟨σ2, g7, g8, g8', PlPz.trans (PlPz.trans hw (PlPc.z (g2 cap))) ?_⟩
      rw [wrapS (by omega) (by omega)]
      push_cast at g9 ⊢
      rw [← Int.add_assoc] at g9; exact g9
theorem drain2 (hl : len ≤ 120) : ∀ (m i : Nat) (σ : MS) (q : List Int) (D P T Hd : Int) (lin : List Nat) (ov : Option (Nat × List Int × List Int)), i + m = 20 → RIx ((len : Int) + 20 * (2 : Nat) + i) σ q D P T Hd lin ov → (σ.o2 = -1 ∨ tmu σ.d ≤ m) →
    ∃ σ', RI ((len : Int) + 20 * (2 : Nat) + (20 : Nat)) σ' ∧ σ'.o2 = -1 ∧ σ'.o0 = σ.o0 ∧ σ'.o1 = σ.o1 ∧ PlPz zs plH (slH len cap ((len : Int) + 20 * (2 : Nat) + i)) plH (slH len cap ((len : Int) + 20 * (2 : Nat) + (20 : Nat))) σ σ' := by
  intro m
  induction m with
  | zero =>
    intro i σ q D P T Hd lin ov hd I hm
    have : i = 20 := by omega
    subst this
    refine ⟨σ, ⟨q, D, P, T, Hd, lin, ov, I⟩, ?_, rfl, rfl, PlPz.refl⟩
    rcases hm with hm | hm
    · exact hm
    · rcases Int.decEq σ.o2 (-1) with h | h
      · have := tmu_pos I.t h
        omega
      · exact h
  | succ m ih =>
    intro i σ q D P T Hd lin ov hd I hm
    have hw : PlPz zs plH (slH len cap ((len : Int) + 20 * (2 : Nat) + i)) plM (slM len cap ((len : Int) + 20 * (2 : Nat) + i) (2 : Nat)) σ σ := way_dr (σ := σ) (zs := zs) (cap := cap) (c := 2) (i := i) (by omega) (by omega) hl
    by_cases ho : σ.o2 = -1
    · have g1 : Stp 2 len ((len : Int) + 20 * (2 : Nat) + i) σ σ := skA2 (allB2 (decide_eq_true (by omega)) (decide_eq_true (by omega)))
      obtain ⟨σ2, g3, g4, g4', g4'', g5⟩ := ih (i + 1) σ q D P T Hd lin ov (by omega) (by have := I.up; unfold RIx; push_cast at this ⊢; rw [← Int.add_assoc]; exact this) (.inl ho)
      refine ⟨σ2, g3, g4, g4', g4'', PlPz.trans (PlPz.trans hw (PlPc.z (g1 cap))) ?_⟩
      rw [wrapS (by omega) (by omega)]
      push_cast at g5 ⊢
      rw [← Int.add_assoc] at g5; exact g5
    · obtain ⟨j', ws', q', cl', d', o2', D', Hd', lin', ov', g1, g3, g6⟩ := take_step (len := len) (j := σ.j) I (by omega) ho
      obtain ⟨σ2, g7, g8, g8', g8'', g9⟩ := ih (i + 1) (of0 σ.n j' ws' cl' (c0 σ) (c1 σ) d' o2') q' D' P T Hd' lin' ov' (by omega) (by unfold RIx; push_cast at g3 ⊢; rw [← Int.add_assoc]; exact g3) (by
        rcases g6 with g6 | g6
        · exact .inl g6
        · rcases hm with hm | hm
          · exact absurd hm ho
          · refine .inr ?_
            show tmu d' ≤ m
            omega)
      refine ⟨σ2, g7, g8, g8', g8'', PlPz.trans (PlPz.trans hw (PlPc.z (g1 cap))) ?_⟩
      rw [wrapS (by omega) (by omega)]
      push_cast at g9 ⊢
      rw [← Int.add_assoc] at g9; exact g9
/-- From the loop's begin to its end: all have ended, and there is an order. -/
theorem mc_way (h2 : len = zs.length) (hl : len ≤ 120) (h : RI 0 σ) :
    ∃ σ', σ'.o0 = -1 ∧ σ'.o1 = -1 ∧ σ'.o2 = -1 ∧ OrdPre σ'.cl σ'.n ∧ σ'.cl.length ≤ 7 ∧ 1 ≤ σ'.n ∧ σ'.n ≤ 3 ∧ PlPz zs plH (slH len cap 0) plH (slH len cap ((len : Int) + 60)) σ σ' := by
  obtain ⟨σ1, ⟨q, D, P, T, Hd, lin, ov, I⟩, p1⟩ := loop1 (cap := cap) h2 hl len 0 σ (by omega) h
  obtain ⟨σ2, ⟨q, D, P, T, Hd, lin, ov, I⟩, o2, p2⟩ := drain0 (zs := zs) (cap := cap) hl 20 0 σ1 q D P T Hd lin ov rfl (by simpa using I) (.inr (Nat.le_trans (mu_le _) (by decide)))
  obtain ⟨σ3, ⟨q, D, P, T, Hd, lin, ov, I⟩, o3, o3', p3⟩ := drain1 (zs := zs) (cap := cap) hl 20 0 σ2 q D P T Hd lin ov rfl (by
    have e : (len : Int) + 20 * (0 : Nat) + (20 : Nat) = (len : Int) + 20 * (1 : Nat) + (0 : Nat) := by omega
    rw [e] at I; exact I) (.inr (Nat.le_trans (mu_le _) (by decide)))
  obtain ⟨σ4, ⟨q, D, P, T, Hd, lin, ov, I⟩, o4, o4', o4'', p4⟩ := drain2 (zs := zs) (cap := cap) hl 20 0 σ3 q D P T Hd lin ov rfl (by
    have e : (len : Int) + 20 * (1 : Nat) + (20 : Nat) = (len : Int) + 20 * (2 : Nat) + (0 : Nat) := by omega
    rw [e] at I; exact I) (.inr (Nat.le_trans (tmu_le _) (by decide)))
  have e0 : σ4.o0 = -1 := o4'.trans (o3'.trans o2)
  have e1 : σ4.o1 = -1 := o4''.trans o3
  have hov : ov = none := by
    rcases I.t with ⟨_, _, g⟩ | ⟨k, i, fr, g1, _⟩ | ⟨k, i, fr, v, g1, _⟩
    · exact g
    · omega
    · omega
  subst hov
  have hkl := I.kl
  have hH : Hist σ4.n (rl σ4.cl none) (fun j => j < σ4.cl.length) q lin (2 * ((len : Int) + 20 * (2 : Nat) + (20 : Nat))) (fun j => (c0 σ4).o = (j : Int) ∨ (c1 σ4).o = (j : Int) ∨ σ4.o2 = (j : Int)) := by
    refine I.hist.to (fun j => by simp [dm]) (fun _ _ => rfl) (Int.le_refl _) (fun j hj h => ?_)
    rcases h with h | h | h | h
    · exact .inl h
    · exact .inr (.inl h)
    · exact .inr (.inr h)
    · rcases hj with hj | ⟨_, hj⟩
      · omega
      · cases hj
  have hord : OrdPre σ4.cl σ4.n := hH.ord (fun _ _ => rfl) (fun k hk => by
    have f0 : (c0 σ4).o = -1 := e0
    have f1 : (c1 σ4).o = -1 := e1
    rcases hk with h | h | h <;> omega) I.ring.s1 I.ring.s4 (by omega) I.ids.named
  refine ⟨σ4, e0, e1, o4, hord, hkl, I.ring.s1, I.s3, ?_⟩
  have q1 : PlPz zs plH (slH len cap 0) plH (slH len cap ((len : Int) + 20 * (0 : Nat) + (0 : Nat))) σ σ1 := by
    have e : (len : Int) + 20 * (0 : Nat) + (0 : Nat) = (len : Int) := by omega
    rw [e]; exact @p1
  have q2 : PlPz zs plH (slH len cap ((len : Int) + 20 * (0 : Nat) + (0 : Nat))) plH (slH len cap ((len : Int) + 20 * (1 : Nat) + (0 : Nat))) σ1 σ2 := by
    have e : (len : Int) + 20 * (1 : Nat) + (0 : Nat) = (len : Int) + 20 * (0 : Nat) + (20 : Nat) := by omega
    rw [e]; exact @p2
  have q3 : PlPz zs plH (slH len cap ((len : Int) + 20 * (1 : Nat) + (0 : Nat))) plH (slH len cap ((len : Int) + 20 * (2 : Nat) + (0 : Nat))) σ2 σ3 := by
    have e : (len : Int) + 20 * (2 : Nat) + (0 : Nat) = (len : Int) + 20 * (1 : Nat) + (20 : Nat) := by omega
    rw [e]; exact @p3
  have q4 : PlPz zs plH (slH len cap ((len : Int) + 20 * (2 : Nat) + (0 : Nat))) plH (slH len cap ((len : Int) + 60)) σ3 σ4 := by
    have e : (len : Int) + 60 = (len : Int) + 20 * (2 : Nat) + (20 : Nat) := by omega
    rw [e]; exact @p4
  intro β kind cs J A hβ hA
  exact PlPz.trans (PlPz.trans (PlPz.trans q1 q2) q3) q4 hβ hA
end
end Go.Sx
