/- The plain law of a mailbox: a Drain's steps. -/
import Derived.Test.YtmmcpgjfkphgaaaGreatSmW5
namespace Go.Sx
set_option maxRecDepth 100000
/-- How many steps a Drain makes alone, at the most. -/
def tmu : DO → Nat
  | .front f _ => if f = 63 then 4 else 3
  | .drop f _ _ => if f = 66 then 2 else 1
  | _ => 0
theorem tmu_le (d : DO) : tmu d ≤ 4 := by
  unfold tmu
  split
  · split <;> decide
  · split <;> decide
  · decide
theorem rs2_eq {cl : List (List Int)} {k : Nat} {i f t kd w e0 x0 c : Int} (h : k < cl.length) (hr : cl.getD k [] = rowM i f t kd w e0 x0) : rs cl k 2 c = cl.set k (rowM i f c kd w e0 x0) := by
  unfold rs; rw [hr]; rfl
theorem rs27_eq {cl : List (List Int)} {k : Nat} {i f t kd w e0 x0 c e : Int} (h : k < cl.length) (hr : cl.getD k [] = rowM i f t kd w e0 x0) : rs (rs cl k 2 c) k 7 e = cl.set k (rowM i f c kd w e x0) := by
  rw [rs2_eq h hr]; unfold rs; rw [getD_setL h, List.set_set]; rfl
theorem rs29_eq {cl : List (List Int)} {k : Nat} {i f t kd w e0 x0 c x : Int} (h : k < cl.length) (hr : cl.getD k [] = rowM i f t kd w e0 x0) : rs (rs cl k 2 c) k 9 x = cl.set k (rowM i f c kd w e0 x) := by
  rw [rs2_eq h hr]; unfold rs; rw [getD_setL h, List.set_set]; rfl
section
variable {K S o2 D P T Hd : Int} {ws q : List Int} {cl : List (List Int)} {A B : Cr} {d : DO} {lin : List Nat} {ov : Option (Nat × List Int × List Int)} {j : MJ} {len : Nat}
theorem MInv.updT (I : MInv K S ws q cl A B d o2 D P T Hd lin ov) {k : Nat} {ws' q' : List Int} {cl' : List (List Int)} {D' Hd' o2' : Int} {d' : DO} {lin' : List Nat} {ov' : Option (Nat × List Int × List Int)} (hAo : o2 = (k : Int)) (hR : Ring S ws' q' D' P T Hd') (hD : D ≤ D')
    (hcl : cl'.length = cl.length ∨ (cl'.length = cl.length + 1 ∧ o2' = -1)) (hcl' : ∀ j, j < cl.length → j ≠ k → cl'.getD j [] = cl.getD j []) (hlin : ∀ j, j < cl.length → j ≠ k → (j ∈ lin ↔ j ∈ lin')) (hids : IdsR cl' (K + 1))
    (hH : Hist S (rl cl' ov') (dm cl' ov') q' lin' (2 * (K + 1)) (fun j => A.o = (j : Int) ∨ B.o = (j : Int) ∨ o2' = (j : Int) ∨ j = 1000)) (hT : TCore D' Hd' q' cl' lin' ov' d' o2') (ho : o2' = -1 ∨ o2' = o2) :
    MInv (K + 1) S ws' q' cl' A B d' o2' D' P T Hd' lin' ov' := by
  have ha : ∀ j : Nat, A.o = (j : Int) → j ≠ k := fun j hj e => I.at2 (by rw [hj]; omega) (by rw [hAo, hj, e])
  have hb : ∀ j : Nat, B.o = (j : Int) → j ≠ k := fun j hj e => I.bt2 (by rw [hj]; omega) (by rw [hAo, hj, e])
  have hne : o2 ≠ -1 := by omega
  have := I.k0; have := I.kP; have hk2 := I.kl2 hne
  have hle : cl.length ≤ cl'.length := by omega
  refine ⟨hR, I.s3, hH, hids, I.a.mono hD (Int.le_refl _) (Int.le_refl _) (fun j hj hl => ⟨by omega, hcl' j hl (ha j hj), hlin j hl (ha j hj)⟩), I.b.mono hD (Int.le_refl _) (Int.le_refl _) (fun j hj hl => ⟨by omega, hcl' j hl (hb j hj), hlin j hl (hb j hj)⟩), hT, I.ab, fun h => ?_, fun h => ?_, by omega, fun h => by omega, by omega, by omega⟩
  · rcases ho with ho | ho
    · rw [ho]; exact h
    · rw [ho]; exact I.at2 h
  · rcases ho with ho | ho
    · rw [ho]; exact h
    · rw [ho]; exact I.bt2 h
def TakeOut (len : Nat) (K S : Int) (ws q : List Int) (cl : List (List Int)) (A B : Cr) (d : DO) (o2 P T : Int) (j : MJ) : Prop :=
  ∃ j' ws' q' cl' d' o2' D' Hd' lin' ov', Stp 2 len K (of0 S j ws cl A B d o2) (of0 S j' ws' cl' A B d' o2') ∧
    MInv (K + 1) S ws' q' cl' A B d' o2' D' P T Hd' lin' ov' ∧ (o2' = -1 ∨ tmu d' < tmu d)
theorem take_step (I : MInv K S ws q cl A B d o2 D P T Hd lin ov) (hK : K ≤ 1000) (hb : o2 ≠ -1) : TakeOut len K S ws q cl A B d o2 P T j := by
  have R := I.ring
  have hs1 := R.s1; have hs4 := R.s4; have hs3 := I.s3; have hwl := R.wl; have htP := R.tP; have hkP := I.kP; have hpT := R.pT; have hd0 := R.d0; have hpq := R.pq; have hqS := R.qS; have hkl := I.kl; have hk0 := I.k0; have hk6 := I.kl2 hb
  have hm := mod_lt4 (m := D) hs1 hs4
  have hdv := div_le hs1 hs4 hd0
  have hmS := Int.emod_lt_of_pos D (show 0 < S by omega)
  have e0 : ws.set (5 + S).toNat (ws.getD (5 + S).toNat 0) = ws := set_self (by omega)
  have e1 : ws.set (7 + S + D % S).toNat (ws.getD (7 + S + D % S).toNat 0) = ws := set_self (by omega)
  have e3 : IntKind.i64.wrap (IntKind.i64.wrap (2 * K) + 1) = 2 * K + 1 := by rw [wrap_i64 (x := 2 * K) (by omega) (by omega), wrap_i64 (by omega) (by omega)]
  have hh := R.head
  rcases I.t with ⟨h, _⟩ | ⟨k, i, fr, rfl, hk, hr, h2, rfl, rfl, ⟨h, rfl⟩ | rfl⟩ | ⟨k, i, fr, v, rfl, hk, hr, h2, hv0, hv1, rfl, ⟨rfl, rfl, hq, h3⟩ | ⟨rfl, rfl, h3⟩⟩
  · exact absurd h hb
  · -- Front.head
    refine ⟨_, _, q, _, .front 77 (ws.getD (5 + S).toNat 0), k, Hd, Hd, lin, none, fh2 ?_, ?_, .inr ?_⟩
    · simp only [allB_iff, List.forall_mem_cons, decide_eq_true_eq, Bool.not_eq_true', Bool.not_not, Bool.not_eq_false', decide_eq_false_iff_not, beq_iff_eq, beq_eq_false_iff_ne, bne_iff_ne, bne_eq_false_iff_eq, ne_eq, hwl, rs_len, Int.toNat_natCast]
      (and_intros <;> first | trivial | omega | assumption | (intro _ hb; cases hb; done))
    · rw [e0, hh]
      exact I.updT rfl R (Int.le_refl _) (.inl rfl) (fun _ _ _ => rfl) (fun _ _ _ => .rfl) (I.ids.up (by omega)) (I.hist.to (fun _ => .rfl) (fun _ _ => rfl) (by omega) (fun _ _ h => h)) (.inr (.inl ⟨k, i, fr, rfl, hk, hr, h2, rfl, rfl, .inr rfl⟩)) (.inr rfl)
    · simp [tmu]
  · -- Front.look
    have hni : ¬ 1000 ∈ lin := fun hm => by rcases I.hist.lt _ hm with h | ⟨_, h⟩; omega; cases h
    have hfr : fr ≤ 2 * K := by
      obtain ⟨i', f', t', kd', w', e', x', g1, g2, g3, g4, g5⟩ := I.hist.rows k (.inl hk)
      have g1 : cl.getD k [] = _ := g1
      rw [hr] at g1
      simp only [rowM, List.cons.injEq] at g1
      omega
    rcases R.sees hd0 (show Hd ≤ P by omega) with ⟨c1, c2, c3, c4⟩ | ⟨c1, c2, c3⟩ | ⟨c1, c2, c3, c4⟩ | ⟨l, c1, c2, c3, c4⟩
    · omega
    · have z0 : (Hd - Hd).toNat = 0 := by omega
      rw [z0] at c3
      have hqv := R.qval (k := 0) (by omega)
      have hfu : fullQ (ws.getD (7 + S + Hd % S).toNat 0) (Hd / S) = true := by rw [c3, fullQ_full (by omega) (by omega) hqv.1 hqv.2]; exact decide_eq_true rfl
      have hvl : valR (ws.getD (7 + S + Hd % S).toNat 0) = q.getD 0 0 := by rw [c3]; exact val_full (by omega) (by omega) hqv.1 hqv.2
      refine ⟨_, _, q, _, .drop 66 Hd (valR (ws.getD (7 + S + Hd % S).toNat 0)), k, Hd, Hd, lin ++ [k], some (k, rowM i fr (-1) 2 0 0 (q.getD 0 0), rowM 0 fr (-1) 3 0 0 0), flK2 ?_, ?_, .inr ?_⟩
      · simp only [allB_iff, List.forall_mem_cons, decide_eq_true_eq, Bool.not_eq_true', Bool.not_not, Bool.not_eq_false', decide_eq_false_iff_not, beq_iff_eq, beq_eq_false_iff_ne, bne_iff_ne, bne_eq_false_iff_eq, ne_eq, hwl, rs_len, Int.toNat_natCast, hfu]
        (and_intros <;> first | trivial | omega | assumption | (intro _ hb; cases hb; done))
      · rw [hvl, e1]
        have hf : fifoS S q 2 0 = ([0, 0, q.getD 0 0], q, 0) := by
          have : ¬ q.length = 0 := by omega
          simp [fifoS, this]
        have h5 := (I.hist.ans 0 (q.getD 0 0) (.inl hk) hr h2).eff (.inl hk) updR_eq h2 hf
        have h6 := h5.begin (k := 1000) (ck' := 2 * (K + 1)) (i := 0) (f := fr) (kd := 3) (w := 0) (O' := fun j => A.o = (j : Int) ∨ B.o = (j : Int) ∨ (k : Int) = (j : Int) ∨ j = 1000) (fun h => by rcases h with h | ⟨_, h⟩; omega; cases h) (by omega) (by omega) (by decide) (by decide) (fun _ _ h => h) (.inr (.inr (.inr rfl)))
        refine I.updT rfl R (Int.le_refl _) (.inl rfl) (fun _ _ _ => rfl) (fun j _ hj => by simp [hj]) (I.ids.up (by omega)) (h6.to (fun j => ?_) (fun j _ => ?_) (Int.le_refl _) (fun _ _ h => h)) (.inr (.inr ⟨k, i, fr, q.getD 0 0, rfl, hk, hr, by simp, hqv.1, hqv.2, rfl, .inl ⟨rfl, rfl, fun h => by rw [h] at hpq; simp at hpq; omega, ?_⟩⟩)) (.inr rfl)
        · simp [dm, or_comm]
        · simp only [rl, updR]
        · intro h
          rcases List.mem_append.1 h with h | h
          · exact hni h
          · have := List.mem_singleton.1 h; omega
      · simp [tmu]
    · have hfu : fullQ (ws.getD (7 + S + Hd % S).toNat 0) (Hd / S) = false := by rw [c4]; exact fullQ_empty (by omega) (by omega)
      have hq0 : q.length = 0 := by omega
      refine ⟨_, _, q, _, .endN, -1, Hd, Hd, lin ++ [k], none, flE2 ?_, ?_, .inl rfl⟩
      · simp only [allB_iff, List.forall_mem_cons, decide_eq_true_eq, Bool.not_eq_true', Bool.not_not, Bool.not_eq_false', decide_eq_false_iff_not, beq_iff_eq, beq_eq_false_iff_ne, bne_iff_ne, bne_eq_false_iff_eq, ne_eq, hwl, rs_len, Int.toNat_natCast, hfu]
        (and_intros <;> first | trivial | omega | assumption | (intro _ hb; cases hb; done))
      · rw [e1, e3, Int.toNat_natCast, rs27_eq hk hr]
        have hf : fifoS S q 2 0 = ([15, 0, 0], q, 0) := by simp [fifoS, hq0]
        have h5 := ((I.hist.ans 15 0 (.inl hk) hr h2).eff (.inl hk) updR_eq h2 hf).fin (i' := i) (t := 2 * K + 1) (O' := fun j => A.o = (j : Int) ∨ B.o = (j : Int) ∨ (-1 : Int) = (j : Int) ∨ j = 1000) (.inl hk) updR_eq (by simp) (by omega) (fun j _ hj h => by
          rcases h with h | h | h | h
          · exact .inl h
          · exact .inr (.inl h)
          · exact absurd (show k = j by omega) (fun e => hj e.symm)
          · exact .inr (.inr (.inr h)))
        refine I.updT rfl R (Int.le_refl _) (.inl (by simp)) (fun j _ hj => getD_setL_ne (fun h => hj h.symm)) (fun j _ hj => by simp [hj]) ((I.ids.set hk (by rw [hr]; rfl)).up (by omega)) (h5.to (fun j => dm_set j) (fun j _ => ?_) (by omega) (fun _ _ h => h)) (.inl ⟨rfl, rfl, rfl⟩) (.inl rfl)
        simp only [rl, updR]
        by_cases c : j = k
        · subst c; rw [getD_setL hk, if_pos rfl]
        · rw [getD_setL_ne (fun h => c h.symm), if_neg c, if_neg c]
    · omega
  · -- Drop.clear
    have hq1 : 1 ≤ q.length := by cases q with | nil => exact absurd rfl hq | cons _ _ => simp
    have hcw : IntKind.u32.wrap (Hd / S + 1) = Hd / S + 1 := wrap_u32 (by omega) (by omega)
    refine ⟨_, _, q.drop 1, _, .drop 80 Hd v, k, Hd + 1, Hd, lin ++ [1000], some (k, rowM i fr (-1) 2 0 0 v, rowM 0 fr (-1) 3 0 0 0), dc2 ?_, ?_, .inr ?_⟩
    · simp only [allB_iff, List.forall_mem_cons, decide_eq_true_eq, Bool.not_eq_true', Bool.not_not, Bool.not_eq_false', decide_eq_false_iff_not, beq_iff_eq, beq_eq_false_iff_ne, bne_iff_ne, bne_eq_false_iff_eq, ne_eq, hwl, rs_len, Int.toNat_natCast, hcw]
      (and_intros <;> first | trivial | omega | assumption | (intro _ hb; cases hb; done))
    · rw [hcw]
      have hf : fifoS S q 3 0 = ([0, 0, 0], q, 1) := by
        have : ¬ q.length = 0 := by omega
        simp [fifoS, this]
      have h5 := I.hist.eff (k := 1000) (.inr ⟨rfl, rfl⟩) (show rl cl (some (k, rowM i fr (-1) 2 0 0 v, rowM 0 fr (-1) 3 0 0 0)) 1000 = rowM 0 fr (-1) 3 0 0 0 from rfl) h3 hf
      exact I.updT rfl (R.clear hq) (by omega) (.inl rfl) (fun _ _ _ => rfl) (fun j hj _ => by simp; intro h; omega) (I.ids.up (by omega)) (h5.to (fun _ => .rfl) (fun _ _ => rfl) (by omega) (fun _ _ h => h)) (.inr (.inr ⟨k, i, fr, v, rfl, hk, hr, List.mem_append_left _ h2, hv0, hv1, rfl, .inr ⟨by rw [Int.add_sub_cancel], by omega, by simp⟩⟩)) (.inr rfl)
    · simp [tmu]
  · -- Drop.head
    have hw : IntKind.u64.wrap (D - 1 + 1) = D := by rw [Int.sub_add_cancel]; exact wrap_u64 (by omega) (by omega)
    have hvw : IntKind.u64.wrap (List.getD ([] ++ ([] ++ [v])) 0 0) = v := by
      show IntKind.u64.wrap v = v
      exact wrap_u64 hv0 (by omega)
    refine ⟨_, _, q, _, .endT v, -1, D, D, lin.map fun k => if k = 1000 then cl.length else k, none, dh2 ?_, ?_, .inl rfl⟩
    · simp only [allB_iff, List.forall_mem_cons, decide_eq_true_eq, Bool.not_eq_true', Bool.not_not, Bool.not_eq_false', decide_eq_false_iff_not, beq_iff_eq, beq_eq_false_iff_ne, bne_iff_ne, bne_eq_false_iff_eq, ne_eq, hwl, rs_len, Int.toNat_natCast]
      (and_intros <;> first | trivial | omega | assumption | (intro _ hb; cases hb; done))
    · rw [hw, e3, hvw, Int.toNat_natCast, rs29_eq hk hr, getD_setL hk]
      have hO1 : Hist S (updR (rl cl (some (k, rowM i fr (-1) 2 0 0 v, rowM 0 fr (-1) 3 0 0 0))) k (rowM i fr (2 * K + 1) 2 0 0 v)) (dm cl (some (k, rowM i fr (-1) 2 0 0 v, rowM 0 fr (-1) 3 0 0 0))) q lin (2 * K + 1) (fun j => A.o = (j : Int) ∨ B.o = (j : Int) ∨ j = 1000) :=
        I.hist.fin (.inl hk) (i := i) (by show (if k = 1000 then _ else if k = k then _ else _) = _; rw [if_neg (by omega), if_pos rfl]) h2 (by omega) (fun j _ hj h => by
          rcases h with h | h | h | h
          · exact .inl h
          · exact .inr (.inl h)
          · exact absurd (show k = j by omega) (fun e => hj e.symm)
          · exact .inr (.inr h))
      have hO2 := hO1.fin (k := 1000) (i := 0) (i' := 2 * K + 1) (f := fr) (kd := 3) (w := 0) (e := 0) (x := 0) (t := 2 * K + 1) (O' := fun j => j ≠ 1000 ∧ (A.o = (j : Int) ∨ B.o = (j : Int))) (.inr ⟨rfl, rfl⟩) (by rw [updR_ne (by omega)]; rfl) h3 (Int.le_refl _) (fun j _ hj h => by
          rcases h with h | h | h
          · exact ⟨hj, .inl h⟩
          · exact ⟨hj, .inr h⟩
          · exact absurd h hj)
      have hO3 := hO2.rename (a := 1000) (b := cl.length) (r' := rl (cl.set k (rowM i fr (2 * K + 1) 2 0 0 v) ++ [rowM (2 * K + 1) fr (2 * K + 1) 3 0 0 0]) none) (dom' := dm (cl.set k (rowM i fr (2 * K + 1) 2 0 0 v) ++ [rowM (2 * K + 1) fr (2 * K + 1) 3 0 0 0]) none)
        (O' := fun j => A.o = (j : Int) ∨ B.o = (j : Int) ∨ (-1 : Int) = (j : Int) ∨ j = 1000) (fun h => by rcases h with h | ⟨h, _⟩ <;> omega) (fun j => by
          simp only [dm, List.length_append, List.length_set, List.length_singleton, Option.isSome_none, Option.isSome_some, Bool.false_eq_true, and_false, or_false, and_true, or_true]
          omega) (fun j hj hne => by
          have hj' : j < cl.length := by rcases hj with h | ⟨h, _⟩; exact h; exact absurd h hne
          simp only [rl]
          rw [getD_snocL (by simpa using hj'), updR_ne hne]
          by_cases c : j = k
          · subst c; rw [getD_setL hk, updR_eq]
          · rw [getD_setL_ne (fun h => c h.symm), updR_ne c]; simp only [rl]; rw [if_neg hne, if_neg c]) (by
          rw [updR_eq]
          simp only [rl]
          have := getD_snocE (cl := cl.set k (rowM i fr (2 * K + 1) 2 0 0 v)) (r := rowM (2 * K + 1) fr (2 * K + 1) 3 0 0 0)
          rwa [List.length_set] at this) (fun j _ _ h => by rcases h.2 with h | h; exact .inl h; exact .inr (.inl h)) (fun h => absurd rfl h.1)
      refine I.updT rfl (R.heads D) (Int.le_refl _) (.inr ⟨by simp, rfl⟩) (fun j hj hne => ?_) (fun j hj _ => ?_) ((I.ids.set hk (by rw [hr]; rfl)).snoc (by show 2 * K ≤ 2 * K + 1; omega) (by show 2 * K + 1 < 2 * (K + 1); omega) (by omega)) (hO3.to (fun _ => .rfl) (fun _ _ => rfl) (by omega) (fun _ _ h => h)) (.inl ⟨rfl, rfl, rfl⟩) (.inl rfl)
      · rw [getD_snocL (by simpa using hj), getD_setL_ne (fun h => hne h.symm)]
      · constructor
        · intro h; exact List.mem_map.2 ⟨j, h, if_neg (by omega)⟩
        · intro h
          obtain ⟨x, hx, he⟩ := List.mem_map.1 h
          by_cases c : x = 1000
          · rw [if_pos c] at he; omega
          · rw [if_neg c] at he; exact he ▸ hx
end
end Go.Sx
/- The plain law of a mailbox: somebody begins, or waits. -/
namespace Go.Sx
set_option maxRecDepth 100000
section
variable {K S o2 D P T Hd : Int} {ws q : List Int} {cl : List (List Int)} {A B : Cr} {d : DO} {lin : List Nat} {ov : Option (Nat × List Int × List Int)} {j : MJ} {len : Nat}
theorem rl_snoc (ho : ov = none ∨ ∃ (k : Nat) (a b : List Int), o2 = (k : Int) ∧ k < cl.length ∧ ov = some (k, a, b)) {row : List Int} (hl : cl.length ≤ 7) : ∀ j, rl (cl ++ [row]) ov j = updR (rl cl ov) cl.length row j ∨ ¬ (j = cl.length ∨ dm cl ov j) := by
  intro j
  by_cases c : j = cl.length
  · subst c
    left
    rw [updR_eq]
    rcases ho with rfl | ⟨k2, a, b, g1, g2, rfl⟩
    · exact getD_snocE
    · simp only [rl]
      rw [if_neg (by omega), if_neg (by omega)]; exact getD_snocE
  · rw [updR_ne c]
    by_cases e : j < cl.length
    · left
      rcases ho with rfl | ⟨k2, a, b, g1, g2, rfl⟩
      · exact getD_snocL e
      · simp only [rl]; rw [getD_snocL e]
    · rcases ho with rfl | ⟨k2, a, b, g1, g2, rfl⟩
      · right; simp [dm, c, e]
      · by_cases f : j = 1000
        · left; subst f; rfl
        · right; simp [dm, c, e, f]
/-- A call more. -/
theorem MInv.hbegin (I : MInv K S ws q cl A B d o2 D P T Hd lin ov) {kd w : Int} (h1 : 1 ≤ kd) (h2 : kd ≤ 3) {O' : Nat → Prop} (hl : cl.length < 6) (hO : ∀ j, dm cl ov j → (A.o = (j : Int) ∨ B.o = (j : Int) ∨ o2 = (j : Int) ∨ j = 1000) → O' j) (hn : O' cl.length) :
    Hist S (rl (cl ++ [rowM (2 * K) (2 * K) (-1) kd w 0 0]) ov) (dm (cl ++ [rowM (2 * K) (2 * K) (-1) kd w 0 0]) ov) q lin (2 * (K + 1)) O' ∧ IdsR (cl ++ [rowM (2 * K) (2 * K) (-1) kd w 0 0]) (K + 1) := by
  have hk0 := I.k0
  have h := I.hist.begin (k := cl.length) (ck' := 2 * (K + 1)) (i := 2 * K) (f := 2 * K) (w := w) (O' := O') (fun h => by rcases h with h | ⟨h, _⟩ <;> omega) (by omega) (by omega) h1 h2 hO hn
  refine ⟨h.to (fun j => ?_) (fun j hj => ?_) (Int.le_refl _) (fun _ _ h => h), I.ids.snoc (Int.le_refl _) (by show 2 * K < 2 * (K + 1); omega) (by omega)⟩
  · simp only [dm, List.length_append, List.length_singleton]
    constructor
    · rintro (h | h)
      · by_cases c : j = cl.length
        · exact .inl c
        · exact .inr (.inl (by omega))
      · exact .inr (.inr h)
    · rintro (h | h | h)
      · exact .inl (by omega)
      · exact .inl (by omega)
      · exact .inr h
  · rcases rl_snoc I.t.ovk I.kl j with h | h
    · exact h
    · exact absurd hj h
theorem push_begin (I : MInv K S ws q cl A B d o2 D P T Hd lin ov) (hK : K ≤ 1000) (h : A.o = -1) (hlen : K < (len : Int)) (hl : cl.length < 6) :
    ∃ cl' A', Stp 0 len K (of0 S j ws cl A B d o2) (of0 S j ws cl' A' B d o2) ∧ Stp 1 len K (of1 S j ws cl A B d o2) (of1 S j ws cl' A' B d o2) ∧ MInv (K + 1) S ws q cl' A' B d o2 D P T Hd lin ov := by
  have R := I.ring
  have hs1 := R.s1; have hs3 := I.s3; have hk0 := I.k0; have hkP := I.kP
  have e1 : IntKind.i64.wrap (2 * K) = 2 * K := wrap_i64 (by omega) (by omega)
  have e2 : IntKind.u64.wrap K = K := wrap_u64 (by omega) (by omega)
  refine ⟨_, ⟨.act 62 K 0 0, cl.length⟩, bg0 ?_, bg1 ?_, ?_⟩
  iterate 2
    simp only [allB_iff, List.forall_mem_cons, decide_eq_true_eq, Bool.not_eq_true', Bool.not_not, Bool.not_eq_false', decide_eq_false_iff_not, h]
    (and_intros <;> first | trivial | omega | assumption | (intro _ hb; cases hb; done))
  · rw [e1, e2]
    have hlt : ∀ x : Int, x = -1 ∨ (0 ≤ x ∧ x < (cl.length : Int)) → (cl.length : Int) ≠ x := fun x hx => by omega
    obtain ⟨g1, g2⟩ := I.hbegin (kd := 1) (w := K) (O' := fun j => (cl.length : Int) = (j : Int) ∨ B.o = (j : Int) ∨ o2 = (j : Int) ∨ j = 1000) (by decide) (by decide) hl (fun j _ ho => by
      rcases ho with ho | ho
      · rw [h] at ho; omega
      · exact .inr ho) (.inl rfl)
    exact ⟨R, hs3, g1, g2, .inr ⟨cl.length, _, K, 0, 0, 2 * K, 2 * K, rfl, by simp, getD_snocE, hk0, by omega, rfl, .tail (fun hm => by rcases I.hist.lt _ hm with h | ⟨h, _⟩ <;> omega)⟩,
      I.b.mono (Int.le_refl _) (Int.le_refl _) (Int.le_refl _) (fun k _ hk => ⟨by simp; omega, getD_snocL hk, .rfl⟩), I.t.mono id .rfl (fun k _ hk => ⟨by simp; omega, getD_snocL hk, .rfl⟩), fun _ => hlt _ I.b.lt, fun _ => hlt _ I.t.lt, I.bt2, by simp; omega, fun _ => by simp; omega, by omega, by omega⟩
theorem take_begin (I : MInv K S ws q cl A B d o2 D P T Hd lin ov) (hK : K ≤ 1000) (h : o2 = -1) (hlen : K < (len : Int)) (hl : cl.length < 6) :
    ∃ cl' d' o2', Stp 2 len K (of0 S j ws cl A B d o2) (of0 S j ws cl' A B d' o2') ∧ MInv (K + 1) S ws q cl' A B d' o2' D P T Hd lin ov := by
  have R := I.ring
  have hs1 := R.s1; have hs3 := I.s3; have hk0 := I.k0; have hkP := I.kP
  have e1 : IntKind.i64.wrap (2 * K) = 2 * K := wrap_i64 (by omega) (by omega)
  have hHd : Hd = D ∧ ov = none := by
    rcases I.t with ⟨_, g⟩ | ⟨k, i, fr, g1, _⟩ | ⟨k, i, fr, v, g1, _⟩
    · exact g
    · omega
    · omega
  obtain ⟨rfl, rfl⟩ := hHd
  refine ⟨_, .front 63 0, cl.length, bg2 ?_, ?_⟩
  · simp only [allB_iff, List.forall_mem_cons, decide_eq_true_eq, Bool.not_eq_true', Bool.not_not, Bool.not_eq_false', decide_eq_false_iff_not, h]
    (and_intros <;> first | trivial | omega | assumption | (intro _ hb; cases hb; done))
  · rw [e1]
    have hlt : ∀ x : Int, x = -1 ∨ (0 ≤ x ∧ x < (cl.length : Int)) → x ≠ -1 → x ≠ (cl.length : Int) := fun x hx _ => by omega
    obtain ⟨g1, g2⟩ := I.hbegin (kd := 2) (w := 0) (O' := fun j => A.o = (j : Int) ∨ B.o = (j : Int) ∨ (cl.length : Int) = (j : Int) ∨ j = 1000) (by decide) (by decide) hl (fun j _ ho => by
      rcases ho with ho | ho | ho | ho
      · exact .inl ho
      · exact .inr (.inl ho)
      · rw [h] at ho; omega
      · exact .inr (.inr (.inr ho))) (.inr (.inr (.inl rfl)))
    exact ⟨R, hs3, g1, g2, I.a.mono (Int.le_refl _) (Int.le_refl _) (Int.le_refl _) (fun k _ hk => ⟨by simp; omega, getD_snocL hk, .rfl⟩), I.b.mono (Int.le_refl _) (Int.le_refl _) (Int.le_refl _) (fun k _ hk => ⟨by simp; omega, getD_snocL hk, .rfl⟩),
      .inr (.inl ⟨cl.length, 2 * K, 2 * K, rfl, by simp, getD_snocE, fun hm => by rcases I.hist.lt _ hm with h | ⟨h, _⟩ <;> omega, rfl, rfl, .inl ⟨0, rfl⟩⟩), I.ab, hlt _ I.a.lt, hlt _ I.b.lt, by simp; omega, fun _ => by simp; omega, by omega, by omega⟩
end
end Go.Sx
