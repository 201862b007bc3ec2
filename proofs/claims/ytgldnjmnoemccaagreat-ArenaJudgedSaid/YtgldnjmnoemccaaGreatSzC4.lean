/- The plain law of an arena: its steps. Printed by gen_C4.py. -/
import Derived.Test.YtgldnjmnoemccaaGreatSzC3
namespace Go.Sx
set_option maxRecDepth 100000
theorem allOf_perm {S S' hd hd' : List Int} {A A' B C : Cr} (h : (S ++ (hd.map idW ++ owned A.x)).Perm (S' ++ (hd'.map idW ++ owned A'.x))) : (allOf S hd A B C).Perm (allOf S' hd' A' B C) := by
  have h2 := h.append_right (owned B.x ++ owned C.x)
  simp only [List.append_assoc] at h2
  unfold allOf
  exact h2
theorem owned_in {S hd : List Int} {A B C : Cr} {i : Int} (h : i ∈ owned B.x ++ owned C.x) : i ∈ allOf S hd A B C := by
  unfold allOf
  exact List.mem_append_right _ (List.mem_append_right _ (List.mem_append_right _ h))
theorem owned_ne {S hd : List Int} {A B C : Cr} {i p : Int} (hnd : (allOf S hd A B C).Nodup) (h : i ∈ owned B.x ++ owned C.x) (hp : p ∈ owned A.x) : i ≠ p := by
  intro e
  subst e
  have h1 := (List.nodup_append.1 hnd).2.1
  have h2 := (List.nodup_append.1 h1).2.1
  exact (List.nodup_append.1 h2).2.2 i hp i h rfl
theorem owned_nS {S hd : List Int} {A B C : Cr} {p : Int} (hnd : (allOf S hd A B C).Nodup) (hp : p ∈ owned A.x) : ¬ p ∈ S := by
  intro h
  exact (List.nodup_append.1 hnd).2.2 p h p (List.mem_append_right _ (List.mem_append_left _ hp)) rfl
theorem owned_nH {S hd : List Int} {A B C : Cr} {p : Int} (hnd : (allOf S hd A B C).Nodup) (hp : p ∈ owned A.x) : ¬ p ∈ hd.map idW := by
  intro h
  have h1 := (List.nodup_append.1 hnd).2.1
  exact (List.nodup_append.1 h1).2.2 p h p (List.mem_append_left _ hp) rfl
theorem owned_A {S hd : List Int} {A B C : Cr} {i : Int} (h : i ∈ owned A.x) : i ∈ allOf S hd A B C := by
  unfold allOf
  exact List.mem_append_right _ (List.mem_append_right _ (List.mem_append_left _ h))
theorem hO_end {o1 o2 : Int} {k : Nat} (j : Nat) (hj : j ≠ k) (h : (k : Int) = (j : Int) ∨ o1 = (j : Int) ∨ o2 = (j : Int)) : (-1 : Int) = (j : Int) ∨ o1 = (j : Int) ∨ o2 = (j : Int) := by
  rcases h with h | h | h
  · exact absurd (show k = j by omega) (fun e => hj e.symm)
  · exact .inr (.inl h)
  · exact .inr (.inr h)
section
variable {K n t ck : Int} {m : Nat} {ws S hd : List Int} {cl : List (List Int)} {B C : Cr} {lin : List Nat} {ans : Nat → Int × Int} {j : MJ} {k : Nat} {fr a b : Int}
theorem st_pop1 {w p q : Int} (I : AInv K n m ws S t hd cl ck ⟨.al 51 0 0 0 w p q false 0 71, (k : Int), b⟩ B C lin ans) (hK : K ≤ 900) (hk : k < cl.length) (hr : cl.getD k [] = rowC k fr (-1) 7 a 0 0) (h : ¬ k ∈ lin) : StepOut K n m j ws t hd cl ck ⟨.al 51 0 0 0 w p q false 0 71, (k : Int), b⟩ B C := by
  have R := I.ar
  have hn1 := R.n1; have hn4 := R.n4; have hwl := R.wl; have ht0 := R.t0; have htK := R.tK; have htop := R.top; have hhd := R.hd; have hkl := I.kl; have hkc := I.kc; have hc0 := I.hist.ck0
  have e0 : ws.set 0 (ws.getD 0 0) = ws := set_self (by omega)
  have hi0 : idW (ws.getD 0 0) = hdS S := by rw [htop]; exact idW_topW (by omega) (by omega)
  have hr0 : 0 ≤ ws.getD 0 0 ∧ ws.getD 0 0 < 18446744073709551616 := by rw [htop]; unfold topW; omega
  have eck : IntKind.i64.wrap (ck + 1) = ck + 1 := wrap_i64 (by omega) (by omega)
  have hkk : (k : Int) ≥ 0 := by omega
  by_cases he : hdS S = -1
  · refine ⟨_, _, S, t, hd, cl, _, ⟨.al 75 0 0 0 (ws.getD 0 0) (idW (ws.getD 0 0)) q true 15 92, k, b⟩, lin, ans, p1E0 hkk ?_, p1E1 hkk ?_, p1E2 hkk ?_, ?_, .inr ?_⟩
    iterate 3
      simp only [allB_iff, List.forall_mem_cons, decide_eq_true_eq, Bool.not_eq_true', Bool.not_not, decide_eq_false_iff_not, beq_iff_eq, beq_eq_false_iff_ne, bne_iff_ne, bne_eq_false_iff_eq, ne_eq, rs_len, Int.toNat_natCast, hi0, hwl, he]
      (and_intros <;> first | trivial | omega | assumption | (intro _ hb; cases hb; done))
    · rw [e0, eck]
      exact I.same rfl hk hr (.lacks _ _ _ _ _ _ h) rfl (fun i _ ho => by simp [owned] at ho) (by simp [owned])
    · simp [mu]
  · refine ⟨_, _, S, t, hd, cl, _, ⟨.al 51 0 0 0 (ws.getD 0 0) (idW (ws.getD 0 0)) q false 0 92, k, b⟩, lin, ans, p1N0 hkk ?_, p1N1 hkk ?_, p1N2 hkk ?_, ?_, .inr ?_⟩
    iterate 3
      simp only [allB_iff, List.forall_mem_cons, decide_eq_true_eq, Bool.not_eq_true', Bool.not_not, decide_eq_false_iff_not, beq_iff_eq, beq_eq_false_iff_ne, bne_iff_ne, bne_eq_false_iff_eq, ne_eq, rs_len, Int.toNat_natCast, hi0, hwl]
      (and_intros <;> first | trivial | omega | assumption | (intro _ hb; cases hb; done))
    · rw [e0, eck, hi0, htop]
      exact I.same rfl hk hr (.pop2 _ _ t h (by omega) (by omega) ht0 (Int.le_refl _) (fun _ => rfl)) rfl (fun i _ ho => by simp [owned] at ho) (by simp [owned])
    · rw [htop]
      simp [mu, tgW_topW (show -1 ≤ hdS S by omega) (show hdS S ≤ 65534 by omega)]
theorem st_pop2 {p q u : Int} (I : AInv K n m ws S t hd cl ck ⟨.al 51 0 0 0 (topW p u) p q false 0 92, (k : Int), b⟩ B C lin ans) (hK : K ≤ 900) (hk : k < cl.length) (hr : cl.getD k [] = rowC k fr (-1) 7 a 0 0) (h : ¬ k ∈ lin) (h1 : 0 ≤ p) (h2 : p < n) (h3 : 0 ≤ u) (h4 : u ≤ t) (h5 : u = t → hdS S = p) : StepOut K n m j ws t hd cl ck ⟨.al 51 0 0 0 (topW p u) p q false 0 92, (k : Int), b⟩ B C := by
  have R := I.ar
  have hn1 := R.n1; have hn4 := R.n4; have hwl := R.wl; have ht0 := R.t0; have htK := R.tK; have htop := R.top; have hhd := R.hd; have hkl := I.kl; have hkc := I.kc; have hc0 := I.hist.ck0
  have e0 : ws.set 0 (ws.getD 0 0) = ws := set_self (by omega)
  have hi0 : idW (ws.getD 0 0) = hdS S := by rw [htop]; exact idW_topW (by omega) (by omega)
  have hr0 : 0 ≤ ws.getD 0 0 ∧ ws.getD 0 0 < 18446744073709551616 := by rw [htop]; unfold topW; omega
  have eck : IntKind.i64.wrap (ck + 1) = ck + 1 := wrap_i64 (by omega) (by omega)
  have hkk : (k : Int) ≥ 0 := by omega
  obtain ⟨y, hy, hy1, hy2⟩ := R.lkr p h1 h2
  have ep : IntKind.i64.wrap (1 + p) = 1 + p := wrap_i64 (by omega) (by omega)
  have hlk : ws.getD (1 + p).toNat 0 = topW y 0 := hy
  have e1 : ws.set (1 + p).toNat (ws.getD (1 + p).toNat 0) = ws := set_self (by omega)
  have hid : idW (topW y 0) = y := idW_topW (by omega) (by omega)
  have htg : tgW (topW p u) = u := tgW_topW (by omega) (by omega)
  have hrg : 0 ≤ topW y 0 ∧ topW y 0 < 18446744073709551616 := by unfold topW; omega
  refine ⟨_, _, S, t, hd, cl, _, ⟨.al 51 0 0 0 (topW p u) p (idW (ws.getD (IntKind.i64.wrap (1 + p)).toNat 0)) false 0 104, k, b⟩, lin, ans, p20 hkk ?_, p21 hkk ?_, p22 hkk ?_, ?_, .inr ?_⟩
  iterate 3
    simp only [allB_iff, List.forall_mem_cons, decide_eq_true_eq, Bool.not_eq_true', Bool.not_not, decide_eq_false_iff_not, beq_iff_eq, beq_eq_false_iff_ne, bne_iff_ne, bne_eq_false_iff_eq, ne_eq, rs_len, Int.toNat_natCast, ep, hlk, hid, hwl]
    (and_intros <;> first | trivial | omega | assumption | (intro _ hb; cases hb; done))
  · rw [ep, e1, eck, hlk, hid]
    refine I.same rfl hk hr (.pop3 _ _ u h h1 h2 h3 h4 hy1 hy2 (fun e => ?_)) rfl (fun i _ ho => by simp [owned] at ho) (by simp [owned])
    have hs := h5 e
    cases hS : S with
    | nil => rw [hS] at hs; have hs : (-1 : Int) = p := hs; omega
    | cons x S' =>
      rw [hS] at hs
      have hs : x = p := hs
      subst hs
      have hc := R.ch
      rw [hS] at hc
      refine ⟨S', rfl, ?_⟩
      rw [← hc.1, hy, hid]
  · simp only [mu, htg]
    by_cases e : u = t <;> simp [e]
theorem st_pop3 {p q u : Int} (I : AInv K n m ws S t hd cl ck ⟨.al 51 0 0 0 (topW p u) p q false 0 104, (k : Int), b⟩ B C lin ans) (hK : K ≤ 900) (hk : k < cl.length) (hr : cl.getD k [] = rowC k fr (-1) 7 a 0 0) (h : ¬ k ∈ lin) (h1 : 0 ≤ p) (h2 : p < n) (h3 : 0 ≤ u) (h4 : u ≤ t) (h6 : -1 ≤ q) (h7 : q < n) (h5 : u = t → ∃ S', S = p :: S' ∧ hdS S' = q) : StepOut K n m j ws t hd cl ck ⟨.al 51 0 0 0 (topW p u) p q false 0 104, (k : Int), b⟩ B C := by
  have R := I.ar
  have hn1 := R.n1; have hn4 := R.n4; have hwl := R.wl; have ht0 := R.t0; have htK := R.tK; have htop := R.top; have hhd := R.hd; have hkl := I.kl; have hkc := I.kc; have hc0 := I.hist.ck0
  have e0 : ws.set 0 (ws.getD 0 0) = ws := set_self (by omega)
  have hi0 : idW (ws.getD 0 0) = hdS S := by rw [htop]; exact idW_topW (by omega) (by omega)
  have hr0 : 0 ≤ ws.getD 0 0 ∧ ws.getD 0 0 < 18446744073709551616 := by rw [htop]; unfold topW; omega
  have eck : IntKind.i64.wrap (ck + 1) = ck + 1 := wrap_i64 (by omega) (by omega)
  have hkk : (k : Int) ≥ 0 := by omega
  have htg : tgW (topW p u) = u := tgW_topW (by omega) (by omega)
  have hrg : 0 ≤ topW p u ∧ topW p u < 18446744073709486080 := by unfold topW; omega
  have hnx : nxtT (topW p u) = u + 1 := by rw [nxtT_eq hrg.1 hrg.2, htg]
  by_cases hu : u = t
  · obtain ⟨S', rfl, rfl⟩ := h5 hu
    subst hu
    have hw : ws.getD 0 0 = topW p u := htop
    refine ⟨_, _, S', u + 1, hd, cl, _, ⟨.al 74 p 0 0 (topW p u) p (hdS S') true 0 71, k, b⟩, lin ++ [k], (fun j => if j = k then (0, p) else ans j), p3K0 hkk ?_, p3K1 hkk ?_, p3K2 hkk ?_, ?_, .inr ?_⟩
    iterate 3
      simp only [allB_iff, List.forall_mem_cons, decide_eq_true_eq, Bool.not_eq_true', Bool.not_not, decide_eq_false_iff_not, beq_iff_eq, beq_eq_false_iff_ne, bne_iff_ne, bne_eq_false_iff_eq, ne_eq, rs_len, Int.toNat_natCast, hwl, hw, hnx]
      (and_intros <;> first | trivial | omega | assumption | (intro _ hb; cases hb; done))
    · rw [hnx, eck]
      have hch := R.ch
      have hpm : (allOf (p :: S') hd ⟨.al 51 0 0 0 (topW p u) p (hdS S') false 0 104, (k : Int), b⟩ B C).Perm (allOf S' hd ⟨.al 74 p 0 0 (topW p u) p (hdS S') true 0 71, (k : Int), b⟩ B C) := by
        refine allOf_perm ?_
        simp only [owned, show (51 : Nat) ≠ 74 by decide, if_true, if_false, List.append_nil, List.cons_append]
        rw [← List.append_assoc]
        exact (List.perm_append_singleton p _).symm
      refine I.upd rfl (R.setTop (fun x hx => R.rng x (by simp [hx])) hch.2) (by omega) (fun e => by omega) (fun i hi => ?_) rfl (fun _ _ => rfl) (fun j hj => by simp [hj]) (fun j hj => if_neg hj) (Int.le_refl _)
        (I.hist.eff hk hr h (is_alloc (by simp) (by omega) (by omega)) (nx_alloc (List.Nodup.sublist (List.sublist_append_left _ _) I.nd))).tick (.inr ⟨k, fr, 7, a, rfl, hk, hr, .gives p _ _ _ _ _ _ (by simp), rfl, fun i _ ho => ?_⟩) (.inr rfl) (hpm.nodup_iff.1 I.nd) (fun x hx => I.rg x (hpm.mem_iff.2 hx)) I.hw
      · have hi0' := (I.rg i (owned_in hi)).1
        exact ⟨getD_set_ne (by omega), getD_set_ne (by omega)⟩
      · simp [owned] at ho
        simp [ho]
    · simp [mu, htg]
  · have hne : ¬ ws.getD 0 0 = topW p u := by
      rw [htop]; intro e
      have e2 := congrArg tgW e
      rw [htg, tgW_topW (by omega) (by omega)] at e2
      exact hu e2.symm
    refine ⟨_, _, S, t, hd, cl, _, ⟨.al 51 0 0 0 (topW p u) p q false 0 71, k, b⟩, lin, ans, p3F0 hkk ?_, p3F1 hkk ?_, p3F2 hkk ?_, ?_, .inr ?_⟩
    iterate 3
      simp only [allB_iff, List.forall_mem_cons, decide_eq_true_eq, Bool.not_eq_true', Bool.not_not, decide_eq_false_iff_not, beq_iff_eq, beq_eq_false_iff_ne, bne_iff_ne, bne_eq_false_iff_eq, ne_eq, rs_len, Int.toNat_natCast, hwl, hnx, hne]
      (and_intros <;> first | trivial | omega | assumption | (intro _ hb; cases hb; done))
    · rw [e0, eck]
      exact I.same rfl hk hr (.pop1 _ _ _ h) rfl (fun i _ ho => by simp [owned] at ho) (by simp [owned])
    · simp [mu, htg, hu]
theorem gives_key {i w p q g : Int} {d : Bool} {f : Nat} (I : AInv K n m ws S t hd cl ck ⟨.al 74 i 0 0 w p q d g f, (k : Int), b⟩ B C lin ans) (hK : K ≤ 900) (hk : k < cl.length) (hr : cl.getD k [] = rowC k fr (-1) 7 a 0 0) (h : k ∈ lin) (ha : ans k = (0, i)) : AInv (K + 1) n m ws S t (hd ++ [topW i (gn ws n i)]) (cl.set k (rowC k fr (ck + 1) 7 a 0 i)) (ck + 1) ⟨.idle, -1, b⟩ B C lin ans := by
  have R := I.ar
  have hn1 := R.n1; have hn4 := R.n4; have hwl := R.wl; have ht0 := R.t0; have htK := R.tK; have htop := R.top; have hhd := R.hd; have hkl := I.kl; have hkc := I.kc; have hc0 := I.hist.ck0
  have e0 : ws.set 0 (ws.getD 0 0) = ws := set_self (by omega)
  have hi0 : idW (ws.getD 0 0) = hdS S := by rw [htop]; exact idW_topW (by omega) (by omega)
  have hr0 : 0 ≤ ws.getD 0 0 ∧ ws.getD 0 0 < 18446744073709551616 := by rw [htop]; unfold topW; omega
  have eck : IntKind.i64.wrap (ck + 1) = ck + 1 := wrap_i64 (by omega) (by omega)
  have hkk : (k : Int) ≥ 0 := by omega
  have hin : i ∈ owned (⟨.al 74 i 0 0 w p q d g f, (k : Int), b⟩ : Cr).x := by simp [owned]
  have hirg := I.rg i (owned_A hin)
  have ep : IntKind.i64.wrap (1 + n + i) = 1 + n + i := wrap_i64 (by omega) (by omega)
  have hgr := R.gnr i hirg.1 hirg.2
  have hgn : ws.getD (1 + n + i).toNat 0 = gn ws n i := rfl
  have hge : genA (gn ws n i) = gn ws n i := genA_eq (by omega) (by omega)
  have e1 : ws.set (1 + n + i).toNat (gn ws n i) = ws := set_self (by omega)
  have hid : idW (topW i (gn ws n i)) = i := idW_topW (by omega) (by omega)
  have hwr : 0 ≤ topW i (gn ws n i) ∧ topW i (gn ws n i) < 281474976710656 ∧ topW i (gn ws n i) % 65536 ≠ 0 := by unfold topW; omega
  have hnH := owned_nH I.nd hin
  have hpm : (allOf S hd ⟨.al 74 i 0 0 w p q d g f, (k : Int), b⟩ B C).Perm (allOf S (hd ++ [topW i (gn ws n i)]) ⟨.idle, -1, b⟩ B C) := by
    refine allOf_perm ?_
    simp only [owned, if_true, List.map_append, List.map_cons, List.map_nil, hid, List.append_nil]
    exact List.Perm.refl _
  refine I.upd rfl R.up (Int.le_refl _) (fun _ => rfl) (fun _ _ => ⟨rfl, rfl⟩) (by simp) (fun j hj => getD_setL_ne (fun h => hj h.symm)) (fun _ _ => .rfl) (fun _ _ => rfl) (Int.le_refl _) (I.hist.fin hk hr h ha (fun j _ hj h => hO_end j hj h)) (.inl ⟨rfl, rfl⟩) (.inl rfl) (hpm.nodup_iff.1 I.nd) (fun x hx => I.rg x (hpm.mem_iff.2 hx)) (fun x hx => ?_)
  rcases List.mem_append.1 hx with hx | hx
  · exact I.hw x hx
  · rw [List.mem_singleton.1 hx]; exact hwr
theorem st_gives0 {i w p q g : Int} {d : Bool} {f : Nat} (I : AInv K n m ws S t [] cl ck ⟨.al 74 i 0 0 w p q d g f, (k : Int), b⟩ B C lin ans) (hK : K ≤ 900) (hk : k < cl.length) (hr : cl.getD k [] = rowC k fr (-1) 7 a 0 0) (h : k ∈ lin) (ha : ans k = (0, i)) : StepOut K n m j ws t [] cl ck ⟨.al 74 i 0 0 w p q d g f, (k : Int), b⟩ B C := by
  have R := I.ar
  have hn1 := R.n1; have hn4 := R.n4; have hwl := R.wl; have ht0 := R.t0; have htK := R.tK; have htop := R.top; have hhd := R.hd; have hkl := I.kl; have hkc := I.kc; have hc0 := I.hist.ck0
  have e0 : ws.set 0 (ws.getD 0 0) = ws := set_self (by omega)
  have hi0 : idW (ws.getD 0 0) = hdS S := by rw [htop]; exact idW_topW (by omega) (by omega)
  have hr0 : 0 ≤ ws.getD 0 0 ∧ ws.getD 0 0 < 18446744073709551616 := by rw [htop]; unfold topW; omega
  have eck : IntKind.i64.wrap (ck + 1) = ck + 1 := wrap_i64 (by omega) (by omega)
  have hkk : (k : Int) ≥ 0 := by omega
  have hin : i ∈ owned (⟨.al 74 i 0 0 w p q d g f, (k : Int), b⟩ : Cr).x := by simp [owned]
  have hirg := I.rg i (owned_A hin)
  have ep : IntKind.i64.wrap (1 + n + i) = 1 + n + i := wrap_i64 (by omega) (by omega)
  have hgr := R.gnr i hirg.1 hirg.2
  have hgn : ws.getD (1 + n + i).toNat 0 = gn ws n i := rfl
  have hge : genA (gn ws n i) = gn ws n i := genA_eq (by omega) (by omega)
  have e1 : ws.set (1 + n + i).toNat (gn ws n i) = ws := set_self (by omega)
  have hid : idW (topW i (gn ws n i)) = i := idW_topW (by omega) (by omega)
  have hwr : 0 ≤ topW i (gn ws n i) ∧ topW i (gn ws n i) < 281474976710656 ∧ topW i (gn ws n i) % 65536 ≠ 0 := by unfold topW; omega
  have hnH := owned_nH I.nd hin
  have key := gives_key I hK hk hr h ha
  have hcl : rs (rs (rs cl k 2 (ck + 1)) k 7 0) k 8 i = cl.set k (rowC k fr (ck + 1) 7 a 0 i) := rs278_eq hk hr
  have hh : ∀ x ∈ ([] : List Int), (0 ≤ x ∧ x < 281474976710656 ∧ x % 65536 ≠ 0) ∧ ¬ idW x = i := fun x hx => ⟨I.hw x hx, fun e => hnH (List.mem_map.2 ⟨x, hx, e⟩)⟩
  have hcl' : rs (rs (rs cl (Int.toNat (k : Int)) 2 (IntKind.i64.wrap (ck + 1))) (Int.toNat (k : Int)) 7 0) (Int.toNat (k : Int)) 8 (idW (topW i (genA (ws.getD (IntKind.i64.wrap (1 + n + i)).toNat 0)))) = cl.set k (rowC k fr (ck + 1) 7 a 0 i) := by
    rw [Int.toNat_natCast, eck, ep, hgn, hge, hid]; exact hcl
  refine ⟨_, _, S, t, _, _, _, ⟨.idle, -1, b⟩, lin, ans, g00 hkk ?_, g01 hkk ?_, g02 hkk ?_, ?_, .inl rfl⟩
  iterate 3
    simp only [allB_iff, List.forall_mem_cons, decide_eq_true_eq, Bool.not_eq_true', Bool.not_not, decide_eq_false_iff_not, beq_iff_eq, beq_eq_false_iff_ne, bne_iff_ne, bne_eq_false_iff_eq, ne_eq, rs_len, Int.toNat_natCast, ep, hgn, hge, hid, hwl]
    (and_intros <;> first | trivial | omega | assumption | (intro _ hb; cases hb; done))
  · rw [hcl', ep, hgn, hge, e1, eck]
    exact key
theorem st_gives1 {i w p q g : Int} {d : Bool} {f : Nat} {h0 : Int} (I : AInv K n m ws S t [h0] cl ck ⟨.al 74 i 0 0 w p q d g f, (k : Int), b⟩ B C lin ans) (hK : K ≤ 900) (hk : k < cl.length) (hr : cl.getD k [] = rowC k fr (-1) 7 a 0 0) (h : k ∈ lin) (ha : ans k = (0, i)) : StepOut K n m j ws t [h0] cl ck ⟨.al 74 i 0 0 w p q d g f, (k : Int), b⟩ B C := by
  have R := I.ar
  have hn1 := R.n1; have hn4 := R.n4; have hwl := R.wl; have ht0 := R.t0; have htK := R.tK; have htop := R.top; have hhd := R.hd; have hkl := I.kl; have hkc := I.kc; have hc0 := I.hist.ck0
  have e0 : ws.set 0 (ws.getD 0 0) = ws := set_self (by omega)
  have hi0 : idW (ws.getD 0 0) = hdS S := by rw [htop]; exact idW_topW (by omega) (by omega)
  have hr0 : 0 ≤ ws.getD 0 0 ∧ ws.getD 0 0 < 18446744073709551616 := by rw [htop]; unfold topW; omega
  have eck : IntKind.i64.wrap (ck + 1) = ck + 1 := wrap_i64 (by omega) (by omega)
  have hkk : (k : Int) ≥ 0 := by omega
  have hin : i ∈ owned (⟨.al 74 i 0 0 w p q d g f, (k : Int), b⟩ : Cr).x := by simp [owned]
  have hirg := I.rg i (owned_A hin)
  have ep : IntKind.i64.wrap (1 + n + i) = 1 + n + i := wrap_i64 (by omega) (by omega)
  have hgr := R.gnr i hirg.1 hirg.2
  have hgn : ws.getD (1 + n + i).toNat 0 = gn ws n i := rfl
  have hge : genA (gn ws n i) = gn ws n i := genA_eq (by omega) (by omega)
  have e1 : ws.set (1 + n + i).toNat (gn ws n i) = ws := set_self (by omega)
  have hid : idW (topW i (gn ws n i)) = i := idW_topW (by omega) (by omega)
  have hwr : 0 ≤ topW i (gn ws n i) ∧ topW i (gn ws n i) < 281474976710656 ∧ topW i (gn ws n i) % 65536 ≠ 0 := by unfold topW; omega
  have hnH := owned_nH I.nd hin
  have key := gives_key I hK hk hr h ha
  have hcl : rs (rs (rs cl k 2 (ck + 1)) k 7 0) k 8 i = cl.set k (rowC k fr (ck + 1) 7 a 0 i) := rs278_eq hk hr
  have hh : ∀ x ∈ ([h0] : List Int), (0 ≤ x ∧ x < 281474976710656 ∧ x % 65536 ≠ 0) ∧ ¬ idW x = i := fun x hx => ⟨I.hw x hx, fun e => hnH (List.mem_map.2 ⟨x, hx, e⟩)⟩
  have hcl' : rs (rs (rs cl (Int.toNat (k : Int)) 2 (IntKind.i64.wrap (ck + 1))) (Int.toNat (k : Int)) 7 0) (Int.toNat (k : Int)) 8 (idW (topW i (genA (ws.getD (IntKind.i64.wrap (1 + n + i)).toNat 0)))) = cl.set k (rowC k fr (ck + 1) 7 a 0 i) := by
    rw [Int.toNat_natCast, eck, ep, hgn, hge, hid]; exact hcl
  have hh0 := hh h0 (by simp)
  refine ⟨_, _, S, t, _, _, _, ⟨.idle, -1, b⟩, lin, ans, g10 hkk ?_, g11 hkk ?_, g12 hkk ?_, ?_, .inl rfl⟩
  iterate 3
    simp only [allB_iff, List.forall_mem_cons, decide_eq_true_eq, Bool.not_eq_true', Bool.not_not, decide_eq_false_iff_not, beq_iff_eq, beq_eq_false_iff_ne, bne_iff_ne, bne_eq_false_iff_eq, ne_eq, rs_len, Int.toNat_natCast, ep, hgn, hge, hid, hwl]
    (and_intros <;> first | trivial | omega | assumption | (intro _ hb; cases hb; done))
  · rw [hcl', ep, hgn, hge, e1, eck]
    exact key
theorem st_gives2 {i w p q g : Int} {d : Bool} {f : Nat} {h0 h1 : Int} (I : AInv K n m ws S t [h0, h1] cl ck ⟨.al 74 i 0 0 w p q d g f, (k : Int), b⟩ B C lin ans) (hK : K ≤ 900) (hk : k < cl.length) (hr : cl.getD k [] = rowC k fr (-1) 7 a 0 0) (h : k ∈ lin) (ha : ans k = (0, i)) : StepOut K n m j ws t [h0, h1] cl ck ⟨.al 74 i 0 0 w p q d g f, (k : Int), b⟩ B C := by
  have R := I.ar
  have hn1 := R.n1; have hn4 := R.n4; have hwl := R.wl; have ht0 := R.t0; have htK := R.tK; have htop := R.top; have hhd := R.hd; have hkl := I.kl; have hkc := I.kc; have hc0 := I.hist.ck0
  have e0 : ws.set 0 (ws.getD 0 0) = ws := set_self (by omega)
  have hi0 : idW (ws.getD 0 0) = hdS S := by rw [htop]; exact idW_topW (by omega) (by omega)
  have hr0 : 0 ≤ ws.getD 0 0 ∧ ws.getD 0 0 < 18446744073709551616 := by rw [htop]; unfold topW; omega
  have eck : IntKind.i64.wrap (ck + 1) = ck + 1 := wrap_i64 (by omega) (by omega)
  have hkk : (k : Int) ≥ 0 := by omega
  have hin : i ∈ owned (⟨.al 74 i 0 0 w p q d g f, (k : Int), b⟩ : Cr).x := by simp [owned]
  have hirg := I.rg i (owned_A hin)
  have ep : IntKind.i64.wrap (1 + n + i) = 1 + n + i := wrap_i64 (by omega) (by omega)
  have hgr := R.gnr i hirg.1 hirg.2
  have hgn : ws.getD (1 + n + i).toNat 0 = gn ws n i := rfl
  have hge : genA (gn ws n i) = gn ws n i := genA_eq (by omega) (by omega)
  have e1 : ws.set (1 + n + i).toNat (gn ws n i) = ws := set_self (by omega)
  have hid : idW (topW i (gn ws n i)) = i := idW_topW (by omega) (by omega)
  have hwr : 0 ≤ topW i (gn ws n i) ∧ topW i (gn ws n i) < 281474976710656 ∧ topW i (gn ws n i) % 65536 ≠ 0 := by unfold topW; omega
  have hnH := owned_nH I.nd hin
  have key := gives_key I hK hk hr h ha
  have hcl : rs (rs (rs cl k 2 (ck + 1)) k 7 0) k 8 i = cl.set k (rowC k fr (ck + 1) 7 a 0 i) := rs278_eq hk hr
  have hh : ∀ x ∈ ([h0, h1] : List Int), (0 ≤ x ∧ x < 281474976710656 ∧ x % 65536 ≠ 0) ∧ ¬ idW x = i := fun x hx => ⟨I.hw x hx, fun e => hnH (List.mem_map.2 ⟨x, hx, e⟩)⟩
  have hcl' : rs (rs (rs cl (Int.toNat (k : Int)) 2 (IntKind.i64.wrap (ck + 1))) (Int.toNat (k : Int)) 7 0) (Int.toNat (k : Int)) 8 (idW (topW i (genA (ws.getD (IntKind.i64.wrap (1 + n + i)).toNat 0)))) = cl.set k (rowC k fr (ck + 1) 7 a 0 i) := by
    rw [Int.toNat_natCast, eck, ep, hgn, hge, hid]; exact hcl
  have hh0 := hh h0 (by simp)
  have hh1 := hh h1 (by simp)
  refine ⟨_, _, S, t, _, _, _, ⟨.idle, -1, b⟩, lin, ans, g20 hkk ?_, g21 hkk ?_, g22 hkk ?_, ?_, .inl rfl⟩
  iterate 3
    simp only [allB_iff, List.forall_mem_cons, decide_eq_true_eq, Bool.not_eq_true', Bool.not_not, decide_eq_false_iff_not, beq_iff_eq, beq_eq_false_iff_ne, bne_iff_ne, bne_eq_false_iff_eq, ne_eq, rs_len, Int.toNat_natCast, ep, hgn, hge, hid, hwl]
    (and_intros <;> first | trivial | omega | assumption | (intro _ hb; cases hb; done))
  · rw [hcl', ep, hgn, hge, e1, eck]
    exact key
theorem st_gives3 {i w p q g : Int} {d : Bool} {f : Nat} {h0 h1 h2 : Int} (I : AInv K n m ws S t [h0, h1, h2] cl ck ⟨.al 74 i 0 0 w p q d g f, (k : Int), b⟩ B C lin ans) (hK : K ≤ 900) (hk : k < cl.length) (hr : cl.getD k [] = rowC k fr (-1) 7 a 0 0) (h : k ∈ lin) (ha : ans k = (0, i)) : StepOut K n m j ws t [h0, h1, h2] cl ck ⟨.al 74 i 0 0 w p q d g f, (k : Int), b⟩ B C := by
  have R := I.ar
  have hn1 := R.n1; have hn4 := R.n4; have hwl := R.wl; have ht0 := R.t0; have htK := R.tK; have htop := R.top; have hhd := R.hd; have hkl := I.kl; have hkc := I.kc; have hc0 := I.hist.ck0
  have e0 : ws.set 0 (ws.getD 0 0) = ws := set_self (by omega)
  have hi0 : idW (ws.getD 0 0) = hdS S := by rw [htop]; exact idW_topW (by omega) (by omega)
  have hr0 : 0 ≤ ws.getD 0 0 ∧ ws.getD 0 0 < 18446744073709551616 := by rw [htop]; unfold topW; omega
  have eck : IntKind.i64.wrap (ck + 1) = ck + 1 := wrap_i64 (by omega) (by omega)
  have hkk : (k : Int) ≥ 0 := by omega
  have hin : i ∈ owned (⟨.al 74 i 0 0 w p q d g f, (k : Int), b⟩ : Cr).x := by simp [owned]
  have hirg := I.rg i (owned_A hin)
  have ep : IntKind.i64.wrap (1 + n + i) = 1 + n + i := wrap_i64 (by omega) (by omega)
  have hgr := R.gnr i hirg.1 hirg.2
  have hgn : ws.getD (1 + n + i).toNat 0 = gn ws n i := rfl
  have hge : genA (gn ws n i) = gn ws n i := genA_eq (by omega) (by omega)
  have e1 : ws.set (1 + n + i).toNat (gn ws n i) = ws := set_self (by omega)
  have hid : idW (topW i (gn ws n i)) = i := idW_topW (by omega) (by omega)
  have hwr : 0 ≤ topW i (gn ws n i) ∧ topW i (gn ws n i) < 281474976710656 ∧ topW i (gn ws n i) % 65536 ≠ 0 := by unfold topW; omega
  have hnH := owned_nH I.nd hin
  have key := gives_key I hK hk hr h ha
  have hcl : rs (rs (rs cl k 2 (ck + 1)) k 7 0) k 8 i = cl.set k (rowC k fr (ck + 1) 7 a 0 i) := rs278_eq hk hr
  have hh : ∀ x ∈ ([h0, h1, h2] : List Int), (0 ≤ x ∧ x < 281474976710656 ∧ x % 65536 ≠ 0) ∧ ¬ idW x = i := fun x hx => ⟨I.hw x hx, fun e => hnH (List.mem_map.2 ⟨x, hx, e⟩)⟩
  have hcl' : rs (rs (rs cl (Int.toNat (k : Int)) 2 (IntKind.i64.wrap (ck + 1))) (Int.toNat (k : Int)) 7 0) (Int.toNat (k : Int)) 8 (idW (topW i (genA (ws.getD (IntKind.i64.wrap (1 + n + i)).toNat 0)))) = cl.set k (rowC k fr (ck + 1) 7 a 0 i) := by
    rw [Int.toNat_natCast, eck, ep, hgn, hge, hid]; exact hcl
  have hh0 := hh h0 (by simp)
  have hh1 := hh h1 (by simp)
  have hh2 := hh h2 (by simp)
  refine ⟨_, _, S, t, _, _, _, ⟨.idle, -1, b⟩, lin, ans, g30 hkk ?_, g31 hkk ?_, g32 hkk ?_, ?_, .inl rfl⟩
  iterate 3
    simp only [allB_iff, List.forall_mem_cons, decide_eq_true_eq, Bool.not_eq_true', Bool.not_not, decide_eq_false_iff_not, beq_iff_eq, beq_eq_false_iff_ne, bne_iff_ne, bne_eq_false_iff_eq, ne_eq, rs_len, Int.toNat_natCast, ep, hgn, hge, hid, hwl]
    (and_intros <;> first | trivial | omega | assumption | (intro _ hb; cases hb; done))
  · rw [hcl', ep, hgn, hge, e1, eck]
    exact key
theorem st_gives {i w p q g : Int} {d : Bool} {f : Nat} (I : AInv K n m ws S t hd cl ck ⟨.al 74 i 0 0 w p q d g f, (k : Int), b⟩ B C lin ans) (hK : K ≤ 900) (hk : k < cl.length) (hr : cl.getD k [] = rowC k fr (-1) 7 a 0 0) (h : k ∈ lin) (ha : ans k = (0, i)) : StepOut K n m j ws t hd cl ck ⟨.al 74 i 0 0 w p q d g f, (k : Int), b⟩ B C := by
  have hn4 := I.ar.n4
  have hlen : hd.length ≤ 3 := by
    have h1 := nodup_int I.nd I.rg
    have h2 : (owned (.al 74 i 0 0 w p q d g f)).length = 1 := by simp [owned]
    simp only [allOf, List.length_append, List.length_map, h2] at h1
    omega
  rcases hd with _ | ⟨h0, _ | ⟨h1, _ | ⟨h2, _ | ⟨h3, hd⟩⟩⟩⟩
  · exact st_gives0 I hK hk hr h ha
  · exact st_gives1 I hK hk hr h ha
  · exact st_gives2 I hK hk hr h ha
  · exact st_gives3 I hK hk hr h ha
  · simp at hlen
theorem st_lacks {w p q g : Int} {d : Bool} {f : Nat} (I : AInv K n m ws S t hd cl ck ⟨.al 75 0 0 0 w p q d g f, (k : Int), b⟩ B C lin ans) (hK : K ≤ 900) (hk : k < cl.length) (hr : cl.getD k [] = rowC k fr (-1) 7 a 0 0) (h : ¬ k ∈ lin) : StepOut K n m j ws t hd cl ck ⟨.al 75 0 0 0 w p q d g f, (k : Int), b⟩ B C := by
  have R := I.ar
  have hn1 := R.n1; have hn4 := R.n4; have hwl := R.wl; have ht0 := R.t0; have htK := R.tK; have htop := R.top; have hhd := R.hd; have hkl := I.kl; have hkc := I.kc; have hc0 := I.hist.ck0
  have e0 : ws.set 0 (ws.getD 0 0) = ws := set_self (by omega)
  have hi0 : idW (ws.getD 0 0) = hdS S := by rw [htop]; exact idW_topW (by omega) (by omega)
  have hr0 : 0 ≤ ws.getD 0 0 ∧ ws.getD 0 0 < 18446744073709551616 := by rw [htop]; unfold topW; omega
  have eck : IntKind.i64.wrap (ck + 1) = ck + 1 := wrap_i64 (by omega) (by omega)
  have hkk : (k : Int) ≥ 0 := by omega
  have hwo := R.worn
  have e1 : ws.set (1 + 2 * n).toNat (ws.getD (1 + 2 * n).toNat 0) = ws := set_self (by omega)
  have hun : IntKind.u64.wrap n = n := wrap_u64 (by omega) (by omega)
  have hcl : rs (rs cl (Int.toNat (k : Int)) 2 (IntKind.i64.wrap (ck + 1))) (Int.toNat (k : Int)) 7 7 = cl.set k (rowC k fr (ck + 1) 7 a 7 0) := by
    rw [Int.toNat_natCast, eck]; exact rs27_eq hk hr
  have hpm : (allOf S hd ⟨.al 75 0 0 0 w p q d g f, (k : Int), b⟩ B C).Perm (allOf S hd ⟨.idle, -1, b⟩ B C) := by
    refine allOf_perm ?_
    simp [owned]
  refine ⟨_, _, S, t, hd, _, _, ⟨.idle, -1, b⟩, lin ++ [k], (fun j => if j = k then (7, 0) else ans j), la0 hkk ?_, la1 hkk ?_, la2 hkk ?_, ?_, .inl rfl⟩
  iterate 3
    simp only [allB_iff, List.forall_mem_cons, decide_eq_true_eq, Bool.not_eq_true', Bool.not_not, decide_eq_false_iff_not, beq_iff_eq, beq_eq_false_iff_ne, bne_iff_ne, bne_eq_false_iff_eq, ne_eq, rs_len, Int.toNat_natCast, hwo, hun, hwl]
    (and_intros <;> first | trivial | omega | assumption | (intro _ hb; cases hb; done))
  · rw [hcl, e1, eck]
    exact I.upd rfl R.up (Int.le_refl _) (fun _ => rfl) (fun _ _ => ⟨rfl, rfl⟩) (by simp) (fun j hj => getD_setL_ne (fun h => hj h.symm)) (fun j hj => by simp [hj]) (fun j hj => if_neg hj) (Int.le_refl _)
      ((I.hist.eff hk hr h is_full nx_full).fin hk hr (by simp) (if_pos rfl) (fun j _ hj h => hO_end j hj h)) (.inl ⟨rfl, rfl⟩) (.inl rfl) (hpm.nodup_iff.1 I.nd) (fun x hx => I.rg x (hpm.mem_iff.2 hx)) I.hw
theorem st_looks {i : Int} (I : AInv K n m ws S t hd cl ck ⟨.fr 27 i 0 0 0 i 0 false 0 45, (k : Int), b⟩ B C lin ans) (hK : K ≤ 900) (hk : k < cl.length) (hr : cl.getD k [] = rowC k fr (-1) 8 i 0 0) (h : ¬ k ∈ lin) : StepOut K n m j ws t hd cl ck ⟨.fr 27 i 0 0 0 i 0 false 0 45, (k : Int), b⟩ B C := by
  have R := I.ar
  have hn1 := R.n1; have hn4 := R.n4; have hwl := R.wl; have ht0 := R.t0; have htK := R.tK; have htop := R.top; have hhd := R.hd; have hkl := I.kl; have hkc := I.kc; have hc0 := I.hist.ck0
  have e0 : ws.set 0 (ws.getD 0 0) = ws := set_self (by omega)
  have hi0 : idW (ws.getD 0 0) = hdS S := by rw [htop]; exact idW_topW (by omega) (by omega)
  have hr0 : 0 ≤ ws.getD 0 0 ∧ ws.getD 0 0 < 18446744073709551616 := by rw [htop]; unfold topW; omega
  have eck : IntKind.i64.wrap (ck + 1) = ck + 1 := wrap_i64 (by omega) (by omega)
  have hkk : (k : Int) ≥ 0 := by omega
  have hin : i ∈ owned (⟨.fr 27 i 0 0 0 i 0 false 0 45, (k : Int), b⟩ : Cr).x := by simp [owned]
  have hirg := I.rg i (owned_A hin)
  have hnS := owned_nS I.nd hin
  have ep : IntKind.i64.wrap (1 + n + i) = 1 + n + i := wrap_i64 (by omega) (by omega)
  have hgr := R.gnr i hirg.1 hirg.2
  have hgn : ws.getD (1 + n + i).toNat 0 = gn ws n i := rfl
  have hge : genA (gn ws n i) = gn ws n i := genA_eq (by omega) (by omega)
  have e1 : ws.set (1 + n + i).toNat (gn ws n i) = ws := set_self (by omega)
  refine ⟨_, _, S, t, hd, cl, _, ⟨.fr 47 i (ws.getD (IntKind.i64.wrap (1 + n + i)).toNat 0) 0 0 i 0 false 0 45, k, b⟩, lin, ans, f10 hkk ?_, f11 hkk ?_, f12 hkk ?_, ?_, .inr ?_⟩
  iterate 3
    simp only [allB_iff, List.forall_mem_cons, decide_eq_true_eq, Bool.not_eq_true', Bool.not_not, decide_eq_false_iff_not, beq_iff_eq, beq_eq_false_iff_ne, bne_iff_ne, bne_eq_false_iff_eq, ne_eq, rs_len, Int.toNat_natCast, ep, hgn, hge, hwl]
    (and_intros <;> first | trivial | omega | assumption | (intro _ hb; cases hb; done))
  · rw [ep, hgn, e1, eck]
    exact I.same rfl hk hr (.raises i h) ⟨rfl, rfl⟩ (fun i h _ => by omega) rfl
  · simp [mu]
theorem st_raises {i : Int} (I : AInv K n m ws S t hd cl ck ⟨.fr 47 i (gn ws n i) 0 0 i 0 false 0 45, (k : Int), b⟩ B C lin ans) (hK : K ≤ 900) (hk : k < cl.length) (hr : cl.getD k [] = rowC k fr (-1) 8 i 0 0) (h : ¬ k ∈ lin) : StepOut K n m j ws t hd cl ck ⟨.fr 47 i (gn ws n i) 0 0 i 0 false 0 45, (k : Int), b⟩ B C := by
  have R := I.ar
  have hn1 := R.n1; have hn4 := R.n4; have hwl := R.wl; have ht0 := R.t0; have htK := R.tK; have htop := R.top; have hhd := R.hd; have hkl := I.kl; have hkc := I.kc; have hc0 := I.hist.ck0
  have e0 : ws.set 0 (ws.getD 0 0) = ws := set_self (by omega)
  have hi0 : idW (ws.getD 0 0) = hdS S := by rw [htop]; exact idW_topW (by omega) (by omega)
  have hr0 : 0 ≤ ws.getD 0 0 ∧ ws.getD 0 0 < 18446744073709551616 := by rw [htop]; unfold topW; omega
  have eck : IntKind.i64.wrap (ck + 1) = ck + 1 := wrap_i64 (by omega) (by omega)
  have hkk : (k : Int) ≥ 0 := by omega
  have hin : i ∈ owned (⟨.fr 47 i (gn ws n i) 0 0 i 0 false 0 45, (k : Int), b⟩ : Cr).x := by simp [owned]
  have hirg := I.rg i (owned_A hin)
  have hnS := owned_nS I.nd hin
  have ep : IntKind.i64.wrap (1 + n + i) = 1 + n + i := wrap_i64 (by omega) (by omega)
  have hgr := R.gnr i hirg.1 hirg.2
  have hgn : ws.getD (1 + n + i).toNat 0 = gn ws n i := rfl
  have hug : IntKind.u64.wrap (gn ws n i + 1) = gn ws n i + 1 := wrap_u64 (by omega) (by omega)
  refine ⟨_, _, S, t, hd, cl, _, ⟨.fr 69 i (gn ws n i) 0 0 i 0 false 0 45, k, b⟩, lin, ans, f20 hkk ?_, f21 hkk ?_, f22 hkk ?_, ?_, .inr ?_⟩
  iterate 3
    simp only [allB_iff, List.forall_mem_cons, decide_eq_true_eq, Bool.not_eq_true', Bool.not_not, decide_eq_false_iff_not, beq_iff_eq, beq_eq_false_iff_ne, bne_iff_ne, bne_eq_false_iff_eq, ne_eq, rs_len, Int.toNat_natCast, ep, hwl]
    (and_intros <;> first | trivial | omega | assumption | (intro _ hb; cases hb; done))
  · rw [ep, hug, eck]
    refine I.upd rfl (R.setGen hirg.1 hirg.2 (by omega) (by omega)) (Int.le_refl _) (fun _ => rfl) (fun x hx => ?_) rfl (fun _ _ => rfl) (fun _ _ => .rfl) (fun _ _ => rfl) (Int.le_refl _) I.hist.tick (.inr ⟨k, fr, 8, i, rfl, hk, hr, .push1 i _ _ _ h, ⟨rfl, rfl⟩, fun i h _ => by omega⟩) (.inr rfl) I.nd I.rg I.hw
    have hx1 := I.rg x (owned_in hx)
    have hx2 := owned_ne I.nd hx hin
    exact ⟨getD_set_ne (by omega), getD_set_ne (by omega)⟩
  · simp [mu]
theorem st_push1 {i r w q : Int} (I : AInv K n m ws S t hd cl ck ⟨.fr 69 i r 0 w i q false 0 45, (k : Int), b⟩ B C lin ans) (hK : K ≤ 900) (hk : k < cl.length) (hr : cl.getD k [] = rowC k fr (-1) 8 i 0 0) (h : ¬ k ∈ lin) : StepOut K n m j ws t hd cl ck ⟨.fr 69 i r 0 w i q false 0 45, (k : Int), b⟩ B C := by
  have R := I.ar
  have hn1 := R.n1; have hn4 := R.n4; have hwl := R.wl; have ht0 := R.t0; have htK := R.tK; have htop := R.top; have hhd := R.hd; have hkl := I.kl; have hkc := I.kc; have hc0 := I.hist.ck0
  have e0 : ws.set 0 (ws.getD 0 0) = ws := set_self (by omega)
  have hi0 : idW (ws.getD 0 0) = hdS S := by rw [htop]; exact idW_topW (by omega) (by omega)
  have hr0 : 0 ≤ ws.getD 0 0 ∧ ws.getD 0 0 < 18446744073709551616 := by rw [htop]; unfold topW; omega
  have eck : IntKind.i64.wrap (ck + 1) = ck + 1 := wrap_i64 (by omega) (by omega)
  have hkk : (k : Int) ≥ 0 := by omega
  have hin : i ∈ owned (⟨.fr 69 i r 0 w i q false 0 45, (k : Int), b⟩ : Cr).x := by simp [owned]
  have hirg := I.rg i (owned_A hin)
  have hnS := owned_nS I.nd hin
  refine ⟨_, _, S, t, hd, cl, _, ⟨.fr 69 i r 0 (ws.getD 0 0) i (idW (ws.getD 0 0)) false 0 68, k, b⟩, lin, ans, u10 hkk ?_, u11 hkk ?_, u12 hkk ?_, ?_, .inr ?_⟩
  iterate 3
    simp only [allB_iff, List.forall_mem_cons, decide_eq_true_eq, Bool.not_eq_true', Bool.not_not, decide_eq_false_iff_not, beq_iff_eq, beq_eq_false_iff_ne, bne_iff_ne, bne_eq_false_iff_eq, ne_eq, rs_len, Int.toNat_natCast, hi0, hwl]
    (and_intros <;> first | trivial | omega | assumption | (intro _ hb; cases hb; done))
  · rw [e0, eck, hi0, htop]
    exact I.same rfl hk hr (.push2 i r _ t h ht0 (Int.le_refl _) (by omega) (by omega) (fun _ => rfl)) ⟨rfl, rfl⟩ (fun i h _ => by omega) rfl
  · rw [htop]
    simp [mu, tgW_topW (show -1 ≤ hdS S by omega) (show hdS S ≤ 65534 by omega)]
theorem st_push2 {i r q u : Int} (I : AInv K n m ws S t hd cl ck ⟨.fr 69 i r 0 (topW q u) i q false 0 68, (k : Int), b⟩ B C lin ans) (hK : K ≤ 900) (hk : k < cl.length) (hr : cl.getD k [] = rowC k fr (-1) 8 i 0 0) (h : ¬ k ∈ lin) (h3 : 0 ≤ u) (h4 : u ≤ t) (h6 : -1 ≤ q) (h7 : q < n) (h5 : u = t → hdS S = q) : StepOut K n m j ws t hd cl ck ⟨.fr 69 i r 0 (topW q u) i q false 0 68, (k : Int), b⟩ B C := by
  have R := I.ar
  have hn1 := R.n1; have hn4 := R.n4; have hwl := R.wl; have ht0 := R.t0; have htK := R.tK; have htop := R.top; have hhd := R.hd; have hkl := I.kl; have hkc := I.kc; have hc0 := I.hist.ck0
  have e0 : ws.set 0 (ws.getD 0 0) = ws := set_self (by omega)
  have hi0 : idW (ws.getD 0 0) = hdS S := by rw [htop]; exact idW_topW (by omega) (by omega)
  have hr0 : 0 ≤ ws.getD 0 0 ∧ ws.getD 0 0 < 18446744073709551616 := by rw [htop]; unfold topW; omega
  have eck : IntKind.i64.wrap (ck + 1) = ck + 1 := wrap_i64 (by omega) (by omega)
  have hkk : (k : Int) ≥ 0 := by omega
  have hin : i ∈ owned (⟨.fr 69 i r 0 (topW q u) i q false 0 68, (k : Int), b⟩ : Cr).x := by simp [owned]
  have hirg := I.rg i (owned_A hin)
  have hnS := owned_nS I.nd hin
  have ep : IntKind.i64.wrap (1 + i) = 1 + i := wrap_i64 (by omega) (by omega)
  have htg : tgW (topW q u) = u := tgW_topW (by omega) (by omega)
  refine ⟨_, _, S, t, hd, cl, _, ⟨.fr 69 i r 0 (topW q u) i q false 0 89, k, b⟩, lin, ans, u20 hkk ?_, u21 hkk ?_, u22 hkk ?_, ?_, .inr ?_⟩
  iterate 3
    simp only [allB_iff, List.forall_mem_cons, decide_eq_true_eq, Bool.not_eq_true', Bool.not_not, decide_eq_false_iff_not, beq_iff_eq, beq_eq_false_iff_ne, bne_iff_ne, bne_eq_false_iff_eq, ne_eq, rs_len, Int.toNat_natCast, ep, hwl]
    (and_intros <;> first | trivial | omega | assumption | (intro _ hb; cases hb; done))
  · rw [ep, eck]
    refine I.upd rfl (R.setLink hirg.1 hirg.2 hnS h6 h7) (Int.le_refl _) (fun _ => rfl) (fun x hx => ?_) rfl (fun _ _ => rfl) (fun _ _ => .rfl) (fun _ _ => rfl) (Int.le_refl _) I.hist.tick (.inr ⟨k, fr, 8, i, rfl, hk, hr, .push3 i r q u h h3 h4 h6 h7 h5 (getD_set_eq (by omega)), ⟨rfl, rfl⟩, fun i h _ => by omega⟩) (.inr rfl) I.nd I.rg I.hw
    have hx1 := I.rg x (owned_in hx)
    have hx2 := owned_ne I.nd hx hin
    exact ⟨getD_set_ne (by omega), getD_set_ne (by omega)⟩
  · simp only [mu, htg]
    by_cases e : u = t <;> simp [e]
theorem st_push3 {i r q u : Int} (I : AInv K n m ws S t hd cl ck ⟨.fr 69 i r 0 (topW q u) i q false 0 89, (k : Int), b⟩ B C lin ans) (hK : K ≤ 900) (hk : k < cl.length) (hr : cl.getD k [] = rowC k fr (-1) 8 i 0 0) (h : ¬ k ∈ lin) (h3 : 0 ≤ u) (h4 : u ≤ t) (h6 : -1 ≤ q) (h7 : q < n) (h5 : u = t → hdS S = q) (h8 : lk ws i = topW q 0) : StepOut K n m j ws t hd cl ck ⟨.fr 69 i r 0 (topW q u) i q false 0 89, (k : Int), b⟩ B C := by
  have R := I.ar
  have hn1 := R.n1; have hn4 := R.n4; have hwl := R.wl; have ht0 := R.t0; have htK := R.tK; have htop := R.top; have hhd := R.hd; have hkl := I.kl; have hkc := I.kc; have hc0 := I.hist.ck0
  have e0 : ws.set 0 (ws.getD 0 0) = ws := set_self (by omega)
  have hi0 : idW (ws.getD 0 0) = hdS S := by rw [htop]; exact idW_topW (by omega) (by omega)
  have hr0 : 0 ≤ ws.getD 0 0 ∧ ws.getD 0 0 < 18446744073709551616 := by rw [htop]; unfold topW; omega
  have eck : IntKind.i64.wrap (ck + 1) = ck + 1 := wrap_i64 (by omega) (by omega)
  have hkk : (k : Int) ≥ 0 := by omega
  have hin : i ∈ owned (⟨.fr 69 i r 0 (topW q u) i q false 0 89, (k : Int), b⟩ : Cr).x := by simp [owned]
  have hirg := I.rg i (owned_A hin)
  have hnS := owned_nS I.nd hin
  have htg : tgW (topW q u) = u := tgW_topW (by omega) (by omega)
  have hrg : 0 ≤ topW q u ∧ topW q u < 18446744073709486080 := by unfold topW; omega
  have hnx : nxtT (topW q u) = u + 1 := by rw [nxtT_eq hrg.1 hrg.2, htg]
  have hid : idW (topW q 0) = q := idW_topW (by omega) (by omega)
  by_cases hu : u = t
  · obtain rfl := h5 hu
    subst hu
    have hw : ws.getD 0 0 = topW (hdS S) u := htop
    have hcl : rs cl (Int.toNat (k : Int)) 2 (IntKind.i64.wrap (ck + 1)) = cl.set k (rowC k fr (ck + 1) 8 i 0 0) := by
      rw [Int.toNat_natCast, eck]; exact rs2_eq hr
    refine ⟨_, _, i :: S, u + 1, hd, _, _, ⟨.idle, -1, b⟩, lin ++ [k], (fun j => if j = k then (0, 0) else ans j), u3K0 hkk ?_, u3K1 hkk ?_, u3K2 hkk ?_, ?_, .inl rfl⟩
    iterate 3
      simp only [allB_iff, List.forall_mem_cons, decide_eq_true_eq, Bool.not_eq_true', Bool.not_not, decide_eq_false_iff_not, beq_iff_eq, beq_eq_false_iff_ne, bne_iff_ne, bne_eq_false_iff_eq, ne_eq, rs_len, Int.toNat_natCast, hwl, hw, hnx]
      (and_intros <;> first | trivial | omega | assumption | (intro _ hb; cases hb; done))
    · rw [hnx, hcl, eck]
      have hpm : (allOf S hd ⟨.fr 69 i r 0 (topW (hdS S) u) i (hdS S) false 0 89, (k : Int), b⟩ B C).Perm (allOf (i :: S) hd ⟨.idle, -1, b⟩ B C) := by
        refine allOf_perm ?_
        simp only [owned, List.append_nil, List.cons_append]
        rw [← List.append_assoc]
        exact List.perm_append_singleton i _
      refine I.upd rfl (R.setTop (S' := i :: S) (fun x hx => ?_) ⟨by rw [h8, hid], R.ch⟩) (by omega) (fun e => by omega) (fun x hx => ?_) (by simp) (fun j hj => getD_setL_ne (fun h => hj h.symm)) (fun j hj => by simp [hj]) (fun j hj => if_neg hj) (Int.le_refl _)
        ((I.hist.eff hk hr h (is_free hnS (by omega) (by omega)) nx_free).fin hk hr (by simp) (if_pos rfl) (fun j _ hj h => hO_end j hj h)) (.inl ⟨rfl, rfl⟩) (.inl rfl) (hpm.nodup_iff.1 I.nd) (fun x hx => I.rg x (hpm.mem_iff.2 hx)) I.hw
      · rcases List.mem_cons.1 hx with rfl | hx
        · exact hirg
        · exact R.rng x hx
      · have hx1 := I.rg x (owned_in hx)
        exact ⟨getD_set_ne (by omega), getD_set_ne (by omega)⟩
  · have hne : ¬ ws.getD 0 0 = topW q u := by
      rw [htop]; intro e
      have e2 := congrArg tgW e
      rw [htg, tgW_topW (by omega) (by omega)] at e2
      exact hu e2.symm
    refine ⟨_, _, S, t, hd, cl, _, ⟨.fr 69 i r 0 (topW q u) i q false 0 45, k, b⟩, lin, ans, u3F0 hkk ?_, u3F1 hkk ?_, u3F2 hkk ?_, ?_, .inr ?_⟩
    iterate 3
      simp only [allB_iff, List.forall_mem_cons, decide_eq_true_eq, Bool.not_eq_true', Bool.not_not, decide_eq_false_iff_not, beq_iff_eq, beq_eq_false_iff_ne, bne_iff_ne, bne_eq_false_iff_eq, ne_eq, rs_len, Int.toNat_natCast, hwl, hnx, hne]
      (and_intros <;> first | trivial | omega | assumption | (intro _ hb; cases hb; done))
    · rw [e0, eck]
      exact I.same rfl hk hr (.push1 _ _ _ _ h) ⟨rfl, rfl⟩ (fun i h _ => by omega) rfl
    · simp [mu, htg, hu]
/-- A step of a core that is busy. -/
theorem st_any {A : Cr} (I : AInv K n m ws S t hd cl ck A B C lin ans) (hK : K ≤ 900) (hb : A.o ≠ -1) : StepOut K n m j ws t hd cl ck A B C := by
  obtain ⟨x, o, b⟩ := A
  rcases I.a with ⟨h, _⟩ | ⟨k, fr, kd, a, g1, g2, g3, g4, g5, g6⟩
  · exact absurd h hb
  · have g1 : o = (k : Int) := g1
    subst g1
    have g4 : Ph n ws S t (k ∈ lin) x := g4
    cases g4 with
    | pop1 w p q h => obtain rfl : kd = 7 := g5; exact st_pop1 I hK g2 g3 h
    | pop2 p q u h h1 h2 h3 h4 h5 => obtain rfl : kd = 7 := g5; exact st_pop2 I hK g2 g3 h h1 h2 h3 h4 h5
    | pop3 p q u h h1 h2 h3 h4 h6 h7 h5 => obtain rfl : kd = 7 := g5; exact st_pop3 I hK g2 g3 h h1 h2 h3 h4 h6 h7 h5
    | gives i w p q g d f h => obtain rfl : kd = 7 := g5; exact st_gives I hK g2 g3 h (g6 i rfl (by simp [owned]))
    | lacks w p q g d f h => obtain rfl : kd = 7 := g5; exact st_lacks I hK g2 g3 h
    | looks i h => obtain ⟨rfl, rfl⟩ := g5; exact st_looks I hK g2 g3 h
    | raises i h => obtain ⟨rfl, rfl⟩ := g5; exact st_raises I hK g2 g3 h
    | push1 i r w q h => obtain ⟨rfl, rfl⟩ := g5; exact st_push1 I hK g2 g3 h
    | push2 i r q u h h3 h4 h6 h7 h5 => obtain ⟨rfl, rfl⟩ := g5; exact st_push2 I hK g2 g3 h h3 h4 h6 h7 h5
    | push3 i r q u h h3 h4 h6 h7 h5 h8 => obtain ⟨rfl, rfl⟩ := g5; exact st_push3 I hK g2 g3 h h3 h4 h6 h7 h5 h8
end
end Go.Sx
