/- The plain law of an arena: a core begins. -/
import Derived.Test.YtgldnjmnoemccaaGreatSzC4
import Derived.Test.YtgldnjmnoemccaaGreatSzB4
namespace Go.Sx
set_option maxRecDepth 100000
theorem pickF_rg {x k : Int} (h : 0 < k) (h2 : k < 1000000) : 0 ≤ pickF x k ∧ pickF x k < k := by
  unfold pickF
  have h1 := Int.tmod_lt_of_pos x h
  have h3 := Int.lt_tmod_of_pos x h
  by_cases hx : x.tmod k < 0
  · rw [if_pos hx, wrap_i64 (by omega) (by omega)]; omega
  · rw [if_neg hx]; omega
section
variable {K n t ck : Int} {m : Nat} {ws S hd : List Int} {cl : List (List Int)} {A B C : Cr} {lin : List Nat} {ans : Nat → Int × Int} {j : MJ} {zs : List Int} {len cap : Nat} {v : Int}
theorem AInv.begin (I : AInv K n m ws S t hd cl ck A B C lin ans) (hA : A.o = -1) {x : CO} {kd a b' : Int} {hd' : List Int} (h1 : kd = 7 ∨ kd = 8) (hp : Ph n ws S t False x) (hop : opK x kd a) (hans : kd = 7 → owned x = [])
    (hpm : (allOf S hd A B C).Perm (allOf S hd' ⟨x, (cl.length : Int), b'⟩ B C)) (hhw : ∀ w ∈ hd', 0 ≤ w ∧ w < 281474976710656 ∧ w % 65536 ≠ 0) :
    AInv (K + 1) n m ws S t hd' (cl ++ [rowC cl.length (ck + 1) (-1) kd a 0 0]) (ck + 1) ⟨x, (cl.length : Int), b'⟩ B C lin ans := by
  have hlt : ∀ y : Int, y = -1 ∨ (0 ≤ y ∧ y < (cl.length : Int)) → (cl.length : Int) ≠ y := fun y hy => by omega
  have hni : ¬ cl.length ∈ lin := fun hm => by have := I.hist.lt _ hm; omega
  have hkl := I.kl; have hkc := I.kc
  have hmo : ∀ {D : Cr}, PCore n ws S t cl lin ans D → PCore n ws S t (cl ++ [rowC cl.length (ck + 1) (-1) kd a 0 0]) lin ans D := fun h => h.mono (Int.le_refl _) (fun _ => rfl) (fun _ _ => ⟨rfl, rfl⟩) (fun k _ hk => ⟨by simp; omega, getD_snocL hk, .rfl, rfl⟩)
  refine ⟨I.ar.up, I.nm, I.hist.begin h1 (fun k hk ho => ?_) (.inl rfl), .inr ⟨cl.length, _, kd, a, rfl, by simp, getD_snocE, hp.mono (Int.le_refl _) (fun _ => rfl) (fun _ _ => ⟨rfl, rfl⟩) ⟨False.elim, hni⟩, hop, fun i h7 ho => ?_⟩, hmo I.b, hmo I.c, hpm.nodup_iff.1 I.nd, fun y hy => I.rg y (hpm.mem_iff.2 hy), hhw, fun _ => hlt _ I.b.lt, fun _ => hlt _ I.c.lt, I.bc, by simp; omega, by omega⟩
  · rcases ho with ho | ho | ho
    · rw [hA] at ho; omega
    · exact .inr (.inl ho)
    · exact .inr (.inr ho)
  · have ho : owned x = [i] := ho
    rw [hans h7] at ho; cases ho
theorem bF_dec {o P Q : Int} (ho : o < 0) (hpos : 0 < hd.length) (h0 : 0 ≤ v) (hv : v < (len : Int)) (hvz : v.toNat < zs.length) (hp : pickF (IntKind.i64.wrap (Int.tdiv (List.getD zs (Int.toNat v) 0) 3)) 2 = 1) (hP0 : 0 ≤ P) (hP1 : P < (hd.length : Int)) (hQ : Q = P + 1) (hlen : hd.length ≤ 4)
    (hww : 0 ≤ hd.getD P.toNat 0 ∧ hd.getD P.toNat 0 < 281474976710656 ∧ hd.getD P.toNat 0 % 65536 ≠ 0) (hwr : 0 ≤ idW (hd.getD P.toNat 0) ∧ idW (hd.getD P.toNat 0) < n) (hcl : cl.length + 1 ≤ 1048576) : allB [decide (List.length cl + 1 ≤ 1048576), !decide (idW (List.getD hd (Int.toNat P) 0) ≥ n), !decide (idW (List.getD hd (Int.toNat P) 0) < 0), !decide (idW (List.getD hd (Int.toNat P) 0) ≥ n), !decide (idW (List.getD hd (Int.toNat P) 0) < 0), decide (0 ≤ List.getD hd (Int.toNat P) 0 ∧ List.getD hd (Int.toNat P) 0 < 281474976710656 ∧ List.getD hd (Int.toNat P) 0 % 65536 ≠ 0), decide (List.length ([] ++ List.take (Int.toNat P) (List.drop 0 hd)) + (List.length hd - Int.toNat (Q)) ≤ 1048576), decide (Int.toNat (Q) + (List.length hd - Int.toNat (Q)) ≤ List.length hd), hiOK (some (Q)) (Int.toNat (Q)) (List.length hd), decide (0 + Int.toNat P ≤ 1048576), decide (0 + Int.toNat P ≤ List.length hd), hiOK (some P) (Int.toNat P) (List.length hd), decide (Int.toNat P < List.length hd), decide (0 ≤ P ∧ P < ((List.length hd : Nat) : Int)), decide (0 < ((List.length hd : Nat) : Int)), pickF (IntKind.i64.wrap (Int.tdiv (List.getD zs (Int.toNat v) 0) 3)) 2 == 1, decide (Int.toNat v < List.length zs), decide (0 ≤ v ∧ v < ((len : Nat) : Int)), decide (Int.toNat v < List.length zs), decide (0 ≤ v ∧ v < ((len : Nat) : Int)), decide (((List.length hd : Nat) : Int) > 0), decide (o < 0)] = true := by
  subst hQ
  have hi1 : hiOK (some P) P.toNat hd.length = true := by unfold hiOK; exact decide_eq_true ⟨fun z hz => by cases hz; omega, by omega⟩
  have hi2 : hiOK (some (P + 1)) (P + 1).toNat hd.length = true := by unfold hiOK; exact decide_eq_true ⟨fun z hz => by cases hz; omega, by omega⟩
  simp only [allB_iff, List.forall_mem_cons, decide_eq_true_eq, Bool.not_eq_true', decide_eq_false_iff_not, beq_iff_eq, hi1, hi2, List.length_append, List.length_take, List.length_drop, List.length_nil]
  (and_intros <;> first | trivial | omega | assumption | exact hww.1 | exact hww.2.1 | exact hww.2.2 | (intro _ hb; cases hb; done))
def BegOut (K n : Int) (m : Nat) (zs : List Int) (len cap : Nat) (v : Int) (j : MJ) (ws S : List Int) (t : Int) (hd : List Int) (cl : List (List Int)) (ck : Int) (A B C : Cr) (lin : List Nat) (ans : Nat → Int × Int) : Prop :=
  ∃ j' hd' cl' ck' A', PlPz zs plM (slM len cap v 0) plH (slH len cap (IntKind.i64.wrap (v + 1))) (of0 n j ws hd cl A B C ck) (of0 n j' ws hd' cl' A' B C ck') ∧ PlPz zs plM (slM len cap v 1) plH (slH len cap (IntKind.i64.wrap (v + 1))) (of1 n j ws hd cl A B C ck) (of1 n j' ws hd' cl' A' B C ck') ∧
    PlPz zs plM (slM len cap v 2) plH (slH len cap (IntKind.i64.wrap (v + 1))) (of2 n j ws hd cl A B C ck) (of2 n j' ws hd' cl' A' B C ck') ∧ AInv (K + 1) n m ws S t hd' cl' ck' A' B C lin ans
theorem beg_any (I : AInv K n m ws S t hd cl ck A B C lin ans) (hK : K ≤ 900) (hA : A.o = -1) (h0 : 0 ≤ v) (hv : v < (len : Int)) (hl : len = zs.length) : BegOut K n m zs len cap v j ws S t hd cl ck A B C lin ans := by
  obtain ⟨x, o, b⟩ := A
  have hA : o = -1 := hA
  subst hA
  have hx : x = .idle := by
    rcases I.a with ⟨_, h⟩ | ⟨k, fr, kd, a, h, _⟩
    · exact h
    · have h : (-1 : Int) = (k : Int) := h
      omega
  subst hx
  have hkl := I.kl; have hkc := I.kc; have hc0 := I.hist.ck0; have hn4 := I.ar.n4; have hn1 := I.ar.n1
  have eck : IntKind.i64.wrap (ck + 1) = ck + 1 := wrap_i64 (by omega) (by omega)
  have hvz : v.toNat < zs.length := by omega
  have hpA : (allOf S hd ⟨.idle, -1, b⟩ B C).Perm (allOf S hd ⟨.al 51 0 0 0 0 0 0 false 0 71, (cl.length : Int), b⟩ B C) := allOf_perm (by simp [owned])
  have hIA := I.begin (b' := b) (hd' := hd) (kd := 7) (a := 0) rfl (.inl rfl) (.pop1 0 0 0 id) rfl (fun _ => by simp [owned]) hpA I.hw
  rcases hh : hd with _ | ⟨h, hd'⟩
  · subst hh
    refine ⟨_, _, _, _, ⟨.al 51 0 0 0 0 0 0 false 0 71, cl.length, b⟩, bA00 ?_, bA01 ?_, bA02 ?_, ?_⟩
    iterate 3
      simp only [allB_iff, List.forall_mem_cons, decide_eq_true_eq]
      (and_intros <;> first | trivial | omega | (intro _ hb; cases hb; done))
    · rw [eck]
      exact hIA
  · have hpos : 0 < hd.length := by rw [hh]; simp
    rw [← hh]
    by_cases hp : pickF (IntKind.i64.wrap (Int.tdiv (List.getD zs (Int.toNat v) 0) 3)) 2 = 1
    · have hlen : hd.length ≤ 4 := by
        have h1 := nodup_int I.nd I.rg
        simp only [allOf, List.length_append, List.length_map] at h1
        omega
      have hpr := pickF_rg (x := IntKind.i64.wrap (Int.tdiv (List.getD zs (Int.toNat v) 0) 6)) (k := (hd.length : Int)) (by omega) (by omega)
      generalize hP : pickF (IntKind.i64.wrap (Int.tdiv (List.getD zs (Int.toNat v) 0) 6)) (hd.length : Int) = P at hpr
      have hPn : P.toNat < hd.length := by omega
      have eP : IntKind.i64.wrap (P + 1) = P + 1 := wrap_i64 (by omega) (by omega)
      have hwm : hd.getD P.toNat 0 ∈ hd := by
        rw [List.getD_eq_getElem?_getD, List.getElem?_eq_getElem hPn]; exact List.getElem_mem _
      have hww := I.hw _ hwm
      have hwr : 0 ≤ idW (hd.getD P.toNat 0) ∧ idW (hd.getD P.toNat 0) < n := I.rg _ (List.mem_append_right _ (List.mem_append_left _ (List.mem_map.2 ⟨_, hwm, rfl⟩)))
      have hnw : ([] ++ List.take (Int.toNat P) (List.drop 0 hd) ++ List.take (List.length hd - Int.toNat (P + 1)) (List.drop (Int.toNat (P + 1)) hd) : List Int) = hd.eraseIdx P.toNat := by
        rw [List.eraseIdx_eq_take_drop_succ, List.nil_append, List.drop_zero, show (P + 1).toNat = P.toNat + 1 by omega, List.take_of_length_le (l := List.drop (P.toNat + 1) hd) (by simp)]
      have hperm : hd.Perm (hd.eraseIdx P.toNat ++ [hd.getD P.toNat 0]) := by
        have h2 : hd.getD P.toNat 0 = hd[P.toNat] := by rw [List.getD_eq_getElem?_getD, List.getElem?_eq_getElem hPn]; rfl
        have h3 : hd = hd.take P.toNat ++ hd[P.toNat] :: hd.drop (P.toNat + 1) := by rw [← List.drop_eq_getElem_cons hPn, List.take_append_drop]
        have h4 : (hd.take P.toNat ++ hd[P.toNat] :: hd.drop (P.toNat + 1)).Perm (hd.eraseIdx P.toNat ++ [hd[P.toNat]]) := by
          rw [List.eraseIdx_eq_take_drop_succ]
          exact List.perm_middle.trans (List.perm_append_singleton _ _).symm
        rw [h2]
        exact (List.Perm.of_eq h3).trans h4
      have hpF : (allOf S hd ⟨.idle, -1, b⟩ B C).Perm (allOf S (hd.eraseIdx P.toNat) ⟨.fr 27 (idW (hd.getD P.toNat 0)) 0 0 0 (idW (hd.getD P.toNat 0)) 0 false 0 45, (cl.length : Int), hd.getD P.toNat 0⟩ B C) := by
        refine allOf_perm (List.Perm.append_left _ ?_)
        have h1 := hperm.map idW
        simp only [List.map_append, List.map_cons, List.map_nil] at h1
        simpa [owned] using h1
      have hIF := I.begin (b' := hd.getD P.toNat 0) (hd' := hd.eraseIdx P.toNat) (kd := 8) (a := idW (hd.getD P.toNat 0)) rfl (.inr rfl) (.looks _ id) ⟨rfl, rfl⟩ (fun h => by omega) hpF (fun w hw => I.hw w (List.mem_of_mem_eraseIdx hw))
      refine ⟨_, _, _, _, ⟨.fr 27 (idW (hd.getD (pickF (IntKind.i64.wrap (Int.tdiv (List.getD zs (Int.toNat v) 0) 6)) (hd.length : Int)).toNat 0)) 0 0 0 (idW (hd.getD (pickF (IntKind.i64.wrap (Int.tdiv (List.getD zs (Int.toNat v) 0) 6)) (hd.length : Int)).toNat 0)) 0 false 0 45, cl.length, hd.getD (pickF (IntKind.i64.wrap (Int.tdiv (List.getD zs (Int.toNat v) 0) 6)) (hd.length : Int)).toNat 0⟩, bF0 ?_, bF1 ?_, bF2 ?_, ?_⟩
      iterate 3
        rw [hP]
        exact bF_dec (by omega) hpos h0 hv hvz hp hpr.1 hpr.2 eP hlen hww hwr (by omega)
      · rw [hP, eP, eck, hnw]
        exact hIF
    · refine ⟨_, _, _, _, ⟨.al 51 0 0 0 0 0 0 false 0 71, cl.length, b⟩, bA10 ?_, bA11 ?_, bA12 ?_, ?_⟩
      iterate 3
        simp only [allB_iff, List.forall_mem_cons, decide_eq_true_eq, Bool.not_eq_true', beq_eq_false_iff_ne, ne_eq]
        (and_intros <;> first | trivial | omega | assumption | (intro _ hb; cases hb; done))
      · rw [eck]
        exact hIA
end
end Go.Sx
/- An arena's crew plays: the loops. -/
namespace Go.Sx
set_option maxRecDepth 100000
def c0 (σ : AS) : Cr := ⟨σ.x0, σ.o0, σ.b0⟩
def c1 (σ : AS) : Cr := ⟨σ.x1, σ.o1, σ.b1⟩
def c2 (σ : AS) : Cr := ⟨σ.x2, σ.o2, σ.b2⟩
def RIx (K : Int) (m : Nat) (σ : AS) (S : List Int) (t : Int) (lin : List Nat) (ans : Nat → Int × Int) : Prop := AInv K σ.n m σ.ws S t σ.hd σ.cl σ.ck (c0 σ) (c1 σ) (c2 σ) lin ans
def RI (K : Int) (m : Nat) (σ : AS) : Prop := ∃ S t lin ans, RIx K m σ S t lin ans
section
variable {K : Int} {m : Nat} {σ : AS} {zs : List Int} {len cap : Nat}
/-- A number played. -/
theorem one (h : RI K m σ) (hK : K ≤ 900) {v c : Int} (hc : c = 0 ∨ c = 1 ∨ c = 2) (h0 : 0 ≤ v) (hv : v < (len : Int)) (hl : len = zs.length) : ∃ σ', RI (K + 1) m σ' ∧ PlPz zs plM (slM len cap v c) plH (slH len cap (IntKind.i64.wrap (v + 1))) σ σ' := by
  obtain ⟨S, t, lin, ans, I⟩ := h
  rcases hc with rfl | rfl | rfl
  · by_cases hb : (c0 σ).o = -1
    · obtain ⟨j', hd', cl', ck', A', b1, _, _, I1⟩ := beg_any (j := σ.j) (cap := cap) I hK hb h0 hv hl
      refine ⟨_, ?_, b1⟩; exact ⟨S, t, lin, ans, I1⟩
    · obtain ⟨j', ws', S', t', hd', cl', ck', A', lin', ans', s1, _, _, I1, _⟩ := st_any (j := σ.j) I hK hb
      refine ⟨_, ?_, PlPc.z (s1.1 len cap v)⟩; exact ⟨S', t', lin', ans', I1⟩
  · by_cases hb : (c1 σ).o = -1
    · obtain ⟨j', hd', cl', ck', A', _, b1, _, I1⟩ := beg_any (j := σ.j) (cap := cap) I.swap12 hK hb h0 hv hl
      refine ⟨_, ?_, b1⟩; exact ⟨S, t, lin, ans, I1.swap12⟩
    · obtain ⟨j', ws', S', t', hd', cl', ck', A', lin', ans', _, s1, _, I1, _⟩ := st_any (j := σ.j) I.swap12 hK hb
      refine ⟨_, ?_, PlPc.z (s1.1 len cap v)⟩; exact ⟨S', t', lin', ans', I1.swap12⟩
  · by_cases hb : (c2 σ).o = -1
    · obtain ⟨j', hd', cl', ck', A', _, _, b1, I1⟩ := beg_any (j := σ.j) (cap := cap) I.swap23.swap12 hK hb h0 hv hl
      refine ⟨_, ?_, b1⟩; exact ⟨S, t, lin, ans, I1.swap12.swap23⟩
    · obtain ⟨j', ws', S', t', hd', cl', ck', A', lin', ans', _, _, s1, I1, _⟩ := st_any (j := σ.j) I.swap23.swap12 hK hb
      refine ⟨_, ?_, PlPc.z (s1.1 len cap v)⟩; exact ⟨S', t', lin', ans', I1.swap12.swap23⟩
theorem pick3 (x : Int) : pickF x 3 = 0 ∨ pickF x 3 = 1 ∨ pickF x 3 = 2 := by
  have := pickF_rg (x := x) (k := 3) (by decide) (by decide)
  omega
theorem loop1 (h2 : len = zs.length) (hl : len ≤ 70) : ∀ (d i : Nat) (σ : AS), len = i + d → RI i m σ → ∃ σ', RI len m σ' ∧ PlPz zs plH (slH len cap i) plH (slH len cap len) σ σ' := by
  intro d
  induction d with
  | zero =>
    intro i σ hi h
    have e : len = i := by omega
    rw [e]
    exact ⟨σ, h, fun hβ hA => PlPz.refl hβ hA⟩
  | succ d ih =>
    intro i σ hi h
    obtain ⟨σ', I1, p2⟩ := one (cap := cap) h (by omega) (pick3 (zs.getD i 0)) (v := (i : Int)) (by omega) (by omega) h2
    have e1 : (i : Int) + 1 = ((i + 1 : Nat) : Int) := by omega
    rw [e1] at I1
    obtain ⟨σ'', I2, hp⟩ := ih (i + 1) σ' (by omega) I1
    refine ⟨σ'', I2, ?_⟩
    have e2 : IntKind.i64.wrap ((i : Int) + 1) = ((i + 1 : Nat) : Int) := by rw [wrap_i64 (by omega) (by omega)]; omega
    have p1 : PlPz zs plH (slH len cap i) plM (slM len cap i (pickF (zs.getD i 0) 3)) σ σ := fun {β kind cs J A} hβ hA => by
      have := pl_next (σ := σ) (zs := zs) (len := len) (cap := cap) (i := (i : Int)) (by omega) (by omega) h2 (kind := kind) (cs := cs) hβ hA
      rwa [Int.toNat_natCast] at this
    rw [e2] at p2
    intro β kind cs J A hβ hA
    exact PlPz.trans (PlPz.trans p1 p2) hp hβ hA
theorem mu_pos {n t : Int} {ws S : List Int} {cl : List (List Int)} {lin : List Nat} {ans : Nat → Int × Int} {A : Cr} (H : PCore n ws S t cl lin ans A) (h : A.o ≠ -1) : 1 ≤ mu t A.x := by
  rcases H with ⟨h', _⟩ | ⟨k, fr, kd, a, g1, g2, g3, g4, g5, g6⟩
  · exact absurd h' h
  · cases hx : A.x with
    | idle => rw [hx] at g5; exact absurd g5 id
    | al => simp only [mu]; repeat' (first | decide | split)
    | fr => simp only [mu]; repeat' (first | decide | split)
theorem RIx.up_n {S : List Int} {t : Int} {lin : List Nat} {ans : Nat → Int × Int} (d : Nat) (I : RIx K m σ S t lin ans) : RIx (K + (d : Int)) m σ S t lin ans := by
  have h1 := I.kl; have h2 := I.kc; have R := I.ar; have h3 := R.tK
  exact ⟨⟨R.n1, R.n4, R.wl, R.top, R.t0, by omega, R.rng, R.ch, R.lkr, fun i h1 h2 => by have := R.gnr i h1 h2; omega, R.worn⟩, I.nm, I.hist, I.a, I.b, I.c, I.nd, I.rg, I.hw, I.ab, I.ac, I.bc, by omega, by omega⟩
theorem drain0 : ∀ (M k : Nat) (σ : AS) (K : Int) (S : List Int) (t : Int) (lin : List Nat) (ans : Nat → Int × Int), RIx K m σ S t lin ans → K + (M : Int) ≤ 900 → (σ.o0 = -1 ∨ mu t σ.x0 ≤ M) → k + M ≤ 7 →
    ∃ σ', RI (K + M) m σ' ∧ σ'.o0 = -1 ∧ σ'.o1 = σ.o1 ∧ σ'.o2 = σ.o2 ∧ PlPc plG (slG 0 k) plK (slK 1) σ σ' := by
  intro M
  induction M with
  | zero =>
    intro k σ K S t lin ans I hK hm hk
    have ho : σ.o0 = -1 := by
      rcases hm with h | h
      · exact h
      · by_cases h' : σ.o0 = -1
        · exact h'
        · have : 1 ≤ mu t σ.x0 := mu_pos I.a h'
          omega
    exact ⟨σ, ⟨S, t, lin, ans, by simpa using I⟩, ho, rfl, rfl, pl_out0 (by rw [ho]; decide)⟩
  | succ M ih =>
    intro k σ K S t lin ans I hK hm hk
    by_cases ho : σ.o0 = -1
    · refine ⟨σ, ⟨S, t, lin, ans, ?_⟩, ho, rfl, rfl, pl_out0 (by rw [ho]; decide)⟩
      exact RIx.up_n (M + 1) I
    · have hm' : mu t σ.x0 ≤ M + 1 := by rcases hm with h | h; exact absurd h ho; exact h
      obtain ⟨j', ws', S', t', hd', cl', ck', A', lin', ans', s1, _, _, I2, h3⟩ := st_any (j := σ.j) I (by omega) ho
      obtain ⟨σ', g1, g2, g4, g5, g3⟩ := ih (k + 1) (of0 σ.n j' ws' hd' cl' A' (c1 σ) (c2 σ) ck') (K + 1) S' t' lin' ans' I2 (by omega) (by
        rcases h3 with h3 | h3
        · exact .inl h3
        · refine .inr ?_
          have h5 : mu t (c0 σ).x ≤ M + 1 := hm'
          show mu t' A'.x ≤ M
          omega) (by omega)
      have e2 : IntKind.i64.wrap ((k : Int) + 1) = ((k + 1 : Nat) : Int) := by rw [wrap_i64 (by omega) (by omega)]; omega
      have p1 : PlPc plG (slG 0 k) plG (slG 0 (IntKind.i64.wrap ((k : Int) + 1))) σ _ := s1.2 (k : Int) (by omega)
      rw [e2] at p1
      refine ⟨σ', ?_, g2, g4, g5, fun hβ hA => PlPz.trans (PlPc.z p1) (PlPc.z g3) hβ hA⟩
      have e3 : K + ((M + 1 : Nat) : Int) = K + 1 + (M : Int) := by omega
      rw [e3]; exact g1
theorem drain1 : ∀ (M k : Nat) (σ : AS) (K : Int) (S : List Int) (t : Int) (lin : List Nat) (ans : Nat → Int × Int), RIx K m σ S t lin ans → K + (M : Int) ≤ 900 → (σ.o1 = -1 ∨ mu t σ.x1 ≤ M) → k + M ≤ 7 →
    ∃ σ', RI (K + M) m σ' ∧ σ'.o1 = -1 ∧ σ'.o0 = σ.o0 ∧ σ'.o2 = σ.o2 ∧ PlPc plG (slG 1 k) plK (slK 2) σ σ' := by
  intro M
  induction M with
  | zero =>
    intro k σ K S t lin ans I hK hm hk
    have ho : σ.o1 = -1 := by
      rcases hm with h | h
      · exact h
      · by_cases h' : σ.o1 = -1
        · exact h'
        · have : 1 ≤ mu t σ.x1 := mu_pos I.b h'
          omega
    exact ⟨σ, ⟨S, t, lin, ans, by simpa using I⟩, ho, rfl, rfl, pl_out1 (by rw [ho]; decide)⟩
  | succ M ih =>
    intro k σ K S t lin ans I hK hm hk
    by_cases ho : σ.o1 = -1
    · refine ⟨σ, ⟨S, t, lin, ans, ?_⟩, ho, rfl, rfl, pl_out1 (by rw [ho]; decide)⟩
      exact RIx.up_n (M + 1) I
    · have hm' : mu t σ.x1 ≤ M + 1 := by rcases hm with h | h; exact absurd h ho; exact h
      obtain ⟨j', ws', S', t', hd', cl', ck', A', lin', ans', _, s1, _, I2, h3⟩ := st_any (j := σ.j) I.swap12 (by omega) ho
      obtain ⟨σ', g1, g2, g4, g5, g3⟩ := ih (k + 1) (of1 σ.n j' ws' hd' cl' A' (c0 σ) (c2 σ) ck') (K + 1) S' t' lin' ans' I2.swap12 (by omega) (by
        rcases h3 with h3 | h3
        · exact .inl h3
        · refine .inr ?_
          have h5 : mu t (c1 σ).x ≤ M + 1 := hm'
          show mu t' A'.x ≤ M
          omega) (by omega)
      have e2 : IntKind.i64.wrap ((k : Int) + 1) = ((k + 1 : Nat) : Int) := by rw [wrap_i64 (by omega) (by omega)]; omega
      have p1 : PlPc plG (slG 1 k) plG (slG 1 (IntKind.i64.wrap ((k : Int) + 1))) σ _ := s1.2 (k : Int) (by omega)
      rw [e2] at p1
      refine ⟨σ', ?_, g2, g4, g5, fun hβ hA => PlPz.trans (PlPc.z p1) (PlPc.z g3) hβ hA⟩
      have e3 : K + ((M + 1 : Nat) : Int) = K + 1 + (M : Int) := by omega
      rw [e3]; exact g1
theorem drain2 : ∀ (M k : Nat) (σ : AS) (K : Int) (S : List Int) (t : Int) (lin : List Nat) (ans : Nat → Int × Int), RIx K m σ S t lin ans → K + (M : Int) ≤ 900 → (σ.o2 = -1 ∨ mu t σ.x2 ≤ M) → k + M ≤ 7 →
    ∃ σ', RI (K + M) m σ' ∧ σ'.o2 = -1 ∧ σ'.o0 = σ.o0 ∧ σ'.o1 = σ.o1 ∧ PlPc plG (slG 2 k) plK (slK 3) σ σ' := by
  intro M
  induction M with
  | zero =>
    intro k σ K S t lin ans I hK hm hk
    have ho : σ.o2 = -1 := by
      rcases hm with h | h
      · exact h
      · by_cases h' : σ.o2 = -1
        · exact h'
        · have : 1 ≤ mu t σ.x2 := mu_pos I.c h'
          omega
    exact ⟨σ, ⟨S, t, lin, ans, by simpa using I⟩, ho, rfl, rfl, pl_out2 (by rw [ho]; decide)⟩
  | succ M ih =>
    intro k σ K S t lin ans I hK hm hk
    by_cases ho : σ.o2 = -1
    · refine ⟨σ, ⟨S, t, lin, ans, ?_⟩, ho, rfl, rfl, pl_out2 (by rw [ho]; decide)⟩
      exact RIx.up_n (M + 1) I
    · have hm' : mu t σ.x2 ≤ M + 1 := by rcases hm with h | h; exact absurd h ho; exact h
      obtain ⟨j', ws', S', t', hd', cl', ck', A', lin', ans', _, _, s1, I2, h3⟩ := st_any (j := σ.j) I.swap23.swap12 (by omega) ho
      obtain ⟨σ', g1, g2, g4, g5, g3⟩ := ih (k + 1) (of2 σ.n j' ws' hd' cl' A' (c0 σ) (c1 σ) ck') (K + 1) S' t' lin' ans' I2.swap12.swap23 (by omega) (by
        rcases h3 with h3 | h3
        · exact .inl h3
        · refine .inr ?_
          have h5 : mu t (c2 σ).x ≤ M + 1 := hm'
          show mu t' A'.x ≤ M
          omega) (by omega)
      have e2 : IntKind.i64.wrap ((k : Int) + 1) = ((k + 1 : Nat) : Int) := by rw [wrap_i64 (by omega) (by omega)]; omega
      have p1 : PlPc plG (slG 2 k) plG (slG 2 (IntKind.i64.wrap ((k : Int) + 1))) σ _ := s1.2 (k : Int) (by omega)
      rw [e2] at p1
      refine ⟨σ', ?_, g2, g4, g5, fun hβ hA => PlPz.trans (PlPc.z p1) (PlPc.z g3) hβ hA⟩
      have e3 : K + ((M + 1 : Nat) : Int) = K + 1 + (M : Int) := by omega
      rw [e3]; exact g1
theorem idle_of {n t : Int} {ws S : List Int} {cl : List (List Int)} {lin : List Nat} {ans : Nat → Int × Int} {A : Cr} (H : PCore n ws S t cl lin ans A) (h : A.o = -1) : A.x = .idle := by
  rcases H with ⟨_, h'⟩ | ⟨k, fr, kd, a, g1, _⟩
  · exact h'
  · omega
/-- A crew plays: from plays' first head on to behind its loops; there is an order of its calls. -/
theorem plays_way (h2 : len = zs.length) (hl : len ≤ 70) (h : RI 0 m σ) :
    ∃ n j ws hd b0 b1 b2 cl ck, n = (m : Int) ∧ (cl.length ≤ 8 → OrdPre cl m) ∧ cl.length ≤ 1000 ∧ PlPz zs plH (slH len cap 0) plK (slK 3) σ (σE n j ws hd b0 b1 b2 cl ck) := by
  obtain ⟨σ1, I1, p1⟩ := loop1 (cap := cap) h2 hl len 0 σ (by omega) h
  obtain ⟨S1, t1, lin1, ans1, I1⟩ := I1
  obtain ⟨σ2, ⟨S2, t2, lin2, ans2, I2⟩, o2, _, _, p2⟩ := drain0 6 0 σ1 _ S1 t1 lin1 ans1 I1 (by omega) (.inr (mu_le _)) (by omega)
  obtain ⟨σ3, ⟨S3, t3, lin3, ans3, I3⟩, o3, o3', _, p3⟩ := drain1 6 0 σ2 _ S2 t2 lin2 ans2 I2 (by omega) (.inr (mu_le _)) (by omega)
  obtain ⟨σ4, ⟨S4, t4, lin4, ans4, I4⟩, o4, o4', o4'', p4⟩ := drain2 6 0 σ3 _ S3 t3 lin3 ans3 I3 (by omega) (.inr (mu_le _)) (by omega)
  have e0 : σ4.o0 = -1 := o4'.trans (o3'.trans o2)
  have e1 : σ4.o1 = -1 := o4''.trans o3
  have x0 := idle_of I4.a e0
  have x1 := idle_of I4.b e1
  have x2 := idle_of I4.c o4
  have hord : σ4.cl.length ≤ 8 → OrdPre σ4.cl m := fun h8 => I4.hist.ord (fun k hk => by
    have f0 : (c0 σ4).o = -1 := e0
    have f1 : (c1 σ4).o = -1 := e1
    have f2 : (c2 σ4).o = -1 := o4
    rw [f0, f1, f2] at hk
    omega) (by have := I4.ar.n1; have := I4.nm; omega) (by have := I4.ar.n4; have := I4.nm; omega) h8
  have hkl := I4.kl
  have hnm := I4.nm
  have hp : PlPz zs plH (slH len cap 0) plK (slK 3) σ σ4 := fun hβ hA => PlPz.trans (PlPz.trans (PlPz.trans p1 (PlPc.z (pl_exit (by omega)))) (PlPz.trans (PlPc.z pl_in0) (PlPc.z p2))) (PlPz.trans (PlPz.trans (PlPc.z pl_in1) (PlPc.z p3)) (PlPz.trans (PlPc.z pl_in2) (PlPc.z p4))) hβ hA
  obtain ⟨n, j, ws, hd, b0, b1, b2, o0, o1, o2', cl, y0, y1, y2, ck⟩ := σ4
  have e0 : o0 = -1 := e0
  have e1 : o1 = -1 := e1
  have e2 : o2' = -1 := o4
  have x0 : y0 = .idle := x0
  have x1 : y1 = .idle := x1
  have x2 : y2 = .idle := x2
  subst e0; subst e1; subst e2; subst x0; subst x1; subst x2
  exact ⟨n, j, ws, hd, b0, b1, b2, cl, ck, hnm, hord, by have hkl : (cl.length : Int) ≤ _ := hkl; omega, hp⟩
end
end Go.Sx
/- An arena's crew plays: the contract of plays. -/
namespace Go.Sx
set_option maxRecDepth 100000
/-- A crew as it begins. -/
def σS (n : Int) (j : MJ) (ws : List Int) : AS := ⟨n, j, ws, [], 0, 0, 0, -1, -1, -1, [], .idle, .idle, .idle, 0⟩
def crewL (n : Int) (x y : V) : List V := [.int .i64 0, .int .i64 1, .int .i64 n, .int .i64 (1 + n), .int .i64 (1 + 2 * n), .int .i64 1000, .ptr 2 0 0 0, .osl 4 1, .osl 5 1, x, .osl 6 1, y, .osl 7 1, .int .i64 0]
def l6 (n : Int) (j : MJ) (ws : List Int) : List (Option Ob) := [some (memA 3 (2 + 2 * n) j), some (wordsA ws), some (.mem (.cells [.nilp, .nilp, .nilp]) 77 (some 1)), some (.mem (.cells [.nilp, .nilp, .nilp]) 44 (some 1)), some (rowU [0, 0, 0]), some (rowI [-1, -1, -1])]
def l0 (zs : List Int) (n : Int) (j : MJ) (ws : List Int) : List (Option Ob) := some (.ro .i64 zs) :: some (.mem (.cells (crewL n .nils .nils)) 38 none) :: l6 n j ws
def lG (zs : List Int) (n : Int) (j : MJ) (ws : List Int) : List (Option Ob) := some (.ro .i64 zs) :: some (.mem (.cells (crewL n (.osl 8 1) (.osl 9 10))) 38 none) :: (l6 n j ws ++ [some (rowU [])] ++ [some (callsOb [])])
theorem ghostC {β : Base} {fr : Frs} {T : Tr V} {hi : Nat} {A : Cf} {a : Option Ob} {t1 : List (Option Ob)} {vs vs' : List V} {k es : Nat} {b : Body} {t t' : TypeId} {op : Option Nat} (hk : k = 2 + t1.length) (hA : Asrt β fr T [] (hO (a :: some (.mem (.cells vs) t op) :: t1)) k hi A) (hlt : k < hi) (hβ : β.n0 ≤ k) (hb : b.flat = []) (hc : b.count es = 0) (hg : GhL k es vs vs') :
    Asrt β fr T [] (hO (a :: some (.mem (.cells vs') t op) :: (t1 ++ [some (.mem b t' (some es))]))) (k + 1) hi A := by
  subst hk
  refine hA.ghost (b := b) (es := es) (t := t') hlt hβ hb hc ?_ (fun m hm => ?_) (fun u => .inl rfl)
  · show ((a :: some (.mem (.cells vs') t op) :: (t1 ++ [some (.mem b t' (some es))]))[2 + t1.length]?).join = _
    rw [show 2 + t1.length = t1.length + 1 + 1 by omega]
    simp only [List.getElem?_cons_succ]
    simp
  · match m, hm with
    | 0, _ => exact .inl rfl
    | 1, _ => exact .inr ⟨vs, vs', t, op, rfl, rfl, hg⟩
    | m + 2, hm =>
      refine .inl ?_
      simp only [hO, List.getElem?_cons_succ]
      by_cases h : m < t1.length
      · rw [List.getElem?_append_left h]
      · rw [List.getElem?_eq_none (l := t1) (by omega), List.getElem?_eq_none (by simp; omega)]
theorem Asrt.nx_up {β : Base} {fr : Frs} {T : Tr V} {df : List Dfr} {H : Nat → Option Ob} {nx nx' hi : Nat} {a : Cf} (hA : Asrt β fr T df H nx hi a) (hn : nx ≤ nx') : Asrt β fr T df H nx' hi a := by
  obtain ⟨D, L, h1, h2, h3, h4⟩ := hA
  exact ⟨D, L, h1, h2, fun n hD => (h3 n hD).imp (fun h => by omega) id, h4⟩
theorem lG_lA {zs : List Int} {n : Int} {j : MJ} {ws : List Int} : hO (lG zs n j ws) = hO (lA zs (σS n j ws)) := by
  funext m
  match m with
  | 0 | 1 | 2 | 3 | 4 | 5 | 6 | 7 | 8 | 9 | 10 | 11 | 12 | 13 | 14 | 15 => rfl
  | m + 16 => rfl
theorem pl_ghosts {β : Base} {fr : Frs} {T : Tr V} {A : Cf} {zs : List Int} {n : Int} {j : MJ} {ws : List Int} (hβ : β.n0 = 8) (hA : Asrt β fr T [] (hO (l0 zs n j ws)) 8 far A) : Asrt β fr T [] (hO (lA zs (σS n j ws))) 16 far A := by
  have h1 := ghostC (k := 8) (es := 1) (b := .words .u64 []) (t' := 63) (t1 := l6 n j ws) (vs' := crewL n (.osl 8 1) .nils) rfl hA (by decide) (by rw [hβ]; decide) rfl rfl (by unfold crewL; (repeat (first | exact GhL.nil | refine GhL.cons (by first | exact .inl rfl | exact .inr ⟨rfl, rfl⟩) ?_)))
  refine lG_lA ▸ Asrt.nx_up (nx := 10) ?_ (by decide)
  exact ghostC (k := 9) (es := 10) (b := .rows shSpan []) (t' := 69) (vs' := crewL n (.osl 8 1) (.osl 9 10)) rfl h1 (by decide) (by rw [hβ]; decide) rfl rfl (by unfold crewL; (repeat (first | exact GhL.nil | refine GhL.cons (by first | exact .inl rfl | exact .inr ⟨rfl, rfl⟩) ?_)))
section
variable {β : Base} {kind : CallKind} {cs : List Frame} {J : Nat → V} {A : Cf} {zs : List Int} {len cap : Nat} {n : Int} {m : Nat} {j : MJ} {ws : List Int}
theorem pl_start (hβ : β.n0 = 8) (hA : Asrt β frPl (Tr.ofList [.ptr 1 0 0 0, .slice 0 0 1 len cap]) [] (hO (lA zs (σS n j ws))) 16 far A) :
    ∃ J' b', Asrt β frPl (trO (slots J' 0 (slH len cap 0))) [] (hO (lA zs (σS n j ws))) 16 far b' ∧ Steps Go.Proofs.Tryz.prog (At frPl none kind cs A [.code plBody]) (At frPl none kind cs b' plH) :=
  Asrt.evalR (mk := []) (n := 400) (m := 7) (orc := []) (πl := id16) (nx' := 16) (far := far) (todo := [.code plBody]) (todo' := plH) (l := lA zs (σS n j ws)) (l' := lA zs (σS n j ws)) (lr := lA zs (σS n j ws)) (sl' := slH len cap 0) (B := allB []) FP_ok SP_ok kind cs hA
    (by kernel_rfl) (renA _ _) rfl rfl rfl rfl rfl rfl (pA _) (fun m hm => pA_live _ _ _ m hm) (pA_old hβ) (by rw [hβ]; kernel_rfl) (obsA _ _) (by kernel_rfl)
/-- What plays makes of a crew. -/
def PlaysTo (zs : List Int) (len cap : Nat) (n : Int) (j : MJ) (ws : List Int) (σ' : AS) : Prop :=
  CallH Go.Proofs.Tryz.prog 7 [.ptr 1 0 0 0, .slice 0 0 1 len cap] 8 (hO (l0 zs n j ws)) (.bool true) 10 (hO (lE zs σ'))
theorem lE_ob {zs hd : List Int} {n : Int} {j : MJ} {ws : List Int} {b0 b1 b2 : Int} {cl : List (List Int)} {ck : Int} : obsOK (fun m => Nat.blt m 10) 0 (lE zs (σE n j ws hd b0 b1 b2 cl ck)) = true := by kernel_rfl
theorem lE_ro {zs : List Int} {σ : AS} : ∀ m o, hO (lE zs σ) m = some o → o.isRo = true → m = 0 ∧ o = .ro .i64 zs := fun m o ho hr => by
  have hm := lt_of_hO ho
  match m, hm, ho with
  | 0, _, ho => cases ho; exact ⟨rfl, rfl⟩
  | 1, _, ho | 2, _, ho | 3, _, ho | 4, _, ho | 5, _, ho | 6, _, ho | 7, _, ho | 8, _, ho | 9, _, ho => cases ho; cases hr
theorem plays_call (h2 : len = zs.length) (hl : len ≤ 70) (h : RI 0 m (σS n j ws)) :
    ∃ n' j' ws' hd b0 b1 b2 cl ck, n' = (m : Int) ∧ (cl.length ≤ 8 → OrdPre cl m) ∧ cl.length ≤ 1000 ∧ PlaysTo zs len cap n j ws (σE n' j' ws' hd b0 b1 b2 cl ck) := by
  obtain ⟨n', j', ws', hd, b0, b1, b2, cl, ck, g0, g1, g2, g3⟩ := plays_way (cap := cap) h2 hl h
  refine ⟨n', j', ws', hd, b0, b1, b2, cl, ck, g0, g1, g2, callH_of (c := plBody) (t := 4) (hi := far) Go.Proofs.Tryz.func7 (by kernel_rfl) (Nat.blt_eq.mp (by kernel_rfl)) (by kernel_rfl) (Nat.ble_eq.mp (by kernel_rfl)) (fun m o ho => ?_) (fun m o ho hr => ?_) rfl ?_⟩
  · have := obsOK_ok (lE zs (σE n' j' ws' hd b0 b1 b2 cl ck)) 0 lE_ob m o ho
    rw [blt_fun] at this
    exact ⟨by simpa [lE, lA] using this.2.1, this.2.2⟩
  · obtain ⟨rfl, rfl⟩ := lE_ro m o ho hr
    rfl
  · intro L w kind cs a hA
    have h2 := pl_ghosts rfl hA
    obtain ⟨J1, b1', h1, s1⟩ := pl_start (kind := kind) (cs := cs) rfl h2
    obtain ⟨J2, b2', h3, s2⟩ := g3 (kind := kind) (cs := cs) rfl h1
    obtain ⟨J3, b3, h4, s3⟩ := pl_end (kind := kind) (cs := cs) rfl h3
    exact ⟨b3, _, 10, far, _, h4, rfl, (s1.trans s2).trans s3, .inr ⟨[], rfl⟩⟩
end
end Go.Sx
/- An arena's crew plays: the summary of plays. -/
namespace Go.Sx
set_option maxRecDepth 100000
def gRo : Option Ob → Option (List Int)
  | some (.ro .i64 zs) => some zs
  | _ => none
def gCrew : Option Ob → Option (Int × Int × Int)
  | some (.mem (.cells [.int .i64 a0, .int .i64 a1, .int .i64 n, .int .i64 n1, .int .i64 n2, .int .i64 a2, .ptr b0 b1 b2 b3, .osl c0 c1, .osl d0 d1, .nils, .osl e0 e1, .nils, .osl f0 f1, .int .i64 a3]) t none) =>
    (chk (decide (a0 = 0 ∧ a1 = 1 ∧ a2 = 1000 ∧ a3 = 0 ∧ t = 38))).bind fun _ => (chk (decide (b0 = 2 ∧ b1 = 0 ∧ b2 = 0 ∧ b3 = 0 ∧ c0 = 4 ∧ c1 = 1 ∧ d0 = 5 ∧ d1 = 1 ∧ e0 = 6 ∧ e1 = 1 ∧ f0 = 7 ∧ f1 = 1))).bind fun _ => some (n, n1, n2)
  | _ => none
def gMem : Option Ob → Option (Int × MJ)
  | some (.mem (.cells [.ptr b0 b1 b2 b3, .int .i64 sz, .int .i64 a, .int .i64 b, .int .u64 c, .int .u64 d, .bool e, .int .i64 g]) t none) =>
    (chk (decide (b0 = 3 ∧ b1 = 0 ∧ b2 = 0 ∧ b3 = 0 ∧ t = 95))).bind fun _ => some (sz, ⟨a, b, c, d, e, g⟩)
  | _ => none
def gWords : Option Ob → Option (List Int)
  | some (.mem (.words .u64 ws) t none) => (chk (decide (t = 91))).bind fun _ => some ws
  | _ => none
def gOps : Option Ob → Option TypeId
  | some (.mem (.cells [.nilp, .nilp, .nilp]) t (some e)) => (chk (decide (e = 1))).bind fun _ => some t
  | _ => none
def gRow : Option Ob → Option (IntKind × TypeId × List Int)
  | some (.mem (.words k l) t (some e)) => (chk (decide (e = 1))).bind fun _ => some (k, t, l)
  | _ => none
theorem gRo_ok {x : Option Ob} {zs : List Int} (h : gRo x = some zs) : x = some (.ro .i64 zs) := by
  unfold gRo at h; split at h <;> cases h; rfl
theorem gCrew_ok {x : Option Ob} {n n1 n2 : Int} (h : gCrew x = some (n, n1, n2)) (h1 : n1 = 1 + n) (h2 : n2 = 1 + 2 * n) : x = some (.mem (.cells (crewL n .nils .nils)) 38 none) := by
  unfold gCrew at h
  split at h
  · simp only [Option.bind_eq_some_iff, exists_const] at h
    obtain ⟨_, h3, _, h4, h5⟩ := h
    obtain ⟨rfl, rfl, rfl, rfl, rfl⟩ := chk_dec h3
    obtain ⟨rfl, rfl, rfl, rfl, rfl, rfl, rfl, rfl, rfl, rfl, rfl, rfl⟩ := chk_dec h4
    cases h5; subst h1; subst h2; rfl
  · cases h
theorem gMem_ok {x : Option Ob} {sz : Int} {j : MJ} (h : gMem x = some (sz, j)) : x = some (memA 3 sz j) := by
  unfold gMem at h
  split at h
  · simp only [Option.bind_eq_some_iff, exists_const] at h
    obtain ⟨_, h1, h3⟩ := h
    obtain ⟨rfl, rfl, rfl, rfl, rfl⟩ := chk_dec h1
    cases h3; rfl
  · cases h
theorem gWords_ok {x : Option Ob} {ws : List Int} (h : gWords x = some ws) : x = some (wordsA ws) := by
  unfold gWords at h
  split at h
  · simp only [Option.bind_eq_some_iff, exists_const] at h
    obtain ⟨_, h1, h3⟩ := h
    obtain rfl := chk_dec h1
    cases h3; rfl
  · cases h
theorem gOps_ok {x : Option Ob} {t : TypeId} (h : gOps x = some t) : x = some (.mem (.cells [.nilp, .nilp, .nilp]) t (some 1)) := by
  unfold gOps at h
  split at h
  · simp only [Option.bind_eq_some_iff, exists_const] at h
    obtain ⟨_, h1, h3⟩ := h
    obtain rfl := chk_dec h1
    cases h3; rfl
  · cases h
theorem gRow_ok {x : Option Ob} {k : IntKind} {t : TypeId} {l : List Int} (h : gRow x = some (k, t, l)) : x = some (.mem (.words k l) t (some 1)) := by
  unfold gRow at h
  split at h
  · simp only [Option.bind_eq_some_iff, exists_const] at h
    obtain ⟨_, h1, h3⟩ := h
    obtain rfl := chk_dec h1
    cases h3; rfl
  · cases h
/-- A crew whose cores are all idle. -/
def σz (σ : AS) : AS := σE σ.n σ.j σ.ws σ.hd σ.b0 σ.b1 σ.b2 σ.cl σ.ck
noncomputable def smPl (σ' : AS) (args : List V) (s : St) : Option (V × St) :=
  match args with
  | [.ptr c i z o, .slice b bi bz len cap] => (chk (decide (c = 1 ∧ i = 0 ∧ z = 0 ∧ o = 0 ∧ b = 0 ∧ bi = 0 ∧ bz = 1 ∧ s.nx = 8))).bind fun _ => (gRo (s.H.get 0)).bind fun zs => (gCrew (s.H.get 1)).bind fun r0 => match r0 with
    | (n, n1, n2) => (gMem (s.H.get 2)).bind fun r => match r with
    | (sz, j) => (chk (decide (n1 = 1 + n ∧ n2 = 1 + 2 * n ∧ sz = 2 + 2 * n))).bind fun _ => (gWords (s.H.get 3)).bind fun ws => (gOps (s.H.get 4)).bind fun t4 => (gOps (s.H.get 5)).bind fun t5 => (gRow (s.H.get 6)).bind fun r6 => (gRow (s.H.get 7)).bind fun r7 =>
      (chk (decide (t4 = 77 ∧ t5 = 44))).bind fun _ => (chk (decide (r6 = (.u64, 63, [0, 0, 0]) ∧ r7 = (.i64, 3, [-1, -1, -1])))).bind fun _ => (need (propB (PlaysTo zs len cap n j ws (σz σ'))) s).bind fun s1 =>
        some (.bool true, { s1 with H := putL 0 (lE zs (σz σ')) s1.H, nx := 10, wr := [0, 1, 2, 3, 4, 5, 6, 7] ++ s1.wr })
  | _ => none
theorem hO_map {l : List (Option Ob)} {g : Ob → Ob} {m : Nat} : hO (l.map (Option.map g)) m = (hO l m).map g := by
  simp only [hO, List.getElem?_map]
  cases l[m]? with
  | none => rfl
  | some o => cases o <;> rfl
theorem ext_id : ext (fun m => m) 8 8 = fun m => m := by
  funext m
  show (if m < 8 then m else 8 + (m - 8)) = m
  split <;> omega
theorem l0_ob {zs : List Int} {n : Int} {j : MJ} {ws : List Int} : obsOK (fun m => Nat.blt m 8) 0 (l0 zs n j ws) = true := by kernel_rfl
theorem smPl_sm (σ' : AS) : SmOK Go.Proofs.Tryz.prog 7 (smPl σ') := by
  refine ⟨fun args s v s' h ho => ?_, Go.Proofs.Tryz.call7⟩
  unfold smPl at h
  split at h
  · rename_i c i z o b bi bz len cap
    simp only [Option.bind_eq_some_iff] at h
    obtain ⟨_, h0, zs, a0, ⟨n, n1, n2⟩, a1, h⟩ := h
    simp only [Option.bind_eq_some_iff] at h
    obtain ⟨⟨sz, j⟩, a2, h⟩ := h
    simp only [Option.bind_eq_some_iff] at h
    obtain ⟨_, h1, ws, a3, t4, a4, t5, a5, r6, a6, r7, a7, _, h2, _, h2', s1, h3, h4⟩ := h
    obtain ⟨rfl, rfl, rfl, rfl, rfl, rfl, rfl, hnx⟩ := chk_dec h0
    obtain ⟨e1, e2, rfl⟩ := chk_dec h1
    obtain ⟨rfl, rfl⟩ := chk_dec h2
    obtain ⟨rfl, rfl⟩ := chk_dec h2'
    simp only [Option.some.injEq, Prod.mk.injEq] at h4
    obtain ⟨rfl, rfl⟩ := h4
    have ho1 : Obl s1 := ho
    obtain ⟨hp, hq⟩ := need_ok h3 ho1
    have hp := propB_iff.1 hp
    have g0 := gRo_ok a0; have g1 := gCrew_ok a1 e1 e2; have g2 := gMem_ok a2; have g3 := gWords_ok a3; have g4 := gOps_ok a4; have g5 := gOps_ok a5; have g6 := gRow_ok a6; have g7 := gRow_ok a7
    have hH : ∀ m, m < 8 → s.H.get m = hO (l0 zs n j ws) m := fun m hm => by
      match m, hm with
      | 0, _ => exact g0
      | 1, _ => exact g1
      | 2, _ => exact g2
      | 3, _ => exact g3
      | 4, _ => exact g4
      | 5, _ => exact g5
      | 6, _ => exact g6
      | 7, _ => exact g7
    have hput : ∀ m, (putL 0 (lE zs (σz σ')) s1.H).get m = if m < 10 then hO (lE zs (σz σ')) m else s.H.get m := fun m => by
      rw [putL_get _ _ _ _ (by show 0 + 10 < big; decide)]
      by_cases hm : m < 10
      · rw [if_pos ⟨Nat.zero_le _, by show m < 0 + 10; omega⟩, if_pos hm]; rfl
      · rw [if_neg (by show ¬ (0 ≤ m ∧ m < 0 + 10); omega), if_neg hm, hq.1.H]
    have hid : ∀ m, (hO (lE zs (σz σ')) m).map (Ob.ren fun m => m) = hO (lE zs (σz σ')) m := fun m => by
      rw [← hO_map]; rfl
    have hid0 : ∀ m, (hO (l0 zs n j ws) m).map (Ob.ren fun m => m) = hO (l0 zs n j ws) m := fun m => by
      rw [← hO_map]; rfl
    have hlt : ∀ m o, hO (l0 zs n j ws) m = some o → m < 8 := fun m o h => lt_of_hO h
    have hsome : ∀ m, m < 8 → ∃ o, hO (l0 zs n j ws) m = some o := fun m hm => allSome_ok (l := l0 zs n j ws) rfl m hm
    refine ⟨⟨by show s.nx ≤ 10; omega, [0, 1, 2, 3, 4, 5, 6, 7], by show _ ++ s1.wr = _ ++ s.wr; rw [hq.1.wr], fun m hm hr => ?_⟩, hq.2, ?_⟩
    · have h14 : ¬ m < 10 := fun hm14 => by
        simp only [List.mem_cons, List.not_mem_nil, or_false] at hm
        have : ¬ (s.nx ≤ m ∧ m < 10) := hr
        omega
      show (putL 0 (lE zs (σz σ')) s1.H).get m = _
      rw [hput, if_neg h14]
    · refine embedW (n0 := 8) (n1 := 10) (Hc := hO (l0 zs n j ws)) (Hc' := hO (lE zs (σz σ'))) (vc := .bool true) (ac := [.ptr 1 0 0 0, .slice 0 0 1 len cap]) hp (by decide) (fun m hm => ?_) (fun m o hm => ?_) (fun m o hm => ?_) (fun v hv => ?_) (fun m => m) (fun m hm => ?_) (fun m o hm => ?_) (fun m n _ _ _ _ hne => hne) rfl rfl (by show 10 = s.nx + 2; omega) (fun m hm hm' => ?_) (fun m o hm => ?_) (fun m hm hm' => ?_)
      · cases h : hO (l0 zs n j ws) m with
        | none => rfl
        | some o => have := hlt m o h; omega
      · have := obsOK_ok _ 0 l0_ob m o hm
        rw [blt_fun] at this
        exact ⟨this.1, this.2.2⟩
      · have := obsOK_ok (lE zs (σz σ')) 0 (lE_ob) m o hm
        exact ⟨this.1, lt_of_hO hm⟩
      · simp only [List.mem_cons, List.not_mem_nil, or_false] at hv
        rcases hv with rfl | rfl <;> rfl
      · obtain ⟨o, h⟩ := hsome m hm
        exact ⟨o, (hH m hm).trans h⟩
      · have h8 := hlt m o hm
        have := hid0 m
        rw [hm] at this
        rw [hH m h8, hm]
        exact this.symm
      · have hm1 : s.nx ≤ m := hm
        have hm2 : m < 10 := hm'
        show (putL 0 (lE zs (σz σ')) s1.H).get m = _
        rw [hput, if_pos hm2, hnx, ext_id, hid]
        congr 1; omega
      · have h8 := hlt m o hm
        show (putL 0 (lE zs (σz σ')) s1.H).get m = _
        rw [hput, if_pos (by omega), hnx, ext_id, hid]
      · have h14 : ¬ m < 10 := fun h14 => by
          have h : ¬ (s.nx ≤ m ∧ m < 10) := hm
          have h8 : m < 8 := by omega
          obtain ⟨o, ho⟩ := hsome m h8
          exact hm' m o ho rfl
        show (putL 0 (lE zs (σz σ')) s1.H).get m = _
        rw [hput, if_neg h14]
  · cases h
end Go.Sx
