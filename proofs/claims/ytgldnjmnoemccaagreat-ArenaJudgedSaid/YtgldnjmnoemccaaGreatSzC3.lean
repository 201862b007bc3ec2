/- The plain law of an arena: its invariant. -/
import Derived.Test.YtgldnjmnoemccaaGreatSzC1
import Derived.Test.YtgldnjmnoemccaaGreatSzB3a
import Derived.Test.YtgldnjmnoemccaaGreatSzB3b
import Derived.Test.YtgldnjmnoemccaaGreatSzB3c
import Derived.Test.YtgldnjmnoemccaaGreatSzB3d
namespace Go.Sx
set_option maxRecDepth 100000
/-- A core: what it is within, its call, what it gave back. -/
structure Cr where
  x : CO
  o : Int
  b : Int
def opK : CO → Int → Int → Prop
  | .idle, _, _ => False
  | .al .., kd, _ => kd = 7
  | .fr _ i _ _ _ _ _ _ _ _, kd, a => kd = 8 ∧ a = i
def PCore (n : Int) (ws S : List Int) (t : Int) (cl : List (List Int)) (lin : List Nat) (ans : Nat → Int × Int) (A : Cr) : Prop :=
  (A.o = -1 ∧ A.x = .idle) ∨ ∃ (k : Nat) (fr kd a : Int), A.o = (k : Int) ∧ k < cl.length ∧ cl.getD k [] = rowC k fr (-1) kd a 0 0 ∧ Ph n ws S t (k ∈ lin) A.x ∧ opK A.x kd a ∧ (∀ i, kd = 7 → owned A.x = [i] → ans k = (0, i))
def allOf (S hd : List Int) (A B C : Cr) : List Int := S ++ (hd.map idW ++ (owned A.x ++ (owned B.x ++ owned C.x)))
structure AInv (K n : Int) (m : Nat) (ws S : List Int) (t : Int) (hd : List Int) (cl : List (List Int)) (ck : Int) (A B C : Cr) (lin : List Nat) (ans : Nat → Int × Int) : Prop where
  ar : Ar K n ws S t
  nm : n = (m : Int)
  hist : Hist cl (firstP m) (pl S) lin ans ck (fun k => A.o = (k : Int) ∨ B.o = (k : Int) ∨ C.o = (k : Int))
  a : PCore n ws S t cl lin ans A
  b : PCore n ws S t cl lin ans B
  c : PCore n ws S t cl lin ans C
  nd : (allOf S hd A B C).Nodup
  rg : ∀ x ∈ allOf S hd A B C, 0 ≤ x ∧ x < n
  hw : ∀ w ∈ hd, 0 ≤ w ∧ w < 281474976710656 ∧ w % 65536 ≠ 0
  ab : A.o ≠ -1 → A.o ≠ B.o
  ac : A.o ≠ -1 → A.o ≠ C.o
  bc : B.o ≠ -1 → B.o ≠ C.o
  kl : (cl.length : Int) ≤ K
  kc : ck ≤ K
/-- How many steps an operation takes alone, at the most. -/
def mu (t : Int) : CO → Nat
  | .al f _ _ _ w _ _ _ _ h => if f = 51 then (if h = 71 then 4 else if h = 92 then (if tgW w = t then 3 else 6) else (if tgW w = t then 2 else 5)) else 1
  | .fr f _ _ _ w _ _ _ _ h => if f = 27 then 5 else if f = 47 then 4 else if h = 45 then 3 else if h = 68 then (if tgW w = t then 2 else 5) else (if tgW w = t then 1 else 4)
  | .idle => 0
theorem mu_le {t : Int} : ∀ x : CO, mu t x ≤ 6
  | .al .. => by unfold mu; repeat' (first | omega | split)
  | .fr .. => by unfold mu; repeat' (first | omega | split)
  | .idle => Nat.zero_le 6
section
variable {K n t ck : Int} {m : Nat} {ws S hd : List Int} {cl : List (List Int)} {A B C : Cr} {lin : List Nat} {ans : Nat → Int × Int}
theorem PCore.lt (H : PCore n ws S t cl lin ans A) : A.o = -1 ∨ (0 ≤ A.o ∧ A.o < (cl.length : Int)) := by
  rcases H with ⟨h, _⟩ | ⟨k, fr, kd, a, g1, g2, _⟩
  · exact .inl h
  · exact .inr (by omega)
theorem PCore.mono {t' : Int} {ws' S' : List Int} {cl' : List (List Int)} {lin' : List Nat} {ans' : Nat → Int × Int} (H : PCore n ws S t cl lin ans A) (ht : t ≤ t') (hS : t = t' → S = S') (hw : ∀ i ∈ owned A.x, lk ws' i = lk ws i ∧ gn ws' n i = gn ws n i)
    (hk : ∀ k : Nat, A.o = (k : Int) → k < cl.length → k < cl'.length ∧ cl'.getD k [] = cl.getD k [] ∧ (k ∈ lin ↔ k ∈ lin') ∧ ans' k = ans k) : PCore n ws' S' t' cl' lin' ans' A := by
  rcases H with h | ⟨k, fr, kd, a, g1, g2, g3, g4, g5, g6⟩
  · exact .inl h
  · obtain ⟨j1, j2, j3, j4⟩ := hk k g1 g2
    exact .inr ⟨k, fr, kd, a, g1, j1, by rw [j2]; exact g3, g4.mono ht hS hw j3, g5, fun i h1 h2 => by rw [j4]; exact g6 i h1 h2⟩
theorem perm12 : (allOf S hd A B C).Perm (allOf S hd B A C) := by
  unfold allOf
  refine List.Perm.append_left _ (List.Perm.append_left _ ?_)
  rw [← List.append_assoc, ← List.append_assoc]
  exact List.Perm.append_right _ List.perm_append_comm
theorem perm23 : (allOf S hd A B C).Perm (allOf S hd A C B) := by
  unfold allOf
  exact List.Perm.append_left _ (List.Perm.append_left _ (List.Perm.append_left _ List.perm_append_comm))
theorem AInv.swap12 (I : AInv K n m ws S t hd cl ck A B C lin ans) : AInv K n m ws S t hd cl ck B A C lin ans :=
  ⟨I.ar, I.nm, I.hist.mono (fun j _ h => by rcases h with h | h | h <;> simp [h]), I.b, I.a, I.c, perm12.nodup_iff.1 I.nd, fun x hx => I.rg x (perm12.mem_iff.2 hx), I.hw, fun h1 h2 => I.ab (by rw [← h2]; exact h1) h2.symm, I.bc, I.ac, I.kl, I.kc⟩
theorem AInv.swap23 (I : AInv K n m ws S t hd cl ck A B C lin ans) : AInv K n m ws S t hd cl ck A C B lin ans :=
  ⟨I.ar, I.nm, I.hist.mono (fun j _ h => by rcases h with h | h | h <;> simp [h]), I.a, I.c, I.b, perm23.nodup_iff.1 I.nd, fun x hx => I.rg x (perm23.mem_iff.2 hx), I.hw, I.ac, I.ab, fun h1 h2 => I.bc (by rw [← h2]; exact h1) h2.symm, I.kl, I.kc⟩
theorem AInv.up (I : AInv K n m ws S t hd cl ck A B C lin ans) : AInv (K + 1) n m ws S t hd cl ck A B C lin ans :=
  ⟨I.ar.up, I.nm, I.hist, I.a, I.b, I.c, I.nd, I.rg, I.hw, I.ab, I.ac, I.bc, by have := I.kl; omega, by have := I.kc; omega⟩
theorem AInv.upd (I : AInv K n m ws S t hd cl ck A B C lin ans) {k : Nat} {ws' S' hd' : List Int} {t' ck' : Int} {cl' : List (List Int)} {A' : Cr} {lin' : List Nat} {ans' : Nat → Int × Int} (hAo : A.o = (k : Int)) (hR : Ar (K + 1) n ws' S' t') (ht : t ≤ t') (hS : t = t' → S = S')
    (hfr : ∀ i, i ∈ owned B.x ++ owned C.x → lk ws' i = lk ws i ∧ gn ws' n i = gn ws n i) (hcl : cl'.length = cl.length) (hcl' : ∀ j, j ≠ k → cl'.getD j [] = cl.getD j []) (hlin : ∀ j, j ≠ k → (j ∈ lin ↔ j ∈ lin')) (hans : ∀ j, j ≠ k → ans' j = ans j) (hck : ck' ≤ ck + 1)
    (hH : Hist cl' (firstP m) (pl S') lin' ans' ck' (fun j => A'.o = (j : Int) ∨ B.o = (j : Int) ∨ C.o = (j : Int))) (hA' : PCore n ws' S' t' cl' lin' ans' A') (ho : A'.o = -1 ∨ A'.o = A.o)
    (hnd : (allOf S' hd' A' B C).Nodup) (hrg : ∀ x ∈ allOf S' hd' A' B C, 0 ≤ x ∧ x < n) (hhw : ∀ w ∈ hd', 0 ≤ w ∧ w < 281474976710656 ∧ w % 65536 ≠ 0) :
    AInv (K + 1) n m ws' S' t' hd' cl' ck' A' B C lin' ans' := by
  have ha : A.o ≠ -1 := by rw [hAo]; omega
  have hb : ∀ j : Nat, B.o = (j : Int) → j ≠ k := fun j hj e => I.ab ha (by rw [hAo, hj, e])
  have hc : ∀ j : Nat, C.o = (j : Int) → j ≠ k := fun j hj e => I.ac ha (by rw [hAo, hj, e])
  have := I.kl; have := I.kc
  refine ⟨hR, I.nm, hH, hA', I.b.mono ht hS (fun i hi => hfr i (List.mem_append_left _ hi)) (fun j hj hl => ⟨by omega, hcl' j (hb j hj), hlin j (hb j hj), hans j (hb j hj)⟩), I.c.mono ht hS (fun i hi => hfr i (List.mem_append_right _ hi)) (fun j hj hl => ⟨by omega, hcl' j (hc j hj), hlin j (hc j hj), hans j (hc j hj)⟩), hnd, hrg, hhw, fun h => ?_, fun h => ?_, I.bc, by omega, by omega⟩
  · rcases ho with ho | ho
    · exact absurd ho h
    · rw [ho]; exact I.ab ha
  · rcases ho with ho | ho
    · exact absurd ho h
    · rw [ho]; exact I.ac ha
/-- Nothing changes but where the operation is. -/
theorem AInv.same (I : AInv K n m ws S t hd cl ck A B C lin ans) {k : Nat} {fr kd a : Int} {x : CO} (hAo : A.o = (k : Int)) (hk : k < cl.length) (hr : cl.getD k [] = rowC k fr (-1) kd a 0 0) (hp : Ph n ws S t (k ∈ lin) x) (hop : opK x kd a) (ha : ∀ i, kd = 7 → owned x = [i] → ans k = (0, i)) (how : owned x = owned A.x) :
    AInv (K + 1) n m ws S t hd cl (ck + 1) ⟨x, A.o, A.b⟩ B C lin ans :=
  I.upd hAo I.ar.up (Int.le_refl _) (fun _ => rfl) (fun _ _ => ⟨rfl, rfl⟩) rfl (fun _ _ => rfl) (fun _ _ => .rfl) (fun _ _ => rfl) (Int.le_refl _) I.hist.tick (.inr ⟨k, fr, kd, a, hAo, hk, hr, hp, hop, ha⟩) (.inr rfl)
    (by have := I.nd; unfold allOf at this ⊢; rw [how]; exact this) (by have := I.rg; unfold allOf at this ⊢; rw [how]; exact this) I.hw
end
abbrev of0 (n : Int) (j : MJ) (ws hd : List Int) (cl : List (List Int)) (A B C : Cr) (ck : Int) : AS := ⟨n, j, ws, hd, A.b, B.b, C.b, A.o, B.o, C.o, cl, A.x, B.x, C.x, ck⟩
abbrev of1 (n : Int) (j : MJ) (ws hd : List Int) (cl : List (List Int)) (A B C : Cr) (ck : Int) : AS := ⟨n, j, ws, hd, B.b, A.b, C.b, B.o, A.o, C.o, cl, B.x, A.x, C.x, ck⟩
abbrev of2 (n : Int) (j : MJ) (ws hd : List Int) (cl : List (List Int)) (A B C : Cr) (ck : Int) : AS := ⟨n, j, ws, hd, B.b, C.b, A.b, B.o, C.o, A.o, cl, B.x, C.x, A.x, ck⟩
def StepOut (K n : Int) (m : Nat) (j : MJ) (ws : List Int) (t : Int) (hd : List Int) (cl : List (List Int)) (ck : Int) (A B C : Cr) : Prop :=
  ∃ j' ws' S' t' hd' cl' ck' A' lin' ans', Stp 0 (of0 n j ws hd cl A B C ck) (of0 n j' ws' hd' cl' A' B C ck') ∧ Stp 1 (of1 n j ws hd cl A B C ck) (of1 n j' ws' hd' cl' A' B C ck') ∧ Stp 2 (of2 n j ws hd cl A B C ck) (of2 n j' ws' hd' cl' A' B C ck') ∧
    AInv (K + 1) n m ws' S' t' hd' cl' ck' A' B C lin' ans' ∧ (A'.o = -1 ∨ mu t' A'.x < mu t A.x)
end Go.Sx
