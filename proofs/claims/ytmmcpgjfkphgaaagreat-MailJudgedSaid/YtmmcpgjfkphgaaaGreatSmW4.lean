/- The plain law of a mailbox: its invariant. -/
import Derived.Test.YtmmcpgjfkphgaaaGreatSmW1
import Derived.Test.YtmmcpgjfkphgaaaGreatSmO8
import Derived.Test.YtmmcpgjfkphgaaaGreatSmB3a
import Derived.Test.YtmmcpgjfkphgaaaGreatSmB3b
import Derived.Test.YtmmcpgjfkphgaaaGreatSmB3c
namespace Go.Sx
set_option maxRecDepth 100000
theorem getD_setL {cl : List (List Int)} {k : Nat} {r : List Int} (h : k < cl.length) : (cl.set k r).getD k [] = r := by
  simp [List.getD_eq_getElem?_getD, h]
theorem getD_setL_ne {cl : List (List Int)} {k j : Nat} {r : List Int} (h : k ≠ j) : (cl.set k r).getD j [] = cl.getD j [] := by
  simp [List.getD_eq_getElem?_getD, List.getElem?_set_ne h]
theorem getD_snocL {cl : List (List Int)} {j : Nat} {r : List Int} (h : j < cl.length) : (cl ++ [r]).getD j [] = cl.getD j [] := by
  simp [List.getD_eq_getElem?_getD, List.getElem?_append_left h]
theorem getD_snocE {cl : List (List Int)} {r : List Int} : (cl ++ [r]).getD cl.length [] = r := by
  simp [List.getD_eq_getElem?_getD]
theorem rs_len {cl : List (List Int)} {k f : Nat} {x : Int} : (rs cl k f x).length = cl.length := by unfold rs; simp
theorem rs4_eq {cl : List (List Int)} {k : Nat} {i f t kd w e x e0 x0 c : Int} (h : k < cl.length) (hr : cl.getD k [] = rowM i f t kd w e0 x0) :
    rs (rs (rs (rs cl k 2 c) k 7 e) k 8 0) k 9 x = cl.set k (rowM i f c kd w e x) := by
  have s1 : rs cl k 2 c = cl.set k (rowM i f c kd w e0 x0) := by unfold rs; rw [hr]; rfl
  have s2 : rs (rs cl k 2 c) k 7 e = cl.set k (rowM i f c kd w e x0) := by rw [s1]; unfold rs; rw [getD_setL h, List.set_set]; rfl
  have s3 : rs (rs (rs cl k 2 c) k 7 e) k 8 0 = cl.set k (rowM i f c kd w e x0) := by rw [s2]; unfold rs; rw [getD_setL h, List.set_set]; rfl
  rw [s3]; unfold rs; rw [getD_setL h, List.set_set]; rfl
/-- The calls, with what is not yet written: the Front's answer, and its Drop (by the number 1000). -/
def rl (cl : List (List Int)) : Option (Nat × List Int × List Int) → Nat → List Int
  | none, j => cl.getD j []
  | some (k, a, b), j => if j = 1000 then b else if j = k then a else cl.getD j []
def dm (cl : List (List Int)) (ov : Option (Nat × List Int × List Int)) (j : Nat) : Prop := j < cl.length ∨ (j = 1000 ∧ ov.isSome = true)
/-- Names rise. -/
def IdsR (cl : List (List Int)) (K : Int) : Prop := (∀ q, q < cl.length → (cl.getD q []).getD 0 0 < 2 * K) ∧ ∀ q, q < cl.length → ∀ p, p < q → (cl.getD p []).getD 0 0 < (cl.getD q []).getD 0 0
theorem IdsR.up {cl : List (List Int)} {K K' : Int} (h : IdsR cl K) (hK : K ≤ K') : IdsR cl K' := ⟨fun q hq => by have := h.1 q hq; omega, h.2⟩
theorem IdsR.set {cl : List (List Int)} {K : Int} (h : IdsR cl K) {k : Nat} {row : List Int} (hk : k < cl.length) (hr : row.getD 0 0 = (cl.getD k []).getD 0 0) : IdsR (cl.set k row) K := by
  have e : ∀ q, ((cl.set k row).getD q []).getD 0 0 = (cl.getD q []).getD 0 0 := fun q => by
    by_cases c : k = q
    · subst c; rw [getD_setL hk, hr]
    · rw [getD_setL_ne c]
  exact ⟨fun q hq => by rw [e]; exact h.1 q (by simpa using hq), fun q hq p hp => by rw [e, e]; exact h.2 q (by simpa using hq) p hp⟩
theorem IdsR.snoc {cl : List (List Int)} {K K' : Int} (h : IdsR cl K) {row : List Int} (h1 : 2 * K ≤ row.getD 0 0) (h2 : row.getD 0 0 < 2 * K') (hK : K ≤ K') : IdsR (cl ++ [row]) K' := by
  refine ⟨fun q hq => ?_, fun q hq p hp => ?_⟩
  · simp at hq
    by_cases c : q < cl.length
    · rw [getD_snocL c]; have := h.1 q c; omega
    · have : q = cl.length := by omega
      subst this; rw [getD_snocE]; exact h2
  · simp at hq
    by_cases c : q < cl.length
    · rw [getD_snocL c, getD_snocL (by omega)]; exact h.2 q c p hp
    · have : q = cl.length := by omega
      subst this; rw [getD_snocE, getD_snocL hp]; have := h.1 p hp; omega
theorem IdsR.named {cl : List (List Int)} {K : Int} (h : IdsR cl K) : Named cl := fun q hq p hp e => by have := h.2 q hq p hp; omega
/-- One who sends: its Send, its call. -/
structure Cr where
  p : PO
  o : Int
/-- Where a Push is. -/
inductive Ph (S D P T t w : Int) (inL : Prop) : Nat → Prop where
  | tail (h2 : ¬ inL) : Ph S D P T t w inL 62
  | look (h2 : ¬ inL) (h3 : 0 ≤ t) (h4 : t ≤ T) : Ph S D P T t w inL 76
  | lay (h2 : ¬ inL) (h3 : 0 ≤ t) (h4 : t ≤ T) (h5 : w = emptyW (t / S)) (h6 : t < D + S) : Ph S D P T t w inL 92
  | help (h2 : ¬ inL) (h3 : 0 ≤ t) (h4 : t ≤ T) (h5 : t < P) : Ph S D P T t w inL 93
  | last (h2 : inL) (h3 : 0 ≤ t) (h4 : t ≤ T) (h5 : t < P) : Ph S D P T t w inL 103
/-- How many steps a Push takes alone, at the most. -/
def mu (P T : Int) : PO → Nat
  | .act f _ t _ => if f = 103 then 1 else if f = 62 then (if T = P then 4 else 7) else if f = 93 then (if T = P ∨ T = t then 5 else 8)
      else if t = P then (if f = 92 then 2 else 3) else (if T = P ∨ T = t then 6 else 9)
  | _ => 0
def PCore (S D P T : Int) (cl : List (List Int)) (lin : List Nat) (A : Cr) : Prop :=
  A.o = -1 ∨ ∃ (k f : Nat) (v t w i fr : Int), A.o = (k : Int) ∧ k < cl.length ∧ cl.getD k [] = rowM i fr (-1) 1 v 0 0 ∧ 0 ≤ v ∧ v < 65536 ∧ A.p = .act f v t w ∧ Ph S D P T t w (k ∈ lin) f
def TCore (D Hd : Int) (q : List Int) (cl : List (List Int)) (lin : List Nat) (ov : Option (Nat × List Int × List Int)) (d : DO) (o2 : Int) : Prop :=
  (o2 = -1 ∧ Hd = D ∧ ov = none) ∨
  (∃ (k : Nat) (i fr : Int), o2 = (k : Int) ∧ k < cl.length ∧ cl.getD k [] = rowM i fr (-1) 2 0 0 0 ∧ ¬ k ∈ lin ∧ Hd = D ∧ ov = none ∧ ((∃ h, d = .front 63 h) ∨ d = .front 77 D)) ∨
  (∃ (k : Nat) (i fr v : Int), o2 = (k : Int) ∧ k < cl.length ∧ cl.getD k [] = rowM i fr (-1) 2 0 0 0 ∧ k ∈ lin ∧ 0 ≤ v ∧ v < 65536 ∧ ov = some (k, rowM i fr (-1) 2 0 0 v, rowM 0 fr (-1) 3 0 0 0) ∧
    ((d = .drop 66 D v ∧ Hd = D ∧ q ≠ [] ∧ ¬ 1000 ∈ lin) ∨ (d = .drop 80 (D - 1) v ∧ Hd = D - 1 ∧ 1000 ∈ lin)))
structure MInv (K S : Int) (ws q : List Int) (cl : List (List Int)) (A B : Cr) (d : DO) (o2 D P T Hd : Int) (lin : List Nat) (ov : Option (Nat × List Int × List Int)) : Prop where
  ring : Ring S ws q D P T Hd
  s3 : S ≤ 3
  hist : Hist S (rl cl ov) (dm cl ov) q lin (2 * K) (fun k => A.o = (k : Int) ∨ B.o = (k : Int) ∨ o2 = (k : Int) ∨ k = 1000)
  ids : IdsR cl K
  a : PCore S D P T cl lin A
  b : PCore S D P T cl lin B
  t : TCore D Hd q cl lin ov d o2
  ab : A.o ≠ -1 → A.o ≠ B.o
  at2 : A.o ≠ -1 → A.o ≠ o2
  bt2 : B.o ≠ -1 → B.o ≠ o2
  kl : cl.length ≤ 7
  kl2 : o2 ≠ -1 → cl.length ≤ 6
  k0 : 0 ≤ K
  kP : P ≤ K
section
variable {K S o2 D P T Hd : Int} {ws q : List Int} {cl : List (List Int)} {A B : Cr} {d : DO} {lin : List Nat} {ov : Option (Nat × List Int × List Int)}
theorem Ph.mono {D' P' T' t w : Int} {p p' : Prop} {f : Nat} (H : Ph S D P T t w p f) (h1 : D ≤ D') (h2 : P ≤ P') (h3 : T ≤ T') (hp : p ↔ p') : Ph S D' P' T' t w p' f := by
  cases H with
  | tail b => exact .tail (fun c => b (hp.2 c))
  | look b c d => exact .look (fun c => b (hp.2 c)) c (by omega)
  | lay b c d e g => exact .lay (fun c => b (hp.2 c)) c (by omega) e (by omega)
  | help b c d e => exact .help (fun c => b (hp.2 c)) c (by omega) (by omega)
  | last b c d e => exact .last (hp.1 b) c (by omega) (by omega)
theorem PCore.mono {D' P' T' : Int} {cl' : List (List Int)} {lin' : List Nat} (H : PCore S D P T cl lin A) (h1 : D ≤ D') (h2 : P ≤ P') (h3 : T ≤ T')
    (hk : ∀ k : Nat, A.o = (k : Int) → k < cl.length → k < cl'.length ∧ cl'.getD k [] = cl.getD k [] ∧ (k ∈ lin ↔ k ∈ lin')) : PCore S D' P' T' cl' lin' A := by
  rcases H with h | ⟨k, f, v, t, w, i, fr, g1, g2, g3, g4, g5, g6, g7⟩
  · exact .inl h
  · obtain ⟨j1, j2, j3⟩ := hk k g1 g2
    exact .inr ⟨k, f, v, t, w, i, fr, g1, j1, by rw [j2]; exact g3, g4, g5, g6, g7.mono h1 h2 h3 j3⟩
theorem TCore.mono {q' : List Int} {cl' : List (List Int)} {lin' : List Nat} (H : TCore D Hd q cl lin ov d o2) (hq : q ≠ [] → q' ≠ []) (hP : 1000 ∈ lin ↔ 1000 ∈ lin')
    (hk : ∀ k : Nat, o2 = (k : Int) → k < cl.length → k < cl'.length ∧ cl'.getD k [] = cl.getD k [] ∧ (k ∈ lin ↔ k ∈ lin')) : TCore D Hd q' cl' lin' ov d o2 := by
  rcases H with h | ⟨k, i, fr, g1, g2, g3, g4, g5, g6, g7⟩ | ⟨k, i, fr, v, g1, g2, g3, g4, g5, g6, g7, g8⟩
  · exact .inl h
  · obtain ⟨j1, j2, j3⟩ := hk k g1 g2
    exact .inr (.inl ⟨k, i, fr, g1, j1, by rw [j2]; exact g3, fun h => g4 (j3.2 h), g5, g6, g7⟩)
  · obtain ⟨j1, j2, j3⟩ := hk k g1 g2
    refine .inr (.inr ⟨k, i, fr, v, g1, j1, by rw [j2]; exact g3, j3.1 g4, g5, g6, g7, ?_⟩)
    rcases g8 with ⟨a, b, c, d⟩ | ⟨a, b, c⟩
    · exact .inl ⟨a, b, hq c, fun h => d (hP.2 h)⟩
    · exact .inr ⟨a, b, hP.1 c⟩
theorem PCore.lt (H : PCore S D P T cl lin A) : A.o = -1 ∨ (0 ≤ A.o ∧ A.o < (cl.length : Int)) := by
  rcases H with h | ⟨k, f, v, t, w, i, fr, g1, g2, _⟩
  · exact .inl h
  · exact .inr (by omega)
theorem TCore.lt (H : TCore D Hd q cl lin ov d o2) : o2 = -1 ∨ (0 ≤ o2 ∧ o2 < (cl.length : Int)) := by
  rcases H with ⟨h, _⟩ | ⟨k, i, fr, g1, g2, _⟩ | ⟨k, i, fr, v, g1, g2, _⟩
  · exact .inl h
  · exact .inr (by omega)
  · exact .inr (by omega)
theorem TCore.ovk (H : TCore D Hd q cl lin ov d o2) : ov = none ∨ ∃ (k : Nat) (a b : List Int), o2 = (k : Int) ∧ k < cl.length ∧ ov = some (k, a, b) := by
  rcases H with ⟨_, _, h⟩ | ⟨k, i, fr, _, _, _, _, _, h, _⟩ | ⟨k, i, fr, v, g1, g2, _, _, _, _, h, _⟩
  · exact .inl h
  · exact .inl h
  · exact .inr ⟨k, _, _, g1, g2, h⟩
theorem MInv.swap (I : MInv K S ws q cl A B d o2 D P T Hd lin ov) : MInv K S ws q cl B A d o2 D P T Hd lin ov :=
  ⟨I.ring, I.s3, I.hist.to (fun _ => .rfl) (fun _ _ => rfl) (Int.le_refl _) (fun j _ h => by rcases h with h | h | h | h <;> simp [h]), I.ids, I.b, I.a, I.t, fun h1 h2 => I.ab (by rw [← h2]; exact h1) h2.symm, I.bt2, I.at2, I.kl, I.kl2, I.k0, I.kP⟩
theorem MInv.up (I : MInv K S ws q cl A B d o2 D P T Hd lin ov) : MInv (K + 1) S ws q cl A B d o2 D P T Hd lin ov := by
  have := I.k0; have := I.kP
  exact ⟨I.ring, I.s3, I.hist.to (fun _ => .rfl) (fun _ _ => rfl) (by omega) (fun _ _ h => h), I.ids.up (by omega), I.a, I.b, I.t, I.ab, I.at2, I.bt2, I.kl, I.kl2, by omega, by omega⟩
/-- A row that is not the drain's is written. -/
theorem rl_set (ho : ov = none ∨ ∃ (k : Nat) (a b : List Int), o2 = (k : Int) ∧ k < cl.length ∧ ov = some (k, a, b)) {k : Nat} {row : List Int} (hk : k < cl.length) (hl : cl.length ≤ 7) (hne : o2 ≠ (k : Int)) : ∀ j, rl (cl.set k row) ov j = updR (rl cl ov) k row j := by
  intro j
  have h1 : k ≠ 1000 := by omega
  rcases ho with rfl | ⟨k2, a, b, g1, g2, rfl⟩
  · simp only [rl, updR]
    by_cases c : j = k
    · subst c; rw [getD_setL hk, if_pos rfl]
    · rw [getD_setL_ne (fun h => c h.symm), if_neg c]
  · simp only [rl, updR]
    have h2 : k2 ≠ k := fun h => hne (by rw [g1, h])
    by_cases c : j = k
    · subst c; rw [if_neg h1, if_neg (fun h => h2 h.symm), getD_setL hk, if_pos rfl]
    · rw [getD_setL_ne (fun h => c h.symm), if_neg c]
theorem dm_set {k : Nat} {row : List Int} : ∀ j, dm (cl.set k row) ov j ↔ dm cl ov j := fun j => by simp [dm]
theorem rl_own (ho : ov = none ∨ ∃ (k : Nat) (a b : List Int), o2 = (k : Int) ∧ k < cl.length ∧ ov = some (k, a, b)) {k : Nat} (hk : k < cl.length) (hl : cl.length ≤ 7) (hne : o2 ≠ (k : Int)) : rl cl ov k = cl.getD k [] := by
  rcases ho with rfl | ⟨k2, a, b, g1, g2, rfl⟩
  · rfl
  · simp only [rl]
    rw [if_neg (by omega), if_neg (fun h => hne (by rw [g1, h]))]
/-- One who sends made a step. -/
theorem MInv.upd (I : MInv K S ws q cl A B d o2 D P T Hd lin ov) {k : Nat} {ws' q' : List Int} {cl' : List (List Int)} {P' T' : Int} {A' : Cr} {lin' : List Nat} (hAo : A.o = (k : Int)) (hR : Ring S ws' q' D P' T' Hd) (hP : P ≤ P') (hP' : P' ≤ P + 1) (hT : T ≤ T') (hq : q ≠ [] → q' ≠ [])
    (hcl : cl'.length = cl.length) (hcl' : ∀ j, j ≠ k → cl'.getD j [] = cl.getD j []) (hlin : ∀ j, j ≠ k → (j ∈ lin ↔ j ∈ lin')) (hids : IdsR cl' K)
    (hH : Hist S (rl cl' ov) (dm cl' ov) q' lin' (2 * (K + 1)) (fun j => A'.o = (j : Int) ∨ B.o = (j : Int) ∨ o2 = (j : Int) ∨ j = 1000)) (hA' : PCore S D P' T' cl' lin' A') (ho : A'.o = -1 ∨ A'.o = A.o) :
    MInv (K + 1) S ws' q' cl' A' B d o2 D P' T' Hd lin' ov := by
  have ha : A.o ≠ -1 := by rw [hAo]; omega
  have hb : ∀ j : Nat, B.o = (j : Int) → j ≠ k := fun j hj e => I.ab ha (by rw [hAo, hj, e])
  have ht : ∀ j : Nat, o2 = (j : Int) → j ≠ k := fun j hj e => I.at2 ha (by rw [hAo, hj, e])
  have hkl : k < cl.length := by rcases I.a.lt with h | h; exact absurd h ha; omega
  have := I.kl; have := I.k0; have := I.kP
  refine ⟨hR, I.s3, hH, hids.up (by omega), hA', I.b.mono (Int.le_refl _) hP hT (fun j hj hl => ⟨by omega, hcl' j (hb j hj), hlin j (hb j hj)⟩), I.t.mono hq (hlin 1000 (by omega)) (fun j hj hl => ⟨by omega, hcl' j (ht j hj), hlin j (ht j hj)⟩), fun h => ?_, fun h => ?_, I.bt2, by omega, fun h => by have := I.kl2 h; omega, by omega, by omega⟩
  · rcases ho with ho | ho
    · exact absurd ho h
    · rw [ho]; exact I.ab ha
  · rcases ho with ho | ho
    · exact absurd ho h
    · rw [ho]; exact I.at2 ha
end
abbrev of0 (S : Int) (j : MJ) (ws : List Int) (cl : List (List Int)) (A B : Cr) (d : DO) (o2 : Int) : MS := ⟨S, j, ws, A.o, B.o, o2, cl, A.p, B.p, d⟩
abbrev of1 (S : Int) (j : MJ) (ws : List Int) (cl : List (List Int)) (A B : Cr) (d : DO) (o2 : Int) : MS := ⟨S, j, ws, B.o, A.o, o2, cl, B.p, A.p, d⟩
end Go.Sx
