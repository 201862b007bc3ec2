/- The stack's invariant, and what each step does to it. -/
import Derived.Test.YtoiajdjmlbdfnaaSkPa
import Derived.Test.YtoiajdjmlbdfnaaSkE
namespace Go.Sx
set_option maxRecDepth 100000

def Seen (n t w : Int) : Prop := ∃ i s, -1 ≤ i ∧ i < n ∧ 0 ≤ s ∧ s ≤ t ∧ w = topW i s
def own (x : CoreS) : List Int := x.has ++ (match x.op with | .push h _ => [h.i] | _ => [])
def OpI (n t : Int) (ws C : List Int) (la : Int) : OpS → Prop
  | .idle => True
  | .pop h f => f = 96 ∨ (Seen n t h.w ∧ 0 ≤ h.i ∧ h.i < n ∧ ((f = 120 ∧ (h.w = ws.getD 2 0 → C.head? = some h.i)) ∨ (f = 141 ∧ -1 ≤ h.j ∧ h.j < n ∧ (h.w = ws.getD 2 0 → ∃ r, C = h.i :: r ∧ r.headD (-1) = h.j))))
  | .push h f => h.i = la ∧ 0 ≤ h.i ∧ h.i < n ∧ (f = 89 ∨ (Seen n t h.w ∧ -1 ≤ h.j ∧ h.j < n ∧ (h.w = ws.getD 2 0 → C.headD (-1) = h.j) ∧ (f = 115 ∨ (f = 138 ∧ ws.getD (4 + h.i).toNat 0 = h.j + 1))))
  | .all h f => f = 94 ∨ (f = 119 ∧ Seen n t h.w ∧ 0 ≤ h.i ∧ h.i < n ∧ (h.w = ws.getD 2 0 → C.head? = some h.i))

structure Inv3 (K : Nat) (n : Int) (ws : List Int) (x y z : CoreS) (C : List Int) (t : Int) : Prop where
  n1 : 1 ≤ n
  n12 : n ≤ 12
  len : ws.length = 4096
  top : ws.getD 2 0 = topW (C.headD (-1)) t
  t0 : 0 ≤ t
  tK : t ≤ K
  lk : Lk ws C
  lw : ∀ i, 0 ≤ i → i < n → ∃ j, -1 ≤ j ∧ j < n ∧ ws.getD (4 + i).toNat 0 = j + 1
  nd : (C ++ (own x ++ (own y ++ own z))).Nodup
  rg : ∀ i ∈ C ++ (own x ++ (own y ++ own z)), 0 ≤ i ∧ i < n
  ix : OpI n t ws C x.lays x.op
  iy : OpI n t ws C y.lays y.op
  iz : OpI n t ws C z.lays z.op

theorem Inv3.perm {K : Nat} {n : Int} {ws : List Int} {x y z x' y' z' : CoreS} {C : List Int} {t : Int} (I : Inv3 K n ws x y z C t) (hp : List.Perm (own x ++ (own y ++ own z)) (own x' ++ (own y' ++ own z')))
    (ix : OpI n t ws C x'.lays x'.op) (iy : OpI n t ws C y'.lays y'.op) (iz : OpI n t ws C z'.lays z'.op) : Inv3 K n ws x' y' z' C t :=
  ⟨I.n1, I.n12, I.len, I.top, I.t0, I.tK, I.lk, I.lw, (hp.append_left C).nodup_iff.1 I.nd, fun i hi => I.rg i ((hp.append_left C).mem_iff.2 hi), ix, iy, iz⟩
theorem Inv3.swap {K : Nat} {n : Int} {ws : List Int} {x y z : CoreS} {C : List Int} {t : Int} (I : Inv3 K n ws x y z C t) : Inv3 K n ws y x z C t :=
  I.perm (by rw [← List.append_assoc, ← List.append_assoc]; exact (List.perm_append_comm).append_right _) I.iy I.ix I.iz
theorem Inv3.rot {K : Nat} {n : Int} {ws : List Int} {x y z : CoreS} {C : List Int} {t : Int} (I : Inv3 K n ws x y z C t) : Inv3 K n ws z x y C t :=
  I.perm (by
    refine List.Perm.trans ?_ (List.perm_append_comm (l₁ := own x ++ own y) (l₂ := own z))
    rw [List.append_assoc]) I.iz I.ix I.iy
theorem Inv3.mono {K K' : Nat} {n : Int} {ws : List Int} {x y z : CoreS} {C : List Int} {t : Int} (I : Inv3 K n ws x y z C t) (h : K ≤ K') : Inv3 K' n ws x y z C t :=
  ⟨I.n1, I.n12, I.len, I.top, I.t0, by have := I.tK; omega, I.lk, I.lw, I.nd, I.rg, I.ix, I.iy, I.iz⟩

section
variable {K : Nat} {n : Int} {ws : List Int} {x y z me : CoreS} {C : List Int} {t : Int}

theorem Inv3.rgC (I : Inv3 K n ws x y z C t) : ∀ i ∈ C, 0 ≤ i ∧ i < n := fun i hi => I.rg i (List.mem_append_left _ hi)
theorem Inv3.ndC (I : Inv3 K n ws x y z C t) : C.Nodup := (List.nodup_append.1 I.nd).1
theorem Inv3.chain (I : Inv3 K n ws x y z C t) : chainL n (ws.take 20) = C :=
  chainL_eq I.n12 (by have := I.n1; omega) I.t0 I.lk I.rgC I.ndC I.top
theorem Inv3.head (I : Inv3 K n ws x y z C t) : -1 ≤ C.headD (-1) ∧ C.headD (-1) < n := headD_rg I.rgC (by have := I.n1; omega)
theorem Inv3.raw (I : Inv3 K n ws x y z C t) (hK : K ≤ 300) : rawG (ws.getD 2 0) = C.headD (-1) := by
  have := I.head; have := I.n12; have := I.tK; have := I.t0
  rw [I.top]; exact rawG_eq (by omega) (by omega) (by omega) (by omega)
theorem Inv3.seen (I : Inv3 K n ws x y z C t) : Seen n t (ws.getD 2 0) := ⟨C.headD (-1), t, I.head.1, I.head.2, I.t0, Int.le_refl _, I.top⟩
theorem Inv3.lenC (I : Inv3 K n ws x y z C t) : C.length ≤ 12 := by
  have := nodup_int I.ndC I.rgC; have := I.n12; omega
theorem Inv3.lenH (I : Inv3 K n ws x y z C t) : x.has.length ≤ 12 := by
  have h1 : (own x).Nodup := (List.nodup_append.1 (List.nodup_append.1 I.nd).2.1).1
  have h2 : x.has.Nodup := (List.nodup_append.1 h1).1
  have := nodup_int h2 (fun i hi => I.rg i (List.mem_append_right _ (List.mem_append_left _ (List.mem_append_left _ hi))))
  have := I.n12; omega
theorem Seen.mono {t' w : Int} (h : Seen n t w) (ht : t ≤ t') : Seen n t' w := by
  obtain ⟨i, s, h1, h2, h3, h4, h5⟩ := h
  exact ⟨i, s, h1, h2, h3, by omega, h5⟩
theorem Seen.ne {w i : Int} (h : Seen n t w) (hn : n ≤ 12) (h1 : -1 ≤ i) (h2 : i < n) : w ≠ topW i (t + 1) := by
  obtain ⟨k, s, h1, h2, h3, h4, h5⟩ := h
  rw [h5]; unfold topW; omega
theorem Seen.tag {w : Int} (h : Seen n t w) (hn : n ≤ 12) (hK : t ≤ 300) : ∃ s, 0 ≤ s ∧ s ≤ t ∧ tagN w = s + 1 := by
  obtain ⟨k, s, h1, h2, h3, h4, h5⟩ := h
  refine ⟨s, h3, h4, ?_⟩
  rw [h5]; exact tagN_eq (by omega) (by omega) (by omega) (by omega)
theorem tag_top {i : Int} (h1 : -1 ≤ i) (h2 : i < 12) (h3 : 0 ≤ t) (h4 : t ≤ 300) : tagN (topW i t) = t + 1 := tagN_eq (by omega) (by omega) (by omega) (by omega)

/-- Only the top is written, with the next tag: what others know stays. -/
theorem OpI.top {la : Int} {o : OpS} {i : Int} {C' : List Int} (h : OpI n t ws C la o) (hn : n ≤ 12) (h1 : -1 ≤ i) (h2 : i < n) (hl : ws.length = 4096) : OpI n (t + 1) (ws.set 2 (topW i (t + 1))) C' la o := by
  have e : (ws.set 2 (topW i (t + 1))).getD 2 0 = topW i (t + 1) := getD_set_eq (by omega)
  cases o with
  | idle => trivial
  | pop h f =>
    rcases h with h | ⟨a, b, c, h⟩
    · exact .inl h
    · refine .inr ⟨a.mono (by omega), b, c, ?_⟩
      rcases h with ⟨d, _⟩ | ⟨d, f, g, _⟩
      · exact .inl ⟨d, fun he => absurd (he.trans e) (a.ne hn h1 h2)⟩
      · exact .inr ⟨d, f, g, fun he => absurd (he.trans e) (a.ne hn h1 h2)⟩
  | push h f =>
    obtain ⟨p, q, r, h⟩ := h
    refine ⟨p, q, r, ?_⟩
    rcases h with h | ⟨a, b, c, d, h⟩
    · exact .inl h
    · refine .inr ⟨a.mono (by omega), b, c, fun he => absurd (he.trans e) (a.ne hn h1 h2), ?_⟩
      rcases h with h | ⟨g, h⟩
      · exact .inl h
      · refine .inr ⟨g, ?_⟩
        rw [getD_set_ne (by omega)]; exact h
  | all h f =>
    rcases h with h | ⟨d, a, b, c, h⟩
    · exact .inl h
    · exact .inr ⟨d, a.mono (by omega), b, c, fun he => absurd (he.trans e) (a.ne hn h1 h2)⟩

/-- A link is written that is not another one's: what others know stays. -/
theorem OpI.link {la : Int} {o : OpS} {i v : Int} (h : OpI n t ws C la o) (h1 : 0 ≤ i) (hne : ∀ h f, o = .push h f → h.i ≠ i) : OpI n t (ws.set (4 + i).toNat v) C la o := by
  have e : (ws.set (4 + i).toNat v).getD 2 0 = ws.getD 2 0 := getD_set_ne (by omega)
  cases o with
  | idle => trivial
  | pop h f => simp only [OpI] at h ⊢; rw [e]; exact h
  | push k f =>
    have := hne k f rfl
    simp only [OpI] at h ⊢
    obtain ⟨p, q, r, h⟩ := h
    refine ⟨p, q, r, ?_⟩
    rcases h with h | ⟨a, b, c, d, h⟩
    · exact .inl h
    · refine .inr ⟨a, b, c, by rw [e]; exact d, ?_⟩
      rcases h with h | ⟨g, h⟩
      · exact .inl h
      · refine .inr ⟨g, ?_⟩
        rw [getD_set_ne (by omega)]; exact h
  | all h f => simp only [OpI] at h ⊢; rw [e]; exact h

/-- The top is written, with the next tag: the chain is another one. -/
theorem Inv3.setTop {me' : CoreS} {C' : List Int} {i : Int} (I : Inv3 K n ws me x y C t) (hi : C'.headD (-1) = i) (hL : Lk ws C') (hp : List.Perm (C ++ own me) (C' ++ own me')) (ho : me'.op = .idle) :
    Inv3 (K + 1) n (ws.set 2 (topW i (t + 1))) me' x y C' (t + 1) := by
  have hp' : List.Perm (C ++ (own me ++ (own x ++ own y))) (C' ++ (own me' ++ (own x ++ own y))) := by
    rw [← List.append_assoc, ← List.append_assoc C']
    exact hp.append_right _
  have hnd := hp'.nodup_iff.1 I.nd
  have hrg : ∀ i ∈ C' ++ (own me' ++ (own x ++ own y)), 0 ≤ i ∧ i < n := fun i hi => I.rg i (hp'.mem_iff.2 hi)
  have hh := headD_rg (n := n) (C := C') (fun i hi => hrg i (List.mem_append_left _ hi)) (by have := I.n1; omega)
  rw [hi] at hh
  have hl := I.len
  refine ⟨I.n1, I.n12, by simp [hl], ?_, by have := I.t0; omega, by have := I.tK; omega, Lk_set (fun x hx => ?_) hL, fun j h1 h2 => ?_, hnd, hrg, by rw [ho]; trivial, I.iy.top I.n12 hh.1 hh.2 hl, I.iz.top I.n12 hh.1 hh.2 hl⟩
  · rw [getD_set_eq (by omega), hi]
  · have := hrg x (List.mem_append_left _ hx); omega
  · rw [getD_set_ne (by omega)]; exact I.lw j h1 h2

/-- Own links are written. -/
theorem Inv3.setLink {h : Held} {f f' : FuncId} {has : List Int} {la : Int} (I : Inv3 K n ws ⟨.push h f, has, la⟩ x y C t) (hf : f = 115) (hf' : f' = 138) :
    Inv3 K n (ws.set (4 + h.i).toNat (h.j + 1)) ⟨.push h f', has, la⟩ x y C t := by
  obtain ⟨p, q, r, hh⟩ := I.ix
  subst hf
  have hh : Seen n t h.w ∧ -1 ≤ h.j ∧ h.j < n ∧ (h.w = ws.getD 2 0 → C.headD (-1) = h.j) := by
    rcases hh with hh | ⟨a, b, c, d, hh⟩
    · cases hh
    · exact ⟨a, b, c, d⟩
  obtain ⟨a, b, c, d⟩ := hh
  have hl := I.len
  have hn := I.n12
  have e : (ws.set (4 + h.i).toNat (h.j + 1)).getD 2 0 = ws.getD 2 0 := getD_set_ne (by omega)
  have hmem : h.i ∈ own (⟨.push h 115, has, la⟩ : CoreS) := by simp [own]
  have hnd := List.nodup_append.1 I.nd
  have hnd2 := List.nodup_append.1 hnd.2.1
  refine ⟨I.n1, I.n12, by simp [hl], by rw [e]; exact I.top, I.t0, I.tK, Lk_set (fun u hu => ?_) I.lk, fun j h1 h2 => ?_, I.nd, I.rg, ⟨p, q, r, .inr ⟨a, b, c, by rw [e]; exact d, .inr ⟨hf', getD_set_eq (by omega)⟩⟩⟩, I.iy.link q fun k g hk => ?_, I.iz.link q fun k g hk => ?_⟩
  · have h1 := I.rgC u hu
    have h2 : u ≠ h.i := fun he => hnd.2.2 u hu h.i (List.mem_append_left _ hmem) he
    omega
  · by_cases hj : j = h.i
    · subst hj; exact ⟨h.j, b, c, getD_set_eq (by omega)⟩
    · rw [getD_set_ne (by omega)]; exact I.lw j h1 h2
  · intro he
    have hk' : k.i ∈ own x ++ own y := List.mem_append_left _ (by simp [own, hk])
    exact hnd2.2.2 h.i hmem k.i hk' he.symm
  · intro he
    have hk' : k.i ∈ own x ++ own y := List.mem_append_right _ (by simp [own, hk])
    exact hnd2.2.2 h.i hmem k.i hk' he.symm

/-- Only the operation changes. -/
theorem Inv3.setOp {me' : CoreS} (I : Inv3 K n ws me x y C t) (h : own me' = own me) (ho : OpI n t ws C me'.lays me'.op) : Inv3 (K + 1) n ws me' x y C t :=
  (I.perm (by rw [h]) ho I.iy I.iz).mono (Nat.le_succ _)
end
end Go.Sx
