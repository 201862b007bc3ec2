/- Slices that are cut; all operations that make memory or write it. -/
import Derived.Test.YtoiajdjmlbdfnaaSxJ
namespace Go.Sx
section
variable {P : Program} {E : Env}

theorem bound_ok {x : Option V} {d n : Nat} {z : Option Int} (h : bound x d = some (z, n)) :
    (x = none ∧ z = none ∧ n = d) ∨ ∃ k i, x = some (.int k i) ∧ z = some i ∧ n = i.toNat := by
  unfold bound at h
  split at h
  · cases h; exact .inl ⟨rfl, rfl, rfl⟩
  · cases h; exact .inr ⟨_, _, rfl, rfl, rfl⟩
  · cases h

theorem run_bound {k : IntKind} {i : Int} {y : Nat} (code : BoundsCode) (h0 : 0 ≤ i) (h1 : i.toNat ≤ y) (w : World) : (Instr.sliceBound (.int k i) y code).run P w = .ok i.toNat w := by
  have h2 : 0 ≤ i ∧ i ≤ (y : Int) := ⟨h0, by omega⟩
  simp [Instr.sliceBound, asIntOf, h2]

theorem run_bounds {lo hi : Option V} {lz hz : Option Int} {l h len cap : Nat} {isS : Bool} (h1 : bound lo 0 = some (lz, l)) (h2 : bound hi len = some (hz, h))
    (hl : ∀ z ∈ lz, 0 ≤ z) (hh : ∀ z ∈ hz, 0 ≤ z) (hlh : l ≤ h) (hhc : h ≤ cap) (L : LM) (w : World) :
    (Instr.sliceBounds isS len cap (lo.map (V.den L)) (hi.map (V.den L)) none).run P w = .ok (l, h, cap) w := by
  rcases bound_ok h1 with ⟨rfl, rfl, rfl⟩ | ⟨k, i, rfl, rfl, rfl⟩ <;> rcases bound_ok h2 with ⟨rfl, rfl, rfl⟩ | ⟨k', i', rfl, rfl, rfl⟩
  · simp [Instr.sliceBounds]
  · have := run_bound (P := P) (k := k') (y := cap) (if isS then .sliceAcap else .sliceAlen) (hh _ rfl) hhc w
    simp [Instr.sliceBounds, V.den, this]
  · have := run_bound (P := P) (k := k) (y := h) .sliceB (hl _ rfl) hlh w
    simp [Instr.sliceBounds, V.den, this]
  · have g1 := run_bound (P := P) (k := k') (y := cap) (if isS then .sliceAcap else .sliceAlen) (hh _ rfl) hhc w
    have g2 := run_bound (P := P) (k := k) (y := i'.toNat) .sliceB (hl _ rfl) hlh w
    simp [Instr.sliceBounds, V.den, g1, g2]

/-- What an operation that makes or writes memory does. -/
def LoudOK (P : Program) (s s' : St) (v : V) (H : (D : Nat → Prop) → LM → World → Prop) (run : World → Result Value) : Prop :=
  ∀ (D : Nat → Prop) (L : LM) (w : World), H D L w → SR D L s.H.get w → (∀ n, D n → n < s.nx ∨ s'.nx ≤ n) →
    ∃ L' w' val, Mv D L s.H.get w L' s'.H.get w' ∧ SR (Grow D s.nx s'.nx) L' s'.H.get w' ∧ (∀ L'', Agree (Grow D s.nx s'.nx) L' L'' → val = v.den L'') ∧ run w = .ok val w'

theorem grow_self {D : Nat → Prop} {n m : Nat} (h : n = m) : Grow D n m = D := by
  subst h
  funext k
  apply propext
  simp only [Grow]
  constructor
  · rintro (h | h)
    · exact h
    · omega
  · exact .inl

/-- Nothing was moved. -/
theorem loud_still {s s' : St} {v : V} {H : (D : Nat → Prop) → LM → World → Prop} {run : World → Result Value} (hs : Same s s')
    (h : ∀ (D : Nat → Prop) (L : LM) (w : World), H D L w → SR D L s.H.get w → ∃ val, (∀ L'', Agree D L L'' → val = v.den L'') ∧ run w = .ok val w) : LoudOK P s s' v H run := by
  intro D L w hh hSR _
  obtain ⟨val, g1, g2⟩ := h D L w hh hSR
  refine ⟨L, w, val, ?_, ?_, ?_, g2⟩
  · rw [hs.H]; exact .refl _ _ _ _
  · rw [hs.H, grow_self hs.nx.symm]; exact hSR
  · rw [grow_self hs.nx.symm]; exact g1

theorem sliceX_ok (hE : EnvOK P E) {t : TypeId} {x v : V} {lo hi : Option V} {s s' : St} (h : sliceX E t x lo hi s = some (v, s')) (ho : Obl s') :
    Lg s s' ∧ Obl s ∧ ∀ (xv : Value) (lv hv : Option Value), LoudOK P s s' v (fun D L _ => ∀ L', Agree D L L' → xv = x.den L' ∧ lv = lo.map (V.den L') ∧ hv = hi.map (V.den L')) (fun w => (Instr.sliceAt t xv lv hv none).run P w) := by
  unfold sliceX at h
  obtain ⟨ti, hti, h1⟩ := bind_some' h
  clear h
  obtain ⟨i, zv, d, hi', hs, hb, hzv, hzz, hu, hag, hk⟩ := (hE.ty _ _ hti).info
  split at h1
  · -- an array
    rename_i n es ag b idx size off hkd
    rw [hkd] at hk
    obtain ⟨e, rfl, hsz⟩ := hk
    obtain ⟨_, c1, h2⟩ := bind_some' h1
    obtain ⟨_, c2, h3⟩ := bind_some' h2
    obtain ⟨⟨lz, l⟩, h4, h5⟩ := bind_some' h3
    obtain ⟨⟨hz, hh⟩, h6, h7⟩ := bind_some' h5
    obtain ⟨s1, h8, h9⟩ := bind_some' h7
    have hs1 : s' = s1 := by split at h9 <;> cases h9 <;> rfl
    subst hs1
    obtain ⟨hd, hq⟩ := need_ok h8 ho
    have hd' : (∀ z ∈ lz, 0 ≤ z) ∧ (∀ z ∈ hz, 0 ≤ z) ∧ l ≤ hh ∧ hh ≤ n := by simpa using hd
    have hp : idx * size + off = 0 := by rw [← pos_eq]; exact Nat.beq_eq.mp (chk_some c1)
    refine ⟨Lg.of_same hq.1, hq.2, fun xv lv hv => loud_still hq.1 fun D L w hh' _ => ?_⟩
    have hrun : ∀ L' (w : World), (Instr.sliceAt t (x := (V.ptr b idx size off).den L') (lo.map (V.den L')) (hi.map (V.den L')) none).run P w =
        .ok (.slice (some (if n = l then ⟨(L' b).blk.getD 0, (L' b).off, none⟩ else ⟨(L' b).blk.getD 0, (L' b).off + l * es, none⟩)) (hh - l) (n - l)) w := by
      intro L' w
      have := run_bounds (P := P) (isS := false) (cap := n) h4 h6 hd'.1 hd'.2.1 hd'.2.2.1 hd'.2.2.2 L' w
      simp only [Instr.sliceAt, V.den, Sem.run_bind, run_und hu, Result.andThen_ok, Instr.sureAddr, Sem.run_pure, this, szd_size hsz, hp, Nat.add_zero, addr_add]
    obtain ⟨rfl, rfl, rfl⟩ := hh' L (.refl _ _)
    refine ⟨_, ?_, hrun L w⟩
    intro L'' hL''
    obtain ⟨e1, e2, e3⟩ := hh' L'' hL''
    have h10 := hrun L'' w
    rw [← e1, ← e2, ← e3, hrun L w] at h10
    injection h10 with h10 _
    rw [h10]
    split at h9
    · cases h9
      rcases bound_ok h4 with ⟨_, _, rfl⟩ | ⟨_, _, _, h11, _⟩
      · simp only [V.den, Nat.zero_mul, Nat.add_zero, Nat.sub_zero]
        congr 2
        by_cases hn : n = 0 <;> simp_all
      · cases h11
    · cases h9
      simp only [V.den]
      congr 2
      by_cases hn : n = l
      · simp_all
      · simp_all
  · -- a slice
    rename_i elem b start es len cap hkd
    rw [hkd] at hk
    cases hk
    obtain ⟨ei, hei, h2⟩ := bind_some' h1
    obtain ⟨_, c1, h3⟩ := bind_some' h2
    obtain ⟨⟨lz, l⟩, h4, h5⟩ := bind_some' h3
    obtain ⟨⟨hz, hh⟩, h6, h7⟩ := bind_some' h5
    obtain ⟨s1, h8, h9⟩ := bind_some' h7
    cases h9
    obtain ⟨ie, ze, de, hie, hse, hbe, hze, hzze, hue, hage, hke⟩ := (hE.ty _ _ hei).info
    have hes : ei.size = es := Nat.beq_eq.mp (chk_some c1)
    obtain ⟨hd, hq⟩ := need_ok h8 ho
    have hd' : (∀ z ∈ lz, 0 ≤ z) ∧ (∀ z ∈ hz, 0 ≤ z) ∧ l ≤ hh ∧ hh ≤ cap := by simpa using hd
    refine ⟨Lg.of_same hq.1, hq.2, fun xv lv hv => loud_still hq.1 fun D L w hh' _ => ?_⟩
    have hrun : ∀ L' (w : World), (Instr.sliceAt t (x := (V.slice b start es len cap).den L') (lo.map (V.den L')) (hi.map (V.den L')) none).run P w =
        .ok ((V.slice b (if cap = l then start else start + l) es (hh - l) (cap - l)).den L') w := by
      intro L' w
      have := run_bounds (P := P) (isS := true) (cap := cap) h4 h6 hd'.1 hd'.2.1 hd'.2.2.1 hd'.2.2.2 L' w
      simp only [Instr.sliceAt, Instr.slice, V.den, Sem.run_bind, run_und hu, Result.andThen_ok, Sem.run_pure, this, run_sizeOf' hie, hse, hes]
      by_cases hn : cap = l
      · simp [hn]
      · simp only [if_neg hn, Option.map_some, addr_add, Nat.add_mul]
        congr 4
        omega
    obtain ⟨rfl, rfl, rfl⟩ := hh' L (.refl _ _)
    refine ⟨_, ?_, hrun L w⟩
    intro L'' hL''
    obtain ⟨e1, e2, e3⟩ := hh' L'' hL''
    have h10 := hrun L'' w
    rw [← e1, ← e2, ← e3, hrun L w] at h10
    injection h10 with h10 _
  · -- an open slice
    rename_i elem b es hkd
    rw [hkd] at hk
    cases hk
    obtain ⟨ei, hei, h2⟩ := bind_some' h1
    obtain ⟨_, c1, h3'⟩ := bind_some' h2
    obtain ⟨_, c1', h3⟩ := bind_some' h3'
    obtain ⟨len, hlen, h4⟩ := bind_some' h3
    obtain ⟨ie, ze, de, hie, hse, hbe, hze, hzze, hue, hage, hke⟩ := (hE.ty _ _ hei).info
    have hes : ei.size = es := Nat.beq_eq.mp (chk_some c1)
    subst hes
    have hg : ∃ bd bt, s.H.get b = some (.mem bd bt (some ei.size)) ∧ bd.count ei.size = len := by
      unfold lenX at hlen
      simp only at hlen
      split at hlen
      · rename_i bd bt e hg
        obtain ⟨_, c2, h5⟩ := bind_some' hlen
        have he : e = ei.size := Nat.beq_eq.mp (chk_some c2)
        subst he
        cases h5
        exact ⟨bd, bt, hg, rfl⟩
      · cases hlen
    obtain ⟨bd, bt, hg, hcnt⟩ := hg
    split at h4
    · -- x[lo:]
      rename_i lov
      obtain ⟨⟨lz, l⟩, h5, h6⟩ := bind_some' h4
      obtain ⟨s1, h7, h8⟩ := bind_some' h6
      cases h8
      obtain ⟨hd, hq⟩ := need_ok h7 ho
      have hd' : (∀ z ∈ lz, 0 ≤ z) ∧ l ≤ len := by simpa using hd
      refine ⟨Lg.of_same hq.1, hq.2, fun xv lv hv => loud_still hq.1 fun D L w hh' hSR => ?_⟩
      have hrun : ∀ L', Agree D L L' → (Instr.sliceAt t (x := (V.osl b ei.size).den L') ((some lov).map (V.den L')) ((none : Option V).map (V.den L')) none).run P w = .ok ((V.osv b ei.size l (len - l)).den L') w := by
        intro L' hL'
        obtain ⟨q1, q2, q3, q4⟩ := (hSR L' hL').ob b _ hg
        rw [hcnt] at q2
        rcases q4 with ⟨q5, q6, q7⟩ | ⟨k, cur, q5, qh, q7, q8, q9, q10⟩
        · have hl0 : len = 0 := by rw [q2, q6]
          have hll : l = 0 := by omega
          have := run_bounds (P := P) (isS := true) (len := 0) (cap := 0) (lo := some lov) (hi := none) (hz := none) (h := 0) h5 rfl hd'.1 (by simp) (by omega) (Nat.le_refl _) L' w
          simp only [Instr.sliceAt, Instr.slice, V.den, q5, Sem.run_bind, run_und hu, Result.andThen_ok, Sem.run_pure, this, run_sizeOf' hie, q7, hll, hl0]
          simp
        · have := run_bounds (P := P) (isS := true) (len := len) (cap := (L' b).cap) (lo := some lov) (hi := none) (hz := none) (h := len) h5 rfl hd'.1 (by simp) hd'.2 (by rw [q2]; exact q7) L' w
          simp only [Instr.sliceAt, Instr.slice, V.den, q5, Sem.run_bind, run_und hu, Result.andThen_ok, Sem.run_pure, ← q2, this, run_sizeOf' hie, hse]
          by_cases hn : (L' b).cap = l
          · simp [hn]
          · simp only [if_neg hn, Option.map_some, addr_add, Nat.zero_add]
      obtain ⟨rfl, rfl, rfl⟩ := hh' L (.refl _ _)
      refine ⟨_, ?_, hrun L (.refl _ _)⟩
      intro L'' hL''
      obtain ⟨e1, e2, e3⟩ := hh' L'' hL''
      have h10 := hrun L'' hL''
      rw [← e1, ← e2, ← e3, hrun L (.refl _ _)] at h10
      injection h10 with h10 _
    · -- x[:hi]
      rename_i hiv
      obtain ⟨⟨hz, hh⟩, h5, h6⟩ := bind_some' h4
      obtain ⟨s1, h7, h8⟩ := bind_some' h6
      split at h8
      · rename_i bd' bt' e hg'
        obtain ⟨_, c2, h9⟩ := bind_some' h8
        have he : e = ei.size := Nat.beq_eq.mp (chk_some c2)
        subst he
        obtain ⟨s2, hup, h10⟩ := bind_some' h9
        obtain ⟨⟨m, s3⟩, hnew, h11⟩ := bind_some' h10
        cases h11
        obtain ⟨n1, n2, n3, n4, n5⟩ := new_ok hnew
        obtain ⟨u1, u2, u3, u4⟩ := upd_ok hup
        obtain ⟨hd, hq⟩ := need_ok h7 (fun x hx => ho x (by rw [n4, u3]; exact hx))
        have hd' : (∀ z ∈ hz, 0 ≤ z) ∧ hh ≤ len := by simpa using hd
        rw [hq.1.H, hg] at hg'
        cases hg'
        have hes : 0 < ei.size := Nat.blt_eq.mp (chk_some c1')
        refine ⟨(Lg.of_same hq.1).trans ((Lg.upd hup).trans (.new hnew)), hq.2, fun xv lv hv D L w hh' hSR hD => ?_⟩
        obtain ⟨rfl, rfl, rfl⟩ := hh' L (.refl _ _)
        rw [← hq.1.H] at hSR hg ⊢
        rw [← hq.1.nx] at hD ⊢
        obtain ⟨q1, q2, q3, q4⟩ := (hSR L (.refl _ _)).ob b _ hg
        obtain ⟨kmv, kSR⟩ := kill_ok (H' := s2.H.get) (n := b) hSR u4
        have hbl : bd.flat.length = bd.count ei.size * ei.size := by rw [q3, q2]
        obtain ⟨f1, f2, f3⟩ := Body.sub_open (b := bd) (start := 0) (len := hh) hbl hes (by rw [hcnt]; omega)
        rw [hcnt] at q2
        rcases q4 with ⟨q5, q6, q7⟩ | ⟨k, cur, q5, qh, q7, q8, q9, q10⟩
        · have hh0 : hh = 0 := by omega
          subst hh0
          obtain ⟨L', g1, g2, g3⟩ := nil_ok hnew kSR (by rw [u1]; exact hD) f2 (List.length_eq_zero_iff.1 (by rw [f3]; simp))
          rw [u1] at g2 g3
          refine ⟨L', w, _, kmv.trans (fun _ h => h) g1, g2, g3, ?_⟩
          have := run_bounds (P := P) (isS := true) (len := 0) (cap := 0) (lo := none) (hi := some hiv) (lz := none) (l := 0) (hz := hz) (h := 0) rfl (by
            rcases bound_ok h5 with ⟨h, _⟩ | ⟨k, i, h, h', h''⟩
            · cases h
            · cases h; subst h'; rw [h'']; rfl) (by simp) hd'.1 (Nat.le_refl _) (Nat.le_refl _) L w
          simp only [Instr.sliceAt, Instr.slice, V.den, q5, Sem.run_bind, run_und hu, Result.andThen_ok, Sem.run_pure, this, run_sizeOf' hie]
          simp
        · have hmv := moved_ok (w' := w) (li := ⟨some k, 0, hh, (L b).cap⟩) hSR hg rfl q5 hup hnew hD rfl rfl (fun _ _ => rfl) ⟨rfl, rfl, rfl⟩ (by
            intro L' hL' hl
            obtain ⟨p1, p2, p3, p4⟩ := (hSR L' hL').ob b _ hg
            have hLb : L b = L' b := hL' b (hSR.live hg)
            refine ⟨by rw [hl], by rw [hl]; exact f2, by rw [hl]; exact f3, .inr ⟨k, cur, by rw [hl], qh, by rw [hl]; show hh ≤ (L b).cap; omega, by rw [hl]; exact q8, by rw [hl]; exact q9, ?_⟩⟩
            rw [hl]
            show cur.toList.take (hh * ei.size) = _
            rcases p4 with ⟨p5, _⟩ | ⟨k', cur', p5, ph, p7, p8, p9, p10⟩
            · rw [← hLb, q5] at p5; cases p5
            · rw [← hLb, q5] at p5
              cases p5
              rw [qh] at ph
              cases ph
              unfold cellsOf at p10 ⊢
              rw [f1]
              simp only [Nat.zero_mul, List.drop_zero, List.map_take]
              rw [← p10, List.take_take]
              congr 1
              have : hh * ei.size ≤ (L' b).len * ei.size := Nat.mul_le_mul_right _ (by rw [← hLb]; omega)
              omega)
          obtain ⟨L', g1, g2, g3⟩ := hmv
          refine ⟨L', w, _, g1, g2, g3, ?_⟩
          have := run_bounds (P := P) (isS := true) (len := (L b).len) (cap := (L b).cap) (lo := none) (hi := some hiv) (lz := none) (l := 0) (hz := hz) (h := hh) rfl (by
            rcases bound_ok h5 with ⟨h, _⟩ | ⟨k, i, h, h', h''⟩
            · cases h
            · cases h; subst h'; rw [h'']; rfl) (by simp) hd'.1 (Nat.zero_le _) (by omega) L w
          simp only [Instr.sliceAt, Instr.slice, V.den, q5, Sem.run_bind, run_und hu, Result.andThen_ok, Sem.run_pure, this, run_sizeOf' hie]
          by_cases hn : (L b).cap = 0
          · simp [hn]
          · simp [hn, addr_add]
      · cases h8
    · -- x[:]
      cases h4
      refine ⟨.refl _, ho, fun xv lv hv => loud_still (.refl _) fun D L w hh' hSR => ?_⟩
      obtain ⟨rfl, rfl, rfl⟩ := hh' L (.refl _ _)
      refine ⟨_, fun L'' hL'' => (hh' L'' hL'').1, ?_⟩
      obtain ⟨q1, q2, q3, q4⟩ := (hSR L (.refl _ _)).ob b _ hg
      rcases q4 with ⟨q5, q6, q7⟩ | ⟨k, cur, q5, qh, q7, q8, q9, q10⟩
      · have := run_bounds (P := P) (isS := true) (len := 0) (cap := 0) (lo := none) (hi := none) (lz := none) (hz := none) (l := 0) (h := 0) rfl rfl (by simp) (by simp) (Nat.le_refl _) (Nat.le_refl _) L w
        simp only [Instr.sliceAt, Instr.slice, V.den, q5, Sem.run_bind, run_und hu, Result.andThen_ok, Sem.run_pure, this, run_sizeOf' hie]
        simp
      · have := run_bounds (P := P) (isS := true) (len := (L b).len) (cap := (L b).cap) (lo := none) (hi := none) (lz := none) (hz := none) (l := 0) (h := (L b).len) rfl rfl (by simp) (by simp) (Nat.zero_le _) q7 L w
        simp only [Instr.sliceAt, Instr.slice, V.den, q5, Sem.run_bind, run_und hu, Result.andThen_ok, Sem.run_pure, this, run_sizeOf' hie]
        by_cases hn : (L b).cap = 0
        · simp [hn]
        · simp [hn, addr_add]
    · cases h4
  · -- nil
    rename_i elem hkd
    rw [hkd] at hk
    cases hk
    obtain ⟨ei, hei, h2⟩ := bind_some' h1
    obtain ⟨⟨lz, l⟩, h4, h5⟩ := bind_some' h2
    obtain ⟨⟨hz, hh⟩, h6, h7⟩ := bind_some' h5
    obtain ⟨s1, h8, h9⟩ := bind_some' h7
    obtain ⟨_, c1, h10⟩ := bind_some' h9
    cases h10
    obtain ⟨ie, ze, de, hie, hse, hbe, hze, hzze, hue, hage, hke⟩ := (hE.ty _ _ hei).info
    obtain ⟨hd, hq⟩ := need_ok h8 ho
    have hd' : (∀ z ∈ lz, z = 0) ∧ (∀ z ∈ hz, z = 0) := by simpa using hd
    have hlh : l + hh = 0 := Nat.beq_eq.mp (chk_some c1)
    refine ⟨Lg.of_same hq.1, hq.2, fun xv lv hv => loud_still hq.1 fun D L w hh' _ => ?_⟩
    obtain ⟨rfl, rfl, rfl⟩ := hh' L (.refl _ _)
    refine ⟨_, fun L'' hL'' => rfl, ?_⟩
    have hl : l = 0 := by omega
    have hhh : hh = 0 := by omega
    have := run_bounds (P := P) (isS := true) (len := 0) (cap := 0) h4 h6 (fun z hz => by rw [hd'.1 z hz]; exact Int.le_refl _) (fun z hz => by rw [hd'.2 z hz]; exact Int.le_refl _) (by omega) (by omega) L w
    simp only [Instr.sliceAt, Instr.slice, V.den, Sem.run_bind, run_und hu, Result.andThen_ok, Sem.run_pure, this, run_sizeOf' hie, hl, hhh]
    simp
  · cases h1

/-- The result of an operation that is no call. -/
def Gives (r : Result Next) (val : Value) (w : World) : Prop := r = .ok (.value val) w ∨ (r = .ok .skip w ∧ val = undef)

theorem loudX_ok (hE : EnvOK P E) {T : Tr V} {op : Op} {s s' : St} {v : V} (h : loudX E T op s = some (v, s')) (ho : Obl s') :
    Lg s s' ∧ Obl s ∧ ∀ (ρ : Operand → Value) (o : Oper), o.op = op → ∀ (D : Nat → Prop) (L : LM) (w : World), (∀ x ∈ op.operands, ∀ u, ev T x = some u → ∀ L', Agree D L L' → ρ x = u.den L') →
      SR D L s.H.get w → (∀ n, D n → n < s.nx ∨ s'.nx ≤ n) →
      ∃ L' w' val, Mv D L s.H.get w L' s'.H.get w' ∧ SR (Grow D s.nx s'.nx) L' s'.H.get w' ∧ (∀ L'', Agree (Grow D s.nx s'.nx) L' L'' → val = v.den L'') ∧ Gives ((execOp ρ o).run P w) val w' := by
  cases op with
  | alloc t =>
    simp only [loudX] at h
    obtain ⟨ti, hti, h1⟩ := bind_some' h
    obtain ⟨⟨n, s1⟩, hnew, h2⟩ := bind_some' h1
    cases h2
    obtain ⟨i, zv, d, hi, hs, hb, hzv, hzz, hu, hag, hk⟩ := (hE.ty _ _ hti).info
    obtain ⟨n1, n2, n3, n4, n5⟩ := new_ok hnew
    refine ⟨.new hnew, fun x hx => ho x (by rw [n4]; exact hx), fun ρ o he D L w hr hSR hD => ?_⟩
    obtain ⟨L', g1, g2, g3⟩ := boxed_ok (arr := zv.cells) hnew hSR hD (fun L' _ => hzz L')
    refine ⟨L', _, _, g1, g2, g3, .inl ?_⟩
    simp only [execOp, he, Instr.alloc, Sem.run_bind, run_zero' hi hzv, Result.andThen_ok, newVar, newRow, run_newObj, Sem.run_pure, World.alloc_eq]
  | box t x =>
    simp only [loudX] at h
    obtain ⟨va, h1, h2⟩ := bind_some' h
    obtain ⟨⟨n, s1⟩, hnew, h3⟩ := bind_some' h2
    cases h3
    obtain ⟨n1, n2, n3, n4, n5⟩ := new_ok hnew
    refine ⟨.new hnew, fun x hx => ho x (by rw [n4]; exact hx), fun ρ o he D L w hr hSR hD => ?_⟩
    have hx := hr x (by simp [Op.operands]) _ h1
    obtain ⟨L', g1, g2, g3⟩ := boxed_ok (arr := (ρ x).cells) hnew hSR hD (fun L' hL' => by rw [hx L' hL', cells_den]; rfl)
    refine ⟨L', _, _, g1, g2, g3, .inl ?_⟩
    simp only [execOp, he, Instr.box, Sem.run_bind, Result.andThen_ok, newVar, newRow, run_newObj, Sem.run_pure, World.alloc_eq]
  | buildSlice t len ps =>
    simp only [loudX] at h
    obtain ⟨vs, h1, h2⟩ := bind_some' h
    obtain ⟨hlg, hob, hp⟩ := buildSliceX_ok hE h2 ho
    refine ⟨hlg, hob, fun ρ o he D L w hr hSR hD => ?_⟩
    obtain ⟨L', w', val, g1, g2, g3, g4⟩ := hp D L w (ps.map fun (p : Nat × Operand) => (p.1, ρ p.2)) (by
      intro L' hL'
      have hm := evs_map h1 (fun x hx u hu => hr x (by simp only [Op.operands]; simpa using hx) u hu L' hL')
      rw [zip_map_den, ← hm]
      simp only [Array.toList_map]
      generalize ps.toList = l
      induction l with
      | nil => rfl
      | cons p l ih => simp [ih]) hSR hD
    refine ⟨L', w', val, g1, g2, g3, .inl ?_⟩
    simp only [execOp, he]
    rw [show (Array.map (fun (x : Nat × Operand) => match x with | (i, x) => (i, ρ x)) ps) = (ps.map fun (p : Nat × Operand) => (p.1, ρ p.2)) from rfl]
    simp [g4]
  | store t a x =>
    simp only [loudX] at h
    obtain ⟨va, h1, h2⟩ := bind_some' h
    obtain ⟨vx, h3, h4⟩ := bind_some' h2
    obtain ⟨s1, h5, h6⟩ := bind_some' h4
    cases h6
    obtain ⟨hlg, hob, hnx, hp⟩ := storeX_ok hE h5 ho
    refine ⟨hlg, hob, fun ρ o he D L w hr hSR hD => ?_⟩
    obtain ⟨w', g1, g2, g3⟩ := hp D L w (ρ a) (ρ x) (fun L' hL' => ⟨hr a (by simp [Op.operands]) _ h1 L' hL', hr x (by simp [Op.operands]) _ h3 L' hL'⟩) hSR
    refine ⟨L, w', undef, g1, ?_, fun _ _ => rfl, .inr ⟨?_, rfl⟩⟩
    · rw [grow_self hnx.symm]; exact g2
    · simp [execOp, he, g3]
  | makeSlice t l c =>
    simp only [loudX] at h
    obtain ⟨va, h1, h2⟩ := bind_some' h
    obtain ⟨vx, h3, h4⟩ := bind_some' h2
    obtain ⟨hlg, hob, hp⟩ := makeSliceX_ok hE h4 ho
    refine ⟨hlg, hob, fun ρ o he D L w hr hSR hD => ?_⟩
    obtain ⟨L', w', val, g1, g2, g3, g4⟩ := hp D L w (ρ l) (ρ c) (fun L' hL' => ⟨hr l (by simp [Op.operands]) _ h1 L' hL', hr c (by simp [Op.operands]) _ h3 L' hL'⟩) hSR hD
    exact ⟨L', w', val, g1, g2, g3, .inl (by simp [execOp, he, g4])⟩
  | slice t x lo hi mx =>
    simp only [loudX] at h
    cases mx with
    | some m => cases h
    | none =>
      obtain ⟨vx, h1, h2⟩ := bind_some' h
      have key : ∃ lv hv, sliceX E t vx lv hv s = some (v, s') ∧ (∀ y u, lo = some y → lv = some u → ev T y = some u) ∧ (lo = none ↔ lv = none) ∧ (∀ y u, hi = some y → hv = some u → ev T y = some u) ∧ (hi = none ↔ hv = none) := by
        cases lo with
        | none =>
          cases hi with
          | none => exact ⟨none, none, h2, by simp, by simp, by simp, by simp⟩
          | some b =>
            obtain ⟨vb, h3, h4⟩ := bind_some' h2
            exact ⟨none, some vb, h4, by simp, by simp, by simp [h3], by simp⟩
        | some a =>
          cases hi with
          | none =>
            obtain ⟨vb, h3, h4⟩ := bind_some' h2
            exact ⟨some vb, none, h4, by simp [h3], by simp, by simp, by simp⟩
          | some b =>
            obtain ⟨va, h3, h4⟩ := bind_some' h2
            obtain ⟨vb, h5, h6⟩ := bind_some' h4
            exact ⟨some va, some vb, h6, by simp [h3], by simp, by simp [h5], by simp⟩
      obtain ⟨lv, hv, hsl, k1, k2, k3, k4⟩ := key
      obtain ⟨hlg, hob, hp⟩ := sliceX_ok hE hsl ho
      refine ⟨hlg, hob, fun ρ o he D L w hr hSR hD => ?_⟩
      obtain ⟨L', w', val, g1, g2, g3, g4⟩ := hp (ρ x) (lo.map ρ) (hi.map ρ) D L w (by
        intro L' hL'
        refine ⟨hr x (by simp [Op.operands]) _ h1 L' hL', ?_, ?_⟩
        · cases lo with
          | none => rw [k2.1 rfl]; rfl
          | some y =>
            cases lv with
            | none => have := k2.2 rfl; cases this
            | some u => simp [hr y (by simp [Op.operands]) u (k1 y u rfl rfl) L' hL']
        · cases hi with
          | none => rw [k4.1 rfl]; rfl
          | some y =>
            cases hv with
            | none => have := k4.2 rfl; cases this
            | some u => simp [hr y (by simp [Op.operands]) u (k3 y u rfl rfl) L' hL']) hSR hD
      exact ⟨L', w', val, g1, g2, g3, .inl (by simp [execOp, he, g4])⟩
  | call c =>
    simp only [loudX] at h
    obtain ⟨callee, args, argTypes⟩ := c
    split at h
    · rename_i hc
      simp only at hc
      subst hc
      split at h
      · rename_i a x st xt hargs htys
        simp only at hargs htys
        have ha : args = #[a, x] := by apply Array.ext'; simpa using hargs
        have hty : argTypes = #[st, xt] := by apply Array.ext'; simpa using htys
        subst ha hty
        obtain ⟨_, c1, h0⟩ := bind_some' h
        obtain ⟨va, h1, h2⟩ := bind_some' h0
        obtain ⟨vx, h3, h4⟩ := bind_some' h2
        have hst : st = xt := Nat.beq_eq.mp (chk_some c1)
        subst hst
        obtain ⟨hlg, hob, hp⟩ := appendX_ok hE h4 ho
        refine ⟨hlg, hob, fun ρ o he D L w hr hSR hD => ?_⟩
        obtain ⟨L', w', val, g1, g2, g3, g4⟩ := hp D L w o.type (ρ a) (ρ x) (fun L' hL' => ⟨hr a (by simp [Op.operands, Call.operands]) _ h1 L' hL', hr x (by simp [Op.operands, Call.operands]) _ h3 L' hL'⟩) hSR hD
        exact ⟨L', w', val, g1, g2, g3, .inl (by simp [execOp, he, resolve, invoke, builtin, g4])⟩
      · cases h
    · cases h
  | _ => simp [loudX] at h

end
end Go.Sx
