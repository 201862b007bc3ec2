/- Slices that are cut. -/
import Derived.Test.YtmmcpgjfkphgaaaGreatSxE
namespace Go.Sx
section
variable {P : Program} {E : Env}

theorem bound_ok {x : Option V} {d n : Nat} {z : Option Int} (h : bound x d = some (z, n)) :
    (x = none ∧ z = none ∧ n = d) ∨ ∃ k i, x = some (.int k i) ∧ z = some i ∧ n = i.toNat := by
  unfold bound at h
  split at h
  · cases h; exact .inl ⟨rfl, rfl, rfl⟩
  · cases h; exact .inr ⟨_, _, rfl, rfl, rfl⟩
  · cases h

theorem run_bound {k : IntKind} {i : Int} {y : Nat} (code : BoundsCode) (h0 : 0 ≤ i) (h1 : i.toNat ≤ y) (w : World) : (Instr.sliceBound (.int k i) y code).run P w = .ok i.toNat w := by
  have h2 : 0 ≤ i ∧ i ≤ (y : Int) := ⟨h0, by omega⟩
  simp [Instr.sliceBound, asIntOf, h2]

theorem run_bounds {lo hi : Option V} {lz hz : Option Int} {l h len cap : Nat} {isS : Bool} (h1 : bound lo 0 = some (lz, l)) (h2 : bound hi len = some (hz, h))
    (hl : ∀ z ∈ lz, 0 ≤ z) (hh : ∀ z ∈ hz, 0 ≤ z) (hlh : l ≤ h) (hhc : h ≤ cap) (L : LM) (w : World) :
    (Instr.sliceBounds isS len cap (lo.map (V.den L)) (hi.map (V.den L)) none).run P w = .ok (l, h, cap) w := by
  rcases bound_ok h1 with ⟨rfl, rfl, rfl⟩ | ⟨k, i, rfl, rfl, rfl⟩ <;> rcases bound_ok h2 with ⟨rfl, rfl, rfl⟩ | ⟨k', i', rfl, rfl, rfl⟩
  · simp [Instr.sliceBounds]
  · have := run_bound (P := P) (k := k') (y := cap) (if isS then .sliceAcap else .sliceAlen) (hh _ rfl) hhc w
    simp [Instr.sliceBounds, V.den, this]
  · have := run_bound (P := P) (k := k) (y := h) .sliceB (hl _ rfl) hlh w
    simp [Instr.sliceBounds, V.den, this]
  · have g1 := run_bound (P := P) (k := k') (y := cap) (if isS then .sliceAcap else .sliceAlen) (hh _ rfl) hhc w
    have g2 := run_bound (P := P) (k := k) (y := i'.toNat) .sliceB (hl _ rfl) hlh w
    simp [Instr.sliceBounds, V.den, g1, g2]

/-- Which block is read as a slice is cut. -/
theorem sliceX_q (hE : EnvOK P E) {t : TypeId} {x v : V} {lo hi : Option V} {s s' : St} (h : sliceX E t x lo hi s = some (v, s')) (ho : Obl s') :
    Quiet s s' ∧ ∀ (L : LM) (w : World), On L s.H.get w (sliceRd x) → (Instr.sliceAt t (x.den L) (lo.map (V.den L)) (hi.map (V.den L)) none).run P w = .ok (v.den L) w := by
  unfold sliceX at h
  obtain ⟨ti, hti, h1⟩ := bind_some' h
  clear h
  obtain ⟨i, zv, d, hi', hs, hb, hzv, hzz, hu, hag, hk⟩ := (hE.ty _ _ hti).info
  split at h1
  · -- an array
    rename_i n es ag b idx size off hkd
    rw [hkd] at hk
    obtain ⟨e, rfl, hsz⟩ := hk
    obtain ⟨_, c1, h2⟩ := bind_some' h1
    obtain ⟨_, c2, h3⟩ := bind_some' h2
    obtain ⟨⟨lz, l⟩, h4, h5⟩ := bind_some' h3
    obtain ⟨⟨hz, hh⟩, h6, h7⟩ := bind_some' h5
    obtain ⟨s1, h8, h9⟩ := bind_some' h7
    have hs1 : s' = s1 := by split at h9 <;> cases h9 <;> rfl
    subst hs1
    obtain ⟨hd, hq⟩ := need_ok h8 ho
    have hd' : (∀ z ∈ lz, 0 ≤ z) ∧ (∀ z ∈ hz, 0 ≤ z) ∧ l ≤ hh ∧ hh ≤ n := by simpa using hd
    have hp : idx * size + off = 0 := by rw [← pos_eq]; exact Nat.beq_eq.mp (chk_some c1)
    refine ⟨hq, fun L w _ => ?_⟩
    have hrun : ∀ L' (w : World), (Instr.sliceAt t (x := (V.ptr b idx size off).den L') (lo.map (V.den L')) (hi.map (V.den L')) none).run P w =
        .ok (.slice (some (if n = l then ⟨(L' b).blk.getD 0, (L' b).off, none⟩ else ⟨(L' b).blk.getD 0, (L' b).off + l * es, none⟩)) (hh - l) (n - l)) w := by
      intro L' w
      have := run_bounds (P := P) (isS := false) (cap := n) h4 h6 hd'.1 hd'.2.1 hd'.2.2.1 hd'.2.2.2 L' w
      simp only [Instr.sliceAt, V.den, Sem.run_bind, run_und hu, Result.andThen_ok, Instr.sureAddr, Sem.run_pure, this, szd_size hsz, hp, Nat.add_zero, addr_add]
    rw [hrun L w]
    congr 1
    split at h9
    · cases h9
      rcases bound_ok h4 with ⟨_, _, rfl⟩ | ⟨_, _, _, h11, _⟩
      · simp only [V.den, Nat.zero_mul, Nat.add_zero, Nat.sub_zero]
        congr 2
        by_cases hn : n = 0 <;> simp_all
      · cases h11
    · cases h9
      simp only [V.den]
      congr 2
      by_cases hn : n = l
      · simp_all
      · simp_all
  · -- a slice
    rename_i elem b start es len cap hkd
    rw [hkd] at hk
    cases hk
    obtain ⟨ei, hei, h2⟩ := bind_some' h1
    obtain ⟨_, c1, h3⟩ := bind_some' h2
    obtain ⟨⟨lz, l⟩, h4, h5⟩ := bind_some' h3
    obtain ⟨⟨hz, hh⟩, h6, h7⟩ := bind_some' h5
    obtain ⟨s1, h8, h9⟩ := bind_some' h7
    cases h9
    obtain ⟨ie, ze, de, hie, hse, hbe, hze, hzze, hue, hage, hke⟩ := (hE.ty _ _ hei).info
    have hes : ei.size = es := Nat.beq_eq.mp (chk_some c1)
    obtain ⟨hd, hq⟩ := need_ok h8 ho
    have hd' : (∀ z ∈ lz, 0 ≤ z) ∧ (∀ z ∈ hz, 0 ≤ z) ∧ l ≤ hh ∧ hh ≤ cap := by simpa using hd
    refine ⟨hq, fun L w _ => ?_⟩
    have hrun : ∀ L' (w : World), (Instr.sliceAt t (x := (V.slice b start es len cap).den L') (lo.map (V.den L')) (hi.map (V.den L')) none).run P w =
        .ok ((V.slice b (if cap = l then start else start + l) es (hh - l) (cap - l)).den L') w := by
      intro L' w
      have := run_bounds (P := P) (isS := true) (cap := cap) h4 h6 hd'.1 hd'.2.1 hd'.2.2.1 hd'.2.2.2 L' w
      simp only [Instr.sliceAt, Instr.slice, V.den, Sem.run_bind, run_und hu, Result.andThen_ok, Sem.run_pure, this, run_sizeOf' hie, hse, hes]
      by_cases hn : cap = l
      · simp [hn]
      · simp only [if_neg hn, Option.map_some, addr_add, Nat.add_mul]
        congr 4
        omega
    exact hrun L w
  · -- an open slice
    rename_i elem b es hkd
    rw [hkd] at hk
    cases hk
    obtain ⟨ei, hei, h2⟩ := bind_some' h1
    obtain ⟨_, c1, h3'⟩ := bind_some' h2
    obtain ⟨_, c1', h3⟩ := bind_some' h3'
    obtain ⟨len, hlen, h4⟩ := bind_some' h3
    obtain ⟨ie, ze, de, hie, hse, hbe, hze, hzze, hue, hage, hke⟩ := (hE.ty _ _ hei).info
    have hes : ei.size = es := Nat.beq_eq.mp (chk_some c1)
    subst hes
    have hg : ∃ bd bt, s.H.get b = some (.mem bd bt (some ei.size)) ∧ bd.count ei.size = len := by
      unfold lenX at hlen
      simp only at hlen
      split at hlen
      · rename_i bd bt e hg
        obtain ⟨_, c2, h5⟩ := bind_some' hlen
        have he : e = ei.size := Nat.beq_eq.mp (chk_some c2)
        subst he
        cases h5
        exact ⟨bd, bt, hg, rfl⟩
      · cases hlen
    obtain ⟨bd, bt, hg, hcnt⟩ := hg
    split at h4
    · -- x[lo:]
      rename_i lov
      obtain ⟨⟨lz, l⟩, h5, h6⟩ := bind_some' h4
      obtain ⟨s1, h7, h8⟩ := bind_some' h6
      cases h8
      obtain ⟨hd, hq⟩ := need_ok h7 ho
      have hd' : (∀ z ∈ lz, 0 ≤ z) ∧ l ≤ len := by simpa using hd
      refine ⟨hq, fun L w hO => ?_⟩
      have hrun : ∀ L', L' = L → (Instr.sliceAt t (x := (V.osl b ei.size).den L') ((some lov).map (V.den L')) ((none : Option V).map (V.den L')) none).run P w = .ok ((V.osv b ei.size 0 l (len - l)).den L') w := by
        intro L' hL'
        subst hL'
        obtain ⟨q1, q2, q3, q4⟩ := hO.ob b (by simp [sliceRd]) _ hg
        rw [hcnt] at q2
        rcases q4 with ⟨q5, q6, q7⟩ | ⟨k, cur, q5, qh, q7, q8, q9, q10⟩
        · have hl0 : len = 0 := by rw [q2, q6]
          have hll : l = 0 := by omega
          have := run_bounds (P := P) (isS := true) (len := 0) (cap := 0) (lo := some lov) (hi := none) (hz := none) (h := 0) h5 rfl hd'.1 (by simp) (by omega) (Nat.le_refl _) L' w
          simp only [Instr.sliceAt, Instr.slice, V.den, q5, Sem.run_bind, run_und hu, Result.andThen_ok, Sem.run_pure, this, run_sizeOf' hie, q7, hll, hl0]
          simp
        · have := run_bounds (P := P) (isS := true) (len := len) (cap := (L' b).cap) (lo := some lov) (hi := none) (hz := none) (h := len) h5 rfl hd'.1 (by simp) hd'.2 (by rw [q2]; exact q7) L' w
          simp only [Instr.sliceAt, Instr.slice, V.den, q5, Sem.run_bind, run_und hu, Result.andThen_ok, Sem.run_pure, ← q2, this, run_sizeOf' hie, hse]
          by_cases hn : (L' b).cap = l
          · simp [hn]
          · simp only [if_neg hn, Option.map_some, addr_add, Nat.zero_add]
      exact hrun L rfl
    · -- x[:hi]
      rename_i hiv
      obtain ⟨⟨hz, hh⟩, h5, h6⟩ := bind_some' h4
      obtain ⟨s1, h7, h8⟩ := bind_some' h6
      cases h8
      obtain ⟨hd, hq⟩ := need_ok h7 ho
      have hd' : (∀ z ∈ hz, 0 ≤ z) ∧ hh ≤ len := by simpa using hd
      refine ⟨hq, fun L w hO => ?_⟩
      have hrun : ∀ L', L' = L → (Instr.sliceAt t (x := (V.osl b ei.size).den L') ((none : Option V).map (V.den L')) ((some hiv).map (V.den L')) none).run P w = .ok ((V.osv b ei.size 0 0 hh).den L') w := by
        intro L' hL'
        subst hL'
        obtain ⟨q1, q2, q3, q4⟩ := hO.ob b (by simp [sliceRd]) _ hg
        rw [hcnt] at q2
        have hb0 : ∀ k, bound (some hiv) k = some (hz, hh) := fun k => by
          rcases bound_ok h5 with ⟨p1, _⟩ | ⟨k', i', p1, p2, p3⟩
          · cases p1
          · cases p1
            rw [p3, p2]; rfl
        rcases q4 with ⟨q5, q6, q7⟩ | ⟨k, cur, q5, qh, q7, q8, q9, q10⟩
        · have hl0 : len = 0 := by rw [q2, q6]
          have hll : hh = 0 := by omega
          have := run_bounds (P := P) (isS := true) (len := 0) (cap := 0) (lo := none) (hi := some hiv) (lz := none) (l := 0) (hz := hz) (h := hh) rfl (hb0 0) (by simp) hd'.1 (Nat.zero_le _) (by omega) L' w
          simp only [Instr.sliceAt, Instr.slice, V.den, q5, Sem.run_bind, run_und hu, Result.andThen_ok, Sem.run_pure, this, run_sizeOf' hie, q7, hll]
          simp
        · have := run_bounds (P := P) (isS := true) (len := (L' b).len) (cap := (L' b).cap) (lo := none) (hi := some hiv) (lz := none) (l := 0) (hz := hz) (h := hh) rfl (hb0 _) (by simp) hd'.1 (Nat.zero_le _) (by omega) L' w
          simp only [Instr.sliceAt, Instr.slice, V.den, q5, Sem.run_bind, run_und hu, Result.andThen_ok, Sem.run_pure, this, run_sizeOf' hie, hse]
          by_cases hn : (L' b).cap = 0
          · simp [hn]
          · simp [hn, addr_add]
      exact hrun L rfl
    · -- x[:]
      cases h4
      refine ⟨.refl ho, fun L w hO => ?_⟩
      obtain ⟨q1, q2, q3, q4⟩ := hO.ob b (by simp [sliceRd]) _ hg
      rcases q4 with ⟨q5, q6, q7⟩ | ⟨k, cur, q5, qh, q7, q8, q9, q10⟩
      · have := run_bounds (P := P) (isS := true) (len := 0) (cap := 0) (lo := none) (hi := none) (lz := none) (hz := none) (l := 0) (h := 0) rfl rfl (by simp) (by simp) (Nat.le_refl _) (Nat.le_refl _) L w
        simp only [Instr.sliceAt, Instr.slice, V.den, q5, Sem.run_bind, run_und hu, Result.andThen_ok, Sem.run_pure, this, run_sizeOf' hie]
        simp
      · have := run_bounds (P := P) (isS := true) (len := (L b).len) (cap := (L b).cap) (lo := none) (hi := none) (lz := none) (hz := none) (l := 0) (h := (L b).len) rfl rfl (by simp) (by simp) (Nat.zero_le _) q7 L w
        simp only [Instr.sliceAt, Instr.slice, V.den, q5, Sem.run_bind, run_und hu, Result.andThen_ok, Sem.run_pure, this, run_sizeOf' hie]
        by_cases hn : (L b).cap = 0
        · simp [hn]
        · simp [hn, addr_add]
    · cases h4
  · -- a part of an open slice
    rename_i elem b es base start len hkd
    rw [hkd] at hk
    cases hk
    obtain ⟨ei, hei, h2⟩ := bind_some' h1
    obtain ⟨_, c1, h3'⟩ := bind_some' h2
    obtain ⟨_, c1', h4⟩ := bind_some' h3'
    obtain ⟨ie, ze, de, hie, hse, hbe, hze, hzze, hue, hage, hke⟩ := (hE.ty _ _ hei).info
    have hes : ei.size = es := Nat.beq_eq.mp (chk_some c1)
    subst hes
    have hes0 : 0 < ei.size := Nat.blt_eq.mp (chk_some c1')
    split at h4
    · rename_i lov
      obtain ⟨⟨lz, l⟩, h5, h6⟩ := bind_some' h4
      simp only at h6
      split at h6
      · rename_i bd bt e hg
        obtain ⟨_, c2, h7⟩ := bind_some' h6
        have he : e = ei.size := Nat.beq_eq.mp (chk_some c2)
        subst he
        obtain ⟨s1, h8, h9⟩ := bind_some' h7
        cases h9
        obtain ⟨hd, hq⟩ := need_ok h8 ho
        have hd' : (∀ z ∈ lz, 0 ≤ z) ∧ l ≤ len ∧ start + len ≤ bd.count ei.size := by simpa using hd
        refine ⟨hq, fun L w hO => ?_⟩
        have hrun : ∀ L', L' = L → (Instr.sliceAt t (x := (V.osv b ei.size base start len).den L') ((some lov).map (V.den L')) ((none : Option V).map (V.den L')) none).run P w = .ok ((V.osv b ei.size (cond (Nat.beq l 0) base start) (start + l) (len - l)).den L') w := by
          intro L' hL'
          subst hL'
          obtain ⟨q1, q2, q3, q4⟩ := hO.ob b (by simp [sliceRd]) _ hg
          have hcap : (L' b).len ≤ (L' b).cap := by
            rcases q4 with ⟨q5, q6, q7⟩ | ⟨k, cur, q5, qh, q7, q8, q9, q10⟩
            · omega
            · exact q7
          have := run_bounds (P := P) (isS := true) (len := len) (cap := (L' b).cap - start) (lo := some lov) (hi := none) (hz := none) (h := len) h5 rfl hd'.1 (by simp) hd'.2.1 (by omega) L' w
          rcases q4 with ⟨q5, q6, q7⟩ | ⟨k, cur, q5, qh, q7, q8, q9, q10⟩
          · simp only [Instr.sliceAt, Instr.slice, V.den, q5, Sem.run_bind, run_und hu, Result.andThen_ok, Sem.run_pure, this, run_sizeOf' hie]
            have e0 : (L' b).cap - start - l = (L' b).cap - (start + l) := by omega
            simp [e0]
          · simp only [Instr.sliceAt, Instr.slice, V.den, q5, Sem.run_bind, run_und hu, Result.andThen_ok, Sem.run_pure, this, run_sizeOf' hie, hse]
            have e0 : (L' b).cap - start - l = (L' b).cap - (start + l) := by omega
            by_cases hl : l = 0
            · subst hl
              simp only [Nat.beq_refl, cond_true, Nat.add_zero, Nat.sub_zero, Nat.zero_mul]
              by_cases hn : (L' b).cap - start = 0
              · simp [hn, addr_add]
              · simp [hn, addr_add]
            · rw [beq_false_of hl, cond_false]
              have hne : (L' b).cap ≠ start := by omega
              by_cases hn : (L' b).cap - start = l
              · have h1 : (L' b).cap = start + l := by omega
                simp [hn, h1]
                omega
              · have h1 : (L' b).cap ≠ start + l := by omega
                simp only [if_neg hn, if_neg hne, if_neg h1, Option.map_some, addr_add, Nat.add_mul, e0]
        exact hrun L rfl
      · cases h6
    · cases h4
  · -- nil
    rename_i elem hkd
    rw [hkd] at hk
    cases hk
    obtain ⟨ei, hei, h2⟩ := bind_some' h1
    obtain ⟨⟨lz, l⟩, h4, h5⟩ := bind_some' h2
    obtain ⟨⟨hz, hh⟩, h6, h7⟩ := bind_some' h5
    obtain ⟨s1, h8, h9⟩ := bind_some' h7
    obtain ⟨_, c1, h10⟩ := bind_some' h9
    cases h10
    obtain ⟨ie, ze, de, hie, hse, hbe, hze, hzze, hue, hage, hke⟩ := (hE.ty _ _ hei).info
    obtain ⟨hd, hq⟩ := need_ok h8 ho
    have hd' : (∀ z ∈ lz, z = 0) ∧ (∀ z ∈ hz, z = 0) := by simpa using hd
    have hlh : l + hh = 0 := Nat.beq_eq.mp (chk_some c1)
    refine ⟨hq, fun L w _ => ?_⟩
    have hl : l = 0 := by omega
    have hhh : hh = 0 := by omega
    have := run_bounds (P := P) (isS := true) (len := 0) (cap := 0) h4 h6 (fun z hz => by rw [hd'.1 z hz]; exact Int.le_refl _) (fun z hz => by rw [hd'.2 z hz]; exact Int.le_refl _) (by omega) (by omega) L w
    simp only [Instr.sliceAt, Instr.slice, V.den, Sem.run_bind, run_und hu, Result.andThen_ok, Sem.run_pure, this, run_sizeOf' hie, hl, hhh]
    simp
  · cases h1

end
end Go.Sx
