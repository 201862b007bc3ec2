/- Slices: made, appended to, cut. -/
import Derived.Test.YtmmcpgjfkphgaaaGreatSxH
namespace Go.Sx
section
variable {P : Program} {E : Env}

theorem ints_ok {k : IntKind} : ∀ {vs : List V} {l : List Int}, ints k vs = some l → vs = l.map (V.int k) := by
  intro vs
  induction vs with
  | nil => intro l h; simp only [ints] at h; cases h; rfl
  | cons v vs ih =>
    intro l h
    simp only [ints] at h
    split at h
    · rename_i k' n
      obtain ⟨_, h0, h1⟩ := bind_some' h
      obtain ⟨r, hr, h2⟩ := bind_some' h1
      cases h2
      have hk : k = k' := by simpa using chk_some h0
      subst hk
      simp [ih hr]
    · cases h

theorem rowOf_ok : ∀ {sh : List Sh} {vs rest : List V} {l : List Int}, rowOf sh vs = some (l, rest) → vs = shRow sh l ++ rest := by
  intro sh
  induction sh with
  | nil => intro vs rest l h; simp only [rowOf] at h; cases h; rfl
  | cons s ss ih =>
    intro vs rest l h
    cases vs with
    | nil => simp [rowOf] at h
    | cons v vs =>
      simp only [rowOf] at h
      obtain ⟨n, hn, h1⟩ := bind_some' h
      obtain ⟨⟨l', r'⟩, hr, h2⟩ := bind_some' h1
      cases h2
      rw [ih hr]
      simp [shRow, Sh.of_mk hn]
theorem rowsOf_ok : ∀ {n : Nat} {sh : List Sh} {vs : List V} {l : List (List Int)}, rowsOf sh n vs = some l → vs = l.flatMap (shRow sh) ∧ l.length = n := by
  intro n
  induction n with
  | zero =>
    intro sh vs l h
    cases vs with
    | nil => simp only [rowsOf] at h; cases h; exact ⟨rfl, rfl⟩
    | cons v vs => simp [rowsOf] at h
  | succ n ih =>
    intro sh vs l h
    simp only [rowsOf] at h
    obtain ⟨⟨r, rest⟩, hr, h1⟩ := bind_some' h
    obtain ⟨l', hl, h2⟩ := bind_some' h1
    cases h2
    obtain ⟨g1, g2⟩ := ih hl
    simp only at g1
    rw [rowOf_ok hr, g1]
    exact ⟨by simp, by simp [g2]⟩

theorem mkBody_ok {r : RowK} {n es : Nat} {cs : List V} {b : Body} (h : mkBody r n cs = some b) (hl : cs.length = n * es) (hes : 0 < es)
    (hr : ∀ k, r = .words k → es = 1) : b.flat = cs ∧ b.count es = n := by
  unfold mkBody at h
  split at h
  · obtain ⟨l, h1, h2⟩ := bind_some' h
    cases h2
    have := ints_ok h1
    have hr := hr _ rfl
    subst hr
    refine ⟨this.symm, ?_⟩
    simp only [Body.count]
    rw [this] at hl; simpa using hl
  · obtain ⟨l, h1, h2⟩ := bind_some' h
    cases h2
    obtain ⟨g1, g2⟩ := rowsOf_ok h1
    exact ⟨g1.symm, g2⟩
  · cases h
    refine ⟨rfl, ?_⟩
    simp only [Body.count]
    by_cases h1 : es = 1
    · subst h1; simp [hl]
    · rw [beq_false_of h1, cond_false, hl]; exact Nat.mul_div_cancel _ hes

theorem repeatV_length (z : List V) : ∀ n, (repeatV z n).length = n * z.length := by
  intro n
  induction n with
  | zero => simp [repeatV]
  | succ n ih => simp only [repeatV, List.length_append, ih, Nat.succ_mul]; omega
theorem repeatV_get (z : List V) (hz : 0 < z.length) : ∀ n i, i < n * z.length → (repeatV z n)[i]? = z[i % z.length]? := by
  intro n
  induction n with
  | zero => intro i hi; simp at hi
  | succ n ih =>
    intro i hi
    simp only [repeatV]
    rw [Nat.succ_mul] at hi
    by_cases h : i < z.length
    · rw [List.getElem?_append_left h, Nat.mod_eq_of_lt h]
    · rw [List.getElem?_append_right (by omega), ih _ (by omega)]
      rw [show i % z.length = (i - z.length) % z.length from by rw [← Nat.mod_eq_sub_mod (by omega)]]

theorem madeCells_eq (L : LM) (z : List V) (zc : Array Value) (hzc : zc.toList = z.map (V.den L)) (n : Nat) (hz : 0 < z.length) :
    (madeCells zc (n * z.length)).toList = (repeatV z n).map (V.den L) := by
  have hs : zc.size = z.length := by rw [← Array.length_toList, hzc, List.length_map]
  apply List.ext_getElem?
  intro i
  simp only [madeCells, Array.toList_map, List.getElem?_map, Array.toList_range]
  by_cases hi : i < n * z.length
  · rw [List.getElem?_range hi, repeatV_get z hz n i hi]
    have hm : i % z.length < z.length := Nat.mod_lt _ hz
    simp only [Option.map_some, hs]
    rw [List.getElem?_eq_getElem hm]
    simp only [Option.map_some]
    congr 1
    rw [getElem!_pos zc _ (by rw [hs]; exact hm)]
    have h1 : zc.toList[i % z.length]? = some (zc[i % z.length]'(by rw [hs]; exact hm)) := by simp
    rw [hzc, List.getElem?_map, List.getElem?_eq_getElem hm] at h1
    simpa using h1.symm
  · rw [List.getElem?_eq_none (by simp; omega), List.getElem?_eq_none (by rw [repeatV_length]; omega)]; rfl

/-- A new row of a slice. -/
theorem made_ok {D : Nat → Prop} {L : LM} {s s' : St} {w w0 : World} {b : Body} {elem : TypeId} {es n c m : Nat} {arr : Array Value} (hnew : s.new (.mem b elem (some es)) = some (m, s')) (hSR : SR D L s.H.get w)
    (hD : ∀ n, D n → n < s.nx ∨ s'.nx ≤ n) (hw0 : w0.heap = w.heap ∧ w0.os = w.os ∧ w0.tape = w.tape ∧ w0.output = w.output) (hcount : b.count es = n) (hflen : b.flat.length = n * es) (hnc : n ≤ c) (hc : c ≤ maxLen)
    (hsz : arr.size = c * es) (hcells : ∀ L', Agree D L L' → arr.toList.take (n * es) = cellsOf L' b) :
    ∃ L', Mv D L s.H.get w L' s'.H.get (w0.alloc (.cells arr elem)) ∧ SR (Grow D s.nx s'.nx) L' s'.H.get (w0.alloc (.cells arr elem)) ∧
      (∀ L'', Agree (Grow D s.nx s'.nx) L' L'' → .slice (some ⟨w.heap.size, 0, none⟩) n c = (V.osl m es).den L'') := by
  obtain ⟨n1, n2, n3, n4, n5⟩ := new_ok hnew
  subst n1
  have hD' : ¬ D s.nx := fun hh => by rcases hD _ hh with h | h <;> omega
  have hnx : ∀ L'', Agree (Grow D s.nx (s.nx + 1)) (fun m => if m = s.nx then (⟨some w.heap.size, 0, n, c⟩ : LI) else L m) L'' → L'' s.nx = ⟨some w.heap.size, 0, n, c⟩ := by
    intro L'' h
    have := h s.nx (.inr ⟨Nat.le_refl _, Nat.lt_succ_self _⟩)
    simpa using this.symm
  have h1 := alloc_mv (D := D) (L := L) (w := w) (w0 := w0) (nx := s.nx) (o := .mem b elem (some es)) (x := .cells arr elem) (li := ⟨some w.heap.size, 0, n, c⟩) rfl hSR hD' n5 hw0 rfl (by
    intro L' hL'
    have hag : Agree D L L' := fun k hk => by
      have := hL' k (.inl hk)
      have hne : k ≠ s.nx := fun e => hD' (e ▸ hk)
      simpa [hne] using this
    have hl := hnx L' hL'
    refine ⟨by rw [hl], by rw [hl]; exact hcount, by rw [hl]; exact hflen, .inr ⟨w.heap.size, arr, by rw [hl], ?_, by rw [hl]; exact hnc, by rw [hl]; exact hc, by rw [hl]; exact hsz, by rw [hl]; exact hcells L' hag⟩⟩
    rw [← hw0.1]
    exact heap_alloc_new w0 _)
  rw [n2]
  exact ⟨_, h1.1, h1.2, fun L'' hL'' => by simp [V.den, hnx L'' hL'']⟩

/-- A new block that is known whole. -/
theorem boxed_ok {D : Nat → Prop} {L : LM} {s s' : St} {w : World} {b : Body} {t : TypeId} {m : Nat} {arr : Array Value} (hnew : s.new (.mem b t none) = some (m, s')) (hSR : SR D L s.H.get w)
    (hD : ∀ n, D n → n < s.nx ∨ s'.nx ≤ n) (hcells : ∀ L', Agree D L L' → arr.toList = cellsOf L' b) :
    ∃ L', Mv D L s.H.get w L' s'.H.get (w.alloc (.cells arr t)) ∧ SR (Grow D s.nx s'.nx) L' s'.H.get (w.alloc (.cells arr t)) ∧
      (∀ L'', Agree (Grow D s.nx s'.nx) L' L'' → .pointer (some ⟨w.heap.size, 0, none⟩) = (V.ptr m 0 0 0).den L'') := by
  obtain ⟨n1, n2, n3, n4, n5⟩ := new_ok hnew
  subst n1
  have hD' : ¬ D s.nx := fun hh => by rcases hD _ hh with h | h <;> omega
  have hnx : ∀ L'', Agree (Grow D s.nx (s.nx + 1)) (fun m => if m = s.nx then (⟨some w.heap.size, 0, 0, 0⟩ : LI) else L m) L'' → L'' s.nx = ⟨some w.heap.size, 0, 0, 0⟩ := by
    intro L'' h
    have := h s.nx (.inr ⟨Nat.le_refl _, Nat.lt_succ_self _⟩)
    simpa using this.symm
  have h1 := alloc_mv (D := D) (L := L) (w := w) (w0 := w) (nx := s.nx) (o := .mem b t none) (x := .cells arr t) (li := ⟨some w.heap.size, 0, 0, 0⟩) rfl hSR hD' n5 ⟨rfl, rfl, rfl, rfl⟩ rfl (by
    intro L' hL'
    have hag : Agree D L L' := fun k hk => by
      have := hL' k (.inl hk)
      have hne : k ≠ s.nx := fun e => hD' (e ▸ hk)
      simpa [hne] using this
    have hl := hnx L' hL'
    refine ⟨w.heap.size, by rw [hl], by rw [hl], ?_⟩
    rw [← hcells L' hag]
    exact heap_alloc_new w _)
  rw [n2]
  exact ⟨_, h1.1, h1.2, fun L'' hL'' => by simp [V.den, hnx L'' hL'']⟩

theorem evs_agree {T : Tr V} {D : Nat → Prop} {L : LM} {ρ : Operand → Value} {xs : List Operand} {vs : List V} (h : evs T xs = some vs)
    (hr : ∀ x ∈ xs, ∀ u, ev T x = some u → ∀ L', Agree D L L' → ρ x = u.den L') : ∀ L', Agree D L L' → xs.map ρ = vs.map (V.den L') :=
  fun L' hL' => evs_map h (fun x hx u hu => hr x hx u hu L' hL')

theorem fill_size (place : Nat → Option (Nat × Nat)) : ∀ (ps : List (Nat × V)) (cs cs' : List V), fillX place cs ps = some cs' → cs'.length = cs.length :=
  fun ps cs cs' h => (fillX_ok (fun _ => ⟨none, 0, 0, 0⟩) place place (fun _ _ h => h) ps cs cs' h).1

theorem buildSliceX_ok (hE : EnvOK P E) {t : TypeId} {len : Nat} {ps : List (Nat × V)} {v : V} {s s' : St} (h : buildSliceX E t len ps s = some (v, s')) (ho : Obl s') :
    Lg s s' ∧ Obl s ∧ ∀ (D : Nat → Prop) (L : LM) (w : World) (pv : Array (Nat × Value)), (∀ L', Agree D L L' → pv.toList = ps.map fun p => (p.1, p.2.den L')) → SR D L s.H.get w → (∀ n, D n → n < s.nx ∨ s'.nx ≤ n) →
      ∃ L' w' val, Mv D L s.H.get w L' s'.H.get w' ∧ SR (Grow D s.nx s'.nx) L' s'.H.get w' ∧ (∀ L'', Agree (Grow D s.nx s'.nx) L' L'' → val = v.den L'') ∧ (Instr.buildSlice t len pv).run P w = .ok val w' := by
  unfold buildSliceX at h
  obtain ⟨ti, hti, h1⟩ := bind_some' h
  clear h
  obtain ⟨i, zv, d, hi, hs, hb, hzv, hzz, hu, hag, hk⟩ := (hE.ty _ _ hti).info
  split at h1
  · rename_i elem hkd
    rw [hkd] at hk
    cases hk
    obtain ⟨ei, hei, h2⟩ := bind_some' h1
    obtain ⟨_, c1, h3⟩ := bind_some' h2
    obtain ⟨_, c2, h4⟩ := bind_some' h3
    obtain ⟨z, hz, h5⟩ := bind_some' h4
    obtain ⟨_, c3, h6⟩ := bind_some' h5
    obtain ⟨cs, hcs, h7⟩ := bind_some' h6
    obtain ⟨b, hbd, h8⟩ := bind_some' h7
    obtain ⟨⟨m, s1⟩, hnew, h9⟩ := bind_some' h8
    cases h9
    clear h1 h2 h3 h4 h5 h6 h7 h8
    have hTe := hE.ty _ _ hei
    obtain ⟨ie, ze, de, hie, hse, hbe, hze, hzze, hue, hage, hke⟩ := hTe.info
    have hle : len * ei.size ≤ 16777216 := Nat.ble_eq.mp (chk_some c1)
    have hes : 0 < ei.size := Nat.blt_eq.mp (chk_some c2)
    have hzl : z.length = ei.size := Nat.beq_eq.mp (chk_some c3)
    obtain ⟨n1, n2, n3, n4, n5⟩ := new_ok hnew
    have hcl : cs.length = len * ei.size := by rw [fill_size _ _ _ _ hcs, repeatV_length, hzl]
    obtain ⟨hf, hc⟩ := mkBody_ok hbd hcl hes (fun k hk => by
      have := hTe.row
      rw [hk] at this
      exact this.1)
    refine ⟨Lg.new hnew, fun x hx => ho x (by rw [n4]; exact hx), fun D L w pv hpv hSR hD => ?_⟩
    have hD' : ¬ D s.nx := fun hh => by rcases hD _ hh with h | h <;> omega
    have hzc : ∀ L, ze.cells.toList = z.map (V.den L) := fun L => by rw [hzze L, cellsOf, zeros_eq hz]
    have hcells : ∀ L', Agree D L L' → (Instr.fill (fun i => some (i * ie.size, ie.size)) (madeCells ze.cells (len * ie.size)) pv.toList) = some (cs.map (V.den L')).toArray := by
      intro L' hL'
      rw [hpv L' hL']
      have h10 := (fillX_ok L' _ (fun i => some (i * ie.size, ie.size)) (fun i x hx => by cases hx; rw [hse]; rfl) ps _ cs hcs).2
      rw [← h10]
      congr 1
      apply Array.ext'
      rw [hse, ← hzl, madeCells_eq L' z _ (hzc L') len (by omega)]
    have hrun : (Instr.buildSlice t len pv).run P w = .ok (.slice (some ⟨w.heap.size, 0, none⟩) len len) (w.alloc (.cells (cs.map (V.den L)).toArray elem)) := by
      have h11 := hcells L (.refl _ _)
      have h12 : ¬ (len * ie.size > 2 ^ 24) := by rw [hse]; simp; omega
      have h13 : (Instr.fill (fun i => some (i * ie.size, ie.size)) ((Array.range (len * ie.size)).map (fun x => (if len * ie.size = 0 then #[] else ze.cells)[x % (if len * ie.size = 0 then #[] else ze.cells).size]!)) pv.toList) = some (cs.map (V.den L)).toArray := by
        rw [← h11]
        by_cases h0 : len * ie.size = 0
        · rw [if_pos h0]; unfold madeCells; rw [h0]; simp only [show Array.range 0 = #[] from rfl, Array.map_empty]
        · rw [if_neg h0]; rfl
      by_cases h0 : len * ie.size = 0
      · simp only [if_pos h0] at h13
        simp only [Instr.buildSlice, Sem.run_bind, run_und hu, Result.andThen_ok, run_sizeOf' hie, if_neg h12, if_pos h0, h13, newRow, run_newObj, Sem.run_pure, World.alloc_eq, Sem.run_ite]
      · simp only [if_neg h0] at h13
        simp only [Instr.buildSlice, Sem.run_bind, run_und hu, Result.andThen_ok, run_sizeOf' hie, if_neg h12, if_neg h0, run_zero' hie hze, h13, newRow, run_newObj, Sem.run_pure, World.alloc_eq, Sem.run_ite]
    have hfl : b.flat.length = len * ei.size := by rw [hf, hcl]
    have hlm : len ≤ maxLen := by
      have : len * 1 ≤ len * ei.size := Nat.mul_le_mul_left _ hes
      unfold maxLen; omega
    obtain ⟨L', g1, g2, g3⟩ := made_ok (w0 := w) (arr := (cs.map (V.den L)).toArray) hnew hSR hD ⟨rfl, rfl, rfl, rfl⟩ hc hfl (Nat.le_refl _) hlm (by simp [hcl]) (by
      intro L' hL'
      have e := hcells L' hL'
      rw [hcells L (.refl _ _)] at e
      have e2 : cs.map (V.den L) = cs.map (V.den L') := by simpa using e
      rw [e2]
      unfold cellsOf
      rw [hf, List.take_of_length_le (by simp [hcl])])
    exact ⟨L', _, _, g1, g2, g3, hrun⟩
  · cases h1

theorem repeatV_map {β : Type} (f : V → β) (z : List V) : ∀ n, (repeatV z n).map f = (List.replicate n (z.map f)).flatten := by
  intro n
  induction n with
  | zero => rfl
  | succ n ih => simp [repeatV, ih, List.replicate_succ]
theorem repeatV_take (z : List V) : ∀ l c, l ≤ c → (repeatV z c).take (l * z.length) = repeatV z l := by
  intro l
  induction l with
  | zero => intro c _; simp [repeatV]
  | succ l ih =>
    intro c h
    cases c with
    | zero => omega
    | succ c =>
      simp only [repeatV]
      rw [Nat.succ_mul, Nat.add_comm, List.take_length_add_append, ih c (by omega)]
theorem shRow_zeros : ∀ (sh : List Sh), shRow sh (List.replicate sh.length 0) = shRow sh [] := by
  intro sh
  induction sh with
  | nil => rfl
  | cons s ss ih => simp [List.replicate_succ, shRow, ih]

theorem makeSliceX_ok (hE : EnvOK P E) {t : TypeId} {l c v : V} {s s' : St} (h : makeSliceX E t l c s = some (v, s')) (ho : Obl s') :
    Lg s s' ∧ Obl s ∧ ∀ (D : Nat → Prop) (L : LM) (w : World) (lv cv : Value), (∀ L', Agree D L L' → lv = l.den L' ∧ cv = c.den L') → SR D L s.H.get w → (∀ n, D n → n < s.nx ∨ s'.nx ≤ n) →
      ∃ L' w' val, Mv D L s.H.get w L' s'.H.get w' ∧ SR (Grow D s.nx s'.nx) L' s'.H.get w' ∧ (∀ L'', Agree (Grow D s.nx s'.nx) L' L'' → val = v.den L'') ∧ (Instr.makeSlice t lv cv).run P w = .ok val w' := by
  unfold makeSliceX at h
  obtain ⟨ti, hti, h1⟩ := bind_some' h
  clear h
  obtain ⟨i, zv, d, hi, hs, hb, hzv, hzz, hu, hag, hk⟩ := (hE.ty _ _ hti).info
  split at h1
  · rename_i elem hkd
    rw [hkd] at hk
    cases hk
    obtain ⟨ei, hei, h2⟩ := bind_some' h1
    obtain ⟨lz, hlz, h3⟩ := bind_some' h2
    obtain ⟨cz, hcz, h4⟩ := bind_some' h3
    obtain ⟨_, c1, h5⟩ := bind_some' h4
    obtain ⟨_, c2, h6⟩ := bind_some' h5
    obtain ⟨s1, hnd, h7⟩ := bind_some' h6
    clear h1 h2 h3 h4 h5 h6
    obtain ⟨kl, rfl⟩ := asInt_ok hlz
    obtain ⟨kc, rfl⟩ := asInt_ok hcz
    have hTe := hE.ty _ _ hei
    obtain ⟨ie, ze, de, hie, hse, hbe, hze, hzze, hue, hage, hke⟩ := hTe.info
    have hes : 0 < ei.size := Nat.blt_eq.mp (chk_some c1)
    have hby : ei.bytes ≤ 1048576 := Nat.ble_eq.mp (chk_some c2)
    -- the body
    have key : ∃ b m, s1.new (.mem b elem (some ei.size)) = some (m, s') ∧ v = .osl m ei.size ∧ b.count ei.size = lz.toNat ∧ (∀ L, cellsOf L b = (repeatV ei.zb.flat lz.toNat).map (V.den L)) := by
      split at h7
      · rename_i k hrow
        obtain ⟨⟨m, s2⟩, hn, h8⟩ := bind_some' h7
        cases h8
        have hr := hTe.row
        rw [hrow] at hr
        refine ⟨_, m, hn, rfl, by simp [Body.count], fun L => ?_⟩
        rw [repeatV_map]
        have := hr.2 L
        unfold cellsOf at this
        rw [this]
        unfold cellsOf
        simp [Body.flat, V.den, List.map_replicate]
      · rename_i sh hrow
        obtain ⟨⟨m, s2⟩, hn, h8⟩ := bind_some' h7
        cases h8
        have hr := hTe.row
        rw [hrow] at hr
        refine ⟨_, m, hn, rfl, by simp [Body.count], fun L => ?_⟩
        rw [repeatV_map]
        have := hr.2 L
        unfold cellsOf at this
        rw [this]
        unfold cellsOf
        simp only [Body.flat]
        generalize lz.toNat = n
        induction n with
        | zero => rfl
        | succ n ih => simp [List.replicate_succ, shRow_zeros, ih]
      · rename_i hrow
        obtain ⟨z, hz, h8⟩ := bind_some' h7
        obtain ⟨_, c3, h9⟩ := bind_some' h8
        obtain ⟨⟨m, s2⟩, hn, h10⟩ := bind_some' h9
        cases h10
        have hzl : z.length = ei.size := Nat.beq_eq.mp (chk_some c3)
        refine ⟨_, m, hn, rfl, ?_, fun L => ?_⟩
        · simp only [Body.count]
          by_cases h1 : ei.size = 1
          · rw [h1, Nat.beq_refl, cond_true, repeatV_length, hzl, h1, Nat.mul_one]
          · rw [beq_false_of h1, cond_false, repeatV_length, hzl]; exact Nat.mul_div_cancel _ hes
        · rw [zeros_eq hz]; rfl
    obtain ⟨b, m, hnew, rfl, hcnt, hcells⟩ := key
    obtain ⟨n1, n2, n3, n4, n5⟩ := new_ok hnew
    obtain ⟨hd, hq⟩ := need_ok hnd (fun x hx => ho x (by rw [n4]; exact hx))
    have hd' : 0 ≤ lz ∧ lz ≤ cz ∧ cz ≤ 1048576 := by simpa using hd
    refine ⟨(Lg.of_same hq.1).trans (Lg.new hnew), hq.2, fun D L w lv cv hlc hSR hD => ?_⟩
    obtain ⟨rfl, rfl⟩ := hlc L (.refl _ _)
    have hbb : (ie.bytes : Int) * cz ≤ 281474976710656 := by
      rw [hbe]
      have h1 : (ei.bytes : Int) ≤ 1048576 := by omega
      have h2 : (ei.bytes : Int) * cz ≤ 1048576 * 1048576 := Int.mul_le_mul h1 hd'.2.2 (by omega) (by omega)
      omega
    have hrun := run_make (P := P) w t elem ie ze hu hie hze kl kc lz cz hd'.1 hd'.2.1 hbb (by omega)
    rw [← hq.1.H] at hSR
    have hfl : b.flat.length = lz.toNat * ei.size := by
      have := congrArg List.length (hcells L)
      simpa [cellsOf, repeatV_length, hTe.zlen] using this
    obtain ⟨L', g1, g2, g3⟩ := made_ok (w0 := w) (c := cz.toNat) (arr := madeCells ze.cells (cz.toNat * ie.size)) hnew hSR (by rw [hq.1.nx]; exact hD) ⟨rfl, rfl, rfl, rfl⟩ hcnt hfl (by omega) (by unfold maxLen; omega)
      (by rw [size_madeCells, hse]) (by
        intro L' _
        have := madeCells_eq L' ei.zb.flat ze.cells (hzze L') cz.toNat (by rw [hTe.zlen]; exact hes)
        rw [hTe.zlen] at this
        rw [hse, this, hcells L', ← List.map_take]
        have h2 := repeatV_take ei.zb.flat lz.toNat cz.toNat (by omega)
        rw [hTe.zlen] at h2
        rw [h2])
    rw [hq.1.H] at g1
    rw [hq.1.nx] at g2 g3
    exact ⟨L', _, _, g1, g2, g3, hrun⟩
  · cases h1

end
end Go.Sx
