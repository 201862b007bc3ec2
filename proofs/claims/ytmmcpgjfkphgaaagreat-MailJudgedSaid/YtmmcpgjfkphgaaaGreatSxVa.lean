/- A call that is known over a small memory, laid into a great one: what is there may be written. -/
import Derived.Test.YtmmcpgjfkphgaaaGreatSxZ
namespace Go.Sx
section
variable {P : Program}

theorem renV_lt {n0 : Nat} {π π' : Nat → Nat} (h : ∀ m, m < n0 → π' m = π m) (v : V) (hv : v.names (fun n => decide (n < n0)) = true) : v.ren π' = v.ren π :=
  ren_names (p := fun n => decide (n < n0)) (fun n hn => h n (by simpa using hn)) v hv

theorem embedW {f : FuncId} {ac : List V} {n0 n1 : Nat} {Hc Hc' : Nat → Option Ob} {vc : V} (h : CallH P f ac n0 Hc vc n1 Hc') (hle : n0 ≤ n1)
    (hsup : ∀ m, n0 ≤ m → Hc m = none) (hall : ∀ m o, Hc m = some o → o.plain = true ∧ o.names (fun n => decide (n < n0)) = true)
    (hnew : ∀ m o, Hc' m = some o → o.plain = true ∧ m < n1) (hac : ∀ v ∈ ac, v.names (fun n => decide (n < n0)) = true)
    {s s' : St} {args : List V} {v : V} (π : Nat → Nat) (hlive : ∀ m, m < n0 → ∃ o, s.H.get (π m) = some o) (hπ : ∀ m o, Hc m = some o → s.H.get (π m) = some (o.ren π)) (hinj : ∀ m n om on, Hc m = some om → Hc n = some on → m ≠ n → π m ≠ π n)
    (hargs : args = ac.map (V.ren π)) (hv : v = vc.ren (ext π n0 s.nx)) (hnx : s'.nx = s.nx + (n1 - n0))
    (hHn : ∀ n, s.nx ≤ n → n < s'.nx → s'.H.get n = (Hc' (n - s.nx + n0)).map (Ob.ren (ext π n0 s.nx)))
    (hHo : ∀ m o, Hc m = some o → s'.H.get (π m) = (Hc' m).map (Ob.ren (ext π n0 s.nx)))
    (hHr : ∀ n, ¬ (s.nx ≤ n ∧ n < s'.nx) → (∀ m o, Hc m = some o → n ≠ π m) → s'.H.get n = s.H.get n) : CallOK P f args s v s' := by
  intro D L w kind cs av hSR hav hD
  have hlt : ∀ m o, Hc m = some o → m < n0 := fun m o ho => Nat.lt_of_not_le fun hle => by rw [hsup m hle] at ho; cases ho
  have hDπ : ∀ m, m < n0 → D (π m) := fun m hm => by obtain ⟨o, ho⟩ := hlive m hm; exact hSR.live ho
  have hout : ∀ n, D n → ¬ (s.nx ≤ n ∧ n < s'.nx) := fun n hn => by rcases hD n hn with h | h <;> omega
  have hSRc : SR (fun n => n < n0) (fun n => L (π n)) Hc w := by
    refine hSR.take (fun m hm => hDπ m hm) (fun m o ho => ?_) (fun m o L1 L2 ho hA hR => ?_) (fun m n om on hm hn _ hne => hinj m n om on hm hn hne)
    · exact ⟨(hall m o ho).1, hlt m o ho, hπ m _ ho⟩
    · exact ObR_names (names_lt hA) (by simpa using hlt m o ho) (hall m o ho).2 hR
  obtain ⟨L1, w', val, M, S, hval, fr', hst, hlv⟩ := h (fun n => L (π n)) w kind cs av hSRc (by
    intro L' hL'
    rw [hav L (.refl _ _), hargs, List.map_map]
    refine List.map_congr_left fun v hv => ?_
    rw [Function.comp, den_ren]
    exact den_names (names_lt hL') v (hac v hv))
  obtain ⟨π', hπ'⟩ : ∃ π', π' = ext π n0 s.nx := ⟨_, rfl⟩
  rw [← hπ'] at hv hHn hHo
  have hπlt : ∀ m, m < n0 → π' m = π m := fun m hm => by rw [hπ']; simp [ext, hm]
  have hπge : ∀ m, n0 ≤ m → π' m = s.nx + (m - n0) := fun m hm => by rw [hπ']; simp [ext, Nat.not_lt.2 hm]
  have hren : ∀ m o, Hc m = some o → o.ren π' = o.ren π := by
    intro m o ho
    obtain ⟨h2, h3⟩ := hall m o ho
    cases o with
    | mem b t op =>
      cases b with
      | cells cs =>
        simp only [Ob.names, Body.names] at h3
        simp only [Ob.ren, Body.ren]
        congr 2
        have : ∀ l : List V, V.namesL (fun n => decide (n < n0)) l = true → V.renL π' l = V.renL π l := by
          intro l
          induction l with
          | nil => intro _; rfl
          | cons v l ih => intro hl; simp only [V.namesL, Bool.and_eq_true] at hl; simp only [V.renL, renV_lt hπlt v hl.1, ih hl.2]
        exact this cs h3
      | words k ws => rfl
      | rows sh rs => rfl
    | ro k ws => rfl
    | loop => cases h2
    | deferred => cases h2
  obtain ⟨L', hL'⟩ : ∃ L' : LM, L' = fun n => if s.nx ≤ n ∧ n < s'.nx then L1 (n - s.nx + n0) else L n := ⟨_, rfl⟩
  have hL'old : ∀ n, ¬ (s.nx ≤ n ∧ n < s'.nx) → L' n = L n := fun n hn => by rw [hL']; simp only [if_neg hn]
  have hL'new : ∀ m, n0 ≤ m → m < n1 → L' (π' m) = L1 m := fun m h1 h2 => by
    rw [hL', hπge m h1]
    have : s.nx ≤ s.nx + (m - n0) ∧ s.nx + (m - n0) < s'.nx := ⟨by omega, by omega⟩
    simp only [if_pos this]
    congr 1; omega
  have hagr : Agree D L L' := fun n hn => (hL'old n (hout n hn)).symm
  have hL1 : ∀ m, m < n1 → L1 m = L' (π' m) := by
    intro m hm
    by_cases h1 : m < n0
    · rw [hπlt m h1, hL'old _ (hout _ (hDπ m h1)), ← M.agree m h1]
    · exact (hL'new m (by omega) hm).symm
  -- what stands for something behind
  have himg : ∀ n o, s'.H.get n = some o → (∃ m oc, n = π' m ∧ m < n1 ∧ Hc' m = some oc ∧ o = oc.ren π') ∨ (s.H.get n = some o ∧ (∀ m o, Hc m = some o → n ≠ π m) ∧ ¬ (s.nx ≤ n ∧ n < s'.nx)) := by
    intro n o ho
    by_cases hn : s.nx ≤ n ∧ n < s'.nx
    · rw [hHn n hn.1 hn.2] at ho
      cases hc : Hc' (n - s.nx + n0) with
      | none => rw [hc] at ho; cases ho
      | some oc =>
        rw [hc] at ho
        cases ho
        exact .inl ⟨_, oc, by rw [hπge _ (by omega)]; omega, by omega, hc, rfl⟩
    · by_cases hi : ∃ m o, Hc m = some o ∧ n = π m
      · obtain ⟨m, om, hm, rfl⟩ := hi
        rw [hHo m om hm] at ho
        cases hc : Hc' m with
        | none => rw [hc] at ho; cases ho
        | some oc =>
          rw [hc] at ho
          cases ho
          have := hlt m om hm
          exact .inl ⟨m, oc, (hπlt m this).symm, by omega, hc, rfl⟩
      · have hi' : ∀ m o, Hc m = some o → n ≠ π m := fun m o hm e => hi ⟨m, o, hm, e⟩
        rw [hHr n hn hi'] at ho
        exact .inr ⟨ho, hi', hn⟩
  have hback : ∀ b, (∃ j oj, Hc j = some oj ∧ oj.isRo = false ∧ (L (π j)).blk = some b) → ∃ m om, s.H.get m = some om ∧ om.isRo = false ∧ (L m).blk = some b ∧ ∃ j oj, Hc j = some oj ∧ m = π j := by
    rintro b ⟨j, oj, h1, h2, h3⟩
    exact ⟨π j, _, hπ j oj h1, by rw [isRo_ren]; exact h2, h3, j, oj, h1, rfl⟩
  have hMv : Mv D L s.H.get w L' s'.H.get w' := by
    refine ⟨hagr, M.size, fun b hb hn => ?_, fun n o b ho hr hb => ?_, M.os, M.tape, M.output, fun n o ho hr => ?_⟩
    · exact M.frame b hb fun m o ho hr hbl => hn (π m) _ (hπ m o ho) (by rw [isRo_ren]; exact hr) hbl
    · rcases himg n o ho with ⟨m, oc, rfl, hm, hc, rfl⟩ | ⟨h1, h2, h3⟩
      · rw [isRo_ren] at hr
        rw [← hL1 m hm] at hb
        rcases M.sub m oc b hc hr hb with h4 | h4
        · exact .inl h4
        · obtain ⟨m', om, g1, g2, g3, _⟩ := hback b h4
          exact .inr ⟨m', om, g1, g2, g3⟩
      · rw [hL'old n h3] at hb
        exact .inr ⟨n, o, h1, hr, hb⟩
    · rcases himg n o ho with ⟨m, oc, rfl, hm, hc, rfl⟩ | ⟨h1, h2, h3⟩
      · rw [isRo_ren] at hr
        have h4 := M.ro m oc hc hr
        rw [hπlt m (hlt m oc h4), hren m oc h4]
        exact hπ m oc h4
      · exact h1
  have hcore : ∀ L'', Agree (Grow D s.nx s'.nx) L' L'' → (∀ n, D n → L'' n = L n) ∧ Agree (fun m => m < n1) L1 (fun m => L'' (π' m)) := by
    intro L'' hL''
    have hA : ∀ n, D n → L'' n = L n := fun n hn => by rw [← hL'' n (.inl hn)]; exact (hagr n hn).symm
    refine ⟨hA, fun m hm => ?_⟩
    have hm : m < n1 := hm
    by_cases h1 : m < n0
    · simp only [hπlt m h1, hA _ (hDπ m h1), ← M.agree m h1]
    · have h2 : Grow D s.nx s'.nx (π' m) := .inr (by rw [hπge m (by omega)]; exact ⟨by omega, by omega⟩)
      show L1 m = L'' (π' m)
      rw [← hL'' _ h2]
      exact hL1 m hm
  refine ⟨L', w', val, hMv, ?_, ?_, fr', hst, hlv⟩
  · intro L'' hL''
    obtain ⟨hA, hA1⟩ := hcore L'' hL''
    have hc := S _ hA1
    have ho0 := hSR L'' (fun n hn => (hA n hn).symm)
    refine ⟨fun n o ho => ?_, fun n m on om hn hm hne hr hb => ?_⟩
    · rcases himg n o ho with ⟨m, oc, rfl, hm, hcm, rfl⟩ | ⟨h1, h2, h3⟩
      · exact (ObR_ren (hnew m oc hcm).1).2 (hc.ob m oc hcm)
      · have hDn := hSR.live h1
        refine (ho0.ob n o h1).keep M.size fun b hb hbl => M.frame b hbl fun j oj hj hjr hjb => ?_
        have hne : π j ≠ n := fun e => h2 j oj hj e.symm
        have := ho0.inj (π j) n _ _ (hπ j oj hj) h1 hne (by rw [isRo_ren]; exact hjr) (by rw [hA _ (hDπ j (hlt j oj hj)), hjb]; simp)
        rw [hA _ (hDπ j (hlt j oj hj)), hjb, hb] at this
        exact this rfl
    · intro heq
      -- two blocks, one of an old number that is no image
      have mix : ∀ (n : Nat) (on om : Ob) (j : Nat), s.H.get n = some on → (∀ i o, Hc i = some o → n ≠ π i) → Hc' j = some om → j < n1 → (on.isRo = false ∨ om.isRo = false) → (L'' n).blk ≠ none → (L'' n).blk ≠ (L'' (π' j)).blk := by
        intro n on om j hn hni hj hjlt hrr hbn he
        have hDn := hSR.live hn
        cases hb : (L'' n).blk with
        | none => exact hbn hb
        | some b =>
          have hblt := (ho0.ob n on hn).blk_lt hb
          rw [hb] at he
          cases hr : om.isRo with
          | true =>
            rcases hrr with h1 | h1
            · have h2 : Hc j = some om := M.ro j om hj hr
              have hj0 := hlt j om h2
              have h3 := ho0.inj n (π j) _ _ hn (hπ j om h2) (hni j om h2) h1 hbn
              rw [hπlt j hj0] at he
              exact h3 (by rw [hb, he])
            · rw [hr] at h1; cases h1
          | false =>
            have hb1 : (L1 j).blk = some b := by rw [hA1 j hjlt]; exact he.symm
            rcases M.sub j om b hj hr hb1 with h4 | h4
            · omega
            · obtain ⟨m', om', g1, g2, g3, i, oi, hi, rfl⟩ := hback b h4
              have hilt := hlt i oi hi
              have h3 := ho0.inj (π i) n _ _ g1 hn (fun e => hni i oi hi e.symm) g2 (by rw [hA _ (hDπ i hilt), g3]; simp)
              rw [hA _ (hDπ i hilt), g3, hb] at h3
              exact h3 rfl
      rcases himg n on hn with ⟨j, oc, rfl, hj, hcj, rfl⟩ | ⟨h1, h2, h3⟩
      · rw [isRo_ren] at hr
        rcases himg m om hm with ⟨i, od, rfl, hi, hci, rfl⟩ | ⟨g1, g2, g3⟩
        · exact hc.inj j i oc od hcj hci (fun e => hne (by rw [e])) hr hb heq
        · exact mix m om oc j g1 g2 hcj hj (.inr hr) (by rw [← heq]; exact hb) heq.symm
      · rcases himg m om hm with ⟨i, od, rfl, hi, hci, rfl⟩ | ⟨g1, g2, g3⟩
        · exact mix n on od i h1 h2 hci hi (.inl hr) hb heq
        · exact ho0.inj n m on om h1 g1 hne hr hb heq
  · intro L'' hL''
    obtain ⟨hA, hA1⟩ := hcore L'' hL''
    rw [hval _ hA1, hv, den_ren]
end
end Go.Sx
