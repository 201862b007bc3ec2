/- An empty slice is given a number. -/
import Derived.Test.YtmmcpgjfkphgaaaGreatSxZ
namespace Go.Sx
section
variable {P : Program}

def GhV (g es : Nat) (v v' : V) : Prop := v' = v ∨ (v = .nils ∧ v' = .osl g es)
inductive GhL (g es : Nat) : List V → List V → Prop
  | nil : GhL g es [] []
  | cons {v v' : V} {l l' : List V} : GhV g es v v' → GhL g es l l' → GhL g es (v :: l) (v' :: l')

theorem GhV.den {g es : Nat} {v v' : V} (h : GhV g es v v') {L : LM} (hg : L g = ⟨none, 0, 0, 0⟩) : v'.den L = v.den L := by
  rcases h with rfl | ⟨rfl, rfl⟩
  · rfl
  · simp [V.den, hg]
theorem GhL.den {g es : Nat} {l l' : List V} (h : GhL g es l l') {L : LM} (hg : L g = ⟨none, 0, 0, 0⟩) : l'.map (V.den L) = l.map (V.den L) ∧ l'.length = l.length := by
  induction h with
  | nil => exact ⟨rfl, rfl⟩
  | cons h1 _ ih => exact ⟨by simp only [List.map_cons, h1.den hg, ih.1], by simp only [List.length_cons, ih.2]⟩

theorem Asrt.ghost {β : Base} {fr : Frs} {T T' : Tr V} {H H' : Nat → Option Ob} {nx hi es : Nat} {a : Cf} {b : Body} {t : TypeId} (hA : Asrt β fr T [] H nx hi a) (hlt : nx < hi) (hβ : β.n0 ≤ nx) (hb : b.flat = []) (hc : b.count es = 0)
    (hg : H' nx = some (.mem b t (some es))) (hH : ∀ m, m ≠ nx → H' m = H m ∨ ∃ cs cs' t op, H m = some (.mem (.cells cs) t op) ∧ H' m = some (.mem (.cells cs') t op) ∧ GhL nx es cs cs')
    (hT : ∀ u, GhV nx es ((T.get u).getD undefV) ((T'.get u).getD undefV)) : Asrt β fr T' [] H' (nx + 1) hi a := by
  obtain ⟨D, L, hSR, hC, hD, hk, hf, h0⟩ := hA
  have hnD : ¬ D nx := fun h => by rcases hD nx h with h | h <;> omega
  obtain ⟨L1, hL1⟩ : ∃ L1 : LM, L1 = fun m => if m = nx then ⟨none, 0, 0, 0⟩ else L m := ⟨_, rfl⟩
  have hag : ∀ L', Agree (fun m => D m ∨ m = nx) L1 L' → Agree D L L' ∧ L' nx = ⟨none, 0, 0, 0⟩ := by
    intro L' hL'
    refine ⟨fun m hm => ?_, ?_⟩
    · have h1 := hL' m (.inl hm)
      have hne : m ≠ nx := fun e => hnD (e ▸ hm)
      rw [hL1] at h1
      simp only [if_neg hne] at h1
      exact h1
    · have h1 := hL' nx (.inr rfl)
      rw [hL1] at h1
      simp only [if_true] at h1
      exact h1.symm
  have hob : ∀ m o, m ≠ nx → H' m = some o → ∃ oo, H m = some oo ∧ oo.isRo = o.isRo ∧ ∀ (L' : LM) (w : World), L' nx = ⟨none, 0, 0, 0⟩ → ObR L' w m oo → ObR L' w m o := by
    intro m o hm ho
    rcases hH m hm with h1 | ⟨cs, cs', t', op, h1, h2, h3⟩
    · exact ⟨o, by rw [← h1]; exact ho, rfl, fun _ _ _ h => h⟩
    · rw [h2] at ho
      cases ho
      refine ⟨_, h1, rfl, fun L' w hg' hR => ?_⟩
      obtain ⟨e1, e2⟩ := h3.den hg'
      have e3 : cellsOf L' (.cells cs') = cellsOf L' (.cells cs) := e1
      cases op with
      | none => simp only [ObR] at hR ⊢; rw [e3]; exact hR
      | some es' =>
        simp only [ObR] at hR ⊢
        rw [e3]
        have e4 : (Body.cells cs').count es' = (Body.cells cs).count es' := by simp only [Body.count, e2]
        have e5 : (Body.cells cs').flat.length = (Body.cells cs).flat.length := e2
        rw [e4, e5]; exact hR
  refine ⟨fun m => D m ∨ m = nx, L1, ?_, ?_, ?_, hk, ?_, fun m hm => ⟨.inl (h0 m hm).1, ?_⟩⟩
  · intro L' hL'
    obtain ⟨g1, g2⟩ := hag L' hL'
    have hR := hSR L' g1
    refine ⟨fun m o ho => ?_, fun n m on om hn hm hne hr hbl => ?_⟩
    · by_cases hm : m = nx
      · subst hm
        rw [hg] at ho
        cases ho
        refine ⟨by rw [g2], by rw [g2, hc], by rw [g2, hb]; simp, .inl ⟨by rw [g2], by rw [g2], by rw [g2]⟩⟩
      · obtain ⟨oo, h1, _, h2⟩ := hob m o hm ho
        exact h2 L' _ g2 (hR.ob m oo h1)
    · by_cases h1 : n = nx
      · subst h1; rw [g2] at hbl; exact absurd rfl hbl
      · by_cases h2 : m = nx
        · subst h2; rw [g2]; exact hbl
        · obtain ⟨o1, e1, e2, _⟩ := hob n on h1 hn
          obtain ⟨o2, e3, _, _⟩ := hob m om h2 hm
          exact hR.inj n m o1 o2 e1 e3 hne (by rw [e2]; exact hr) hbl
  · intro L' hL'
    obtain ⟨g1, g2⟩ := hag L' hL'
    obtain ⟨⟨c1, c2⟩, c3, c4⟩ := hC L' g1
    exact ⟨⟨c1, fun u => by rw [(hT u).den g2]; exact c2 u⟩, c3, c4⟩
  · intro n hn
    rcases hn with hn | rfl
    · rcases hD n hn with h | h
      · exact .inl (by omega)
      · exact .inr h
    · exact .inl (by omega)
  · intro n o b' ho hr hbl
    by_cases h1 : n = nx
    · rw [hL1] at hbl; simp only [if_pos h1] at hbl; cases hbl
    · obtain ⟨o1, e1, e2, _⟩ := hob n o h1 ho
      rw [hL1] at hbl
      simp only [if_neg h1] at hbl
      exact hf n o1 b' e1 (by rw [e2]; exact hr) hbl
  · rw [hL1]
    have : m ≠ nx := by omega
    simp only [if_neg this]
    exact (h0 m hm).2

end
end Go.Sx
