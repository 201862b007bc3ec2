/- Rows of whole numbers that are handed on: nil, whole, or a part; a call that only reads them. -/
import Derived.Test.YtmmcpgjfkphgaaaGreatSxVa
import Derived.Test.YtmmcpgjfkphgaaaGreatSxZa
namespace Go.Sx
section
variable {P : Program}

/-- Numbers that stand for nothing are added. -/
structure Gh (s s' : St) (D : Nat → Prop) (L L' : LM) (w : World) : Prop where
  le : s.nx ≤ s'.nx
  agree : Agree D L L'
  sr : SR (Grow D s.nx s'.nx) L' s'.H.get w
  sub : ∀ n o b, s'.H.get n = some o → o.isRo = false → (L' n).blk = some b → ∃ m om, s.H.get m = some om ∧ om.isRo = false ∧ (L m).blk = some b
  ro : ∀ n o, s'.H.get n = some o → o.isRo = true → s.H.get n = some o

theorem Gh.of_same {s s' : St} {D : Nat → Prop} {L : LM} {w : World} (h : Same s s') (hSR : SR D L s.H.get w) : Gh s s' D L L w := by
  refine ⟨by rw [h.nx]; exact Nat.le_refl _, .refl _ _, ?_, fun n o b ho hr hb => ⟨n, o, by rw [← h.H]; exact ho, hr, hb⟩, fun n o ho _ => by rw [← h.H]; exact ho⟩
  rw [grow_self h.nx.symm, h.H]; exact hSR

theorem grow_grow {D : Nat → Prop} {a b c : Nat} (h1 : a ≤ b) (h2 : b ≤ c) : Grow (Grow D a b) b c = Grow D a c := by
  funext n
  apply propext
  simp only [Grow]
  constructor
  · rintro ((h | h) | h)
    · exact .inl h
    · exact .inr ⟨h.1, by omega⟩
    · exact .inr ⟨by omega, h.2⟩
  · rintro (h | h)
    · exact .inl (.inl h)
    · by_cases hb : n < b
      · exact .inl (.inr ⟨h.1, hb⟩)
      · exact .inr ⟨by omega, h.2⟩

theorem Gh.trans {s s1 s2 : St} {D : Nat → Prop} {L L1 L2 : LM} {w : World} (h : Gh s s1 D L L1 w) (k : Gh s1 s2 (Grow D s.nx s1.nx) L1 L2 w) : Gh s s2 D L L2 w := by
  refine ⟨Nat.le_trans h.le k.le, h.agree.trans (k.agree.mono fun n hn => .inl hn), ?_, fun n o b ho hr hb => ?_, fun n o ho hr => h.ro n o (k.ro n o ho hr) hr⟩
  · have := k.sr
    rw [grow_grow h.le k.le] at this
    exact this
  · obtain ⟨m, om, g1, g2, g3⟩ := k.sub n o b ho hr hb
    exact h.sub m om b g1 g2 g3

/-- A call behind it. -/
theorem CallOK.gh {f : FuncId} {args args' : List V} {s s1 s' : St} {v : V} (h : CallOK P f args' s1 v s') (hle : s.nx ≤ s1.nx) (hle' : s1.nx ≤ s'.nx)
    (hg : ∀ (D : Nat → Prop) (L : LM) (w : World), SR D L s.H.get w → (∀ n, D n → n < s.nx ∨ s1.nx ≤ n) → (∀ L', Agree D L L' → args.map (V.den L') = args.map (V.den L)) → ∃ L1, Gh s s1 D L L1 w ∧ ∀ L', Agree (Grow D s.nx s1.nx) L1 L' → args'.map (V.den L') = args.map (V.den L)) : CallOK P f args s v s' := by
  intro D L w kind cs av hSR hav hD
  obtain ⟨L1, g1, g2⟩ := hg D L w hSR (fun n hn => (hD n hn).imp id fun h => by omega) (fun L' hL' => by rw [← hav L' hL', ← hav L (.refl _ _)])
  obtain ⟨L', w', val, M, S, hv, fr', hst, hlv⟩ := h (Grow D s.nx s1.nx) L1 w kind cs av g1.sr (fun L' hL' => by rw [hav L (.refl _ _), g2 L' hL']) (fun n hn => by
    rcases hn with hn | hn
    · exact (hD n hn).imp (fun h => by omega) id
    · exact .inl hn.2)
  rw [grow_grow hle hle'] at S hv
  refine ⟨L', w', val, ⟨g1.agree.trans (M.agree.mono fun n hn => .inl hn), M.size, fun b hb hn => M.frame b hb fun n o ho hr hbl => ?_, fun n o b ho hr hb => ?_, M.os, M.tape, M.output, fun n o ho hr => g1.ro n o (M.ro n o ho hr) hr⟩, S, hv, fr', hst, hlv⟩
  · obtain ⟨m, om, k1, k2, k3⟩ := g1.sub n o b ho hr hbl
    exact hn m om k1 k2 k3
  · rcases M.sub n o b ho hr hb with h4 | ⟨m, om, k1, k2, k3⟩
    · exact .inl h4
    · exact .inr (g1.sub m om b k1 k2 k3)

/-- A ghost: an empty row. -/
theorem gh_new {s s' : St} {k : IntKind} {t : TypeId} {g : Nat} (h : s.new (.mem (.words k []) t (some 1)) = some (g, s')) {D : Nat → Prop} {L : LM} {w : World} (hSR : SR D L s.H.get w) (hD : ∀ n, D n → n < s.nx ∨ s'.nx ≤ n) :
    ∃ L', Gh s s' D L L' w ∧ L' g = ⟨none, 0, 0, 0⟩ := by
  obtain ⟨n1, n2, n3, n4, n5⟩ := new_ok h
  subst n1
  have hnD : ¬ D s.nx := fun h => by rcases hD _ h with h | h <;> omega
  refine ⟨fun m => if m = s.nx then ⟨none, 0, 0, 0⟩ else L m, ⟨by omega, fun n hn => ?_, ?_, fun n o b ho hr hb => ?_, fun n o ho hr => ?_⟩, by simp⟩
  · have : n ≠ s.nx := fun e => hnD (e ▸ hn)
    simp [this]
  · intro L' hL'
    have g0 : L' s.nx = ⟨none, 0, 0, 0⟩ := by have := hL' s.nx (.inr ⟨Nat.le_refl _, by omega⟩); simpa using this.symm
    have gA : Agree D L L' := fun n hn => by
      have h1 := hL' n (.inl hn)
      have h2 : n ≠ s.nx := fun e => hnD (e ▸ hn)
      simpa [h2] using h1
    have hR := hSR L' gA
    refine ⟨fun n o ho => ?_, fun n m on om hn hm hne hr hb => ?_⟩
    · rw [n5] at ho
      by_cases hn : n = s.nx
      · subst hn
        rw [if_pos rfl] at ho
        cases ho
        exact ⟨by rw [g0], by rw [g0]; rfl, by rw [g0]; rfl, .inl ⟨by rw [g0], by rw [g0], by rw [g0]⟩⟩
      · rw [if_neg hn] at ho
        exact hR.ob n o ho
    · rw [n5] at hn hm
      by_cases h1 : n = s.nx
      · subst h1; rw [g0] at hb; exact absurd rfl hb
      · rw [if_neg h1] at hn
        by_cases h2 : m = s.nx
        · subst h2; rw [g0]; exact hb
        · rw [if_neg h2] at hm
          exact hR.inj n m on om hn hm hne hr hb
  · rw [n5] at ho
    by_cases hn : n = s.nx
    · subst hn
      simp at hb
    · rw [if_neg hn] at ho
      simp only [if_neg hn] at hb
      exact ⟨n, o, ho, hr, hb⟩
  · rw [n5] at ho
    by_cases hn : n = s.nx
    · rw [if_pos hn] at ho; cases ho; cases hr
    · rw [if_neg hn] at ho; exact ho

/-- A row of whole numbers, as a part of an open slice: its number, base, start, length, and what the whole row holds. -/
def nrm (k : IntKind) (t : TypeId) (v : V) (s : St) : Option ((Nat × Nat × Nat × Nat × List Int) × St) :=
  match v with
  | .nils => (s.new (.mem (.words k []) t (some 1))).bind fun (g, s1) => some ((g, 0, 0, 0, []), s1)
  | .osl n es => match s.H.get n with
    | some (.mem (.words k' ws) t' (some e)) => (chk (decide (k = k' ∧ t = t' ∧ es = 1 ∧ e = 1))).bind fun _ => some ((n, 0, 0, ws.length, ws), s)
    | _ => none
  | .osv n es b st ln => match s.H.get n with
    | some (.mem (.words k' ws) t' (some e)) => (chk (decide (k = k' ∧ t = t' ∧ es = 1 ∧ e = 1))).bind fun _ => (need (decide (st + ln ≤ ws.length)) s).bind fun s1 => some ((n, b, st, ln, ws), s1)
    | _ => none
  | _ => none

theorem nrm_ok {k : IntKind} {t : TypeId} {v : V} {s s' : St} {n b st ln : Nat} {ws : List Int} (h : nrm k t v s = some ((n, b, st, ln, ws), s')) (ho : Obl s') :
    Lg s s' ∧ Obl s ∧ s'.H.get n = some (.mem (.words k ws) t (some 1)) ∧ st + ln ≤ ws.length ∧ (∀ m o, m ≠ n → s.H.get m = some o → s'.H.get m = some o) ∧
    ∀ (D : Nat → Prop) (L : LM) (w : World), SR D L s.H.get w → (∀ n, D n → n < s.nx ∨ s'.nx ≤ n) → ∃ L', Gh s s' D L L' w ∧ ∀ L'', Agree (Grow D s.nx s'.nx) L' L'' → (V.osv n 1 b st ln).den L'' = v.den L := by
  unfold nrm at h
  split at h
  · obtain ⟨⟨g, s1⟩, h1, h2⟩ := bind_some' h
    cases h2
    obtain ⟨n1, n2, n3, n4, n5⟩ := new_ok h1
    refine ⟨.new h1, by unfold Obl at ho ⊢; rw [n4] at ho; exact ho, by rw [n5, n1, if_pos rfl], Nat.le_refl _, fun m o e hm => ?_, fun D L w hSR hD => ?_⟩
    · rw [n5, if_neg (by rw [← n1]; exact e)]; exact hm
    · obtain ⟨L', g1, g2⟩ := gh_new h1 hSR hD
      refine ⟨L', g1, fun L'' hL'' => ?_⟩
      have : L'' n = ⟨none, 0, 0, 0⟩ := by rw [← hL'' n (.inr (by rw [n1]; exact ⟨Nat.le_refl _, by omega⟩)), g2]
      simp [V.den, this]
  · rename_i n' es
    split at h
    · rename_i k' ws' t' e hg
      obtain ⟨_, h1, h2⟩ := bind_some' h
      cases h2
      have hd : k = k' ∧ t = t' ∧ es = 1 ∧ e = 1 := of_decide_eq_true (chk_some h1)
      obtain ⟨rfl, rfl, rfl, rfl⟩ := hd
      refine ⟨.refl _, ho, hg, by omega, fun m o _ hm => hm, fun D L w hSR hD => ⟨L, .of_same ⟨rfl, rfl, rfl⟩ hSR, fun L'' hL'' => ?_⟩⟩
      rw [grow_self rfl] at hL''
      have hn := hSR.live hg
      obtain ⟨q1, q2, q3, q4⟩ := (hSR L (.refl _ _)).ob n _ hg
      have e0 : L'' n = L n := (hL'' n hn).symm
      simp only [V.den, e0]
      have hc : ws.length = (L n).len := q2
      rcases q4 with ⟨q5, q6, q7⟩ | ⟨kk, cur, q5, _⟩
      · rw [q5]; simp only [q7]; rw [hc, q6]
      · rw [q5]; simp only [hc]
        by_cases h0 : (L n).cap = 0 <;> simp [h0]
    · cases h
  · rename_i n' es b' st' ln'
    split at h
    · rename_i k' ws' t' e hg
      obtain ⟨_, h1, h2⟩ := bind_some' h
      obtain ⟨s1, h3, h4⟩ := bind_some' h2
      cases h4
      have hd : k = k' ∧ t = t' ∧ es = 1 ∧ e = 1 := of_decide_eq_true (chk_some h1)
      obtain ⟨rfl, rfl, rfl, rfl⟩ := hd
      obtain ⟨hd2, hq⟩ := need_ok h3 ho
      refine ⟨.of_same hq.1, hq.2, by rw [hq.1.H]; exact hg, of_decide_eq_true hd2, fun m o _ hm => by rw [hq.1.H]; exact hm, fun D L w hSR hD => ⟨L, .of_same hq.1 hSR, fun L'' hL'' => ?_⟩⟩
      rw [grow_self hq.1.nx.symm] at hL''
      have hn := hSR.live hg
      have e0 : L'' n = L n := (hL'' n hn).symm
      simp only [V.den, e0]
    · cases h
  · cases h

/-- Nothing new, and nothing is written: the contract laid into a memory. -/
theorem embedRO {f : FuncId} {ac : List V} {l : List (Option Ob)} {vc : V} (h : CallH P f ac l.length (hO l) vc l.length (hO l)) (hall : ∀ m, m < l.length → ∃ o, (l[m]?).join = some o)
    (hobs : obsOK (fun m => Nat.blt m l.length) 0 l = true) (hac : liveNames (fun m => Nat.blt m l.length) (ac.map some) = true)
    {s : St} {args : List V} {v : V} (πl : List Nat) (hlen : πl.length = l.length) (hπ : ∀ m o, (l[m]?).join = some o → s.H.get (πf πl m) = some (o.ren (πf πl))) (hd : πl.Nodup) (hargs : args = ac.map (V.ren (πf πl)))
    (hv : v = vc.ren (ext (πf πl) l.length s.nx)) : CallOK P f args s v s := by
  have hb : (fun m => Nat.blt m l.length) = (fun m => decide (m < l.length)) := by
    funext m
    cases hb : Nat.blt m l.length with
    | true => exact (decide_eq_true (Nat.blt_eq.mp hb)).symm
    | false => refine (decide_eq_false fun hlt => ?_).symm; rw [Nat.blt_eq.mpr hlt] at hb; cases hb
  rw [hb] at hobs hac
  refine embed h (by omega) (fun m hm => ?_) (fun m hm => ?_) (fun m hm => rfl) (fun m o' ho => ?_) (fun v hv => ?_) (πf πl) hπ (fun m n hm hn hne => ?_) hargs hv (by omega) (fun n => ?_)
  · simp only [hO, List.getElem?_eq_none hm]; rfl
  · obtain ⟨o', ho⟩ := hall m hm
    have := obsOK_ok l 0 hobs m o' ho
    exact ⟨o', ho, this.1, this.2.2⟩
  · have := obsOK_ok _ 0 hobs m o' ho
    exact ⟨this.1, by simpa using this.2.1⟩
  · obtain ⟨i, hi⟩ := List.getElem?_of_mem hv
    exact liveNames_ok _ hac i v (by simp [hi])
  · have hm' : m < πl.length := by omega
    have hn' : n < πl.length := by omega
    simp only [πf, List.getD_eq_getElem?_getD, List.getElem?_eq_getElem hm', List.getElem?_eq_getElem hn', Option.getD_some]
    intro he
    exact hne ((List.getElem_inj hd).1 he)
  · rw [if_neg (by omega)]
end
end Go.Sx
