/- What each step of the stack owes, and the invariant behind it. Printed by gen_dec.py. -/
import Derived.Test.YtoiajdjmlbdfnaaSkPb
namespace Go.Sx
set_option maxRecDepth 100000
section
variable {K : Nat} {n : Int} {ws : List Int} {x y : CoreS} {C : List Int} {t : Int} {h : Held} {ha : List Int} {la : Int}
theorem dec_pop1E (I : Inv3 K n ws ⟨.pop h 96, ha, la⟩ x y C t) (hK : K ≤ 300) (hC : C = []) :
    allB [!(!(((chainL n ((ws.set 2 (ws.getD 2 0)).take 20)).length : Int) == 0)), decide (((ws.set 2 (ws.getD 2 0)).take 20).length = 20 ∧ 0 ≤ n ∧ n ≤ 12), decide (20 ≤ (ws.set 2 (ws.getD 2 0)).length), (((chainL n ((ws).take 20)).length : Int) == 0), decide (rawG (ws.getD 2 0) < 0), !(decide (rawG (ws.getD 2 0) ≥ n)), decide (2 < ws.length), decide (2 < ws.length), decide (2 < ws.length), decide (((ws).take 20).length = 20 ∧ 0 ≤ n ∧ n ≤ 12), decide (20 ≤ (ws).length)] = true ∧ ∃ C' t', Inv3 (K + 1) n (ws.set 2 (ws.getD 2 0)) ⟨.idle, ha, la⟩ x y C' t' := by
  have hl := I.len
  have hn := I.n12
  have hn1 := I.n1
  have hch := I.chain
  have hr := I.raw hK
  have hh := I.head
  have ht := I.t0
  have htK := I.tK
  have hlC := I.lenC
  have hlH : ha.length ≤ 12 := I.lenH
  have h2 : 2 < ws.length := by omega
  rw [set_self h2]
  subst hC
  refine ⟨?_, [], t, I.setOp (by simp [own]) trivial⟩
  simp only [List.headD_nil] at hr
  · simp [-List.getD_eq_getElem?_getD, -List.headD_eq_head?_getD, List.getD_cons_zero, allB, hch, hr, hl]
    <;> omega
theorem dec_pop1N (I : Inv3 K n ws ⟨.pop h 96, ha, la⟩ x y C t) (hK : K ≤ 300) (hC : C ≠ []) :
    allB [decide ((chainL n ((ws.set 2 (ws.getD 2 0)).take 20)).length ≤ 1000 ∧ (chainL n ((ws.set 2 (ws.getD 2 0)).take 20)) = (chainL n ((ws).take 20))), decide (((ws.set 2 (ws.getD 2 0)).take 20).length = 20 ∧ 0 ≤ n ∧ n ≤ 12), decide (20 ≤ (ws.set 2 (ws.getD 2 0)).length), !(decide (rawG (ws.getD 2 0) < 0)), !(decide (rawG (ws.getD 2 0) ≥ n)), decide (2 < ws.length), decide (2 < ws.length), decide (2 < ws.length), decide (((ws).take 20).length = 20 ∧ 0 ≤ n ∧ n ≤ 12), decide (20 ≤ (ws).length)] = true ∧ ∃ C' t', Inv3 (K + 1) n (ws.set 2 (ws.getD 2 0)) ⟨.pop ⟨ws.getD 2 0, rawG (ws.getD 2 0), h.j, h.e⟩ 120, ha, la⟩ x y C' t' := by
  have hl := I.len
  have hn := I.n12
  have hn1 := I.n1
  have hch := I.chain
  have hr := I.raw hK
  have hh := I.head
  have ht := I.t0
  have htK := I.tK
  have hlC := I.lenC
  have hlH : ha.length ≤ 12 := I.lenH
  have h2 : 2 < ws.length := by omega
  rw [set_self h2]
  obtain ⟨c, r, rfl⟩ : ∃ c r, C = c :: r := by
    cases C with
    | nil => exact absurd rfl hC
    | cons c r => exact ⟨c, r, rfl⟩
  simp only [List.headD_cons] at hr hh
  have hc := I.rgC c (List.mem_cons_self ..)
  refine ⟨?_, c :: r, t, I.setOp (by simp [own]) (.inr ⟨I.seen, by rw [hr]; exact hc.1, by rw [hr]; exact hc.2, .inl ⟨rfl, fun _ => by simp only [List.head?_cons, hr]⟩⟩)⟩
  simp at hlC
  · simp [-List.getD_eq_getElem?_getD, -List.headD_eq_head?_getD, List.getD_cons_zero, allB, hch, hr, hl]
    <;> omega
theorem dec_all1N (I : Inv3 K n ws ⟨.all h 94, ha, la⟩ x y C t) (hK : K ≤ 300) (hC : C ≠ []) :
    allB [decide ((chainL n ((ws.set 2 (ws.getD 2 0)).take 20)).length ≤ 1000 ∧ (chainL n ((ws.set 2 (ws.getD 2 0)).take 20)) = (chainL n ((ws).take 20))), decide (((ws.set 2 (ws.getD 2 0)).take 20).length = 20 ∧ 0 ≤ n ∧ n ≤ 12), decide (20 ≤ (ws.set 2 (ws.getD 2 0)).length), !(decide (rawG (ws.getD 2 0) < 0)), !(decide (rawG (ws.getD 2 0) ≥ n)), decide (2 < ws.length), decide (2 < ws.length), decide (2 < ws.length), decide (((ws).take 20).length = 20 ∧ 0 ≤ n ∧ n ≤ 12), decide (20 ≤ (ws).length)] = true ∧ ∃ C' t', Inv3 (K + 1) n (ws.set 2 (ws.getD 2 0)) ⟨.all ⟨ws.getD 2 0, rawG (ws.getD 2 0), h.j, h.e⟩ 119, ha, la⟩ x y C' t' := by
  have hl := I.len
  have hn := I.n12
  have hn1 := I.n1
  have hch := I.chain
  have hr := I.raw hK
  have hh := I.head
  have ht := I.t0
  have htK := I.tK
  have hlC := I.lenC
  have hlH : ha.length ≤ 12 := I.lenH
  have h2 : 2 < ws.length := by omega
  rw [set_self h2]
  obtain ⟨c, r, rfl⟩ : ∃ c r, C = c :: r := by
    cases C with
    | nil => exact absurd rfl hC
    | cons c r => exact ⟨c, r, rfl⟩
  simp only [List.headD_cons] at hr hh
  have hc := I.rgC c (List.mem_cons_self ..)
  refine ⟨?_, c :: r, t, I.setOp (by simp [own]) (.inr ⟨rfl, I.seen, by rw [hr]; exact hc.1, by rw [hr]; exact hc.2, fun _ => by simp only [List.head?_cons, hr]⟩)⟩
  simp at hlC
  · simp [-List.getD_eq_getElem?_getD, -List.headD_eq_head?_getD, List.getD_cons_zero, allB, hch, hr, hl]
    <;> omega
theorem dec_all1E (I : Inv3 K n ws ⟨.all h 94, ha, la⟩ x y C t) (hK : K ≤ 300) (hC : C = []) :
    allB [!(!(((chainL n ((ws).take 20)).length : Int) == 0)), decide (rawG (ws.getD 2 0) < 0), !(decide (rawG (ws.getD 2 0) ≥ n)), decide (2 < ws.length), decide (2 < ws.length), decide (2 < ws.length), decide (((ws).take 20).length = 20 ∧ 0 ≤ n ∧ n ≤ 12), decide (20 ≤ (ws).length)] = true ∧ ∃ C' t', Inv3 (K + 1) n (ws.set 2 (ws.getD 2 0)) ⟨.idle, ha, la⟩ x y C' t' := by
  have hl := I.len
  have hn := I.n12
  have hn1 := I.n1
  have hch := I.chain
  have hr := I.raw hK
  have hh := I.head
  have ht := I.t0
  have htK := I.tK
  have hlC := I.lenC
  have hlH : ha.length ≤ 12 := I.lenH
  have h2 : 2 < ws.length := by omega
  rw [set_self h2]
  subst hC
  refine ⟨?_, [], t, I.setOp (by simp [own]) trivial⟩
  simp only [List.headD_nil] at hr
  · simp [-List.getD_eq_getElem?_getD, -List.headD_eq_head?_getD, List.getD_cons_zero, allB, hch, hr, hl]
    <;> omega
theorem dec_push1 (I : Inv3 K n ws ⟨.push h 89, ha, la⟩ x y C t) (hK : K ≤ 300) :
    allB [decide ((chainL n ((ws.set 2 (ws.getD 2 0)).take 20)).length ≤ 1000 ∧ (chainL n ((ws.set 2 (ws.getD 2 0)).take 20)) = (chainL n ((ws).take 20))), decide (((ws.set 2 (ws.getD 2 0)).take 20).length = 20 ∧ 0 ≤ n ∧ n ≤ 12), decide (20 ≤ (ws.set 2 (ws.getD 2 0)).length), !(decide (rawG (ws.getD 2 0) ≥ n)), decide (2 < ws.length), decide (2 < ws.length), decide (2 < ws.length), decide (((ws).take 20).length = 20 ∧ 0 ≤ n ∧ n ≤ 12), decide (20 ≤ (ws).length)] = true ∧ ∃ C' t', Inv3 (K + 1) n (ws.set 2 (ws.getD 2 0)) ⟨.push ⟨ws.getD 2 0, h.i, rawG (ws.getD 2 0), h.e⟩ 115, ha, la⟩ x y C' t' := by
  have hl := I.len
  have hn := I.n12
  have hn1 := I.n1
  have hch := I.chain
  have hr := I.raw hK
  have hh := I.head
  have ht := I.t0
  have htK := I.tK
  have hlC := I.lenC
  have hlH : ha.length ≤ 12 := I.lenH
  have h2 : 2 < ws.length := by omega
  rw [set_self h2]
  obtain ⟨p1, p2, p3, _⟩ := I.ix
  refine ⟨?_, C, t, I.setOp (by simp [own]) ⟨p1, p2, p3, .inr ⟨I.seen, by rw [hr]; exact hh.1, by rw [hr]; exact hh.2, fun _ => hr.symm, .inl rfl⟩⟩⟩
  · simp [-List.getD_eq_getElem?_getD, -List.headD_eq_head?_getD, List.getD_cons_zero, allB, hch, hr, hl]
    <;> omega
theorem dec_pop2 (I : Inv3 K n ws ⟨.pop h 120, ha, la⟩ x y C t) (hK : K ≤ 300) :
    allB [decide ((chainL n ((ws.set (IntKind.i64.wrap (4 + h.i)).toNat (ws.getD (IntKind.i64.wrap (4 + h.i)).toNat 0)).take 20)).length ≤ 1000 ∧ (chainL n ((ws.set (IntKind.i64.wrap (4 + h.i)).toNat (ws.getD (IntKind.i64.wrap (4 + h.i)).toNat 0)).take 20)) = (chainL n ((ws).take 20))), decide (((ws.set (IntKind.i64.wrap (4 + h.i)).toNat (ws.getD (IntKind.i64.wrap (4 + h.i)).toNat 0)).take 20).length = 20 ∧ 0 ≤ n ∧ n ≤ 12), decide (20 ≤ (ws.set (IntKind.i64.wrap (4 + h.i)).toNat (ws.getD (IntKind.i64.wrap (4 + h.i)).toNat 0)).length), !(decide (rawG (ws.getD (IntKind.i64.wrap (4 + h.i)).toNat 0) ≥ n)), decide ((IntKind.i64.wrap (4 + h.i)).toNat < ws.length), decide ((IntKind.i64.wrap (4 + h.i)).toNat < ws.length), decide ((IntKind.i64.wrap (4 + h.i)).toNat < ws.length), decide (0 ≤ IntKind.i64.wrap (4 + h.i) ∧ IntKind.i64.wrap (4 + h.i) < 4096), !(decide (IntKind.i64.wrap (4 + h.i) ≥ 20)), !(decide (IntKind.i64.wrap (4 + h.i) < 0)), decide (((ws).take 20).length = 20 ∧ 0 ≤ n ∧ n ≤ 12), decide (20 ≤ (ws).length)] = true ∧ ∃ C' t', Inv3 (K + 1) n (ws.set (IntKind.i64.wrap (4 + h.i)).toNat (ws.getD (IntKind.i64.wrap (4 + h.i)).toNat 0)) ⟨.pop ⟨h.w, h.i, rawG (ws.getD (IntKind.i64.wrap (4 + h.i)).toNat 0), h.e⟩ 141, ha, la⟩ x y C' t' := by
  have hl := I.len
  have hn := I.n12
  have hn1 := I.n1
  have hch := I.chain
  have hr := I.raw hK
  have hh := I.head
  have ht := I.t0
  have htK := I.tK
  have hlC := I.lenC
  have hlH : ha.length ≤ 12 := I.lenH
  have h2 : 2 < ws.length := by omega
  have hI : Seen n t h.w ∧ 0 ≤ h.i ∧ h.i < n ∧ (h.w = ws.getD 2 0 → C.head? = some h.i) := by
    rcases I.ix with h0 | ⟨a, b, c, ⟨_, d⟩ | ⟨e, _⟩⟩
    · cases h0
    · exact ⟨a, b, c, d⟩
    · cases e
  obtain ⟨a, b, c, d⟩ := hI
  rw [wrap_i64 (x := 4 + h.i) (by omega) (by omega)]
  have h3 : (4 + h.i).toNat < ws.length := by omega
  rw [set_self h3]
  obtain ⟨j, j1, j2, j3⟩ := I.lw h.i b c
  have hj : rawG (ws.getD (4 + h.i).toNat 0) = j := by
    rw [j3]
    have := rawG_eq (i := j) (t := 0) j1 (by omega) (by omega) (by omega)
    simpa using this
  rw [hj]
  refine ⟨?_, C, t, I.setOp (by simp [own]) (.inr ⟨a, b, c, .inr ⟨rfl, j1, j2, fun he => ?_⟩⟩)⟩
  · simp [-List.getD_eq_getElem?_getD, -List.headD_eq_head?_getD, List.getD_cons_zero, allB, hch, hr, hl]
    <;> omega
  · have h4 := d he
    cases C with
    | nil => cases h4
    | cons c0 r =>
      simp only [List.head?_cons, Option.some.injEq] at h4
      subst h4
      refine ⟨r, rfl, ?_⟩
      have := I.lk.1
      rw [j3] at this
      simp only
      omega
theorem dec_pop3F (I : Inv3 K n ws ⟨.pop h 141, ha, la⟩ x y C t) (hK : K ≤ 300) (hw : h.w ≠ ws.getD 2 0) :
    allB [decide ((chainL n ((ws.set 2 (ws.getD 2 0)).take 20)).length ≤ 1000 ∧ (chainL n ((ws.set 2 (ws.getD 2 0)).take 20)) = (chainL n ((ws).take 20))), decide (((ws.set 2 (ws.getD 2 0)).take 20).length = 20 ∧ 0 ≤ n ∧ n ≤ 12), decide (20 ≤ (ws.set 2 (ws.getD 2 0)).length), decide (2 < ws.length), decide (2 < ws.length), decide (2 < ws.length), (ws.getD 2 0 != h.w), decide (2 < ws.length), !(decide (tagN h.w > 281474976710655)), !(decide (tagN h.w < 0)), !(decide (h.j > 65534)), !(decide (h.j < -1)), decide (((ws).take 20).length = 20 ∧ 0 ≤ n ∧ n ≤ 12), decide (20 ≤ (ws).length)] = true ∧ ∃ C' t', Inv3 (K + 1) n (ws.set 2 (ws.getD 2 0)) ⟨.pop h 96, ha, la⟩ x y C' t' := by
  have hl := I.len
  have hn := I.n12
  have hn1 := I.n1
  have hch := I.chain
  have hr := I.raw hK
  have hh := I.head
  have ht := I.t0
  have htK := I.tK
  have hlC := I.lenC
  have hlH : ha.length ≤ 12 := I.lenH
  have h2 : 2 < ws.length := by omega
  rw [set_self h2]
  have hI : Seen n t h.w ∧ 0 ≤ h.i ∧ h.i < n ∧ -1 ≤ h.j ∧ h.j < n ∧ (h.w = ws.getD 2 0 → ∃ r, C = h.i :: r ∧ r.headD (-1) = h.j) := by
    rcases I.ix with h0 | ⟨a, b, c, ⟨e, _⟩ | ⟨_, d⟩⟩
    · cases h0
    · cases e
    · exact ⟨a, b, c, d⟩
  obtain ⟨a, b, c, d1, d2, d⟩ := hI
  obtain ⟨s, s1, s2, s3⟩ := a.tag hn (by omega)
  refine ⟨?_, C, t, I.setOp (by simp [own]) (.inl rfl)⟩
  · simp [-List.getD_eq_getElem?_getD, -List.headD_eq_head?_getD, List.getD_cons_zero, allB, hch, hr, hl, s3, Ne.symm hw]
    <;> omega
theorem dec_push3F (I : Inv3 K n ws ⟨.push h 138, ha, la⟩ x y C t) (hK : K ≤ 300) (hw : h.w ≠ ws.getD 2 0) :
    allB [decide ((chainL n ((ws.set 2 (ws.getD 2 0)).take 20)).length ≤ 1000 ∧ (chainL n ((ws.set 2 (ws.getD 2 0)).take 20)) = (chainL n ((ws).take 20))), decide (((ws.set 2 (ws.getD 2 0)).take 20).length = 20 ∧ 0 ≤ n ∧ n ≤ 12), decide (20 ≤ (ws.set 2 (ws.getD 2 0)).length), decide (2 < ws.length), decide (2 < ws.length), decide (2 < ws.length), (ws.getD 2 0 != h.w), decide (2 < ws.length), !(decide (tagN h.w > 281474976710655)), !(decide (tagN h.w < 0)), !(decide (h.i > 65534)), !(decide (h.i < -1)), decide (((ws).take 20).length = 20 ∧ 0 ≤ n ∧ n ≤ 12), decide (20 ≤ (ws).length)] = true ∧ ∃ C' t', Inv3 (K + 1) n (ws.set 2 (ws.getD 2 0)) ⟨.push h 89, ha, la⟩ x y C' t' := by
  have hl := I.len
  have hn := I.n12
  have hn1 := I.n1
  have hch := I.chain
  have hr := I.raw hK
  have hh := I.head
  have ht := I.t0
  have htK := I.tK
  have hlC := I.lenC
  have hlH : ha.length ≤ 12 := I.lenH
  have h2 : 2 < ws.length := by omega
  rw [set_self h2]
  have hI : h.i = la ∧ 0 ≤ h.i ∧ h.i < n ∧ Seen n t h.w ∧ -1 ≤ h.j ∧ h.j < n ∧ (h.w = ws.getD 2 0 → C.headD (-1) = h.j) ∧ ws.getD (4 + h.i).toNat 0 = h.j + 1 := by
    obtain ⟨p1, p2, p3, h0 | ⟨a, b, c, d, e | ⟨_, g⟩⟩⟩ := I.ix
    · cases h0
    · cases e
    · exact ⟨p1, p2, p3, a, b, c, d, g⟩
  obtain ⟨p1, p2, p3, a, d1, d2, d, g⟩ := hI
  obtain ⟨s, s1, s2, s3⟩ := a.tag hn (by omega)
  refine ⟨?_, C, t, I.setOp (by simp [own]) ⟨p1, p2, p3, .inl rfl⟩⟩
  · simp [-List.getD_eq_getElem?_getD, -List.headD_eq_head?_getD, List.getD_cons_zero, allB, hch, hr, hl, s3, Ne.symm hw]
    <;> omega
theorem dec_all2F (I : Inv3 K n ws ⟨.all h 119, ha, la⟩ x y C t) (hK : K ≤ 300) (hw : h.w ≠ ws.getD 2 0) :
    allB [decide ((chainL n ((ws.set 2 (ws.getD 2 0)).take 20)).length ≤ 1000 ∧ (chainL n ((ws.set 2 (ws.getD 2 0)).take 20)) = (chainL n ((ws).take 20))), decide (((ws.set 2 (ws.getD 2 0)).take 20).length = 20 ∧ 0 ≤ n ∧ n ≤ 12), decide (20 ≤ (ws.set 2 (ws.getD 2 0)).length), decide (2 < ws.length), decide (2 < ws.length), decide (2 < ws.length), (ws.getD 2 0 != h.w), decide (2 < ws.length), !(decide (tagN h.w > 281474976710655)), !(decide (tagN h.w < 0)), decide (((ws).take 20).length = 20 ∧ 0 ≤ n ∧ n ≤ 12), decide (20 ≤ (ws).length)] = true ∧ ∃ C' t', Inv3 (K + 1) n (ws.set 2 (ws.getD 2 0)) ⟨.all h 94, ha, la⟩ x y C' t' := by
  have hl := I.len
  have hn := I.n12
  have hn1 := I.n1
  have hch := I.chain
  have hr := I.raw hK
  have hh := I.head
  have ht := I.t0
  have htK := I.tK
  have hlC := I.lenC
  have hlH : ha.length ≤ 12 := I.lenH
  have h2 : 2 < ws.length := by omega
  rw [set_self h2]
  have hI : Seen n t h.w ∧ 0 ≤ h.i ∧ h.i < n ∧ (h.w = ws.getD 2 0 → C.head? = some h.i) := by
    rcases I.ix with h0 | ⟨_, a, b, c, d⟩
    · cases h0
    · exact ⟨a, b, c, d⟩
  obtain ⟨a, b, c, d⟩ := hI
  obtain ⟨s, s1, s2, s3⟩ := a.tag hn (by omega)
  refine ⟨?_, C, t, I.setOp (by simp [own]) (.inl rfl)⟩
  · simp [-List.getD_eq_getElem?_getD, -List.headD_eq_head?_getD, List.getD_cons_zero, allB, hch, hr, hl, s3, Ne.symm hw]
    <;> omega
theorem dec_push2 (I : Inv3 K n ws ⟨.push h 115, ha, la⟩ x y C t) (hK : K ≤ 300) :
    allB [decide ((chainL n ((ws.set (IntKind.i64.wrap (4 + h.i)).toNat (putG h.j 0)).take 20)).length ≤ 1000 ∧ (chainL n ((ws.set (IntKind.i64.wrap (4 + h.i)).toNat (putG h.j 0)).take 20)) = (chainL n ((ws).take 20))), decide (((ws.set (IntKind.i64.wrap (4 + h.i)).toNat (putG h.j 0)).take 20).length = 20 ∧ 0 ≤ n ∧ n ≤ 12), decide (20 ≤ (ws.set (IntKind.i64.wrap (4 + h.i)).toNat (putG h.j 0)).length), decide ((IntKind.i64.wrap (4 + h.i)).toNat < ws.length), decide ((IntKind.i64.wrap (4 + h.i)).toNat < ws.length), decide (0 ≤ IntKind.i64.wrap (4 + h.i) ∧ IntKind.i64.wrap (4 + h.i) < 4096), !(decide (IntKind.i64.wrap (4 + h.i) ≥ 20)), !(decide (IntKind.i64.wrap (4 + h.i) < 0)), !(decide (h.j > 65534)), !(decide (h.j < -1)), decide (((ws).take 20).length = 20 ∧ 0 ≤ n ∧ n ≤ 12), decide (20 ≤ (ws).length)] = true ∧ ∃ C' t', Inv3 (K + 1) n (ws.set (IntKind.i64.wrap (4 + h.i)).toNat (putG h.j 0)) ⟨.push h 138, ha, la⟩ x y C' t' := by
  have hl := I.len
  have hn := I.n12
  have hn1 := I.n1
  have hch := I.chain
  have hr := I.raw hK
  have hh := I.head
  have ht := I.t0
  have htK := I.tK
  have hlC := I.lenC
  have hlH : ha.length ≤ 12 := I.lenH
  have h2 : 2 < ws.length := by omega
  have hI : h.i = la ∧ 0 ≤ h.i ∧ h.i < n ∧ Seen n t h.w ∧ -1 ≤ h.j ∧ h.j < n := by
    obtain ⟨p1, p2, p3, h0 | ⟨a, b, c, d, e⟩⟩ := I.ix
    · cases h0
    · exact ⟨p1, p2, p3, a, b, c⟩
  obtain ⟨p1, p2, p3, a, d1, d2⟩ := hI
  rw [wrap_i64 (x := 4 + h.i) (by omega) (by omega)]
  have hp : putG h.j 0 = h.j + 1 := by
    have := putG_eq (i := h.j) (t := 0) d1 (by omega) (by omega) (by omega)
    simpa using this
  rw [hp]
  have I' := I.setLink (f' := 138) rfl rfl
  have hch' := I'.chain
  refine ⟨?_, C, t, I'.mono (Nat.le_succ _)⟩
  · simp [-List.getD_eq_getElem?_getD, -List.headD_eq_head?_getD, List.getD_cons_zero, allB, hch, hr, hl, hch']
    <;> omega
theorem dec_pop3K (I : Inv3 K n ws ⟨.pop h 141, ha, la⟩ x y C t) (hK : K ≤ 300) (hw : h.w = ws.getD 2 0) :
    allB [decide ((chainL n ((ws.set 2 (putG h.j (tagN h.w))).take 20)).length ≤ 1000 ∧ (chainL n ((ws).take 20)).length - 1 = (chainL n ((ws).take 20)).length - 1 ∧ (chainL n ((ws).take 20)) ≠ [] ∧ (chainL n ((ws.set 2 (putG h.j (tagN h.w))).take 20)) = (chainL n ((ws).take 20)).drop 1), hiOK (some 1) 1 (chainL n ((ws).take 20)).length, decide (((ws.set 2 (putG h.j (tagN h.w))).take 20).length = 20 ∧ 0 ≤ n ∧ n ≤ 12), decide (20 ≤ (ws.set 2 (putG h.j (tagN h.w))).length), ((chainL n ((ws).take 20)).getD 0 0 == h.i), decide (0 < (chainL n ((ws).take 20)).length), decide ((0 : Int) ≤ 0 ∧ (0 : Int) < ((chainL n ((ws).take 20)).length : Int)), decide (((chainL n ((ws).take 20)).length : Int) > 0), decide (ha.length + 1 ≤ 1048576), decide (2 < ws.length), decide (2 < ws.length), !(ws.getD 2 0 != h.w), decide (2 < ws.length), !(decide (tagN h.w > 281474976710655)), !(decide (tagN h.w < 0)), !(decide (h.j > 65534)), !(decide (h.j < -1)), decide (((ws).take 20).length = 20 ∧ 0 ≤ n ∧ n ≤ 12), decide (20 ≤ (ws).length)] = true ∧ ∃ C' t', Inv3 (K + 1) n (ws.set 2 (putG h.j (tagN h.w))) ⟨.idle, ha ++ [h.i], la⟩ x y C' t' := by
  have hl := I.len
  have hn := I.n12
  have hn1 := I.n1
  have hch := I.chain
  have hr := I.raw hK
  have hh := I.head
  have ht := I.t0
  have htK := I.tK
  have hlC := I.lenC
  have hlH : ha.length ≤ 12 := I.lenH
  have h2 : 2 < ws.length := by omega
  have hI : Seen n t h.w ∧ 0 ≤ h.i ∧ h.i < n ∧ -1 ≤ h.j ∧ h.j < n ∧ (h.w = ws.getD 2 0 → ∃ r, C = h.i :: r ∧ r.headD (-1) = h.j) := by
    rcases I.ix with h0 | ⟨a, b, c, ⟨e, _⟩ | ⟨_, d⟩⟩
    · cases h0
    · cases e
    · exact ⟨a, b, c, d⟩
  obtain ⟨a, b, c, d1, d2, d⟩ := hI
  obtain ⟨s, s1, s2, s3⟩ := a.tag hn (by omega)
  have htag : tagN h.w = t + 1 := by
    rw [hw, I.top]; exact tag_top hh.1 (by omega) ht (by omega)
  have hp : putG h.j (tagN h.w) = topW h.j (t + 1) := by rw [htag]; exact putG_eq d1 (by omega) (by omega) (by omega)
  rw [hp]
  obtain ⟨r, rfl, hr0⟩ := d hw
  have I' := I.setTop (me' := ⟨.idle, ha ++ [h.i], la⟩) (C' := r) hr0 I.lk.2 (by
    simp only [own, List.append_nil, List.cons_append]
    rw [← List.append_assoc]
    exact (List.perm_append_singleton h.i (r ++ ha)).symm) rfl
  have hch' := I'.chain
  refine ⟨?_, r, t + 1, I'⟩
  simp at hlC
  · simp [-List.getD_eq_getElem?_getD, -List.headD_eq_head?_getD, List.getD_cons_zero, allB, hch, hr, hl, hch', htag, hw.symm, hiOK]
    <;> omega
theorem dec_all2K (I : Inv3 K n ws ⟨.all h 119, ha, la⟩ x y C t) (hK : K ≤ 300) (hw : h.w = ws.getD 2 0) :
    allB [!(!(((chainL n ((ws.set 2 (putG (-1) (tagN h.w))).take 20)).length : Int) == 0)), decide (((ws.set 2 (putG (-1) (tagN h.w))).take 20).length = 20 ∧ 0 ≤ n ∧ n ≤ 12), decide (20 ≤ (ws.set 2 (putG (-1) (tagN h.w))).length), ((chainL n ((ws).take 20)).getD 0 0 == h.i), decide (0 < (chainL n ((ws).take 20)).length), decide ((0 : Int) ≤ 0 ∧ (0 : Int) < ((chainL n ((ws).take 20)).length : Int)), decide (((chainL n ((ws).take 20)).length : Int) > 0), decide (ha.length + (chainL n ((ws).take 20)).length ≤ 1048576), decide (2 < ws.length), decide (2 < ws.length), !(ws.getD 2 0 != h.w), decide (2 < ws.length), !(decide (tagN h.w > 281474976710655)), !(decide (tagN h.w < 0)), decide (((ws).take 20).length = 20 ∧ 0 ≤ n ∧ n ≤ 12), decide (20 ≤ (ws).length)] = true ∧ ∃ C' t', Inv3 (K + 1) n (ws.set 2 (putG (-1) (tagN h.w))) ⟨.idle, ha ++ (chainL n ((ws).take 20)), la⟩ x y C' t' := by
  have hl := I.len
  have hn := I.n12
  have hn1 := I.n1
  have hch := I.chain
  have hr := I.raw hK
  have hh := I.head
  have ht := I.t0
  have htK := I.tK
  have hlC := I.lenC
  have hlH : ha.length ≤ 12 := I.lenH
  have h2 : 2 < ws.length := by omega
  have hI : Seen n t h.w ∧ 0 ≤ h.i ∧ h.i < n ∧ (h.w = ws.getD 2 0 → C.head? = some h.i) := by
    rcases I.ix with h0 | ⟨_, a, b, c, d⟩
    · cases h0
    · exact ⟨a, b, c, d⟩
  obtain ⟨a, b, c, d⟩ := hI
  obtain ⟨s, s1, s2, s3⟩ := a.tag hn (by omega)
  have htag : tagN h.w = t + 1 := by
    rw [hw, I.top]; exact tag_top hh.1 (by omega) ht (by omega)
  have hp : putG (-1) (tagN h.w) = topW (-1) (t + 1) := by rw [htag]; exact putG_eq (by omega) (by omega) (by omega) (by omega)
  rw [hp, hch]
  have I' := I.setTop (me' := ⟨.idle, ha ++ C, la⟩) (C' := []) (i := -1) rfl trivial (by
    simp only [own, List.append_nil, List.nil_append]
    exact List.perm_append_comm) rfl
  have hch' := I'.chain
  refine ⟨?_, [], t + 1, I'⟩
  have h4 := d hw
  obtain ⟨r, rfl⟩ : ∃ r, C = h.i :: r := by
    cases C with
    | nil => cases h4
    | cons c0 r => simp only [List.head?_cons, Option.some.injEq] at h4; exact ⟨r, by rw [h4]⟩
  simp at hlC
  · simp [-List.getD_eq_getElem?_getD, -List.headD_eq_head?_getD, List.getD_cons_zero, allB, hch, hr, hl, hch', htag, hw.symm, hiOK]
    <;> omega
theorem dec_push3K (I : Inv3 K n ws ⟨.push h 138, ha, la⟩ x y C t) (hK : K ≤ 300) (hw : h.w = ws.getD 2 0) :
    allB [decide ((chainL n ((ws).take 20)).length ≤ 1000 ∧ (chainL n ((ws.set 2 (putG h.i (tagN h.w))).take 20)).length - 1 = (chainL n ((ws.set 2 (putG h.i (tagN h.w))).take 20)).length - 1 ∧ (chainL n ((ws.set 2 (putG h.i (tagN h.w))).take 20)) ≠ [] ∧ (chainL n ((ws.set 2 (putG h.i (tagN h.w))).take 20)).drop 1 = (chainL n ((ws).take 20))), hiOK (some 1) 1 (chainL n ((ws.set 2 (putG h.i (tagN h.w))).take 20)).length, ((chainL n ((ws.set 2 (putG h.i (tagN h.w))).take 20)).getD 0 0 == la), decide (0 < (chainL n ((ws.set 2 (putG h.i (tagN h.w))).take 20)).length), decide ((0 : Int) ≤ 0 ∧ (0 : Int) < ((chainL n ((ws.set 2 (putG h.i (tagN h.w))).take 20)).length : Int)), (((chainL n ((ws.set 2 (putG h.i (tagN h.w))).take 20)).length : Int) == IntKind.i64.wrap (((chainL n ((ws).take 20)).length : Int) + 1)), decide (((ws.set 2 (putG h.i (tagN h.w))).take 20).length = 20 ∧ 0 ≤ n ∧ n ≤ 12), decide (20 ≤ (ws.set 2 (putG h.i (tagN h.w))).length), decide (2 < ws.length), decide (2 < ws.length), !(ws.getD 2 0 != h.w), decide (2 < ws.length), !(decide (tagN h.w > 281474976710655)), !(decide (tagN h.w < 0)), !(decide (h.i > 65534)), !(decide (h.i < -1)), decide (((ws).take 20).length = 20 ∧ 0 ≤ n ∧ n ≤ 12), decide (20 ≤ (ws).length)] = true ∧ ∃ C' t', Inv3 (K + 1) n (ws.set 2 (putG h.i (tagN h.w))) ⟨.idle, ha, la⟩ x y C' t' := by
  have hl := I.len
  have hn := I.n12
  have hn1 := I.n1
  have hch := I.chain
  have hr := I.raw hK
  have hh := I.head
  have ht := I.t0
  have htK := I.tK
  have hlC := I.lenC
  have hlH : ha.length ≤ 12 := I.lenH
  have h2 : 2 < ws.length := by omega
  have hI : h.i = la ∧ 0 ≤ h.i ∧ h.i < n ∧ Seen n t h.w ∧ -1 ≤ h.j ∧ h.j < n ∧ (h.w = ws.getD 2 0 → C.headD (-1) = h.j) ∧ ws.getD (4 + h.i).toNat 0 = h.j + 1 := by
    obtain ⟨p1, p2, p3, h0 | ⟨a, b, c, d, e | ⟨_, g⟩⟩⟩ := I.ix
    · cases h0
    · cases e
    · exact ⟨p1, p2, p3, a, b, c, d, g⟩
  obtain ⟨p1, p2, p3, a, d1, d2, d, g⟩ := hI
  obtain ⟨s, s1, s2, s3⟩ := a.tag hn (by omega)
  have htag : tagN h.w = t + 1 := by
    rw [hw, I.top]; exact tag_top hh.1 (by omega) ht (by omega)
  subst p1
  have hp : putG h.i (tagN h.w) = topW h.i (t + 1) := by rw [htag]; exact putG_eq (by omega) (by omega) (by omega) (by omega)
  rw [hp]
  have I' := I.setTop (me' := ⟨.idle, ha, h.i⟩) (C' := h.i :: C) (i := h.i) rfl ⟨by rw [g, d hw], I.lk⟩ (by
    simp only [own, List.append_nil, List.cons_append]
    rw [← List.append_assoc]
    exact List.perm_append_comm) rfl
  have hch' := I'.chain
  have hlC' := I'.lenC
  refine ⟨?_, h.i :: C, t + 1, I'⟩
  rw [wrap_i64 (x := (((chainL n (ws.take 20)).length : Int) + 1)) (by omega) (by rw [hch]; omega)]
  simp at hlC'
  · simp [-List.getD_eq_getElem?_getD, -List.headD_eq_head?_getD, List.getD_cons_zero, allB, hch, hr, hl, hch', htag, hw.symm, hiOK]
    <;> omega
theorem dec_bpush {v : Int} (I : Inv3 K n ws ⟨.idle, ha, la⟩ x y C t) (hp : (ha.length : Int) > 0) (h3 : ((IntKind.i64.wrap (v.tdiv 3)).tmod 3 == 1) = true) :
    allB [!(decide (ha.getD (IntKind.i64.wrap ((ha.length : Int) - 1)).toNat 0 ≥ n)), !(decide (ha.getD (IntKind.i64.wrap ((ha.length : Int) - 1)).toNat 0 < 0)), hiOK (some (IntKind.i64.wrap ((ha.length : Int) - 1))) (IntKind.i64.wrap ((ha.length : Int) - 1)).toNat ha.length, decide ((IntKind.i64.wrap ((ha.length : Int) - 1)).toNat < ha.length), decide (0 ≤ IntKind.i64.wrap ((ha.length : Int) - 1) ∧ IntKind.i64.wrap ((ha.length : Int) - 1) < (ha.length : Int)), decide ((ha.length : Int) > 0), ((IntKind.i64.wrap (v.tdiv 3)).tmod 3 == 1)] = true ∧ Inv3 K n ws ⟨.push ⟨0, ha.getD (IntKind.i64.wrap ((ha.length : Int) - 1)).toNat 0, 0, 0⟩ 89, (ha.drop 0).take (IntKind.i64.wrap ((ha.length : Int) - 1)).toNat, ha.getD (IntKind.i64.wrap ((ha.length : Int) - 1)).toNat 0⟩ x y C t := by
  have hlH : ha.length ≤ 12 := I.lenH
  rw [wrap_i64 (x := (ha.length : Int) - 1) (by omega) (by omega)]
  have e : ((ha.length : Int) - 1).toNat = ha.length - 1 := by omega
  rw [e]
  have hlt : ha.length - 1 < ha.length := by omega
  have hg : ha.getD (ha.length - 1) 0 = ha[ha.length - 1] := by rw [List.getD_eq_getElem?_getD, List.getElem?_eq_getElem hlt]; rfl
  have hr := I.rg ha[ha.length - 1] (List.mem_append_right _ (List.mem_append_left _ (List.mem_append_left _ (List.getElem_mem hlt))))
  rw [hg]
  refine ⟨?_, I.perm ?_ ⟨rfl, hr.1, hr.2, .inl rfl⟩ I.iy I.iz⟩
  · have h3' := eq_of_beq h3
    simp [-List.getD_eq_getElem?_getD, allB, h3', hiOK]
    omega
  · have h4 : own ⟨.push ⟨0, ha[ha.length - 1], 0, 0⟩ 89, (ha.drop 0).take (ha.length - 1), ha[ha.length - 1]⟩ = own ⟨.idle, ha, la⟩ := by
      simp only [own, List.drop_zero, List.append_nil]
      have := List.take_append_getElem hlt
      rw [this, List.take_of_length_le (by omega)]
    rw [h4]
end
end Go.Sx

