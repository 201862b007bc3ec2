/- Regions that draw their order: their end. -/
import Derived.Test.YtmmcpgjfkphgaaaGreatSxP
namespace Go.Sx
section
variable {P : Program} {E : Env}
open Classical

theorem SR.mono {D D' : Nat → Prop} {L : LM} {H : Nat → Option Ob} {w : World} (h : SR D L H w) (hd : ∀ n, D n → D' n) : SR D' L H w := fun L' hL' => h L' (hL'.mono hd)
theorem HR.heap {L : LM} {H : Nat → Option Ob} {w w' : World} (h : HR L H w) (hh : w'.heap = w.heap) : HR L H w' :=
  ⟨fun n o ho => (h.ob n o ho).keep (by rw [hh]; exact Nat.le_refl _) (fun _ _ _ => by rw [hh]), h.inj⟩
theorem SR.heap {D : Nat → Prop} {L : LM} {H : Nat → Option Ob} {w w' : World} (h : SR D L H w) (hh : w'.heap = w.heap) : SR D L H w' := fun L' hL' => (h L' hL').heap hh

theorem filter_lt {α : Type} {p q : α → Bool} : ∀ (l : List α), (∀ x, q x = true → p x = true) → ∀ y ∈ l, p y = true → q y = false → (l.filter q).length < (l.filter p).length := by
  have hle : ∀ l : List α, (∀ x, q x = true → p x = true) → (l.filter q).length ≤ (l.filter p).length := by
    intro l h
    induction l with
    | nil => simp
    | cons x l ih =>
      cases hq : q x with
      | true => simp [hq, h x hq, ih]
      | false => cases hp : p x <;> simp [hq, hp] <;> omega
  intro l h
  induction l with
  | nil => intro y hy; simp at hy
  | cons x l ih =>
    intro y hy hp hq
    rcases List.mem_cons.1 hy with rfl | hy
    · simp only [List.filter_cons, hp, hq, if_true]
      have := hle l h
      simp; omega
    · have := ih y hy hp hq
      cases hq' : q x with
      | true => simp [hq', h x hq', this]
      | false => cases hp' : p x <;> simp [hq', hp'] <;> omega

variable {all : Array Oper} {pms : List Nat} {x : Tce} {n : Nat}

theorem ready_mem {listed : Array Bool} {i : Nat} : i ∈ Region.ready .any all listed ↔ i < all.size ∧ listed.getD i true = false ∧ ∃ o, all[i]? = some o ∧ ∀ e ∈ o.after.toList, Region.binds .any e = true → listed.getD e.on false = true := by
  simp only [Region.ready, List.mem_filter, List.mem_range, Bool.and_eq_true]
  refine and_congr_right fun hi => ?_
  rw [Array.getElem?_eq_getElem hi]
  simp only [Option.map_some, Option.getD_some, Array.all_eq_true_iff_forall_mem, Bool.or_eq_true, Bool.not_eq_eq_eq_not, Bool.not_true]
  refine and_congr_right fun _ => ?_
  constructor
  · intro h
    refine ⟨_, rfl, fun e he hb => ?_⟩
    rcases h e (by simpa using he) with h | h
    · rw [hb] at h; cases h
    · exact h
  · rintro ⟨o, ho, h⟩ e he
    injection ho with ho
    subst ho
    cases hb : Region.binds .any e with
    | false => exact .inl rfl
    | true => exact .inr (h e (by simpa using he) hb)

theorem draws_ok (hE : EnvOK P E) {cf : CallF} {yf : YieldF} (hcf : CfOK P E cf) (hyf : YfOK P yf) {fr : Frs} (hn : n = all.size) (hpm : pms = befores [] all.toList) (hback : backOK 0 all.toList = true)
    (hap : apartAll all.toList all.toList pms 0 = true) (hx : ∀ j o, all[j]? = some o → StepP E cf yf fr all.toList pms [] x j o) (ho : Obl (x.s n)) {D : Nat → Prop} (hD : ∀ m, D m → m < (x.s 0).nx ∨ (x.s n).nx ≤ m) (hD0 : ∀ id ob, (x.s 0).H.get id = some ob → D id)
    {L0 : LM} {w0 : World} (rv : Option Nat) (kind : CallKind) (k : List Item) (dv : List Deferred) (cs : List Frame) :
    ∀ (fuel t : Nat) (listed : Array Bool) (L : LM) (w : World) (arr : Array Value), listed.size = n → ((List.range n).filter fun i => !listed.getD i true).length ≤ fuel →
      Inv x all n fr.nt D L0 w0 (fun i => listed.getD i false = true) L w arr → Down all (fun i => listed.getD i false = true) →
      ∃ L' w' arr', Inv x all n fr.nt D L0 w0 (fun i => i < n) L' w' arr' ∧ Agree D L L' ∧
        Steps P (lone (frm fr rv kind arr (.inRegion all (Region.linearise.go .any all fuel t listed []) :: k) dv) cs w) (lone (frm fr rv kind arr' (.inRegion all [] :: k) dv) cs w') := by
  have hfin : ∀ (listed : Array Bool) (L : LM) (w : World) (arr : Array Value), listed.size = n → (∀ i, i < n → listed.getD i true = true) → Inv x all n fr.nt D L0 w0 (fun i => listed.getD i false = true) L w arr →
      Inv x all n fr.nt D L0 w0 (fun i => i < n) L w arr := by
    intro listed L w arr hs hall hI
    have e : (fun i => listed.getD i false = true) = (fun i => i < n) := by
      funext i
      apply propext
      constructor
      · intro h
        refine Nat.lt_of_not_le fun hle => ?_
        rw [Array.getD_eq_getD_getElem?, Array.getElem?_eq_none (by omega)] at h
        cases h
      · intro h
        have := hall i h
        rw [Array.getD_eq_getD_getElem?, Array.getElem?_eq_getElem (by omega)] at this ⊢
        exact this
    rw [← e]; exact hI
  intro fuel
  induction fuel with
  | zero =>
    intro t listed L w arr hs hc hI hdown
    refine ⟨L, w, arr, hfin listed L w arr hs (fun i hi => ?_) hI, .refl _ _, by simp only [Region.linearise.go, List.reverse_nil]; exact .refl _ _⟩
    cases h : listed.getD i true with
    | true => rfl
    | false =>
      have : i ∈ ((List.range n).filter fun i => !listed.getD i true) := List.mem_filter.2 ⟨List.mem_range.2 hi, by rw [h]; rfl⟩
      have := List.length_pos_of_mem this
      omega
  | succ fuel ih =>
    intro t listed L w arr hs hc hI hdown
    simp only [Region.linearise.go]
    change ∃ L' w' arr', _ ∧ _ ∧ Steps P (lone (frm fr rv kind arr (.inRegion all (match (Region.ready .any all listed)[t % (Region.ready .any all listed).length]? with
      | some i => Region.linearise.go .any all fuel (t / (Region.ready .any all listed).length) (listed.setIfInBounds i true) [i]
      | none => [].reverse) :: k) dv) cs w) _
    cases hi : (Region.ready .any all listed)[t % (Region.ready .any all listed).length]? with
    | none =>
      have hnil : Region.ready .any all listed = [] := by
        cases hr : Region.ready .any all listed with
        | nil => rfl
        | cons y ys =>
          rw [hr] at hi
          have hlt : t % (y :: ys).length < (y :: ys).length := Nat.mod_lt _ (by simp)
          simp at hi
          simp at hlt
          omega
      have hall : ∀ i, i < n → listed.getD i true = true := by
        intro i
        induction i using Nat.strongRecOn with
        | ind i ihi =>
          intro hin
          cases h : listed.getD i true with
          | true => rfl
          | false =>
            have hmem : i ∈ Region.ready .any all listed := by
              refine ready_mem.2 ⟨by omega, h, _, Array.getElem?_eq_getElem (by omega), fun e he hb => ?_⟩
              have hlt := backOK_spec all.toList 0 hback i _ (by rw [Array.getElem?_toList]; exact Array.getElem?_eq_getElem (by omega)) e he hb
              rw [Nat.zero_add] at hlt
              have h2 := ihi e.on hlt (by omega)
              rw [Array.getD_eq_getD_getElem?, Array.getElem?_eq_getElem (by omega)] at h2 ⊢
              exact h2
            rw [hnil] at hmem
            simp at hmem
      exact ⟨L, w, arr, hfin listed L w arr hs hall hI, .refl _ _, .refl _ _⟩
    | some i =>
      simp only []
      obtain ⟨r1, r2, o, r3, r4⟩ := ready_mem.1 (List.mem_of_getElem? hi)
      rw [linearise_go_acc, List.reverse_singleton, List.singleton_append]
      have hns : ¬ (listed.getD i false = true) := by
        rw [Array.getD_eq_getD_getElem?, Array.getElem?_eq_getElem (by omega)] at r2 ⊢
        simpa using r2
      have hSn : ∀ j, listed.getD j false = true → j < n := by
        intro j h
        refine Nat.lt_of_not_le fun hle => ?_
        rw [Array.getD_eq_getD_getElem?, Array.getElem?_eq_none (by omega)] at h
        cases h
      obtain ⟨L1, w1, arr1, hI1, hA1, hS1⟩ := inv_step hE hcf hyf hn hpm hback hap hx ho hD hD0 hI hSn hdown r3 hns r4 rv kind
        (Region.linearise.go .any all fuel (t / (Region.ready .any all listed).length) (listed.setIfInBounds i true) []) k dv cs
      have hset : ∀ j b, j < n → (listed.setIfInBounds i true).getD j b = if j = i then true else listed.getD j b := by
        intro j b hj
        rw [Array.getD_eq_getD_getElem?, Array.getElem?_setIfInBounds]
        by_cases hij : i = j
        · subst hij; rw [if_pos rfl, if_pos rfl, if_pos (by omega)]; rfl
        · simp [hij, Ne.symm hij]
      have hset' : (fun j => (listed.setIfInBounds i true).getD j false = true) = (fun j => listed.getD j false = true ∨ j = i) := by
        funext j
        apply propext
        by_cases hj : j < n
        · rw [hset j false hj]
          by_cases hij : j = i
          · simp [hij]
          · simp [hij]
        · have h1 : (listed.setIfInBounds i true).getD j false = false := by rw [Array.getD_eq_getD_getElem?, Array.getElem?_eq_none (by simp; omega)]; rfl
          rw [h1]
          constructor
          · intro h; cases h
          · rintro (h | h)
            · exact absurd (hSn j h) hj
            · omega
      obtain ⟨L2, w2, arr2, hI2, hA2, hS2⟩ := ih (t / (Region.ready .any all listed).length) (listed.setIfInBounds i true) L1 w1 arr1 (by simp [hs]) (by
        have := filter_lt (p := fun j => !listed.getD j true) (q := fun j => !(listed.setIfInBounds i true).getD j true) (List.range n) (fun j hj => by
          by_cases hjn : j < n
          · rw [hset j true hjn] at hj
            by_cases hij : j = i
            · simp [hij] at hj
            · simpa [hij] using hj
          · have : (listed.setIfInBounds i true).getD j true = true := by rw [Array.getD_eq_getD_getElem?, Array.getElem?_eq_none (by simp; omega)]; rfl
            rw [this] at hj; cases hj) i (by simp; omega) (by rw [r2]; rfl) (by rw [hset i true (by omega)]; simp)
        exact Nat.le_of_lt_succ (Nat.lt_of_lt_of_le this hc)) (by rw [hset']; exact hI1) (by
        rw [hset']
        intro j' o' hjo' hS e he hb
        rcases hS with hS | rfl
        · exact .inl (hdown j' o' hjo' hS e he hb)
        · rw [r3] at hjo'; cases hjo'; exact .inl (r4 e he hb))
      exact ⟨L2, w2, arr2, hI2, (hA1.mono (fun m hm => .inl hm)).trans hA2, hS1.trans hS2⟩

/-- What a region that draws does. -/
def DrawOK (P : Program) (fr : Frs) (id : Nat) (ops : Array Oper) (T : Tr V) (df : List Dfr) (s : St) (T' : Tr V) (s' : St) : Prop :=
  ∀ (D : Nat → Prop) (L : LM) (w : World) (rv : Option Nat) (kind : CallKind) (arr : Array Value) (k : List Item) (dv : List Deferred) (cs : List Frame),
    SR D L s.H.get w → CtxR D L fr T df arr dv rv → (∀ n, D n → n < s.nx ∨ s'.nx ≤ n) →
    ∃ L' w' arr', Mv D L s.H.get w L' s'.H.get w' ∧ SR (Grow D s.nx s'.nx) L' s'.H.get w' ∧ CtxR (Grow D s.nx s'.nx) L' fr T' df arr' dv rv ∧
      Steps P (lone (frm fr rv kind arr (.code (.region id ops true) :: k) dv) cs w) (lone (frm fr rv kind arr' k dv) cs w')

theorem drawOps_ok (hE : EnvOK P E) (hm : P.follows .mixedOrders = true) {cf : CallF} {yf : YieldF} (hcf : CfOK P E cf) (hyf : YfOK P yf) (fr : Frs) (id : Nat) (ops : Array Oper) {T T' : Tr V} {df : List Dfr} {s s' : St}
    (h : drawOps E cf yf fr ops.toList ops.toList (befores [] ops.toList) [] T s = some (T', s')) (hap : apartAll ops.toList ops.toList (befores [] ops.toList) 0 = true) (hback : backOK 0 ops.toList = true) (ho : Obl s') :
    Lg s s' ∧ Obl s ∧ DrawOK P fr id ops T df s T' s' := by
  obtain ⟨x, x1, x2, x3, x4, x5⟩ := drawOps_trace _ _ _ _ _ _ _ h
  have hn : ops.toList.length = ops.size := by simp
  have hx : ∀ j o, ops[j]? = some o → StepP E cf yf fr ops.toList (befores [] ops.toList) [] x j o := fun j o hj => x5 j o (by simpa using hj)
  rw [hn] at x3 x4
  rw [← x4] at ho
  have hf := facts_of hE hcf hyf rfl hx ho
  have hlg : ∀ j, j ≤ ops.size → Lg (x.s 0) (x.s j) := by
    intro j
    induction j with
    | zero => intro _; exact .refl _
    | succ j ih =>
      intro hj
      have F := hf j _ (Array.getElem?_eq_getElem (show j < ops.size by omega))
      exact (ih (by omega)).trans ⟨F.nx, F.lg⟩
  have hob : ∀ j, j ≤ ops.size → Obl (x.s j) := by
    intro j hj
    by_cases hjn : j < ops.size
    · exact (hf j _ (Array.getElem?_eq_getElem hjn)).obl
    · have : j = ops.size := by omega
      rw [this]; exact ho
  have hob1 : ∀ i, i < ops.size → Obl (x.s1 i) := by
    intro i hi
    have h1 : Obl (x.s (i + 1)) := hob (i + 1) (by omega)
    obtain ⟨_, _, _, _, q4⟩ := hx i _ (Array.getElem?_eq_getElem hi)
    rcases q4 with ⟨_, _, q, _⟩ | ⟨_, _, rd, q, _, _⟩ | ⟨_, _, q, _, _, _, q'⟩
    · rw [q] at h1; exact h1
    · exact (quietX_ok hE q h1).1.2
    · rw [q'] at h1
      exact (runOp_ok hE hcf hyf q (fun b hb => h1 b hb)).2.1
  refine ⟨by rw [← x2, ← x4]; exact hlg _ (Nat.le_refl _), by rw [← x2]; exact hob 0 (Nat.zero_le _), ?_⟩
  intro D L w rv kind arr k dv cs hSR hC hD
  rw [← x2] at hSR hD
  rw [← x4] at hD
  have hw : w.drew.heap = w.heap := rfl
  have hI : Inv x ops ops.size fr.nt D L w (fun i => (Array.replicate ops.size false).getD i false = true) L w.drew arr := by
    have e : (fun i => (Array.replicate ops.size false).getD i false = true) = (fun _ => False) := by
      funext i
      simp [Array.getD_eq_getD_getElem?, Array.getElem?_replicate]
      split <;> simp
    rw [e]
    have hB : Bf x (fun _ => False) ops.size = (x.s 0).H.get := by
      funext m
      have : ∀ j, Bf x (fun _ => False) j m = (x.s 0).H.get m := by
        intro j
        induction j with
        | zero => rfl
        | succ j ih => simp [Bf, ih]
      exact this _
    have hT : ∀ t, Tf ops x (fun _ => False) ops.size t = ((x.T 0).get t).getD undefV := by
      intro t
      have : ∀ j, Tf ops x (fun _ => False) j t = ((x.T 0).get t).getD undefV := by
        intro j
        induction j with
        | zero => rfl
        | succ j ih => simp [Tf, ih]
      exact this _
    have hDS : DS x D ops.size (fun _ => False) = D := by
      funext m
      apply propext
      simp [DS]
    refine ⟨?_, ?_, ?_⟩
    · rw [hB, hDS]; exact hSR.heap hw
    · rw [hB]
      exact ⟨.refl _ _, Nat.le_refl _, fun _ _ _ => rfl, fun n o b h hr hb => .inr ⟨n, o, h, hr, hb⟩, rfl, rfl, rfl, fun _ _ h _ => h⟩
    · rw [hDS]
      intro L' hL'
      obtain ⟨⟨c1, c2⟩, _, _⟩ := hC L' hL'
      refine ⟨c1, fun t => ?_⟩
      rw [hT, x1]
      have := c2 t
      exact this
  obtain ⟨L', w', arr', hI', hA, hS⟩ := draws_ok hE hcf hyf rfl rfl hback hap hx ho hD (fun m ob hm => hSR.live hm) rv kind k dv cs ops.size (w.tape w.drawn (.order fr.fn id)) (Array.replicate ops.size false) L w.drew arr (by simp)
    (Nat.le_trans (List.length_filter_le _ _) (by simp)) hI (by
      intro j o _ hj
      simp [Array.getD_eq_getD_getElem?, Array.getElem?_replicate] at hj
      split at hj <;> simp at hj)
  have hB : Bf x (fun i => i < ops.size) ops.size = (x.s ops.size).H.get := by
    funext m
    exact Bf_all hf rfl _ _ (Nat.le_refl _) m (fun i hi _ => hi)
  have hT : ∀ t, Tf ops x (fun i => i < ops.size) ops.size t = ((x.T ops.size).get t).getD undefV := fun t => Tf_all hx rfl hob1 _ _ (Nat.le_refl _) t (fun i hi _ => hi)
  have hDS : ∀ m, DS x D ops.size (fun i => i < ops.size) m → Grow D s.nx s'.nx m := by
    rintro m (hm | ⟨j, hj, _, h1, h2⟩)
    · exact .inl hm
    · have := (hf j _ (Array.getElem?_eq_getElem hj)).rng m h1 h2
      have h3 := nx_mono hf rfl 0 j (Nat.zero_le _) (by omega)
      have h4 := nx_mono hf rfl (j + 1) ops.size (by omega) (Nat.le_refl _)
      rw [x2] at h3; rw [x4] at h4
      exact .inr ⟨by omega, by omega⟩
  refine ⟨L', w', arr', ?_, ?_, ?_, ?_⟩
  · have := hI'.mv
    rw [hB, x4, x2] at this
    exact this
  · have := hI'.sr
    rw [hB, x4] at this
    exact this.mono hDS
  · intro L'' hL''
    obtain ⟨t1, t2⟩ := hI'.tm L'' (hL''.mono hDS)
    obtain ⟨_, c3, c4⟩ := hC L'' ((hI'.mv.agree).trans (hL''.mono (fun m hm => .inl hm)))
    refine ⟨⟨t1, fun t => ?_⟩, c3, c4⟩
    rw [← x3, ← hT]; exact t2 t
  · refine Steps.head step_region_draw' ?_
    have e : Region.schedule (P.follows .mixedOrders) ops (w.tape w.drawn (.order fr.fn id)) = Region.linearise.go .any ops ops.size (w.tape w.drawn (.order fr.fn id)) (Array.replicate ops.size false) [] := by
      simp [Region.schedule, hm, Region.linearise]
    rw [e]
    exact hS.trans (Steps.head step_region_end' (.refl _ _))

end
end Go.Sx
