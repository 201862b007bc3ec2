/- Regions that draw their order: whatever order comes, what is there at the end is what the text's order gives. -/
import Derived.Test.YtmmcpgjfkphgaaaGreatSxN
namespace Go.Sx
section
variable {P : Program} {E : Env}

/-- The way in the text's order: before each operation, behind its guard, behind its run. -/
structure Tce where
  T : Nat → Tr V
  T1 : Nat → Tr V
  s : Nat → St
  s1 : Nat → St
  s2 : Nat → St
  wt : Nat → Bool
  v : Nat → V
  r : Nat → Rec

def StepP (E : Env) (cf : CallF) (yf : YieldF) (fr : Frs) (all : List Oper) (pms : List Nat) (recs0 : List Rec) (x : Tce) (j : Nat) (o : Oper) : Prop :=
  ∃ pm, pms[j]? = some pm ∧ wantedX all o (x.T j) (x.s j) = some (x.wt j, x.T1 j, x.s1 j) ∧ putDst fr.nt (x.T1 j) o.dst (x.v j) = some (x.T (j + 1)) ∧
    ((x.wt j = false ∧ x.v j = undefV ∧ x.s (j + 1) = x.s1 j ∧ x.r j = ⟨false, [], [], 0, 0⟩) ∨
     (x.wt j = true ∧ isQuiet o.op = true ∧ ∃ rd, quietX E (x.T1 j) o.op (x.s1 j) = some (x.v j, rd, x.s (j + 1)) ∧ quietFits pm rd (recs0 ++ (List.range j).map x.r) 0 = true ∧ x.r j = ⟨false, rd, [], 0, 0⟩) ∨
     (x.wt j = true ∧ isQuiet o.op = false ∧ runOp E cf yf (x.T1 j) o.op { x.s1 j with H := hideRecs pm (recs0 ++ (List.range j).map x.r) 0 (x.s1 j).H, wr := [] } = some (x.v j, x.s2 j) ∧
       loudFits pm (newWr (x.s1 j).nx (x.s2 j).wr.length (x.s2 j).wr) (recs0 ++ (List.range j).map x.r) 0 = true ∧ ((x.s2 j).nx ≤ big ∧ ∀ n ∈ (x.s2 j).wr, n < (x.s2 j).nx) ∧
       x.r j = ⟨true, [], newWr (x.s1 j).nx (x.s2 j).wr.length (x.s2 j).wr, (x.s1 j).nx, (x.s2 j).nx⟩ ∧
       x.s (j + 1) = { x.s2 j with H := backRecs pm (x.s1 j).H (recs0 ++ (List.range j).map x.r) 0 (x.s2 j).H, wr := (x.s2 j).wr ++ (x.s1 j).wr }))

def Tce.cons (T T1 : Tr V) (s s1 s2 : St) (wt : Bool) (v : V) (r : Rec) (x : Tce) : Tce where
  T := fun j => match j with | 0 => T | j + 1 => x.T j
  T1 := fun j => match j with | 0 => T1 | j + 1 => x.T1 j
  s := fun j => match j with | 0 => s | j + 1 => x.s j
  s1 := fun j => match j with | 0 => s1 | j + 1 => x.s1 j
  s2 := fun j => match j with | 0 => s2 | j + 1 => x.s2 j
  wt := fun j => match j with | 0 => wt | j + 1 => x.wt j
  v := fun j => match j with | 0 => v | j + 1 => x.v j
  r := fun j => match j with | 0 => r | j + 1 => x.r j

theorem range_cons (r : Rec) (f : Nat → Rec) (recs0 : List Rec) (j : Nat) : recs0 ++ (List.range (j + 1)).map (fun j => match j with | 0 => r | j + 1 => f j) = (recs0 ++ [r]) ++ (List.range j).map f := by
  rw [List.range_succ_eq_map, List.map_cons, List.map_map]
  simp

theorem drawOps_trace {cf : CallF} {yf : YieldF} {fr : Frs} {all : List Oper} : ∀ (l : List Oper) (pms : List Nat) (recs0 : List Rec) (T T' : Tr V) (s s' : St), drawOps E cf yf fr all l pms recs0 T s = some (T', s') →
    ∃ x : Tce, x.T 0 = T ∧ x.s 0 = s ∧ x.T l.length = T' ∧ x.s l.length = s' ∧ ∀ j o, l[j]? = some o → StepP E cf yf fr all pms recs0 x j o := by
  intro l
  induction l with
  | nil =>
    intro pms recs0 T T' s s' h
    simp only [drawOps] at h
    cases h
    exact ⟨⟨fun _ => T, fun _ => T, fun _ => s, fun _ => s, fun _ => s, fun _ => true, fun _ => undefV, fun _ => ⟨false, [], [], 0, 0⟩⟩, rfl, rfl, rfl, rfl, fun j o h => by simp at h⟩
  | cons o l ih =>
    intro pms recs0 T T' s s' h
    cases pms with
    | nil => simp [drawOps] at h
    | cons pm pms =>
      simp only [drawOps] at h
      obtain ⟨⟨wt, T1, s1⟩, h1, h2⟩ := bind_some' h
      clear h
      have build : ∀ (x : Tce) (s2 : St) (v : V) (r : Rec), (∀ j o, l[j]? = some o → StepP E cf yf fr all pms (recs0 ++ [r]) x j o) → x.T l.length = T' → x.s l.length = s' →
          StepP E cf yf fr all (pm :: pms) recs0 (x.cons T T1 s s1 s2 wt v r) 0 o →
          ∃ x : Tce, x.T 0 = T ∧ x.s 0 = s ∧ x.T (o :: l).length = T' ∧ x.s (o :: l).length = s' ∧ ∀ j o', (o :: l)[j]? = some o' → StepP E cf yf fr all (pm :: pms) recs0 x j o' := by
        intro x s2 v r hx hT hs h0
        refine ⟨x.cons T T1 s s1 s2 wt v r, rfl, rfl, hT, hs, fun j o' ho' => ?_⟩
        cases j with
        | zero => simp at ho'; subst ho'; exact h0
        | succ j =>
          simp at ho'
          obtain ⟨pm', p1, p2, p3, p4⟩ := hx j o' ho'
          refine ⟨pm', by simpa using p1, p2, p3, ?_⟩
          have e : recs0 ++ (List.range (j + 1)).map (x.cons T T1 s s1 s2 wt v r).r = (recs0 ++ [r]) ++ (List.range j).map x.r := range_cons r x.r recs0 j
          rw [e]
          exact p4
      cases wt with
      | false =>
        obtain ⟨T2, h3, h4⟩ := bind_some' h2
        obtain ⟨x, x1, x2, x3, x4, x5⟩ := ih _ _ _ _ _ _ h4
        refine build x s1 undefV _ x5 x3 x4 ⟨pm, rfl, h1, ?_, .inl ⟨rfl, rfl, ?_, rfl⟩⟩
        · show putDst fr.nt T1 o.dst undefV = some (x.T 0); rw [x1]; exact h3
        · show x.s 0 = s1; exact x2
      | true =>
        simp only at h2
        split at h2
        · rename_i hq
          obtain ⟨⟨v, rd, s2⟩, h3, h4⟩ := bind_some' h2
          obtain ⟨_, h5, h6⟩ := bind_some' h4
          obtain ⟨T2, h7, h8⟩ := bind_some' h6
          obtain ⟨x, x1, x2, x3, x4, x5⟩ := ih _ _ _ _ _ _ h8
          refine build x s1 v _ x5 x3 x4 ⟨pm, rfl, h1, ?_, .inr (.inl ⟨rfl, hq, rd, ?_, ?_, rfl⟩)⟩
          · show putDst fr.nt T1 o.dst v = some (x.T 0); rw [x1]; exact h7
          · show quietX E T1 o.op s1 = some (v, rd, x.s 0); rw [x2]; exact h3
          · show quietFits pm rd (recs0 ++ []) 0 = true; rw [List.append_nil]; exact chk_some h5
        · rename_i hq
          obtain ⟨⟨v, s2⟩, h3, h4⟩ := bind_some' h2
          obtain ⟨_, h5, h6⟩ := bind_some' h4
          obtain ⟨_, h5', h6'⟩ := bind_some' h6
          obtain ⟨_, h5'', h6''⟩ := bind_some' h6'
          obtain ⟨T2, h7, h8⟩ := bind_some' h6''
          obtain ⟨x, x1, x2, x3, x4, x5⟩ := ih _ _ _ _ _ _ h8
          refine build x s2 v _ x5 x3 x4 ⟨pm, rfl, h1, ?_, .inr (.inr ⟨rfl, hq, ?_, ?_, ⟨Nat.ble_eq.mp (chk_some h5'), allLt_ok _ _ (chk_some h5'')⟩, rfl, ?_⟩)⟩
          · show putDst fr.nt T1 o.dst v = some (x.T 0); rw [x1]; exact h7
          · show runOp E cf yf T1 o.op { s1 with H := hideRecs pm (recs0 ++ []) 0 s1.H, wr := [] } = some (v, s2); rw [List.append_nil]; exact h3
          · show loudFits pm (newWr s1.nx s2.wr.length s2.wr) (recs0 ++ []) 0 = true; rw [List.append_nil]; exact chk_some h5
          · show x.s 0 = { s2 with H := backRecs pm s1.H (recs0 ++ []) 0 s2.H, wr := s2.wr ++ s1.wr }; rw [List.append_nil]; exact x2

/-- The facts of one operation, in the text's order. -/
structure Fact (P : Program) (all : Array Oper) (x : Tce) (pms : List Nat) (j : Nat) (o : Oper) : Prop where
  obl : Obl (x.s j)
  nx1 : (x.s1 j).nx = (x.s j).nx
  nx : (x.s j).nx ≤ (x.s (j + 1)).nx
  rok : RecOK (x.r j)
  wlt : ∀ n ∈ (x.r j).wr, n < (x.s j).nx
  rng : ∀ id, (x.r j).lo ≤ id → id < (x.r j).hi → (x.s j).nx ≤ id ∧ id < (x.s (j + 1)).nx
  same : ∀ id, ¬ Touch (x.r j) id → (x.s (j + 1)).H.get id = (x.s j).H.get id
  lg : ∃ l, (x.s (j + 1)).wr = l ++ (x.s j).wr ∧ ∀ id, id ∉ l → ¬ ((x.s j).nx ≤ id ∧ id < (x.s (j + 1)).nx) → (x.s (j + 1)).H.get id = (x.s j).H.get id

theorem mem_range {α : Type} {f : Nat → α} {j : Nat} {y : α} : y ∈ (List.range j).map f ↔ ∃ i, i < j ∧ f i = y := by simp
theorem range_get {α : Type} {f : Nat → α} {j i : Nat} (h : i < j) : ((List.range j).map f)[i]? = some (f i) := by simp [h]

theorem facts_of (hE : EnvOK P E) {cf : CallF} {yf : YieldF} (hcf : CfOK P E cf) (hyf : YfOK P yf) {fr : Frs} {all : Array Oper} {pms : List Nat} {x : Tce} {n : Nat} (hn : n = all.size)
    (hx : ∀ j o, all[j]? = some o → StepP E cf yf fr all.toList pms [] x j o) (ho : Obl (x.s n)) : ∀ j o, all[j]? = some o → Fact P all x pms j o := by
  -- what is owed, backwards
  have hob : ∀ k j, j + k = n → Obl (x.s j) := by
    intro k
    induction k with
    | zero => intro j h; rw [Nat.add_zero] at h; rw [h]; exact ho
    | succ k ih =>
      intro j h
      have h1 := ih (j + 1) (by omega)
      have hj : j < all.size := by omega
      obtain ⟨pm, p1, p2, p3, p4⟩ := hx j _ (Array.getElem?_eq_getElem hj)
      have hs1 : Obl (x.s1 j) := by
        rcases p4 with ⟨_, _, q, _⟩ | ⟨_, _, rd, q, _, _⟩ | ⟨_, _, q, _, _, _, q'⟩
        · rw [q] at h1; exact h1
        · exact (quietX_ok hE q h1).1.2
        · rw [q'] at h1
          exact (runOp_ok hE hcf hyf q (fun b hb => h1 b hb)).2.1
      exact (wantedX_ok p2 hs1).1.2
  -- the records, forwards
  have hrok : ∀ j, j ≤ n → ∀ i, i < j → RecOK (x.r i) := by
    intro j
    induction j with
    | zero => intro _ i hi; omega
    | succ j ih =>
      intro hj i hi
      by_cases h : i < j
      · exact ih (by omega) i h
      · have hij : i = j := by omega
        subst hij
        have hj' : i < all.size := by omega
        obtain ⟨pm, p1, p2, p3, p4⟩ := hx i _ (Array.getElem?_eq_getElem hj')
        rcases p4 with ⟨_, _, _, q⟩ | ⟨_, _, rd, _, _, q⟩ | ⟨_, _, q0, _, q2, q, q3⟩
        · rw [q]; exact ⟨by simp, Nat.zero_le _, Nat.le_refl _⟩
        · rw [q]; exact ⟨by simp, Nat.zero_le _, Nat.le_refl _⟩
        · have h2 : Obl (x.s2 i) := by
            have h1 := hob (n - (i + 1)) (i + 1) (by omega)
            rw [q3] at h1
            exact fun b hb => h1 b hb
          have hlg := (runOp_ok hE hcf hyf q0 h2).1
          have hle : (x.s1 i).nx ≤ (x.s2 i).nx := hlg.le
          rw [q]
          refine ⟨fun m hm => ?_, q2.1, hle⟩
          have := ((newWr_ok _ _ _ (Nat.le_refl _) m).1 hm).2
          omega
  intro j o hjo
  have hj : j < all.size := (Array.getElem?_eq_some_iff.1 hjo).1
  obtain ⟨pm, p1, p2, p3, p4⟩ := hx j o hjo
  have h1 := hob (n - (j + 1)) (j + 1) (by omega)
  have h0 := hob (n - j) j (by omega)
  have hs1 : Obl (x.s1 j) := by
    rcases p4 with ⟨_, _, q, _⟩ | ⟨_, _, rd, q, _, _⟩ | ⟨_, _, q, _, _, _, q'⟩
    · rw [q] at h1; exact h1
    · exact (quietX_ok hE q h1).1.2
    · rw [q'] at h1
      exact (runOp_ok hE hcf hyf q (fun b hb => h1 b hb)).2.1
  obtain ⟨w1, _, _⟩ := wantedX_ok p2 hs1
  have hrecs : ∀ r ∈ [] ++ (List.range j).map x.r, RecOK r := by
    intro r hr
    rw [List.nil_append] at hr
    obtain ⟨i, hi, rfl⟩ := mem_range.1 hr
    exact hrok j (by omega) i hi
  rcases p4 with ⟨_, _, q, qr⟩ | ⟨_, _, rd, q, _, qr⟩ | ⟨_, _, q, _, qb, qr, q'⟩
  · refine ⟨h0, w1.1.nx, by rw [q, w1.1.nx]; exact Nat.le_refl _, hrok (j + 1) (by omega) j (by omega), by rw [qr]; simp, by rw [qr]; intro id a b; simp at b, fun id _ => by rw [q, w1.1.H], [], by rw [q, w1.1.wr]; rfl, fun id _ _ => by rw [q, w1.1.H]⟩
  · have hq := (quietX_ok hE q h1).1.1
    refine ⟨h0, w1.1.nx, by rw [hq.nx, w1.1.nx]; exact Nat.le_refl _, hrok (j + 1) (by omega) j (by omega), by rw [qr]; simp, by rw [qr]; intro id a b; simp at b, fun id _ => by rw [hq.H, w1.1.H], [], by rw [hq.wr, w1.1.wr]; rfl, fun id _ _ => by rw [hq.H, w1.1.H]⟩
  · have h2 : Obl (x.s2 j) := by
      rw [q'] at h1
      exact fun b hb => h1 b hb
    obtain ⟨⟨hle, l, hwr, hlog⟩, _, _⟩ := runOp_ok hE hcf hyf q h2
    have hle : (x.s1 j).nx ≤ (x.s2 j).nx := hle
    have hwr : (x.s2 j).wr = l := by simpa using hwr
    have hmain : ∀ id, id ∉ l → ¬ ((x.s1 j).nx ≤ id ∧ id < (x.s2 j).nx) → (x.s (j + 1)).H.get id = (x.s j).H.get id := by
      intro id g1 g2
      rw [q']
      show (backRecs pm (x.s1 j).H ([] ++ (List.range j).map x.r) 0 (x.s2 j).H).get id = _
      rw [backRecs_get pm _ _ _ _ _ hrecs]
      split
      · rw [w1.1.H]
      · rename_i hh
        have := hlog id g1 g2
        rw [this]
        show (hideRecs pm ([] ++ (List.range j).map x.r) 0 (x.s1 j).H).get id = _
        rw [hideRecs_get pm _ _ _ _ hrecs, if_neg hh, w1.1.H]
    refine ⟨h0, w1.1.nx, by rw [q']; show (x.s j).nx ≤ (x.s2 j).nx; rw [← w1.1.nx]; exact hle, hrok (j + 1) (by omega) j (by omega), ?_, ?_, ?_, l, ?_, ?_⟩
    · rw [qr, ← w1.1.nx]
      intro m hm
      exact ((newWr_ok _ _ _ (Nat.le_refl _) m).1 hm).2
    · rw [qr, q']
      intro id a b
      exact ⟨by rw [← w1.1.nx]; exact a, b⟩
    · intro id ht
      rw [qr] at ht
      refine hmain id (fun hm => ?_) (fun hr => ht (.inr hr))
      by_cases h3 : id < (x.s1 j).nx
      · exact ht (.inl ((newWr_ok _ _ _ (Nat.le_refl _) id).2 ⟨by rw [hwr]; exact hm, h3⟩))
      · have h4 := qb.2 id (by rw [hwr]; exact hm)
        exact ht (.inr ⟨by show (x.s1 j).nx ≤ id; omega, h4⟩)
    · rw [q', ← w1.1.wr, ← hwr]
    · intro id g1 g2
      refine hmain id g1 (fun g3 => g2 ⟨by rw [← w1.1.nx]; exact g3.1, by rw [q']; exact g3.2⟩)

end
end Go.Sx
