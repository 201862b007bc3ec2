/- Tables are right: checked by reckoning. -/
import Derived.Test.YtoiajdjmlbdfnaaSxV
namespace Go.Sx
section
variable {P : Program}

def putAll {α : Type} : List (Nat × α) → Tr α → Tr α
  | [], t => t
  | (n, x) :: l, t => putAll l (t.put n (some x))
def small {α : Type} : List (Nat × α) → Bool
  | [] => true
  | (n, _) :: l => cond (Nat.blt n big) (small l) false

theorem putAll_get {α : Type} : ∀ (l : List (Nat × α)) (t : Tr α) (m : Nat) (y : α), small l = true → (putAll l t).get m = some y → (m, y) ∈ l ∨ t.get m = some y := by
  intro l
  induction l with
  | nil => intro t m y _ h; exact .inr h
  | cons p l ih =>
    intro t m y hs h
    obtain ⟨n, x⟩ := p
    simp only [small] at hs
    cases hb : Nat.blt n big with
    | false => rw [hb] at hs; cases hs
    | true =>
      rw [hb] at hs
      rcases ih _ m y hs h with h1 | h1
      · exact .inl (List.mem_cons_of_mem _ h1)
      · rw [Tr.get_put _ _ _ _ (Nat.blt_eq.mp hb)] at h1
        by_cases hm : m = n
        · rw [if_pos hm] at h1; cases h1; subst hm; exact .inl (List.mem_cons_self ..)
        · rw [if_neg hm] at h1; exact .inr h1

/-- Plain values that are alike. -/
def likeV : V → V → Bool
  | .int k n, .int k' n' => cond (decide (k = k')) (decide (n = n')) false
  | .bool b, .bool b' => b == b'
  | .nilp, .nilp => true
  | .nils, .nils => true
  | .nilf, .nilf => true
  | .nili, .nili => true
  | .str s, .str s' => decide (s = s')
  | .nilm, .nilm => true
  | _, _ => false
theorem likeV_ok : ∀ {a b : V}, likeV a b = true → a = b := by
  intro a b h
  cases a <;> cases b <;> simp [likeV] at h <;> try rfl
  · rw [h.1, h.2]
  · rw [h]
  · rw [h]
def likeVs : List V → List V → Bool
  | [], [] => true
  | a :: as, b :: bs => cond (likeV a b) (likeVs as bs) false
  | _, _ => false
theorem likeVs_ok : ∀ {a b : List V}, likeVs a b = true → a = b := by
  intro a
  induction a with
  | nil => intro b h; cases b with
    | nil => rfl
    | cons => cases h
  | cons x a ih => intro b h; cases b with
    | nil => cases h
    | cons y b =>
      simp only [likeVs] at h
      cases hx : likeV x y with
      | false => rw [hx] at h; cases h
      | true => rw [hx] at h; rw [likeV_ok hx, ih h]

def szB (P : Program) (t : TypeId) (size : Nat) (ag : Bool) : Bool :=
  match P.info? t, P.underlying t with
  | some i, some d => Nat.beq i.size size && (isAggD d == ag)
  | _, _ => false
theorem szB_ok {t : TypeId} {size : Nat} {ag : Bool} (h : szB P t size ag = true) : Szd P t size ag := by
  unfold szB at h
  split at h
  · rename_i i d hi hd
    simp only [Bool.and_eq_true, beq_iff_eq] at h
    exact ⟨i, d, hi, Nat.beq_eq.mp h.1, hd, h.2⟩
  · cases h

def fsB (P : Program) : List Field → List (Nat × Nat × Bool) → Bool
  | [], [] => true
  | f :: fl, (o, sz, ag) :: l => Nat.beq f.offset o && szB P f.type sz ag && fsB P fl l
  | _, _ => false
theorem fsB_ok : ∀ {fl : List Field} {l : List (Nat × Nat × Bool)}, fsB P fl l = true → fl.length = l.length ∧ ∀ (i o sz : Nat) (ag : Bool), l[i]? = some (o, sz, ag) → ∃ f : Field, fl[i]? = some f ∧ f.offset = o ∧ Szd P f.type sz ag := by
  intro fl
  induction fl with
  | nil => intro l h; cases l with
    | nil => exact ⟨rfl, fun i o sz ag h => by simp at h⟩
    | cons => cases h
  | cons f fl ih =>
    intro l h
    cases l with
    | nil => cases h
    | cons x l =>
      obtain ⟨o, sz, ag⟩ := x
      simp only [fsB, Bool.and_eq_true] at h
      obtain ⟨h1, h2⟩ := ih h.2
      refine ⟨by simp [h1], fun i o' sz' ag' hi => ?_⟩
      cases i with
      | zero =>
        simp at hi
        obtain ⟨rfl, rfl, rfl⟩ := hi
        exact ⟨f, rfl, Nat.beq_eq.mp h.1.1, szB_ok h.1.2⟩
      | succ i => simp at hi; simpa using h2 i o' sz' ag' hi

def kdB (P : Program) : TypeDesc → Kd → Bool
  | .struct fields, .struct fs => fsB P fields.toList fs
  | .array n e, .arr n' es ag => Nat.beq n n' && szB P e es ag
  | .slice e, .slice e' => Nat.beq e e'
  | .int k, .intk k' => decide (k = k')
  | .bool, .bool => true
  | .pointer e, .ptr => match P.info? e with
    | some i => !(Nat.beq i.size 0)
    | none => false
  | .func _ _ _, .func => true
  | .interface _, .iface => true
  | _, .other => true
  | _, _ => false
theorem kdB_ok {d : TypeDesc} {k : Kd} (h : kdB P d k = true) : KdR P d k := by
  cases k with
  | struct fs =>
    cases d <;> simp only [kdB] at h <;> try cases h
    rename_i fields
    obtain ⟨h1, h2⟩ := fsB_ok h
    exact ⟨fields, rfl, by simpa using h1, fun i o sz ag hi => by simpa using h2 i o sz ag hi⟩
  | arr n es ag =>
    cases d <;> simp only [kdB] at h <;> try cases h
    simp only [Bool.and_eq_true] at h
    exact ⟨_, by rw [Nat.beq_eq.mp h.1], szB_ok h.2⟩
  | slice e =>
    cases d <;> simp only [kdB] at h <;> try cases h
    show _ = _
    rw [Nat.beq_eq.mp h]
  | intk k =>
    cases d <;> simp only [kdB] at h <;> try cases h
    show _ = _
    rw [of_decide_eq_true h]
  | bool => cases d <;> simp only [kdB] at h <;> first | rfl | cases h
  | ptr =>
    cases d <;> simp only [kdB] at h <;> try cases h
    split at h
    · rename_i i hi
      refine ⟨_, i, rfl, hi, fun h0 => ?_⟩
      rw [h0] at h
      simp at h
    · cases h
  | func => cases d <;> simp only [kdB] at h <;> first | exact ⟨_, _, _, rfl⟩ | cases h
  | iface => cases d <;> simp only [kdB] at h <;> first | exact ⟨_, rfl⟩ | cases h
  | other => trivial

def rowB (ti : TI) : Bool :=
  match ti.row with
  | .words k => Nat.beq ti.size 1 && likeVs ti.zb.flat [.int k 0]
  | .rows sh => Nat.beq ti.size sh.length && likeVs ti.zb.flat (shRow sh [])
  | .cells => true

def tiB (P : Program) (t : TypeId) (ti : TI) : Bool :=
  match P.info? t, P.underlying t with
  | some i, some d => Nat.beq i.size ti.size && Nat.beq i.bytes ti.bytes && (match i.zero with
      | some z => (match ofScalars z.cells.toList with
        | some l => likeVs l ti.zb.flat
        | none => false)
      | none => false) && (isAggD d == ti.agg) && kdB P d ti.kind && Nat.beq ti.zb.flat.length ti.size && rowB ti
  | _, _ => false

theorem tiB_ok {t : TypeId} {ti : TI} (h : tiB P t ti = true) : TIok P t ti := by
  unfold tiB at h
  split at h
  · rename_i i d hi hd
    simp only [Bool.and_eq_true, beq_iff_eq] at h
    obtain ⟨⟨⟨⟨⟨⟨h1, h2⟩, h3⟩, h4⟩, h5⟩, h6⟩, h7⟩ := h
    cases hz : i.zero with
    | none => rw [hz] at h3; cases h3
    | some z =>
      rw [hz] at h3
      simp only at h3
      cases hl : ofScalars z.cells.toList with
      | none => rw [hl] at h3; cases h3
      | some l =>
        rw [hl] at h3
        have hfl := likeVs_ok h3
        refine ⟨⟨i, z, d, hi, Nat.beq_eq.mp h1, Nat.beq_eq.mp h2, hz, fun L => ?_, hd, h4, kdB_ok h5⟩, Nat.beq_eq.mp h6, ?_⟩
        · have := ofScalars_den L _ _ hl
          rw [cellsOf, ← hfl]
          exact this.symm
        · unfold rowB at h7
          cases hr : ti.row with
          | words k =>
            rw [hr] at h7
            simp only [Bool.and_eq_true] at h7
            refine ⟨Nat.beq_eq.mp h7.1, fun L => ?_⟩
            rw [cellsOf, likeVs_ok h7.2]; rfl
          | rows sh =>
            rw [hr] at h7
            simp only [Bool.and_eq_true] at h7
            refine ⟨Nat.beq_eq.mp h7.1, fun L => ?_⟩
            rw [cellsOf, likeVs_ok h7.2]
          | cells => trivial
  · cases h

def allTy (P : Program) : List (Nat × TI) → Bool
  | [] => true
  | (t, ti) :: l => cond (tiB P t ti) (allTy P l) false
theorem allTy_ok : ∀ {l : List (Nat × TI)}, allTy P l = true → ∀ p ∈ l, TIok P p.1 p.2 := by
  intro l
  induction l with
  | nil => intro _ p hp; cases hp
  | cons q l ih =>
    intro h p hp
    simp only [allTy] at h
    cases hq : tiB P q.1 q.2 with
    | false => rw [hq] at h; cases h
    | true =>
      rw [hq] at h
      rcases List.mem_cons.1 hp with rfl | hp
      · exact tiB_ok hq
      · exact ih h p hp

def AllF (P : Program) : List (Nat × Func) → Prop
  | [] => True
  | (f, fn) :: l => (P.funcs[f]? = some fn ∧ ∀ args w, (callFunc f args).run P w = .ok (.enter f args) w) ∧ AllF P l
theorem AllF.mem : ∀ {l : List (Nat × Func)}, AllF P l → ∀ p ∈ l, P.funcs[p.1]? = some p.2 ∧ ∀ args w, (callFunc p.1 args).run P w = .ok (.enter p.1 args) w := by
  intro l
  induction l with
  | nil => intro _ p hp; cases hp
  | cons q l ih =>
    intro h p hp
    rcases List.mem_cons.1 hp with rfl | hp
    · exact h.1
    · exact ih h.2 p hp

/-- The environment of two tables, with summaries. -/
def envOf (tt : List (Nat × TI)) (ft : List (Nat × Func)) (sm : FuncId → Option (List V → St → Option (V × St))) : Env := { FT := fun f => (putAll ft .nil).get f, TT := fun t => (putAll tt .nil).get t, SM := sm }

theorem envOf_ok {tt : List (Nat × TI)} {ft : List (Nat × Func)} {sm : FuncId → Option (List V → St → Option (V × St))} (hm : P.follows .mixedOrders = true) (ht : small tt = true) (hf : small ft = true) (h1 : allTy P tt = true) (h2 : AllF P ft) : EnvOK P (envOf tt ft sm) where
  mixed := hm
  ty := fun t ti h => by
    rcases putAll_get _ _ _ _ ht h with h | h
    · exact allTy_ok h1 _ h
    · cases h
  fn := fun f fn h => by
    rcases putAll_get _ _ _ _ hf h with h | h
    · exact h2.mem _ h
    · cases h

end
end Go.Sx
