/- Code. -/
import Derived.Test.YtmmcpgjfkphgaaaGreatSxQ
import Derived.AtR
import Derived.RangeFuncRecord
import Derived.Defers
namespace Go.Sx
section
variable {P : Program} {E : Env}

structure Cf where
  arr : Array Value
  dv : List Deferred
  w : World
abbrev Rel := Option Nat → CallKind → List Item → List Frame → Cf → Cf → Prop

/-- A piece of a frame's way. -/
def Pc (fr : Frs) (T : Tr V) (df : List Dfr) (s : St) (T' : Tr V) (df' : List Dfr) (s' : St) (R : Rel) : Prop :=
  ∀ (D : Nat → Prop) (L : LM) (rv : Option Nat) (kind : CallKind) (k : List Item) (cs : List Frame) (a : Cf),
    SR D L s.H.get a.w → CtxR D L fr T df a.arr a.dv rv → (∀ n, D n → n < s.nx ∨ s'.nx ≤ n) →
    ∃ (L' : LM) (b : Cf), Mv D L s.H.get a.w L' s'.H.get b.w ∧ SR (Grow D s.nx s'.nx) L' s'.H.get b.w ∧ CtxR (Grow D s.nx s'.nx) L' fr T' df' b.arr b.dv rv ∧ R rv kind k cs a b

variable {fr : Frs} {T T1 T2 T' : Tr V} {df df1 df2 df' : List Dfr} {s s1 s2 s' : St} {R R1 R2 R3 : Rel}

theorem Pc.stay (hR : ∀ rv kind k cs a, R rv kind k cs a a) : Pc fr T df s T df s R := fun D L rv kind k cs a hSR hC hD =>
  ⟨L, a, .refl _ _ _ _, by rw [grow_self rfl]; exact hSR, by rw [grow_self rfl]; exact hC, hR _ _ _ _ _⟩

theorem Pc.trans (h : Pc fr T df s T1 df1 s1 R1) (g : Pc fr T1 df1 s1 T2 df2 s2 R2) (hl : s.nx ≤ s1.nx) (hl2 : s1.nx ≤ s2.nx)
    (hR : ∀ rv kind k cs a b c, R1 rv kind k cs a b → R2 rv kind k cs b c → R3 rv kind k cs a c) : Pc fr T df s T2 df2 s2 R3 := by
  intro D L rv kind k cs a hSR hC hD
  obtain ⟨L1, b, h1, h2, h3, h4⟩ := h D L rv kind k cs a hSR hC (fresh_left hl2 hD)
  obtain ⟨L2, c, g1, g2, g3, g4⟩ := g _ L1 rv kind k cs b h2 h3 (fresh_grow hl hD)
  rw [grow_trans hl hl2] at g2 g3
  exact ⟨L2, c, h1.trans (fun n hn => .inl hn) g1, g2, g3, hR _ _ _ _ _ _ _ h4 g4⟩

theorem Pc.mono (h : Pc fr T df s T' df' s' R1) (hR : ∀ rv kind k cs a b, R1 rv kind k cs a b → R2 rv kind k cs a b) : Pc fr T df s T' df' s' R2 := by
  intro D L rv kind k cs a hSR hC hD
  obtain ⟨L1, b, h1, h2, h3, h4⟩ := h D L rv kind k cs a hSR hC hD
  exact ⟨L1, b, h1, h2, h3, hR _ _ _ _ _ _ h4⟩

theorem Pc.atk (h : Pc fr T df s T' df' s' R) (f : List Item → List Item) : Pc fr T df s T' df' s' (fun rv kind k => R rv kind (f k)) :=
  fun D L rv kind k cs a => h D L rv kind (f k) cs a

theorem CtxR.slots {D : Nat → Prop} {L : LM} {arr : Array Value} {dv : List Deferred} {rv : Option Nat} (h : CtxR D L fr T df arr dv rv) (ht : ∀ u, (T1.get u).getD undefV = (T.get u).getD undefV) : CtxR D L fr T1 df arr dv rv := by
  intro L' hL'
  obtain ⟨⟨h1, h2⟩, h3, h4⟩ := h L' hL'
  exact ⟨⟨h1, fun u => by rw [ht]; exact h2 u⟩, h3, h4⟩

theorem Pc.same (hs : Same s s1) (ht : ∀ u, (T1.get u).getD undefV = (T.get u).getD undefV) (h : Pc fr T1 df s1 T' df' s' R) : Pc fr T df s T' df' s' R := by
  intro D L rv kind k cs a hSR hC hD
  have := h D L rv kind k cs a (by rw [hs.H]; exact hSR) (hC.slots ht) (by rw [hs.nx]; exact hD)
  rw [hs.H, hs.nx] at this
  exact this

/-- The machine at a place. -/
def At (fr : Frs) (rv : Option Nat) (kind : CallKind) (cs : List Frame) (a : Cf) (todo : List Item) : Machine := lone (frm fr rv kind a.arr todo a.dv) cs a.w

def Arrm (P : Program) (m : Machine) (fr : Frs) (rv : Option Nat) (kind : CallKind) (k : List Item) (cs : List Frame) (b : Cf) : Ex → Prop
  | .normal => Steps P m (At fr rv kind cs b k)
  | .exit id => ∃ k1, Steps P m (At fr rv kind cs b (.code (.exit id) :: k1)) ∧ exitTo id k1 = exitTo id k
  | .goto l => ∃ k1, Steps P m (At fr rv kind cs b (.code (.goto l) :: k1)) ∧ gotoIn l k1 = gotoIn l k
  | .ret => ∃ k1, Steps P m (At fr rv kind cs b (.code .ret :: k1))

theorem Arrm.of_steps {m m1 : Machine} {rv : Option Nat} {kind : CallKind} {k : List Item} {cs : List Frame} {b : Cf} {e : Ex} (h : Steps P m m1) (g : Arrm P m1 fr rv kind k cs b e) : Arrm P m fr rv kind k cs b e := by
  cases e with
  | normal => exact Steps.trans h g
  | exit id => obtain ⟨k1, g1, g2⟩ := g; exact ⟨k1, h.trans g1, g2⟩
  | goto l => obtain ⟨k1, g1, g2⟩ := g; exact ⟨k1, h.trans g1, g2⟩
  | ret => obtain ⟨k1, g1⟩ := g; exact ⟨k1, h.trans g1⟩

theorem Arrm.plain {m : Machine} {rv : Option Nat} {kind : CallKind} {x : Item} {k : List Item} {cs : List Frame} {b : Cf} {e : Ex} (he : e ≠ .normal) (hx : x.plain = true) (g : Arrm P m fr rv kind (x :: k) cs b e) : Arrm P m fr rv kind k cs b e := by
  cases e with
  | normal => exact absurd rfl he
  | exit id => obtain ⟨k1, g1, g2⟩ := g; exact ⟨k1, g1, g2.trans (by cases x <;> simp_all [exitTo, Item.plain])⟩
  | goto l => obtain ⟨k1, g1, g2⟩ := g; exact ⟨k1, g1, g2.trans (by cases x <;> simp_all [gotoIn, Item.plain])⟩
  | ret => exact g

def start (c : Code) (k : List Item) : List Item :=
  match c with
  | .loop body => .code body :: .inLoop body :: k
  | c => .code c :: k

section moves
variable {rv : Option Nat} {kind : CallKind} {k : List Item} {cs : List Frame} {a : Cf}
theorem m_one {t t' : List Item} (h : step P (lone ((frm fr rv kind #[] [] []).atR ⟨a.arr, a.dv⟩ t) cs a.w) = .next (lone ((frm fr rv kind #[] [] []).atR ⟨a.arr, a.dv⟩ t') cs a.w)) : Steps P (At fr rv kind cs a t) (At fr rv kind cs a t') := .one h
theorem to_start {c : Code} : Steps P (At fr rv kind cs a (.code c :: k)) (At fr rv kind cs a (start c k)) := by
  cases c <;> first | exact .refl _ _ | exact m_one stepR_loop
end moves

def CodeOK (P : Program) (fr : Frs) (c : Code) (T : Tr V) (df : List Dfr) (s : St) (e : Ex) (T' : Tr V) (df' : List Dfr) (s' : St) : Prop :=
  Pc fr T df s T' df' s' (fun rv kind k cs a b => Arrm P (At fr rv kind cs a (start c k)) fr rv kind k cs b e)
def CodeAt (P : Program) (fr : Frs) (c : Code) (T : Tr V) (df : List Dfr) (s : St) (e : Ex) (T' : Tr V) (df' : List Dfr) (s' : St) : Prop :=
  Pc fr T df s T' df' s' (fun rv kind k cs a b => Arrm P (At fr rv kind cs a (.code c :: k)) fr rv kind k cs b e)
theorem CodeOK.at {c : Code} {e : Ex} (h : CodeOK P fr c T df s e T' df' s') : CodeAt P fr c T df s e T' df' s' := h.mono fun _ _ _ _ _ _ g => .of_steps to_start g

def XOK (P : Program) (run : X) : Prop := ∀ fr c T df s e T' df' s', run fr c T df s = some (e, T', df', s') → Obl s' → Lg s s' ∧ Obl s ∧ CodeOK P fr c T df s e T' df' s'

theorem chain {c : Code} {st : List Item → List Item} {e : Ex} (h : Pc fr T df s T1 df1 s1 (fun rv kind k cs a b => Steps P (At fr rv kind cs a (start c k)) (At fr rv kind cs b (st k)))) (hl : s.nx ≤ s1.nx)
    (g : Pc fr T1 df1 s1 T2 df2 s2 (fun rv kind k cs a b => Arrm P (At fr rv kind cs a (st k)) fr rv kind k cs b e)) (hl2 : s1.nx ≤ s2.nx) : CodeOK P fr c T df s e T2 df2 s2 :=
  h.trans g hl hl2 fun _ _ _ _ _ _ _ h g => .of_steps h g

theorem Pc.first {m0 m1 : List Item → List Item} {e : Ex} (g : Pc fr T df s T2 df2 s2 (fun rv kind k cs a b => Arrm P (At fr rv kind cs a (m1 k)) fr rv kind k cs b e)) (h : ∀ rv kind k cs a, Steps P (At fr rv kind cs a (m0 k)) (At fr rv kind cs a (m1 k))) :
    Pc fr T df s T2 df2 s2 (fun rv kind k cs a b => Arrm P (At fr rv kind cs a (m0 k)) fr rv kind k cs b e) := g.mono fun _ _ _ _ _ _ g => .of_steps (h _ _ _ _ _) g

theorem ex_normal_or (e : Ex) : e = .normal ∨ e ≠ .normal := by cases e <;> simp

theorem seq_ok {run : X} (hr : XOK P run) {x y : Code} {e : Ex} (h : stepX E run fr (.seq x y) T df s = some (e, T', df', s')) (ho : Obl s') :
    Lg s s' ∧ Obl s ∧ CodeOK P fr (.seq x y) T df s e T' df' s' := by
  simp only [stepX] at h
  obtain ⟨⟨e1, T1, df1, s1⟩, h1, h2⟩ := bind_some' h
  rcases ex_normal_or e1 with he | he
  · subst he
    obtain ⟨k1, k2, k3⟩ := hr _ _ _ _ _ _ _ _ _ h2 ho
    obtain ⟨g1, g2, g3⟩ := hr _ _ _ _ _ _ _ _ _ h1 k2
    refine ⟨g1.trans k1, g2, ?_⟩
    exact (((g3.at).atk (fun k => .code y :: k)).trans k3.at g1.le k1.le fun rv kind k cs a b c p q => .of_steps (Steps.trans (m_one stepR_seq) p) q)
  · have e2 : some (e1, T1, df1, s1) = some (e, T', df', s') := by cases e1 <;> first | exact absurd rfl he | exact h2
    cases e2
    obtain ⟨g1, g2, g3⟩ := hr _ _ _ _ _ _ _ _ _ h1 ho
    refine ⟨g1, g2, ?_⟩
    exact ((g3.at).atk (fun k => .code y :: k)).mono fun rv kind k cs a b p => .of_steps (m_one stepR_seq) (.plain (x := .code y) he rfl p)

theorem settle_get {c : Operand} {t b : Bool} (hev : ev T c = some (.bool t)) (hb : b = t) (u : Nat) : ((settle T c b).get u).getD undefV = (T.get u).getD undefV := by
  unfold settle
  cases c with
  | tmp v =>
    simp only
    cases hlt : Nat.blt v big with
    | false => rfl
    | true =>
      simp only [cond_true]
      rw [Tr.get_put _ _ _ _ (Nat.blt_eq.mp hlt)]
      by_cases hu : u = v
      · subst hu
        rw [if_pos rfl]
        simp only [ev] at hev
        split at hev
        · rename_i w hw; cases hev; rw [hw, hb]
        · simp [undefV] at hev
      · rw [if_neg hu]
  | const v => rfl
  | global g => rfl
  | func f => rfl

theorem cond_ok {run : X} (hr : XOK P run) {c : Operand} {x y : Code} {e : Ex} (h : stepX E run fr (.cond c x y) T df s = some (e, T', df', s')) (ho : Obl s') :
    Lg s s' ∧ Obl s ∧ CodeOK P fr (.cond c x y) T df s e T' df' s' := by
  simp only [stepX] at h
  obtain ⟨v, h1, h2⟩ := bind_some' h
  split at h2
  · rename_i t
    generalize hd : dec t s = ds at h2
    obtain ⟨b, s1⟩ := ds
    have key : ∀ z : Code, (z = if b then x else y) → run fr z (settle T c b) df s1 = some (e, T', df', s') → Lg s s' ∧ Obl s ∧ CodeOK P fr (.cond c x y) T df s e T' df' s' := by
      intro z hz hrun
      obtain ⟨g1, g2, g3⟩ := hr _ _ _ _ _ _ _ _ _ hrun ho
      obtain ⟨hbt, hq⟩ := dec_ok hd g2
      refine ⟨(Lg.of_same hq.1).trans g1, hq.2, ?_⟩
      intro D L rv kind k cs a hSR hC hD
      have hC' := hC L (.refl _ _)
      have hev : evalA a.arr c = .bool t := by rw [ev_ok hC'.1 h1]; rfl
      obtain ⟨L', b', q1, q2, q3, q4⟩ := Pc.same hq.1 (fun u => settle_get h1 hbt u) g3.at D L rv kind k cs a hSR hC hD
      refine ⟨L', b', q1, q2, q3, .of_steps (m_one ?_) q4⟩
      have hev2 : (⟨a.arr, a.dv⟩ : Act).eval c = .bool t := hev
      rw [hz, hbt]
      exact stepR_cond hev2
    cases b with
    | true => exact key x rfl h2
    | false => exact key y rfl h2
  · cases h2

theorem block_ok {run : X} (hr : XOK P run) {id : Nat} {c : Code} {e : Ex} (h : stepX E run fr (.block id c) T df s = some (e, T', df', s')) (ho : Obl s') :
    Lg s s' ∧ Obl s ∧ CodeOK P fr (.block id c) T df s e T' df' s' := by
  simp only [stepX] at h
  obtain ⟨⟨e1, T1, df1, s1⟩, h1, h2⟩ := bind_some' h
  have hs : (T1, df1, s1) = (T', df', s') := by
    cases e1 with
    | exit id' =>
      simp only at h2
      cases hb : Nat.beq id' id <;> rw [hb] at h2 <;> simp only [cond_true, cond_false] at h2 <;> cases h2 <;> rfl
    | _ => cases h2; rfl
  cases hs
  obtain ⟨g1, g2, g3⟩ := hr _ _ _ _ _ _ _ _ _ h1 ho
  refine ⟨g1, g2, ((g3.at).atk (fun k => .inBlock id :: k)).mono fun rv kind k cs a b p => .of_steps (m_one stepR_block) ?_⟩
  cases e1 with
  | normal => cases h2; exact Steps.trans p (m_one stepR_inBlock)
  | goto l =>
    cases h2
    obtain ⟨k1, p1, p2⟩ := p
    exact ⟨k1, p1, p2⟩
  | ret => cases h2; exact p
  | exit id' =>
    simp only at h2
    obtain ⟨k1, p1, p2⟩ := p
    cases hb : Nat.beq id' id with
    | true =>
      rw [hb] at h2
      cases h2
      have : id' = id := Nat.beq_eq.mp hb
      subst this
      have p3 : exitTo id' k1 = some k := by rw [p2]; simp [exitTo]
      exact p1.trans (m_one (stepR_exit p3))
    | false =>
      rw [hb] at h2
      cases h2
      have hne : ¬ (id == id') = true := by
        intro hh
        have : id' = id := (by simpa using hh : id = id').symm
        rw [this, Nat.beq_refl] at hb
        cases hb
      refine ⟨k1, p1, p2.trans ?_⟩
      simp only [exitTo]
      rw [if_neg hne]

theorem loop_ok {run : X} (hr : XOK P run) {c : Code} {e : Ex} (h : stepX E run fr (.loop c) T df s = some (e, T', df', s')) (ho : Obl s') :
    Lg s s' ∧ Obl s ∧ CodeOK P fr (.loop c) T df s e T' df' s' := by
  simp only [stepX] at h
  obtain ⟨⟨e1, T1, df1, s1⟩, h1, h2⟩ := bind_some' h
  rcases ex_normal_or e1 with he | he
  · subst he
    obtain ⟨k1, k2, k3⟩ := hr _ _ _ _ _ _ _ _ _ h2 ho
    obtain ⟨g1, g2, g3⟩ := hr _ _ _ _ _ _ _ _ _ h1 k2
    refine ⟨g1.trans k1, g2, ?_⟩
    exact (((g3.at).atk (fun k => .inLoop c :: k)).trans k3 g1.le k1.le fun rv kind k cs a b d p q => .of_steps (Steps.trans p (m_one stepR_inLoop)) q)
  · have e2 : some (e1, T1, df1, s1) = some (e, T', df', s') := by cases e1 <;> first | exact absurd rfl he | exact h2
    cases e2
    obtain ⟨g1, g2, g3⟩ := hr _ _ _ _ _ _ _ _ _ h1 ho
    refine ⟨g1, g2, ?_⟩
    exact ((g3.at).atk (fun k => .inLoop c :: k)).mono fun rv kind k cs a b p => .plain (x := .inLoop c) he rfl p

theorem stepR_scope {b : Frame} {a : Act} {k : List Item} {cs : List Frame} {w : World} {c : Code} : step P (lone (b.atR a (.code (.scope c) :: k)) cs w) = .next (lone (b.atR a (.code c :: .inScope c :: k)) cs w) :=
  step_lone_go (by simp [stepG, stepG.exec, Frame.atR])
theorem stepR_inScope {b : Frame} {a : Act} {k : List Item} {cs : List Frame} {w : World} {c : Code} : step P (lone (b.atR a (.inScope c :: k)) cs w) = .next (lone (b.atR a k) cs w) :=
  step_lone_go (by simp [stepG, stepG.exec, Frame.atR])

theorem scope_ok' {run : X} (hr : XOK P run) {body : Code} : ∀ (n : Nat) (c : Code) (T T' : Tr V) (df df' : List Dfr) (s s' : St) (e : Ex), scopeX run fr body n c T df s = some (e, T', df', s') → Obl s' →
    Lg s s' ∧ Obl s ∧ Pc fr T df s T' df' s' (fun rv kind k cs a b => Arrm P (At fr rv kind cs a (.code c :: .inScope body :: k)) fr rv kind k cs b e) := by
  intro n
  induction n with
  | zero => intro c T T' df df' s s' e h; simp [scopeX] at h
  | succ n ih =>
    intro c T T' df df' s s' e h ho
    simp only [scopeX] at h
    obtain ⟨⟨e1, T1, df1, s1⟩, h1, h2⟩ := bind_some' h
    have done : e1 = e → T1 = T' → df1 = df' → s1 = s' → (∀ l, e1 = .goto l → findLabel body l = none) → Lg s s' ∧ Obl s ∧ Pc fr T df s T' df' s' (fun rv kind k cs a b => Arrm P (At fr rv kind cs a (.code c :: .inScope body :: k)) fr rv kind k cs b e) := by
      rintro rfl rfl rfl rfl hl
      obtain ⟨g1, g2, g3⟩ := hr _ _ _ _ _ _ _ _ _ h1 ho
      refine ⟨g1, g2, ((g3.at).atk (fun k => .inScope body :: k)).mono fun rv kind k cs a b p => ?_⟩
      cases e1 with
      | normal => exact Steps.trans p (m_one stepR_inScope)
      | exit id => obtain ⟨k1, p1, p2⟩ := p; exact ⟨k1, p1, p2⟩
      | goto l => obtain ⟨k1, p1, p2⟩ := p; exact ⟨k1, p1, p2.trans (by simp [gotoIn, hl l rfl])⟩
      | ret => exact p
    cases e1 with
    | goto l =>
      simp only at h2
      cases hf : findLabel body l with
      | none => rw [hf] at h2; cases h2; exact done rfl rfl rfl rfl (fun l' h => by cases h; exact hf)
      | some rest =>
        rw [hf] at h2
        obtain ⟨k1, k2, k3⟩ := ih _ _ _ _ _ _ _ _ h2 ho
        obtain ⟨g1, g2, g3⟩ := hr _ _ _ _ _ _ _ _ _ h1 k2
        refine ⟨g1.trans k1, g2, ((g3.at).atk (fun k => .inScope body :: k)).trans k3 g1.le k1.le fun rv kind k cs a b d p q => ?_⟩
        obtain ⟨k1, p1, p2⟩ := p
        have p3 : gotoIn l k1 = some (.code rest :: .inScope body :: k) := by rw [p2]; simp [gotoIn, hf]
        exact .of_steps (p1.trans (m_one (stepR_goto p3))) q
    | normal => cases h2; exact done rfl rfl rfl rfl (fun l h => by cases h)
    | exit id => cases h2; exact done rfl rfl rfl rfl (fun l h => by cases h)
    | ret => cases h2; exact done rfl rfl rfl rfl (fun l h => by cases h)

theorem scope_ok {run : X} (hr : XOK P run) {c : Code} {e : Ex} (h : stepX E run fr (.scope c) T df s = some (e, T', df', s')) (ho : Obl s') :
    Lg s s' ∧ Obl s ∧ CodeOK P fr (.scope c) T df s e T' df' s' := by
  simp only [stepX] at h
  obtain ⟨g1, g2, g3⟩ := scope_ok' hr _ _ _ _ _ _ _ _ _ h ho
  exact ⟨g1, g2, g3.first fun rv kind k cs a => m_one stepR_scope⟩

theorem region_ok (hE : EnvOK P E) {run : X} (hcf : CfOK P E (callX run E)) (hyf : YfOK P (yieldX run)) {id : Nat} {ops : Array Oper} {draw : Bool} {e : Ex} (h : stepX E run fr (.region id ops draw) T df s = some (e, T', df', s')) (ho : Obl s') :
    Lg s s' ∧ Obl s ∧ CodeOK P fr (.region id ops draw) T df s e T' df' s' := by
  simp only [stepX] at h
  cases draw with
  | false =>
    obtain ⟨⟨T1, df1, s1⟩, h1, h2⟩ := bind_some' h
    cases h2
    obtain ⟨g1, g2, g3⟩ := seqOps_ok hE hcf hyf fr ops ops.toList 0 _ _ _ _ _ _ (by simp) h1 ho
    refine ⟨g1, g2, fun D L rv kind k cs a hSR hC hD => ?_⟩
    obtain ⟨L', w', arr', dv', q1, q2, q3, q4⟩ := g3 D L a.w rv kind a.arr k a.dv cs hSR hC hD
    refine ⟨L', ⟨arr', dv', w'⟩, q1, q2, q3, ?_⟩
    have e1 : List.range' 0 ops.toList.length = List.range ops.size := by rw [List.range_eq_range']; simp
    rw [e1] at q4
    exact Steps.head step_region' (q4.trans (.one step_region_end'))
  | true =>
    obtain ⟨_, h1, h2⟩ := bind_some' h
    obtain ⟨_, h3, h4⟩ := bind_some' h2
    obtain ⟨⟨T1, s1⟩, h5, h6⟩ := bind_some' h4
    cases h6
    obtain ⟨g1, g2, g3⟩ := drawOps_ok (df := df) hE hE.mixed hcf hyf fr id ops h5 (chk_some h1) (chk_some h3) ho
    refine ⟨g1, g2, fun D L rv kind k cs a hSR hC hD => ?_⟩
    obtain ⟨L', w', arr', q1, q2, q3, q4⟩ := g3 D L a.w rv kind a.arr k a.dv cs hSR hC hD
    exact ⟨L', ⟨arr', a.dv, w'⟩, q1, q2, q3, q4⟩

end
end Go.Sx
