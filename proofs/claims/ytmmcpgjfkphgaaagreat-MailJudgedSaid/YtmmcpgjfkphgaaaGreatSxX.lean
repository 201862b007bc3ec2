/- A frame's way, step by step: it may be held anywhere. -/
import Derived.Test.YtmmcpgjfkphgaaaGreatSxW
namespace Go.Sx
section
variable {P : Program} {E : Env}

/-- One step of control. -/
def ctl (E : Env) (run : X) (fr : Frs) (todo : List Item) (T : Tr V) (df : List Dfr) (s : St) : Option (List Item × Tr V × List Dfr × St) :=
  match todo with
  | .inBlock _ :: k => some (k, T, df, s)
  | .inScope _ :: k => some (k, T, df, s)
  | .inLoop c :: k => some (.code c :: .inLoop c :: k, T, df, s)
  | .code c :: k => match c with
    | .skip => some (k, T, df, s)
    | .label _ => some (k, T, df, s)
    | .seq a b => some (.code a :: .code b :: k, T, df, s)
    | .cond c a b => (ev T c).bind fun v => match v with
      | .bool t => match dec t s with
        | (true, s1) => some (.code a :: k, settle T c true, df, s1)
        | (false, s1) => some (.code b :: k, settle T c false, df, s1)
      | _ => none
    | .block id c => some (.code c :: .inBlock id :: k, T, df, s)
    | .loop c => some (.code c :: .inLoop c :: k, T, df, s)
    | .exit id => (exitTo id k).bind fun k' => some (k', T, df, s)
    | .goto l => (gotoIn l k).bind fun k' => some (k', T, df, s)
    | .scope c => some (.code c :: .inScope c :: k, T, df, s)
    | .ret => none
    | .refuse _ => none
    | .region id ops draw => (stepX E run fr (.region id ops draw) T df s).bind fun (e, T1, df1, s1) => match e with
      | .normal => some (k, T1, df1, s1)
      | _ => none
    | .rangeFunc f ps a b => (stepX E run fr (.rangeFunc f ps a b) T df s).bind fun (e, T1, df1, s1) => match e with
      | .normal => some (k, T1, df1, s1)
      | _ => none
  | _ => none

def ctlN (E : Env) (run : X) (fr : Frs) : Nat → List Item → Tr V → List Dfr → St → Option (List Item × Tr V × List Dfr × St)
  | 0, todo, T, df, s => some (todo, T, df, s)
  | n + 1, todo, T, df, s => (ctl E run fr todo T df s).bind fun (todo1, T1, df1, s1) => ctlN E run fr n todo1 T1 df1 s1

def StepsT (P : Program) (fr : Frs) (t t' : List Item) : Rel := fun rv kind _ cs a b => Steps P (At fr rv kind cs a t) (At fr rv kind cs b t')

variable {fr : Frs} {T T' : Tr V} {df df' : List Dfr} {s s' : St}

theorem ctl_ok (hE : EnvOK P E) (hS : SumOK P E) {run : X} (hr : XOK P run) {todo todo' : List Item} (h : ctl E run fr todo T df s = some (todo', T', df', s')) (ho : Obl s') :
    Lg s s' ∧ Obl s ∧ Pc fr T df s T' df' s' (StepsT P fr todo todo') := by
  have hX := stepX_ok hE hS hr
  have plain : ∀ t t', some (t', T, df, s) = some (todo', T', df', s') → (∀ rv kind cs a, Steps P (At fr rv kind cs a t) (At fr rv kind cs a t')) → Lg s s' ∧ Obl s ∧ Pc fr T df s T' df' s' (StepsT P fr t todo') := by
    intro t t' he hst
    injection he with he
    injection he with h1 he
    injection he with h2 he
    injection he with h3 h4
    subst h1; subst h2; subst h3; subst h4
    exact ⟨.refl _, ho, Pc.stay fun rv kind k cs a => hst rv kind cs a⟩
  unfold ctl at h
  split at h
  · exact plain _ _ h fun _ _ _ _ => m_one stepR_inBlock
  · exact plain _ _ h fun _ _ _ _ => m_one stepR_inScope
  · exact plain _ _ h fun _ _ _ _ => m_one stepR_inLoop
  · rename_i c k
    split at h
    · exact plain _ _ h fun _ _ _ _ => m_one stepR_skip
    · exact plain _ _ h fun _ _ _ _ => m_one stepR_label
    · exact plain _ _ h fun _ _ _ _ => m_one stepR_seq
    · rename_i c x y
      obtain ⟨v, h1, h2⟩ := bind_some' h
      split at h2
      · rename_i t
        generalize hd : dec t s = ds at h2
        obtain ⟨b, s1⟩ := ds
        have hfin : some ((Item.code (if b then x else y)) :: k, settle T c b, df, s1) = some (todo', T', df', s') := by cases b <;> exact h2
        injection hfin with he
        injection he with e1 he
        injection he with e2 he
        injection he with e3 e4
        subst e1; subst e2; subst e3; subst e4
        obtain ⟨hbt, hq⟩ := dec_ok hd ho
        refine ⟨.of_same hq.1, hq.2, ?_⟩
        intro D L rv kind k' cs a hSR hC hD
        refine ⟨L, a, ?_, ?_, ?_, ?_⟩
        · rw [hq.1.H]; exact .refl _ _ _ _
        · rw [grow_self hq.1.nx.symm, hq.1.H]; exact hSR
        · rw [grow_self hq.1.nx.symm]; exact hC.slots fun u => settle_get h1 hbt u
        · have hev : evalA a.arr c = .bool t := by rw [ev_ok (hC L (.refl _ _)).1 h1]; rfl
          have hev2 : (⟨a.arr, a.dv⟩ : Act).eval c = .bool t := hev
          refine m_one ?_
          rw [hbt]
          exact stepR_cond hev2
      · cases h2
    · exact plain _ _ h fun _ _ _ _ => m_one stepR_block
    · exact plain _ _ h fun _ _ _ _ => m_one stepR_loop
    · obtain ⟨k', h1, h2⟩ := bind_some' h
      exact plain _ _ h2 fun _ _ _ _ => m_one (stepR_exit h1)
    · obtain ⟨k', h1, h2⟩ := bind_some' h
      exact plain _ _ h2 fun _ _ _ _ => m_one (stepR_goto h1)
    · exact plain _ _ h fun _ _ _ _ => m_one stepR_scope
    · cases h
    · cases h
    · obtain ⟨⟨e, T1, df1, s1⟩, h1, h2⟩ := bind_some' h
      have he : e = .normal ∧ some (k, T1, df1, s1) = some (todo', T', df', s') := by cases e <;> first | exact ⟨rfl, h2⟩ | cases h2
      obtain ⟨rfl, h3⟩ := he
      injection h3 with h3
      injection h3 with e1 h3
      injection h3 with e2 h3
      injection h3 with e3 e4
      subst e1; subst e2; subst e3; subst e4
      obtain ⟨g1, g2, g3⟩ := hX _ _ _ _ _ _ _ _ _ h1 ho
      exact ⟨g1, g2, (g3.at.atk (fun _ => k)).mono fun rv kind k cs a b p => p⟩
    · obtain ⟨⟨e, T1, df1, s1⟩, h1, h2⟩ := bind_some' h
      have he : e = .normal ∧ some (k, T1, df1, s1) = some (todo', T', df', s') := by cases e <;> first | exact ⟨rfl, h2⟩ | cases h2
      obtain ⟨rfl, h3⟩ := he
      injection h3 with h3
      injection h3 with e1 h3
      injection h3 with e2 h3
      injection h3 with e3 e4
      subst e1; subst e2; subst e3; subst e4
      obtain ⟨g1, g2, g3⟩ := hX _ _ _ _ _ _ _ _ _ h1 ho
      exact ⟨g1, g2, (g3.at.atk (fun _ => k)).mono fun rv kind k cs a b p => p⟩
  · cases h

theorem ctlN_ok (hE : EnvOK P E) (hS : SumOK P E) {run : X} (hr : XOK P run) : ∀ (n : Nat) (todo todo' : List Item) (T T' : Tr V) (df df' : List Dfr) (s s' : St), ctlN E run fr n todo T df s = some (todo', T', df', s') → Obl s' →
    Lg s s' ∧ Obl s ∧ Pc fr T df s T' df' s' (StepsT P fr todo todo') := by
  intro n
  induction n with
  | zero =>
    intro todo todo' T T' df df' s s' h ho
    simp only [ctlN] at h
    injection h with h
    injection h with e1 h
    injection h with e2 h
    injection h with e3 e4
    subst e1; subst e2; subst e3; subst e4
    exact ⟨.refl _, ho, Pc.stay fun _ _ _ _ _ => .refl _ _⟩
  | succ n ih =>
    intro todo todo' T T' df df' s s' h ho
    simp only [ctlN] at h
    obtain ⟨⟨todo1, T1, df1, s1⟩, h1, h2⟩ := bind_some' h
    obtain ⟨g1, g2, g3⟩ := ih _ _ _ _ _ _ _ _ h2 ho
    obtain ⟨k1, k2, k3⟩ := ctl_ok hE hS hr h1 g2
    exact ⟨k1.trans g1, k2, k3.trans g3 k1.le g1.le fun _ _ _ _ _ _ _ p q => Steps.trans p q⟩

/-- What was there stays, but for some blocks. -/
structure KeptBut (S : Nat → Prop) (W W' : World) : Prop where
  os : W'.os = W.os
  tape : W'.tape = W.tape
  output : W'.output = W.output
  size : W.heap.size ≤ W'.heap.size
  old : ∀ b, b < W.heap.size → ¬ S b → W'.heap[b]? = W.heap[b]?
theorem KeptBut.refl (S : Nat → Prop) (W : World) : KeptBut S W W := ⟨rfl, rfl, rfl, Nat.le_refl _, fun _ _ _ => rfl⟩

/-- All that may be written lies behind, or is one of those. -/
def Fresh (S : Nat → Prop) (W : World) (L : LM) (H : Nat → Option Ob) : Prop := ∀ n o b, H n = some o → o.isRo = false → (L n).blk = some b → W.heap.size ≤ b ∨ S b

theorem KeptBut.mv {S : Nat → Prop} {W w w' : World} {D : Nat → Prop} {L L' : LM} {H H' : Nat → Option Ob} (hk : KeptBut S W w) (hf : Fresh S W L H) (hm : Mv D L H w L' H' w') : KeptBut S W w' ∧ Fresh S W L' H' := by
  refine ⟨⟨hm.os.trans hk.os, hm.tape.trans hk.tape, hm.output.trans hk.output, Nat.le_trans hk.size hm.size, fun b hb hS => ?_⟩, fun n o b ho hr hb => ?_⟩
  · rw [hm.frame b (Nat.lt_of_lt_of_le hb hk.size) (fun n o ho hr hbl => by
      rcases hf n o b ho hr hbl with h | h
      · omega
      · exact hS h)]
    exact hk.old b hb hS
  · rcases hm.sub n o b ho hr hb with h | ⟨m, om, h1, h2, h3⟩
    · exact .inl (Nat.le_trans hk.size h)
    · exact hf m om b h1 h2 h3

/-- Where a function began: the world, the blocks that it was handed, their numbers. -/
structure Base where
  W : World
  S : Nat → Prop
  n0 : Nat
  L0 : LM

/-- What is known at a place of a function's way. -/
def Asrt (β : Base) (fr : Frs) (T : Tr V) (df : List Dfr) (H : Nat → Option Ob) (nx hi : Nat) (a : Cf) : Prop :=
  ∃ (D : Nat → Prop) (L : LM), SR D L H a.w ∧ CtxR D L fr T df a.arr a.dv none ∧ (∀ n, D n → n < nx ∨ hi ≤ n) ∧ KeptBut β.S β.W a.w ∧ Fresh β.S β.W L H ∧ (∀ m, m < β.n0 → D m ∧ L m = β.L0 m)

theorem Asrt.run (hE : EnvOK P E) (hS : SumOK P E) {run : X} (hr : XOK P run) (kind : CallKind) (cs : List Frame) {β : Base} {hi n : Nat} {todo todo' : List Item} {a : Cf} (hA : Asrt β fr T df s.H.get s.nx hi a)
    (h : ctlN E run fr n todo T df s = some (todo', T', df', s')) (ho : Obl s') (hhi : s'.nx ≤ hi) :
    ∃ b, Asrt β fr T' df' s'.H.get s'.nx hi b ∧ Steps P (At fr none kind cs a todo) (At fr none kind cs b todo') := by
  obtain ⟨D, L, hSR, hC, hD, hk, hf, h0⟩ := hA
  obtain ⟨g1, g2, g3⟩ := ctlN_ok hE hS hr n _ _ _ _ _ _ _ _ h ho
  obtain ⟨L', b, m1, m2, m3, m4⟩ := g3 D L none kind [] cs a hSR hC (fun n hn => (hD n hn).imp id (fun h => by omega))
  obtain ⟨k1, k2⟩ := hk.mv hf m1
  refine ⟨b, ⟨_, L', m2, m3, fun n hn => ?_, k1, k2, fun m hm => ⟨.inl (h0 m hm).1, (m1.agree m (h0 m hm).1).symm.trans (h0 m hm).2⟩⟩, m4⟩
  rcases hn with hn | hn
  · rcases hD n hn with h | h
    · have := g1.le; exact .inl (by omega)
    · exact .inr h
  · exact .inl hn.2

/-- The same known under other numbers; slots that are not asked for are kept as they are, far away. -/
theorem Asrt.take {β : Base} {nx hi nx' far : Nat} {H H' : Nat → Option Ob} {Tc : Tr V} {a : Cf} (hA : Asrt β fr T [] H nx hi a) (π : Nat → Nat) (p : Nat → Bool) (hp : ∀ m, p m = true → m < nx') (hfar : nx' ≤ far)
    (hH : ∀ m o, H' m = some o → o.plain = true ∧ p m = true ∧ o.names p = true ∧ H (π m) = some (o.ren π))
    (hinj : ∀ m n om on, H' m = some om → H' n = some on → om.isRo = false → m ≠ n → π m ≠ π n)
    (hlive : ∀ m, p m = true → m < β.n0 ∨ ∃ o, H (π m) = some o) (hold : ∀ m, m < β.n0 → p m = true ∧ π m = m)
    (hTn : ∀ t, fr.nt ≤ t → Tc.get t = none) (hT : ∀ t, t < fr.nt → (∃ v, Tc.get t = some v ∧ v.names p = true ∧ (T.get t).getD undefV = v.ren π) ∨ (Tc.get t).getD undefV = ((T.get t).getD undefV).ren (fun n => far + n)) :
    Asrt β fr Tc [] H' nx' far a := by
  obtain ⟨D, L, hSR, hC, hD, hk, hf, hb0⟩ := hA
  obtain ⟨π', hπ'⟩ : ∃ π' : Nat → Nat, π' = fun m => if m < nx' then π m else m - far := ⟨_, rfl⟩
  obtain ⟨D', hD'⟩ : ∃ D' : Nat → Prop, D' = fun m => p m = true ∨ (far ≤ m ∧ D (m - far)) := ⟨_, rfl⟩
  have hlt : ∀ m, m < nx' → π' m = π m := fun m hm => by rw [hπ']; simp [hm]
  have hge : ∀ m, far ≤ m → π' m = m - far := fun m hm => by rw [hπ']; simp [show ¬ m < nx' by omega]
  have hDD : ∀ m, D' m → D (π' m) := by
    intro m hm
    rw [hD'] at hm
    rcases hm with hm | ⟨h1, h2⟩
    · rw [hlt m (hp m hm)]
      rcases hlive m hm with h | ⟨o, ho⟩
      · rw [(hold m h).2]; exact (hb0 m h).1
      · exact hSR.live ho
    · rw [hge m h1]; exact h2
  have hren : ∀ v : V, v.names p = true → ∀ L1 : LM, v.den (fun n => L1 (π' n)) = (v.ren π).den L1 := by
    intro v hv L1
    rw [den_ren]
    exact den_names (p := p) (fun n hn => by simp [hlt n (hp n hn)]) v hv
  refine ⟨D', fun m => L (π' m), ?_, ?_, ?_, hk, ?_, fun m hm => ⟨by rw [hD']; exact .inl (hold m hm).1, ?_⟩⟩
  · refine hSR.take hDD (fun m o ho => ?_) (fun m o L1 L2 ho hAg hR => ?_) (fun m n om on hm hn hr hne => ?_)
    · obtain ⟨h1, h2, h3, h4⟩ := hH m o ho
      refine ⟨h1, by rw [hD']; exact .inl h2, ?_⟩
      rw [hlt m (hp m h2), h4]
      -- the renamings agree on what is named
      congr 1
      cases o with
      | mem b t op =>
        cases b with
        | cells cs =>
          simp only [Ob.names, Body.names] at h3
          simp only [Ob.ren, Body.ren]
          congr 2
          exact renL_names (p := p) (fun n hn => (hlt n (hp n hn)).symm) cs h3
        | words k ws => rfl
        | rows sh rs => rfl
      | ro k ws => rfl
      | loop => cases h1
      | deferred => cases h1
    · obtain ⟨h1, h2, h3, h4⟩ := hH m o ho
      exact ObR_names (p := p) (fun n hn => hAg n (by rw [hD']; exact .inl hn)) h2 h3 hR
    · obtain ⟨_, h2, _, _⟩ := hH m om hm
      obtain ⟨_, h3, _, _⟩ := hH n on hn
      rw [hlt m (hp m h2), hlt n (hp n h3)]
      exact hinj m n om on hm hn hr hne
  · intro L' hL'
    have h0 := hC L (.refl _ _)
    have hfr : fr.rnd = none := by
      have := h0.2.2
      cases hr : fr.rnd with
      | none => rfl
      | some l => rw [hr] at this; cases this
    refine ⟨⟨h0.1.1, fun t => ?_⟩, h0.2.1, by rw [hfr]; rfl⟩
    by_cases htn : fr.nt ≤ t
    · rw [hTn t htn, Array.getD_eq_getD_getElem?, Array.getElem?_eq_none (by rw [h0.1.1]; exact htn)]; rfl
    rcases hT t (by omega) with ⟨v, g1, g2, g3⟩ | g
    · rw [h0.1.2 t, g3, g1, ← hren v g2 L]
      exact den_names (p := p) (fun n hn => hL' n (by rw [hD']; exact .inl hn)) v g2
    · rw [g, den_ren]
      refine (hC (fun n => L' (far + n)) fun n hn => ?_).1.2 t
      have h1 := hL' (far + n) (by rw [hD']; exact .inr ⟨by omega, by rw [Nat.add_sub_cancel_left]; exact hn⟩)
      show L n = L' (far + n)
      rw [← h1]
      show L n = L (π' (far + n))
      rw [hge _ (by omega), Nat.add_sub_cancel_left]
  · intro m hm
    rw [hD'] at hm
    rcases hm with hm | hm
    · exact .inl (hp m hm)
    · exact .inr hm.1
  · intro m o b ho hr hb
    obtain ⟨h1, h2, h3, h4⟩ := hH m o ho
    have hb : (L (π' m)).blk = some b := hb
    rw [hlt m (hp m h2)] at hb
    exact hf (π m) _ b h4 (by rw [isRo_ren]; exact hr) hb
  · show L (π' m) = _
    rw [hlt m (hp m (hold m hm).1), (hold m hm).2]
    exact (hb0 m hm).2

end
end Go.Sx
