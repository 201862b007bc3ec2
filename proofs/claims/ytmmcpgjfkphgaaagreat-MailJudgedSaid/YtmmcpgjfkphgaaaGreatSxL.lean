/- The machine's steps through operations and calls. -/
import Derived.Test.YtmmcpgjfkphgaaaGreatSxK
namespace Go.Sx
section
variable {P : Program} {E : Env}

def frm (fr : Frs) (rv : Option Nat) (kind : CallKind) (tmps : Array Value) (todo : List Item) (dv : List Deferred) : Frame :=
  { fn := fr.fn, tmps, todo, defers := dv, mode := .run, kind, roundOf := rv }

theorem frm_eval (fr : Frs) (rv : Option Nat) (kind : CallKind) (tmps : Array Value) (todo : List Item) (dv : List Deferred) : (frm fr rv kind tmps todo dv).eval = evalA tmps := by
  funext x
  cases x <;> rfl

def putA (a : Array Value) (d : Option Tmp) (v : Value) : Array Value :=
  match d with
  | some t => a.setIfInBounds t v
  | none => a

theorem frm_finish (fr : Frs) (rv : Option Nat) (kind : CallKind) (tmps : Array Value) (ops : Array Oper) (i : Nat) (rest : List Nat) (k : List Item) (dv : List Deferred) (v : Value) :
    (frm fr rv kind tmps (.inRegion ops (i :: rest) :: k) dv).finish v = frm fr rv kind (putA tmps ((ops[i]?).bind (·.dst)) v) (.inRegion ops rest :: k) dv := by
  cases h : (ops[i]?).bind (·.dst) <;> simp [Frame.finish, frm, putA, h]

/-- The frame's slots, its deferred calls, its round. -/
def CtxR (D : Nat → Prop) (L : LM) (fr : Frs) (T : Tr V) (df : List Dfr) (arr : Array Value) (dv : List Deferred) (rv : Option Nat) : Prop :=
  ∀ L', Agree D L L' → TmpR L' fr.nt T arr ∧ dv = df.map (Dfr.den L') ∧ rv = fr.rnd.map (fun l => (L' l).blk.getD 0)

theorem CtxR.grow {D D' : Nat → Prop} {L L' : LM} {fr : Frs} {T : Tr V} {df : List Dfr} {arr : Array Value} {dv : List Deferred} {rv : Option Nat} (h : CtxR D L fr T df arr dv rv) (hd : ∀ n, D n → D' n) (ha : Agree D L L') :
    CtxR D' L' fr T df arr dv rv := fun L'' hL'' => h L'' (ha.trans (hL''.mono hd))

theorem putDst_ok {nt : Nat} {T T2 : Tr V} {d : Option Tmp} {v : V} (h : putDst nt T d v = some T2) {L : LM} {arr : Array Value} (ht : TmpR L nt T arr) : TmpR L nt T2 (putA arr d (v.den L)) := by
  unfold putDst at h
  cases d with
  | none => cases h; exact ht
  | some t =>
    obtain ⟨_, h1, h2⟩ := bind_some' h
    obtain ⟨_, h3, h4⟩ := bind_some' h2
    cases h4
    have hlt : t < nt := Nat.blt_eq.mp (chk_some h1)
    have hbig : t < big := Nat.blt_eq.mp (chk_some h3)
    refine ⟨by simp [putA, ht.1], fun u => ?_⟩
    rw [Tr.get_put _ _ _ _ hbig]
    by_cases hu : u = t
    · subst hu
      simp [putA, ht.1, hlt]
    · have := ht.2 u
      rw [if_neg hu, ← this]
      simp [putA, Array.getElem?_setIfInBounds, Ne.symm hu]

theorem wantedX_ok {ops : Array Oper} {o : Oper} {T T1 : Tr V} {s s1 : St} {wt : Bool} (h : wantedX ops.toList o T s = some (wt, T1, s1)) (ho : Obl s1) :
    Quiet s s1 ∧ (∀ u, (T1.get u).getD undefV = (T.get u).getD undefV) ∧ ∀ (L : LM) (arr : Array Value),
      (∀ g t, o.guard = some g → (ops[g.1]?).bind (·.dst) = some t → arr.getD t undef = ((T.get t).getD undefV).den L) → Region.wanted o (yielded ops arr) = wt := by
  unfold wantedX at h
  split at h
  · rename_i hg
    cases h
    exact ⟨.refl ho, fun _ => rfl, fun L arr _ => by simp [Region.wanted, hg]⟩
  · rename_i j want hg
    obtain ⟨g, h1, h2⟩ := bind_some' h
    rw [nth_eq] at h1
    have h1' : ops[j]? = some g := by simpa using h1
    cases hgd : g.dst with
    | none => rw [hgd] at h2; cases h2
    | some t =>
      rw [hgd] at h2
      simp only at h2
      have hyield : ∀ (arr : Array Value), yielded ops arr j = match arr[t]? with | some (.bool b) => some b | _ => none := by
        intro arr
        simp only [yielded, h1', hgd, Option.bind_some]
        cases arr[t]? with
        | none => rfl
        | some x => cases x <;> rfl
      have hbind : (ops[j]?).bind (·.dst) = some t := by rw [h1']; exact hgd
      split at h2
      · rename_i b hT
        obtain ⟨_, h3, h4⟩ := bind_some' h2
        generalize hd : dec b s = cs at h4
        obtain ⟨c, s2⟩ := cs
        cases h4
        obtain ⟨hcb, hq⟩ := dec_ok hd ho
        subst hcb
        have hbig : t < big := Nat.blt_eq.mp (chk_some h3)
        refine ⟨hq, fun u => ?_, fun L arr ha => ?_⟩
        · rw [Tr.get_put _ _ _ _ hbig]
          by_cases hu : u = t
          · subst hu; rw [if_pos rfl, hT]
          · rw [if_neg hu]
        · have ha2 := ha _ _ hg hbind
          rw [hT] at ha2
          have ha1 : t < arr.size := by
            refine Nat.lt_of_not_le fun hn => ?_
            rw [Array.getD_eq_getD_getElem?, Array.getElem?_eq_none hn] at ha2
            simp [V.den, undef] at ha2
          have ha3 : arr[t]? = some (.bool c) := by
            rw [Array.getD_eq_getD_getElem?, Array.getElem?_eq_getElem ha1] at ha2
            rw [Array.getElem?_eq_getElem ha1]
            simpa [V.den] using ha2
          simp only [Region.wanted, hg, hyield, ha3]
          cases c <;> cases want <;> rfl
      · rename_i hnb
        cases h2
        refine ⟨.refl ho, fun _ => rfl, fun L arr ha => ?_⟩
        have ha2 := ha _ _ hg hbind
        have hne : ∀ b, ((T.get t).getD undefV).den L ≠ .bool b := by
          intro b hb
          cases hT : T.get t with
          | none => rw [hT] at hb; simp [V.den] at hb
          | some v =>
            rw [hT] at hb
            simp only [Option.getD_some] at hb
            cases v <;> simp [V.den] at hb
            · exact hnb _ hT
            · rename_i n es; cases hx : (L n).blk <;> simp [hx] at hb
            · rename_i n es bs st l; cases hx : (L n).blk <;> simp [hx] at hb
        have ha3 : yielded ops arr j = none := by
          rw [hyield]
          cases ha4 : arr[t]? with
          | none => rfl
          | some x =>
            rw [Array.getD_eq_getD_getElem?, ha4] at ha2
            simp only [Option.getD_some] at ha2
            cases x <;> first | rfl | (exact absurd ha2.symm (hne _))
        simp [Region.wanted, hg, ha3]

/- The machine's steps. -/
theorem stepG_frm {fr : Frs} {rv : Option Nat} {kind : CallKind} {arr : Array Value} {ops : Array Oper} {i : Nat} {rest : List Nat} {k : List Item} {dv : List Deferred} {cs : List Frame} {w : World} {o : Oper}
    (ho : ops[i]? = some o) (hw : Region.wanted o (yielded ops arr) = true) (hd : rv = none ∨ ∀ c, o.op ≠ .defer c) :
    stepG P true { frame := frm fr rv kind arr (.inRegion ops (i :: rest) :: k) dv, callers := cs, status := .running, dying := none } w =
      stepG.apply P true (frm fr rv kind arr (.inRegion ops (i :: rest) :: k) dv) cs none (execOp (evalA arr) o) w := by
  have he := frm_eval fr rv kind arr (.inRegion ops (i :: rest) :: k) dv
  simp only [frm] at he
  cases rv with
  | none => simp [stepG, stepG.exec, stepG.oper, Frame.oper?, frm, ho, hw, he]
  | some l =>
    have hd' : ∀ c, o.op ≠ .defer c := hd.resolve_left (by simp)
    simp only [stepG, stepG.exec, stepG.oper, Frame.oper?, frm, ho, hw, he, Option.map_some, Option.getD_some, if_true]
    split
    · rename_i l' c h1 h2
      exact absurd h2 (hd' c)
    · rfl

theorem step_gives {fr : Frs} {rv : Option Nat} {kind : CallKind} {arr : Array Value} {ops : Array Oper} {i : Nat} {rest : List Nat} {k : List Item} {dv : List Deferred} {cs : List Frame} {w w' : World} {o : Oper} {val : Value}
    (ho : ops[i]? = some o) (hw : Region.wanted o (yielded ops arr) = true) (hd : ∀ c, o.op ≠ .defer c) (hg : Gives ((execOp (evalA arr) o).run P w) val w') :
    step P (lone (frm fr rv kind arr (.inRegion ops (i :: rest) :: k) dv) cs w) = .next (lone (frm fr rv kind (putA arr o.dst val) (.inRegion ops rest :: k) dv) cs w') := by
  have hfin : (ops[i]?).bind (·.dst) = o.dst := by rw [ho]; rfl
  rw [← hfin, ← frm_finish]
  refine step_lone_go ?_
  rw [stepG_frm ho hw (.inr hd)]
  rcases hg with hg | ⟨hg, rfl⟩ <;> simp [stepG.apply, hg]

theorem step_skip_op {fr : Frs} {rv : Option Nat} {kind : CallKind} {arr : Array Value} {ops : Array Oper} {i : Nat} {rest : List Nat} {k : List Item} {dv : List Deferred} {cs : List Frame} {w : World} {o : Oper}
    (ho : ops[i]? = some o) (hw : Region.wanted o (yielded ops arr) = false) :
    step P (lone (frm fr rv kind arr (.inRegion ops (i :: rest) :: k) dv) cs w) = .next (lone (frm fr rv kind (putA arr o.dst undef) (.inRegion ops rest :: k) dv) cs w) := by
  have hfin : (ops[i]?).bind (·.dst) = o.dst := by rw [ho]; rfl
  rw [← hfin, ← frm_finish]
  refine step_lone_go ?_
  have h' : ((ops[i]?).map (Region.wanted · (yielded ops arr))).getD false = false := by rw [ho]; exact hw
  simp only [frm] at *
  simp [stepG, stepG.exec, h']

theorem step_enter {fr : Frs} {rv : Option Nat} {kind : CallKind} {arr : Array Value} {ops : Array Oper} {i : Nat} {rest : List Nat} {k : List Item} {dv : List Deferred} {cs : List Frame} {w w' : World} {o : Oper} {f : FuncId} {args : Array Value}
    (ho : ops[i]? = some o) (hw : Region.wanted o (yielded ops arr) = true) (hd : ∀ c, o.op ≠ .defer c) (hg : (execOp (evalA arr) o).run P w = .ok (.enter f args) w') :
    step P (lone (frm fr rv kind arr (.inRegion ops (i :: rest) :: k) dv) cs w) = .next (lone (Frame.enter P f args .normal) (frm fr rv kind arr (.inRegion ops (i :: rest) :: k) dv :: cs) w') := by
  refine step_lone_go ?_
  rw [stepG_frm ho hw (.inr hd)]
  simp [stepG.apply, hg]
  rfl

theorem step_round {fr : Frs} {rv : Option Nat} {kind : CallKind} {arr : Array Value} {ops : Array Oper} {i : Nat} {rest : List Nat} {k : List Item} {dv : List Deferred} {cs : List Frame} {w w' : World} {o : Oper} {l : Nat} {f : FuncId} {tmps : Array Value} {assign body : Code}
    (ho : ops[i]? = some o) (hw : Region.wanted o (yielded ops arr) = true) (hd : ∀ c, o.op ≠ .defer c) (hg : (execOp (evalA arr) o).run P w = .ok (.round l f tmps assign body) w') :
    step P (lone (frm fr rv kind arr (.inRegion ops (i :: rest) :: k) dv) cs w) = .next (lone (Frame.round l f tmps assign body .normal) (frm fr rv kind arr (.inRegion ops (i :: rest) :: k) dv :: cs) w') := by
  refine step_lone_go ?_
  rw [stepG_frm ho hw (.inr hd)]
  simp [stepG.apply, hg]

theorem step_defer_op {fr : Frs} {kind : CallKind} {arr : Array Value} {ops : Array Oper} {i : Nat} {rest : List Nat} {k : List Item} {dv : List Deferred} {cs : List Frame} {w w' : World} {o : Oper} {d : Deferred}
    (ho : ops[i]? = some o) (hw : Region.wanted o (yielded ops arr) = true) (hg : (execOp (evalA arr) o).run P w = .ok (.defer d) w') :
    step P (lone (frm fr none kind arr (.inRegion ops (i :: rest) :: k) dv) cs w) = .next (lone (frm fr none kind (putA arr o.dst undef) (.inRegion ops rest :: k) (d :: dv)) cs w') := by
  have hfin : (ops[i]?).bind (·.dst) = o.dst := by rw [ho]; rfl
  rw [← hfin, ← frm_finish]
  refine step_lone_go ?_
  rw [stepG_frm ho hw (.inl rfl)]
  simp [stepG.apply, hg]
  rfl

theorem step_region_end' {fr : Frs} {rv : Option Nat} {kind : CallKind} {arr : Array Value} {ops : Array Oper} {k : List Item} {dv : List Deferred} {cs : List Frame} {w : World} :
    step P (lone (frm fr rv kind arr (.inRegion ops [] :: k) dv) cs w) = .next (lone (frm fr rv kind arr k dv) cs w) :=
  step_lone_go (by simp [stepG, stepG.exec, frm])
theorem step_region' {fr : Frs} {rv : Option Nat} {kind : CallKind} {arr : Array Value} {ops : Array Oper} {k : List Item} {dv : List Deferred} {cs : List Frame} {w : World} {id : Nat} :
    step P (lone (frm fr rv kind arr (.code (.region id ops false) :: k) dv) cs w) = .next (lone (frm fr rv kind arr (.inRegion ops (List.range ops.size) :: k) dv) cs w) :=
  step_lone_go (by simp [stepG, stepG.exec, frm])
theorem step_region_draw' {fr : Frs} {rv : Option Nat} {kind : CallKind} {arr : Array Value} {ops : Array Oper} {k : List Item} {dv : List Deferred} {cs : List Frame} {w : World} {id : Nat} :
    step P (lone (frm fr rv kind arr (.code (.region id ops true) :: k) dv) cs w) =
      .next (lone (frm fr rv kind arr (.inRegion ops (Region.schedule (P.follows .mixedOrders) ops (w.tape w.drawn (.order fr.fn id))) :: k) dv) cs w.drew) :=
  step_lone_go (by simp [stepG, stepG.exec, frm, choose, Sem.run, Question.forced, Question.cut])

/-- A function's frame at its end. -/
def Leav (P : Program) (fr : Frame) (f : FuncId) (kind : CallKind) (val : Value) (w : World) : Prop :=
  fr.mode = .returning ∧ fr.defers = [] ∧ fr.kind = kind ∧ fr.fn = f ∧ ∃ fn, P.funcs[f]? = some fn ∧ (results fn fr.tmps).run P w = .ok val w

theorem Leav.step {fr c : Frame} {cs : List Frame} {f : FuncId} {val : Value} {w : World} (h : Leav P fr f .normal val w) : step P (lone fr (c :: cs) w) = .next (lone (c.finish val) cs w) := by
  obtain ⟨h1, h2, h3, h4, fn, h5, h6⟩ := h
  exact step_leave_returned ⟨h1, h2, h3, fn, by rw [h4]; exact h5, h6⟩

/-- What a call does. -/
def CallOK (P : Program) (f : FuncId) (args : List V) (s : St) (v : V) (s' : St) : Prop :=
  ∀ (D : Nat → Prop) (L : LM) (w : World) (kind : CallKind) (cs : List Frame) (av : Array Value), SR D L s.H.get w → (∀ L', Agree D L L' → av.toList = args.map (V.den L')) → (∀ n, D n → n < s.nx ∨ s'.nx ≤ n) →
    ∃ L' w' val, Mv D L s.H.get w L' s'.H.get w' ∧ SR (Grow D s.nx s'.nx) L' s'.H.get w' ∧ (∀ L'', Agree (Grow D s.nx s'.nx) L' L'' → val = v.den L'') ∧
      ∃ fr', Steps P (lone (Frame.enter P f av kind) cs w) (lone fr' cs w') ∧ Leav P fr' f kind val w'

/-- What a round does. -/
def YieldOK (P : Program) (l : Nat) (args : List V) (s : St) (v : V) (s' : St) : Prop :=
  ∀ (D : Nat → Prop) (L : LM) (w : World) (c : Frame) (cs : List Frame) (av : Array Value), SR D L s.H.get w → (∀ L', Agree D L L' → av.toList = args.map (V.den L')) → (∀ n, D n → n < s.nx ∨ s'.nx ≤ n) →
    ∃ L' w' val, Mv D L s.H.get w L' s'.H.get w' ∧ SR (Grow D s.nx s'.nx) L' s'.H.get w' ∧ (∀ L'', Agree (Grow D s.nx s'.nx) L' L'' → val = v.den L'') ∧
      ∃ f tmps assign body, (Instr.yield ((L l).blk.getD 0) av).run P w = .ok (.round ((L l).blk.getD 0) f tmps assign body) w ∧
        Steps P (lone (Frame.round ((L l).blk.getD 0) f tmps assign body .normal) (c :: cs) w) (lone (c.finish val) cs w')

def CfOK (P : Program) (E : Env) (cf : CallF) : Prop := ∀ f args s v s', cf f args s = some (v, s') → Obl s' → Lg s s' ∧ Obl s ∧ CallOK P f args s v s' ∧ ∀ av w, (callFunc f av).run P w = .ok (.enter f av) w
def YfOK (P : Program) (yf : YieldF) : Prop := ∀ l args s v s', yf l args s = some (v, s') → Obl s' → Lg s s' ∧ Obl s ∧ YieldOK P l args s v s'

end
end Go.Sx
