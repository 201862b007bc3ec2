/- Calls, rounds, loops over functions; the interpreter is sound. -/
import Derived.Test.YtmmcpgjfkphgaaaGreatSxR
namespace Go.Sx
section
variable {P : Program} {E : Env}

/- Results. -/
def rsem (arr : Array Value) : ResultVar → Sem Value
  | .tmp t => pure (arr.getD t undef)
  | .cell a t => do loadVar t (← asAddr (arr.getD a undef))
theorem results_eq (fn : Func) (arr : Array Value) : results fn arr = (do let vs ← fn.results.mapM (rsem arr); pure (if h : vs.size = 1 then vs[0] else .tuple vs)) := by
  unfold results
  have : (rsem arr) = (fun
    | .tmp t => pure (arr.getD t undef)
    | .cell a t => do loadVar t (← asAddr (arr.getD a undef))) := by funext r; cases r <;> rfl
  rw [this]
  rfl
theorem resultsX_ok (hE : EnvOK P E) {nt : Nat} {T : Tr V} : ∀ {rs : List ResultVar} {vs : List V} {s s' : St}, resultsX E T rs s = some (vs, s') → Obl s' →
    Quiet s s' ∧ ∀ (L : LM) (H : Nat → Option Ob) (w : World) (arr : Array Value), H = s.H.get → HR L H w → TmpR L nt T arr →
      (rs.mapM (rsem arr)).run P w = .ok (vs.map (V.den L)) w := by
  intro rs
  induction rs with
  | nil =>
    intro vs s s' h ho
    simp only [resultsX] at h
    cases h
    exact ⟨.refl ho, fun L H w arr _ _ _ => by simp⟩
  | cons r rs ih =>
    intro vs s s' h ho
    cases r with
    | tmp t =>
      simp only [resultsX] at h
      obtain ⟨⟨vs1, s1⟩, h1, h2⟩ := bind_some' h
      cases h2
      obtain ⟨q, hq⟩ := ih h1 ho
      refine ⟨q, fun L H w arr hH hHR hT => ?_⟩
      have := hq L H w arr hH hHR hT
      simp only [List.mapM_cons, rsem, Sem.run_bind, Sem.run_pure, Result.andThen_ok, this, List.map_cons]
      rw [hT.2 t]
    | cell a t =>
      simp only [resultsX] at h
      split at h
      · rename_i av hav
        obtain ⟨⟨v, s1⟩, h1, h2⟩ := bind_some' h
        obtain ⟨⟨vs1, s2⟩, h3, h4⟩ := bind_some' h2
        cases h4
        obtain ⟨q, hq⟩ := ih h3 ho
        obtain ⟨q0, hq0⟩ := loadX_ok hE h1 q.2
        refine ⟨q0.trans q.1, fun L H w arr hH hHR hT => ?_⟩
        have g1 := hq L H w arr (by rw [q0.1.H]; exact hH) hHR hT
        have g2 := hq0 L w (fun n idx size off o _ ho => hHR.ob n o (by rw [hH]; exact ho))
        have g3 : arr.getD a undef = av.den L := by rw [hT.2 a, hav]; rfl
        simp only [List.mapM_cons, rsem, Sem.run_bind, g3]
        cases av with
        | ptr n idx size off =>
          simp only [V.den, Instr.loadAt, Instr.sureAddr, Sem.run_bind, Sem.run_pure, Result.andThen_ok] at g2
          have g4 : (asAddr ((V.ptr n idx size off).den L)).run P w = .ok ⟨(L n).blk.getD 0, (L n).off + (idx * size + off), none⟩ w := by simp [V.den, asAddr]
          simp only [g4, Sem.run_pure, Result.andThen_ok, g2, g1, List.map_cons]
        | _ => simp [loadX] at h1
      · cases h

theorem results_ok {nt : Nat} {T : Tr V} (hE : EnvOK P E) {fn : Func} {vs : List V} {s s' : St} (h : resultsX E T fn.results.toList s = some (vs, s')) (ho : Obl s') :
    Quiet s s' ∧ ∀ (D : Nat → Prop) (L : LM) (w : World) (arr : Array Value), SR D L s.H.get w → (∀ L', Agree D L L' → TmpR L' nt T arr) →
      ∃ val, (∀ L', Agree D L L' → val = (resultOf vs).den L') ∧ (results fn arr).run P w = .ok val w := by
  obtain ⟨q, hq⟩ := resultsX_ok (nt := nt) hE h ho
  refine ⟨q, fun D L w arr hSR hT => ?_⟩
  have key : ∀ L', Agree D L L' → (results fn arr).run P w = .ok ((resultOf vs).den L') w := by
    intro L' hL'
    have g := hq L' _ w arr rfl (hSR L' hL') (hT L' hL')
    rw [results_eq, Sem.run_bind, Array.mapM_eq_mapM_toList]
    rw [map_eq_pure_bind, Sem.run_bind, g, Result.andThen_ok, Sem.run_pure, Result.andThen_ok, Sem.run_pure]
    congr 1
    cases vs with
    | nil => simp [resultOf, V.den, V.denL]
    | cons v vs =>
      cases vs with
      | nil => simp [resultOf]
      | cons u vs => simp [resultOf, V.den, denL_eq]
  refine ⟨(resultOf vs).den L, fun L' hL' => ?_, key L (.refl _ _)⟩
  have h1 := key L' hL'
  rw [key L (.refl _ _)] at h1
  injection h1

/-- A frame that is on its way out. -/
def Out (fr : Frs) (rv : Option Nat) (kind : CallKind) (arr : Array Value) (todo : List Item) (dv : List Deferred) : Frame := { frm fr rv kind arr todo dv with mode := .returning }

theorem enter_ok (hE : EnvOK P E) {run : X} (hr : XOK P run) {f : FuncId} {args : List V} {s s' : St} {fn : Func} {T : Tr V} {df : List Dfr} (h : enterX run E f args s = some (fn, T, df, s')) (ho : Obl s') :
    Lg s s' ∧ Obl s ∧ P.funcs[f]? = some fn ∧ (∀ av w, (callFunc f av).run P w = .ok (.enter f av) w) ∧
      ∀ (D : Nat → Prop) (L : LM) (w : World) (kind : CallKind) (cs : List Frame) (av : Array Value), SR D L s.H.get w → (∀ L', Agree D L L' → av.toList = args.map (V.den L')) → (∀ n, D n → n < s.nx ∨ s'.nx ≤ n) →
        ∃ L' w' arr dv todo, Mv D L s.H.get w L' s'.H.get w' ∧ SR (Grow D s.nx s'.nx) L' s'.H.get w' ∧ CtxR (Grow D s.nx s'.nx) L' ⟨f, none, fn.ntmps⟩ T df arr dv none ∧
          Steps P (lone (Frame.enter P f av kind) cs w) (lone (Out ⟨f, none, fn.ntmps⟩ none kind arr todo dv) cs w') := by
  unfold enterX at h
  obtain ⟨fn', h1, h2⟩ := bind_some' h
  obtain ⟨hf, hcall⟩ := hE.fn _ _ h1
  cases hb : fn'.body with
  | none => rw [hb] at h2; cases h2
  | some c =>
    rw [hb] at h2
    simp only at h2
    obtain ⟨_, h3, h4⟩ := bind_some' h2
    obtain ⟨_, h5, h6⟩ := bind_some' h4
    obtain ⟨⟨e, T1, df1, s1⟩, h7, h8⟩ := bind_some' h6
    have hnt : fn'.ntmps < big := Nat.blt_eq.mp (chk_some h3)
    have hlen : args.length ≤ fn'.ntmps := Nat.ble_eq.mp (chk_some h5)
    have hs : (fn', T1, df1, s1) = (fn, T, df, s') := by cases e <;> cases h8 <;> rfl
    cases hs
    obtain ⟨g1, g2, g3⟩ := hr _ _ _ _ _ _ _ _ _ h7 ho
    refine ⟨g1, g2, hf, hcall, fun D L w kind cs av hSR hav hD => ?_⟩
    have hsz : av.size = args.length := by
      have := congrArg List.length (hav L (.refl _ _))
      simpa using this
    have hctx : CtxR D L ⟨f, none, fn.ntmps⟩ (Tr.ofList args) [] (av ++ Array.replicate (fn.ntmps - av.size) undef) [] none := by
      intro L' hL'
      refine ⟨⟨by simp; omega, fun t => ?_⟩, rfl, rfl⟩
      rw [Tr.get_ofList _ _ (by omega)]
      have hL := hav L' hL'
      by_cases ht : t < args.length
      · have h9 : av.toList[t]? = some ((args[t]).den L') := by rw [hL]; simp [ht]
        rw [List.getElem?_eq_getElem ht]
        simp only [Option.getD_some]
        rw [Array.getD_eq_getD_getElem?, Array.getElem?_append_left (by omega)]
        rw [Array.getElem?_toList] at h9
        rw [h9]; rfl
      · rw [List.getElem?_eq_none (by omega)]
        rw [Array.getD_eq_getD_getElem?, Array.getElem?_append_right (by omega), Array.getElem?_replicate]
        split <;> rfl
    obtain ⟨L', b, q1, q2, q3, q4⟩ := g3.at D L none kind [] cs ⟨av ++ Array.replicate (fn.ntmps - av.size) undef, [], w⟩ hSR hctx hD
    have hent : Frame.enter P f av kind = frm ⟨f, none, fn.ntmps⟩ none kind (av ++ Array.replicate (fn.ntmps - av.size) undef) [.code c] [] := by
      simp [Frame.enter, frm, hf, hb]
    rw [hent]
    cases e with
    | normal => exact ⟨L', b.w, b.arr, b.dv, [], q1, q2, q3, Steps.trans q4 (.one (stepR_end (b := frm ⟨f, none, fn.ntmps⟩ none kind #[] [] []) (a := ⟨b.arr, b.dv⟩) rfl))⟩
    | ret =>
      obtain ⟨k1, q4⟩ := q4
      exact ⟨L', b.w, b.arr, b.dv, _, q1, q2, q3, Steps.trans q4 (.one (stepR_ret (b := frm ⟨f, none, fn.ntmps⟩ none kind #[] [] []) (a := ⟨b.arr, b.dv⟩) rfl))⟩
    | exit id => cases h8
    | goto l => cases h8

theorem callN_ok (hE : EnvOK P E) {run : X} (hr : XOK P run) : CfOK P E (callN run E) := by
  intro f args s v s' h ho
  unfold callN at h
  obtain ⟨⟨fn, T, df, s1⟩, h1, h2⟩ := bind_some' h
  cases df with
  | cons d df => cases h2
  | nil =>
    simp only at h2
    obtain ⟨⟨vs, s2⟩, h3, h4⟩ := bind_some' h2
    cases h4
    obtain ⟨q, hq⟩ := results_ok (nt := fn.ntmps) hE h3 ho
    obtain ⟨g1, g2, g3, g4, g5⟩ := enter_ok hE hr h1 q.2
    refine ⟨g1.trans (.of_same q.1), g2, ?_, g4⟩
    intro D L w kind cs av hSR hav hD
    rw [q.1.nx] at hD
    obtain ⟨L', w', arr, dv, todo, m1, m2, m3, m4⟩ := g5 D L w kind cs av hSR hav hD
    obtain ⟨val, r1, r2⟩ := hq _ L' w' arr m2 (fun L'' hL'' => (m3 L'' hL'').1)
    rw [q.1.H, q.1.nx]
    have hdv : dv = [] := (m3 L' (.refl _ _)).2.1
    exact ⟨L', w', val, m1, m2, r1, _, m4, rfl, hdv, rfl, rfl, fn, g3, r2⟩

/-- Deferred calls, carried out. -/
theorem runDefers_ok {cf : CallF} (hcf : CfOK P E cf) : ∀ (n : Nat) (ds : List Dfr) (s s' : St), runDefers cf n ds s = some s' → Obl s' → Lg s s' ∧ Obl s ∧
    ∀ (D : Nat → Prop) (L : LM) (w : World) (fr : Frs) (rv : Option Nat) (kind : CallKind) (cs : List Frame) (arr : Array Value) (todo : List Item) (dv : List Deferred), SR D L s.H.get w → (∀ L', Agree D L L' → dv = ds.map (Dfr.den L')) → (∀ n, D n → n < s.nx ∨ s'.nx ≤ n) →
      ∃ L' w', Mv D L s.H.get w L' s'.H.get w' ∧ SR (Grow D s.nx s'.nx) L' s'.H.get w' ∧ Steps P (lone (Out fr rv kind arr todo dv) cs w) (lone (Out fr rv kind arr todo []) cs w') := by
  intro n
  induction n with
  | zero => intro ds s s' h; simp [runDefers] at h
  | succ n ih =>
    intro ds s s' h ho
    cases ds with
    | nil =>
      simp only [runDefers] at h
      cases h
      refine ⟨.refl _, ho, fun D L w fr rv kind cs arr todo dv hSR hdv hD => ⟨L, w, .refl _ _ _ _, by rw [grow_self rfl]; exact hSR, ?_⟩⟩
      have : dv = [] := hdv L (.refl _ _)
      rw [this]
      exact .refl _ _
    | cons d ds =>
      cases d with
      | collected l =>
        simp only [runDefers] at h
        split at h
        · rename_i l' hl
          obtain ⟨s1, h1, h2⟩ := bind_some' h
          obtain ⟨g1, g2, g3⟩ := ih _ _ _ h2 ho
          obtain ⟨u1, u2, u3, u4⟩ := upd_ok h1
          refine ⟨(Lg.upd h1).trans g1, by unfold Obl at g2 ⊢; rw [u3] at g2; exact g2, fun D L w fr rv kind cs arr todo dv hSR hdv hD => ?_⟩
          have hDl := hSR.live hl
          obtain ⟨k, hk1, hk2, hk3⟩ := (hSR L (.refl _ _)).ob _ _ hl
          obtain ⟨m1, m2⟩ := write_mv (w' := w.putObj k (.deferred none)) hSR hl rfl rfl hk1 u4 (by simp) (fun b hb => World.putObj_heap_other hb) ⟨rfl, rfl, rfl⟩ (by
            intro L' hL' _
            refine ⟨k, by rw [← hL' _ hDl]; exact hk1, by rw [← hL' _ hDl]; exact hk2, World.putObj_heap_same (Array.getElem?_eq_some_iff.1 hk3).1⟩)
          have hden : ∀ L', Agree D L L' → l'.map (Dfr.den L) = l'.map (Dfr.den L') := by
            intro L' hL'
            obtain ⟨k', e1, e2, e3⟩ := (hSR L' hL').ob _ _ hl
            rw [← hL' _ hDl, hk1] at e1
            cases e1
            rw [hk3] at e3
            simpa using e3
          obtain ⟨L', w', q1, q2, q3⟩ := g3 D L _ fr rv kind cs arr todo (l'.map (Dfr.den L) ++ ds.map (Dfr.den L)) m2 (by
            intro L' hL'
            rw [List.map_append, hden L' hL']
            have e1 := hdv L (.refl _ _)
            have e2 := hdv L' hL'
            rw [e1] at e2
            simp only [List.map_cons] at e2
            injection e2 with _ e2
            rw [e2]) (by rw [u1]; exact hD)
          rw [u1] at q2
          refine ⟨L', w', m1.trans (fun n hn => hn) q1, q2, .head ?_ q3⟩
          have e1 := hdv L (.refl _ _)
          rw [e1, List.map_cons]
          have hkd : (L l).blk.getD 0 = k := by rw [hk1]; rfl
          refine step_collected (fr := Out fr rv kind arr todo (Dfr.den L (.collected l) :: ds.map (Dfr.den L))) (by simp [Out]) (d := Dfr.den L (.collected l)) (by simp [Out, frm]) (by simp only [Dfr.den, hkd]) (calls := l'.map (Dfr.den L)) (run_takeDeferred ?_)
          rw [hk3]; rfl
        · cases h
      | call f args caps =>
        simp only [runDefers] at h
        obtain ⟨⟨v, s1⟩, h1, h2⟩ := bind_some' h
        obtain ⟨g1, g2, g3⟩ := ih _ _ _ h2 ho
        obtain ⟨c1, c2, c3, c4⟩ := hcf _ _ _ _ _ h1 g2
        refine ⟨c1.trans g1, c2, fun D L w fr rv kind cs arr todo dv hSR hdv hD => ?_⟩
        have e1 := hdv L (.refl _ _)
        obtain ⟨L1, w1, val, m1, m2, m3, fr', m4, m5⟩ := c3 D L w .deferred (Out fr rv kind arr todo (ds.map (Dfr.den L)) :: cs) ((args.map (V.den L)).toArray ++ (caps.map (V.den L)).toArray) hSR (by
          intro L' hL'
          have e2 := hdv L' hL'
          rw [e1] at e2
          simp only [List.map_cons, Dfr.den] at e2
          injection e2 with e2 _
          injection e2 with e2 e3
          injection e2 with _ e2
          have e2' : caps.map (V.den L) = caps.map (V.den L') := by simpa using e2
          have e3' : args.map (V.den L) = args.map (V.den L') := by simpa using e3
          simp [e2', e3']) (fresh_left g1.le hD)
        obtain ⟨L2, w2, q1, q2, q3⟩ := g3 _ L1 w1 fr rv kind cs arr todo (ds.map (Dfr.den L)) m2 (by
          intro L' hL'
          have e2 := hdv L' (m1.agree.trans (hL'.mono fun n hn => .inl hn))
          rw [e1] at e2
          simp only [List.map_cons] at e2
          injection e2) (fresh_grow c1.le hD)
        rw [grow_trans c1.le g1.le] at q2
        refine ⟨L2, w2, m1.trans (fun n hn => .inl hn) q1, q2, ?_⟩
        rw [e1, List.map_cons]
        refine .head (step_defer (fr := Out fr rv kind arr todo (Dfr.den L (.call f args caps) :: ds.map (Dfr.den L))) (d := Dfr.den L (.call f args caps)) (fv := .func f) (cap := (caps.map (V.den L)).toArray) (by simp [Out]) (by simp [Out, frm]) (by simp only [Dfr.den]) ?_) (m4.trans (.head ?_ q3))
        · exact c4 _ _
        · obtain ⟨p1, p2, p3, p4, p5⟩ := m5
          have := step_going_returned (P := P) (fr := fr') (c := Out fr rv kind arr todo (ds.map (Dfr.den L))) (cs := cs) (w := w1) (v := val) p3 ⟨p1, p2, by rw [p4]; exact p5⟩
          exact this

def SumOK (P : Program) (E : Env) : Prop := ∀ f F, E.SM f = some F → CfOK P E (fun g args s => if g = f then F args s else none)

theorem callX_ok (hE : EnvOK P E) (hS : SumOK P E) {run : X} (hr : XOK P run) : CfOK P E (callX run E) := by
  intro f args s v s' h ho
  unfold callX at h
  cases hsm : E.SM f with
  | some F =>
    rw [hsm] at h
    exact hS f F hsm f args s v s' (by simp only [if_pos]; exact h) ho
  | none =>
    rw [hsm] at h
    simp only at h
    obtain ⟨⟨fn, T, df, s1⟩, h1, h2⟩ := bind_some' h
    cases hdf : df with
    | nil =>
      have : callN run E f args s = some (v, s') := by
        unfold callN
        rw [h1]
        subst hdf
        exact h2
      exact callN_ok hE hr f args s v s' this ho
    | cons d ds =>
      have h2' : ((runDefers (callN run E) 1000 df s1).bind fun s2 => (resultsX E T fn.results.toList s2).bind fun (vs, s3) => some (resultOf vs, s3)) = some (v, s') := by
        simp only [hdf] at h2; rw [hdf]; exact h2
      clear h2 hdf
      obtain ⟨s2, h3, h4⟩ := bind_some' h2'
      obtain ⟨⟨vs, s3⟩, h5, h6⟩ := bind_some' h4
      cases h6
      obtain ⟨q, hq⟩ := results_ok (nt := fn.ntmps) hE h5 ho
      obtain ⟨d1, d2, d3⟩ := runDefers_ok (callN_ok hE hr) _ _ _ _ h3 q.2
      obtain ⟨g1, g2, g3, g4, g5⟩ := enter_ok hE hr h1 d2
      refine ⟨(g1.trans d1).trans (.of_same q.1), g2, ?_, g4⟩
      intro D L w kind cs av hSR hav hD
      rw [q.1.nx] at hD
      obtain ⟨L1, w1, arr, dv, todo, m1, m2, m3, m4⟩ := g5 D L w kind cs av hSR hav (fresh_left d1.le hD)
      obtain ⟨L2, w2, n1, n2, n3⟩ := d3 _ L1 w1 ⟨f, none, fn.ntmps⟩ none kind cs arr todo dv m2 (fun L' hL' => (m3 L' hL').2.1) (fresh_grow g1.le hD)
      rw [grow_trans g1.le d1.le] at n2
      obtain ⟨val, r1, r2⟩ := hq _ L2 w2 arr n2 (fun L'' hL'' => (m3 L'' (n1.agree.trans (hL''.mono fun n hn => by
        rcases hn with hn | hn
        · exact .inl hn
        · exact .inr ⟨hn.1, Nat.lt_of_lt_of_le hn.2 d1.le⟩))).1)
      rw [q.1.H, q.1.nx]
      exact ⟨L2, w2, val, m1.trans (fun n hn => .inl hn) n1, n2, r1, _, m4.trans n3, rfl, rfl, rfl, rfl, fn, g3, r2⟩

end
end Go.Sx
