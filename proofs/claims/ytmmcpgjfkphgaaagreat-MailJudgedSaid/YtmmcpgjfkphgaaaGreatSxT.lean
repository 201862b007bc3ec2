/- Rounds, loops over functions; the interpreter is sound. -/
import Derived.Test.YtmmcpgjfkphgaaaGreatSxS
namespace Go.Sx
section
variable {P : Program} {E : Env}
variable {fr : Frs} {T T1 T2 T' : Tr V} {df df1 df2 df' : List Dfr} {s s1 s2 s' : St} {R R1 R2 R3 : Rel}

/-- The record of a loop is written. -/
theorem loop_write {D : Nat → Prop} {L : LM} {H H' : Nat → Option Ob} {w : World} {n : Nat} {st st' : LoopState} {pe pe' : Option Code} {fn : FuncId} {tmps : Tr V} {nt : Nat} {params : List Tmp} {assign body : Code} {dl : Nat}
    (hSR : SR D L H w) (hn : H n = some (.loop st pe fn tmps nt params assign body dl)) (hH : ∀ m, H' m = if m = n then some (.loop st' pe' fn tmps nt params assign body dl) else H m) :
    ∃ k rec, (L n).blk = some k ∧ w.heap[k]? = some (.loop rec) ∧ rec.state = st ∧ rec.pending = pe ∧
      Mv D L H w L H' (w.putObj k (.loop { rec with state := st', pending := pe' })) ∧ SR D L H' (w.putObj k (.loop { rec with state := st', pending := pe' })) := by
  have hDn := hSR.live hn
  obtain ⟨k, arr, h1, h2, h3, h4⟩ := (hSR L (.refl _ _)).ob _ _ hn
  refine ⟨k, _, h1, h4, rfl, rfl, ?_⟩
  refine write_mv hSR hn rfl rfl h1 hH (by simp) (fun b hb => World.putObj_heap_other hb) ⟨rfl, rfl, rfl⟩ ?_
  intro L' hL' hHR
  obtain ⟨k', arr', e1, e2, e3, e4⟩ := hHR.ob _ _ hn
  have hk : k' = k := by
    rw [← hL' n hDn, h1] at e1
    cases e1; rfl
  subst hk
  rw [h4] at e4
  injection e4 with e4
  injection e4 with e4
  injection e4 with _ _ _ ea _ _ _ ed
  refine ⟨k', arr', e1, e2, e3, ?_⟩
  rw [World.putObj_heap_same (Array.getElem?_eq_some_iff.1 h4).1, ea, ed]

/-- The same, of the frame of a round. -/
theorem Pc.round_write {l : Nat} {st st' : LoopState} {pe pe' : Option Code} {fn : FuncId} {tmps : Tr V} {nt : Nat} {params : List Tmp} {assign body : Code} {dl : Nat} (hl : fr.rnd = some l)
    (hn : s.H.get l = some (.loop st pe fn tmps nt params assign body dl)) (hu : s.upd l (some (.loop st' pe' fn tmps nt params assign body dl)) = some s') :
    Pc fr T df s T df s' (fun rv _ _ _ a b => ∃ k rec, rv = some k ∧ a.w.heap[k]? = some (.loop rec) ∧ rec.state = st ∧ rec.pending = pe ∧ b = ⟨a.arr, a.dv, a.w.putObj k (.loop { rec with state := st', pending := pe' })⟩) := by
  obtain ⟨u1, u2, u3, u4⟩ := upd_ok hu
  intro D L rv kind k cs a hSR hC hD
  obtain ⟨kk, rec, h1, h2, h3, h4, h5, h6⟩ := loop_write hSR hn u4
  refine ⟨L, ⟨a.arr, a.dv, a.w.putObj kk (.loop { rec with state := st', pending := pe' })⟩, h5, ?_, ?_, kk, rec, ?_, h2, h3, h4, rfl⟩
  · rw [grow_self u1.symm]; exact h6
  · rw [grow_self u1.symm]; exact hC
  · have := (hC L (.refl _ _)).2.2
    rw [this, hl]
    simp [h1]

theorem setAll_ok {L : LM} {nt : Nat} : ∀ (l : List (Tmp × V)) (T T' : Tr V) (arr : Array Value), setAll nt T l = some T' → TmpR L nt T arr →
    TmpR L nt T' (l.foldl (fun a p => a.setIfInBounds p.1 (p.2.den L)) arr) := by
  intro l
  induction l with
  | nil => intro T T' arr h hT; simp only [setAll] at h; cases h; exact hT
  | cons p l ih =>
    intro T T' arr h hT
    obtain ⟨t, v⟩ := p
    simp only [setAll] at h
    obtain ⟨T1, h1, h2⟩ := bind_some' h
    exact ih _ _ _ h2 (putDst_ok h1 hT)

theorem zip_fold {L : LM} : ∀ (ps : List Tmp) (vs : List V) (arr : Array Value),
    (ps.zip vs).foldl (fun a p => a.setIfInBounds p.1 (p.2.den L)) arr = (ps.zip (vs.map (V.den L))).foldl (fun a p => a.setIfInBounds p.1 p.2) arr := by
  intro ps
  induction ps with
  | nil => intro vs arr; rfl
  | cons p ps ih =>
    intro vs arr
    cases vs with
    | nil => rfl
    | cons v vs => simp only [List.zip_cons_cons, List.map_cons, List.foldl_cons]; exact ih _ _

theorem yieldX_ok {run : X} (hr : XOK P run) : YfOK P (yieldX run) := by
  intro l args s v s' h ho
  unfold yieldX at h
  split at h
  · rename_i pe fn tmps nt params assign body dl hl
    obtain ⟨_, h1, h2⟩ := bind_some' h
    obtain ⟨T0, h3, h4⟩ := bind_some' h2
    obtain ⟨⟨e, T1, df1, s1⟩, h5, h6⟩ := bind_some' h4
    clear h h2 h4
    simp only at h6
    split at h6
    · rename_i pe' fn' tmps' nt' params' assign' body' dl' hl1
      obtain ⟨s2, h7, h8⟩ := bind_some' h6
      obtain ⟨⟨e2, T3, df3, s3⟩, h9, h10⟩ := bind_some' h8
      clear h6 h8
      simp only at h10
      split at h10
      · rename_i st3 pe3 fn3 tmps3 nt3 params3 assign3 body3 dl3 hl3
        have hfin : ∃ st4, s3.upd l (some (.loop st4 e2.code fn3 tmps3 nt3 params3 assign3 body3 dl3)) = some s' ∧ v = .bool e2.code.isNone ∧ st4 = (if e2.code.isNone then .ready else .done) := by
          cases hc : e2.code with
          | none =>
            rw [hc] at h10
            simp only at h10
            obtain ⟨s4, g1, g2⟩ := bind_some' h10
            cases g2
            exact ⟨_, g1, rfl, rfl⟩
          | some j =>
            rw [hc] at h10
            simp only at h10
            obtain ⟨s4, g1, g2⟩ := bind_some' h10
            cases g2
            exact ⟨_, g1, rfl, rfl⟩
        obtain ⟨st4, h11, hv, hst4⟩ := hfin
        clear h10
        obtain ⟨u1, u2, u3, u4⟩ := upd_ok h11
        obtain ⟨t1, t2, t3, t4⟩ := upd_ok h7
        have ho3 : Obl s3 := by unfold Obl at ho ⊢; rw [u3] at ho; exact ho
        obtain ⟨b1, b2, b3⟩ := hr _ _ _ _ _ _ _ _ _ h9 ho3
        have ho1 : Obl s1 := by unfold Obl at b2 ⊢; rw [t3] at b2; exact b2
        obtain ⟨a1, a2, a3⟩ := hr _ _ _ _ _ _ _ _ _ h5 ho1
        have hlen : args.length = params.length := Nat.beq_eq.mp (chk_some h1)
        refine ⟨((a1.trans (.upd h7)).trans b1).trans (.upd h11), a2, ?_⟩
        -- the round, piece by piece
        have p1 := (a3.at).atk (fun k => .beginRound :: .code body :: k)
        have p2 := Pc.round_write (T := T1) (df := ([] : List Dfr)) (fr := ⟨fn, some l, nt⟩) rfl hl1 h7
        have p3 := b3.at
        have p4 := Pc.round_write (T := T3) (df := df3) (fr := ⟨fn, some l, nt⟩) rfl hl3 h11
        have q12 := p1.trans p2 a1.le (by omega) (R3 := fun rv kind k cs a b => Steps P (At ⟨fn, some l, nt⟩ rv kind cs a (.code assign :: .beginRound :: .code body :: k)) (At ⟨fn, some l, nt⟩ rv kind cs b (.code body :: k))) (by
          rintro rv kind k cs a b c hs ⟨kk, rec, g1, g2, g3, g4, rfl⟩
          refine Steps.trans hs (.one ?_)
          exact stepR_beginRound (b := frm ⟨fn, some l, nt⟩ rv kind #[] [] []) (a := ⟨b.arr, b.dv⟩) (l := kk) (by simp [frm, g1]) (by
            have := run_beginRound (P := P) g2 g3
            rw [← g4]
            exact this))
        have q123 := q12.trans p3 (by have := a1.le; omega) b1.le (R3 := fun rv kind k cs a b => Arrm P (At ⟨fn, some l, nt⟩ rv kind cs a (.code assign :: .beginRound :: .code body :: k)) ⟨fn, some l, nt⟩ rv kind k cs b e2) (by
          intro rv kind k cs a b c hs ha
          exact .of_steps hs ha)
        have q := q123.trans p4 (by have := a1.le; have := b1.le; omega) (by omega) (R3 := fun rv kind k cs a b => k = [] → kind = .normal → ∀ c cs', cs = c :: cs' →
            Steps P (At ⟨fn, some l, nt⟩ rv kind cs a [.code assign, .beginRound, .code body]) (lone (c.finish (.bool e2.code.isNone)) cs' b.w)) (by
          rintro rv kind k cs a b c ha ⟨kk, rec, g1, g2, g3, g4, rfl⟩ rfl hkind c' cs' rfl
          have hend : ∀ jump, jump = e2.code → (Instr.endRound kk jump).run P b.w = .ok (.bool e2.code.isNone) (b.w.putObj kk (.loop { rec with state := st4, pending := e2.code })) := by
            rintro jump rfl
            have := run_endRound (P := P) e2.code g2
            rw [hst4]; exact this
          cases e2 with
          | normal => exact Steps.trans ha (.one (stepR_round_end (b := frm ⟨fn, some l, nt⟩ rv kind #[] [] []) (a := ⟨b.arr, b.dv⟩) (l := kk) (by simp [frm, g1]) hkind (hend _ rfl)))
          | ret =>
            obtain ⟨k1, ha⟩ := ha
            exact Steps.trans ha (.one (stepR_round_ret (b := frm ⟨fn, some l, nt⟩ rv kind #[] [] []) (a := ⟨b.arr, b.dv⟩) (l := kk) (by simp [frm, g1]) hkind (hend _ rfl)))
          | exit id =>
            obtain ⟨k1, ha, hx⟩ := ha
            exact Steps.trans ha (.one (stepR_round_exit (b := frm ⟨fn, some l, nt⟩ rv kind #[] [] []) (a := ⟨b.arr, b.dv⟩) (l := kk) (by simp [frm, g1]) hkind hx (hend _ rfl)))
          | goto t =>
            obtain ⟨k1, ha, hx⟩ := ha
            exact Steps.trans ha (.one (stepR_round_goto (b := frm ⟨fn, some l, nt⟩ rv kind #[] [] []) (a := ⟨b.arr, b.dv⟩) (l := kk) (by simp [frm, g1]) hkind hx (hend _ rfl))))
        intro D L w c cs av hSR hav hD
        have hDl := hSR.live hl
        obtain ⟨k, arr, m1, m2, m3, m4⟩ := (hSR L (.refl _ _)).ob _ _ hl
        have havs : av.size = args.length := by
          have := congrArg List.length (hav L (.refl _ _))
          simpa using this
        have hgd : (L l).blk.getD 0 = k := by rw [m1]; rfl
        obtain ⟨tmps2, htm⟩ : ∃ tmps2, tmps2 = (params.toArray.zip av).foldl (fun tmps (t, a) => tmps.setIfInBounds t a) arr := ⟨_, rfl⟩
        have hctx : CtxR D L ⟨fn, some l, nt⟩ T0 [] tmps2 [] (some k) := by
          intro L' hL'
          refine ⟨?_, rfl, by simp [← hL' l hDl, m1]⟩
          obtain ⟨k', arr', e1, e2, e3, e4⟩ := (hSR L' hL').ob _ _ hl
          have hk : k' = k := by
            rw [← hL' l hDl, m1] at e1
            cases e1; rfl
          subst hk
          rw [m4] at e4
          injection e4 with e4
          injection e4 with e4
          injection e4 with _ _ _ ea _ _ _ ed
          subst ea
          have := setAll_ok _ _ _ _ h3 e3
          rw [zip_fold, ← hav L' hL'] at this
          have hz : tmps2 = (params.zip av.toList).foldl (fun a p => a.setIfInBounds p.1 p.2) arr := by
            rw [htm, ← Array.foldl_toList]
            simp
          rw [hz]; exact this
        obtain ⟨L', b, n1, n2, n3, n4⟩ := q D L (some k) .normal [] (c :: cs) ⟨tmps2, [], w⟩ hSR hctx hD
        refine ⟨L', b.w, .bool e2.code.isNone, n1, n2, fun L'' _ => by rw [hv]; rfl, fn, tmps2, assign, body, ?_, ?_⟩
        · rw [hgd]
          have := run_yield (P := P) (args := av) m4 (by simp; omega)
          rw [htm]
          exact this
        · rw [hgd]
          exact n4 rfl rfl c cs rfl
      · cases h10
    · cases h6
  · cases h

theorem rangeFunc_ok (hE : EnvOK P E) {run : X} (hr : XOK P run) (hcf : CfOK P E (callX run E)) {f : Operand} {params : Array Tmp} {assign body : Code} {e : Ex} (h : stepX E run fr (.rangeFunc f params assign body) T df s = some (e, T', df', s')) (ho : Obl s') :
    Lg s s' ∧ Obl s ∧ CodeOK P fr (.rangeFunc f params assign body) T df s e T' df' s' := by
  simp only [stepX] at h
  obtain ⟨fv, h1, h2⟩ := bind_some' h
  clear h
  split at h2
  · rename_i g first caps hrnd
    obtain ⟨⟨d, s1⟩, h3, h4⟩ := bind_some' h2
    obtain ⟨⟨l, s2⟩, h5, h6⟩ := bind_some' h4
    obtain ⟨⟨rv0, s3⟩, h7, h8⟩ := bind_some' h6
    clear h2 h4 h6
    simp only at h5 h7 h8
    split at h8
    · rename_i st pe fn3 tmps3 nt3 params3 assign3 body3 dl3 hl3
      obtain ⟨_, h9, h10⟩ := bind_some' h8
      obtain ⟨s4, h11, h12⟩ := bind_some' h10
      clear h8 h10
      have hbusy : st ≠ .busy := by
        intro hh
        subst hh
        have := chk_some h9
        simp [Ex.isBusy] at this
      obtain ⟨d1, d2, d3, d4, d5⟩ := new_ok h3
      obtain ⟨l1, l2, l3, l4, l5⟩ := new_ok h5
      obtain ⟨u1, u2, u3, u4⟩ := upd_ok h11
      -- behind the loop
      have hafter : Lg s4 s' ∧ Obl s4 ∧ Pc fr T (.collected d :: df) s4 T' df' s' (fun rv kind k cs a b => Arrm P (At fr rv kind cs a ((pe.map Item.code).toList ++ k)) fr rv kind k cs b e) := by
        cases pe with
        | none =>
          simp only at h12
          cases h12
          exact ⟨.refl _, ho, Pc.stay fun rv kind k cs a => .refl _ _⟩
        | some j =>
          simp only at h12
          obtain ⟨g1, g2, g3⟩ := hr _ _ _ _ _ _ _ _ _ h12 ho
          exact ⟨g1, g2, g3.at⟩
      obtain ⟨f1, f2, f3⟩ := hafter
      have ho3 : Obl s3 := by unfold Obl at f2 ⊢; rw [u3] at f2; exact f2
      obtain ⟨c1, c2, c3, c4⟩ := hcf _ _ _ _ _ h7 ho3
      have ho0 : Obl s := by unfold Obl at c2 ⊢; rw [l4, d4] at c2; exact c2
      have hlg : Lg s s4 := ((Lg.new h3).trans (.new h5)).trans (c1.trans (.upd h11))
      refine ⟨hlg.trans f1, ho0, ?_⟩
      refine Pc.trans (R1 := fun rv kind k cs a b => Steps P (At fr rv kind cs a (.code (.rangeFunc f params assign body) :: k)) (At fr rv kind cs b ((pe.map Item.code).toList ++ k))) ?_ f3 hlg.le f1.le
        (fun rv kind k cs a b c hs ha => .of_steps hs ha)
      intro D L rv kind k cs a hSR hC hD
      have hrv : rv = none := by have := (hC L (.refl _ _)).2.2; rw [this, hrnd]; rfl
      subst hrv
      have hle3 : s2.nx ≤ s4.nx := by have := c1.le; omega
      -- the two new blocks
      have hDd : ¬ D s.nx := fun hh => by rcases hD _ hh with hh | hh <;> omega
      obtain ⟨x1, x2⟩ := alloc_mv (o := .deferred (some [])) (x := .deferred (some [])) (li := ⟨some a.w.heap.size, 0, 0, 0⟩) (w0 := a.w) rfl hSR hDd d5 ⟨rfl, rfl, rfl, rfl⟩ rfl (by
        intro L' hL'
        have := hL' s.nx (.inr ⟨Nat.le_refl _, Nat.lt_succ_self _⟩)
        simp only [if_true] at this
        exact ⟨a.w.heap.size, by rw [← this], by rw [← this], by simpa using World.alloc_heap_new a.w (.deferred (some []))⟩)
      obtain ⟨L1, hL1⟩ : ∃ L1, L1 = (fun m => if m = s.nx then (⟨some a.w.heap.size, 0, 0, 0⟩ : LI) else L m) := ⟨_, rfl⟩
      rw [← hL1] at x1 x2
      have hLd : L1 s.nx = ⟨some a.w.heap.size, 0, 0, 0⟩ := by rw [hL1]; simp
      have hDl : ¬ Grow D s.nx (s.nx + 1) s1.nx := by
        rintro (hh | hh)
        · rcases hD _ hh with hh | hh <;> omega
        · omega
      obtain ⟨y1, y2⟩ := alloc_mv (o := .loop .ready none fr.fn T fr.nt params.toList assign body d) (x := .loop { state := .ready, pending := none, fn := fr.fn, tmps := a.arr, params, assign, body, defers := a.w.heap.size })
        (li := ⟨some (a.w.alloc (.deferred (some []))).heap.size, 0, 0, 0⟩) (w0 := a.w.alloc (.deferred (some []))) rfl x2 hDl l5 ⟨rfl, rfl, rfl, rfl⟩ rfl (by
        intro L' hL'
        have h13 := hL' s1.nx (.inr ⟨Nat.le_refl _, Nat.lt_succ_self _⟩)
        simp only [if_true] at h13
        have h14 := hL' s.nx (.inl (.inr ⟨Nat.le_refl _, Nat.lt_succ_self _⟩))
        have hne : ¬ s.nx = s1.nx := by omega
        simp only [if_neg hne, hLd] at h14
        have hag : Agree D L L' := by
          intro m hm
          have h15 := hL' m (.inl (.inl hm))
          have hne1 : ¬ m = s1.nx := fun e => hDl (.inl (e ▸ hm))
          simp only [if_neg hne1] at h15
          rw [← x1.agree m hm] at h15
          exact h15
        refine ⟨_, a.arr, by rw [← h13], by rw [← h13], (hC L' hag).1, ?_⟩
        rw [World.alloc_heap_new]
        simp [d1, ← h14])
      obtain ⟨L2, hL2⟩ : ∃ L2, L2 = (fun m => if m = s1.nx then (⟨some (a.w.alloc (.deferred (some []))).heap.size, 0, 0, 0⟩ : LI) else L1 m) := ⟨_, rfl⟩
      rw [← hL2] at y1 y2
      have hLl : L2 l = ⟨some (a.w.heap.size + 1), 0, 0, 0⟩ := by rw [hL2, l1]; simp
      have hnx1 : s.nx + 1 = s1.nx := d2.symm
      have hnx2 : s1.nx + 1 = s2.nx := l2.symm
      rw [hnx1, hnx2, grow_trans (by omega) (by omega)] at y2
      have hag2 : Agree D L L2 := x1.agree.trans (y1.agree.mono fun n hn => .inl hn)
      -- the call
      have hfv : ∀ L', Agree D L L' → evalA a.arr f = (V.fn g first caps).den L' := fun L' hL' => ev_ok (hC L' hL').1 h1
      have hcaps : ∀ L', Agree D L L' → first.map (V.den L) = first.map (V.den L') ∧ caps.map (V.den L) = caps.map (V.den L') := by
        intro L' hL'
        have e1 := hfv L' hL'
        rw [hfv L (.refl _ _), den_fn, den_fn] at e1
        injection e1 with _ e2 e3
        exact ⟨by simpa using e2, by simpa using e3⟩
      obtain ⟨W2, hW2⟩ : ∃ W2, W2 = (a.w.alloc (.deferred (some []))).alloc (.loop { state := .ready, pending := none, fn := fr.fn, tmps := a.arr, params, assign, body, defers := a.w.heap.size }) := ⟨_, rfl⟩
      rw [← hW2] at y1 y2
      obtain ⟨av, hav⟩ : ∃ av, av = (first.map (V.den L)).toArray ++ #[Value.func (.yield (a.w.heap.size + 1)) #[] #[]] ++ (caps.map (V.den L)).toArray := ⟨_, rfl⟩
      obtain ⟨dvn, hdvn⟩ : ∃ dvn : List Deferred, dvn = { target := .collected a.w.heap.size, args := #[] } :: a.dv := ⟨_, rfl⟩
      obtain ⟨L3, w3, val, z1, z2, z3, fr', z4, z5⟩ := c3 _ L2 W2 .normal (frm fr none kind a.arr (.inRangeFunc (a.w.heap.size + 1) :: k) dvn :: cs) av y2 (by
        intro L' hL'
        have hagL : Agree D L L' := hag2.trans (hL'.mono fun n hn => .inl hn)
        have hl' : L' l = ⟨some (a.w.heap.size + 1), 0, 0, 0⟩ := by
          rw [← hL' l (.inr ⟨by omega, by omega⟩)]; exact hLl
        rw [hav, (hcaps L' hagL).1, (hcaps L' hagL).2]
        simp [V.den, hl']) (by
        rintro n (hn | hn)
        · rcases hD n hn with hh | hh
          · exact .inl (by omega)
          · exact .inr (by omega)
        · exact .inl hn.2)
      rw [grow_trans (by omega) (by omega)] at z2
      -- the record
      obtain ⟨kk, rec, v1, v2, v3, v4, v5, v6⟩ := loop_write z2 hl3 u4
      have hkk : kk = a.w.heap.size + 1 := by
        have h13 := z1.agree l (.inr ⟨by omega, by omega⟩)
        rw [← h13, hLl] at v1
        cases v1; rfl
      subst hkk
      rw [u1]
      refine ⟨L3, ⟨a.arr, dvn, w3.putObj (a.w.heap.size + 1) (.loop { rec with state := .exhausted, pending := pe })⟩, ?_, v6, ?_, ?_⟩
      · exact ((x1.trans (fun n hn => .inl hn) (by rw [hnx1] at y1; exact y1 : Mv (Grow D s.nx s1.nx) _ _ _ _ _ _)).trans (fun n hn => .inl hn) z1).trans (fun n hn => .inl hn) v5
      · intro L' hL'
        have hag' : Agree D L L' := hag2.trans ((z1.agree.mono fun n hn => .inl hn).trans (hL'.mono fun n hn => .inl hn))
        obtain ⟨g1, g2, g3⟩ := hC L' hag'
        refine ⟨g1, ?_, g3⟩
        have h13 : L' d = ⟨some a.w.heap.size, 0, 0, 0⟩ := by
          rw [d1, ← hL' s.nx (.inr ⟨by omega, by omega⟩), ← z1.agree s.nx (.inr ⟨by omega, by omega⟩), hL2]
          have hne : ¬ s.nx = s1.nx := by omega
          simp only [if_neg hne, hLd]
        rw [hdvn, g2, List.map_cons]
        simp [Dfr.den, h13]
      · -- the steps
        have hfin : (frm fr none kind a.arr (.inRangeFunc (a.w.heap.size + 1) :: k) dvn).finish val = frm fr none kind a.arr (.endRangeFunc (a.w.heap.size + 1) :: k) dvn := by simp [Frame.finish, frm]
        refine Steps.head (m₁ := lone (Frame.enter P g av .normal) (frm fr none kind a.arr (.inRangeFunc (a.w.heap.size + 1) :: k) dvn :: cs) W2) ?_ (z4.trans (.head (hfin ▸ z5.step (c := frm fr none kind a.arr (.inRangeFunc (a.w.heap.size + 1) :: k) dvn) (cs := cs)) (.one ?_)))
        · refine step_lone_go ?_
          have hel := run_enterLoop_outer (P := P) (w := a.w) fr.fn a.arr params assign body
          rw [← hW2] at hel
          have hevf : ∀ todo, (frm fr none kind a.arr todo dvn).eval f = .func (.func g) (first.map (V.den L)).toArray (caps.map (V.den L)).toArray := by
            intro todo
            rw [frm_eval, hfv L (.refl _ _), den_fn]
          have hinv : ((do let d ← resolve (frm fr none kind a.arr (.inRangeFunc (a.w.heap.size + 1) :: k) dvn).eval { callee := .value f, args := #[.const (.func (.yield (a.w.heap.size + 1)) #[] #[])], argTypes := #[] } 0; invoke d.target d.args) : Sem Next).run P W2 = .ok (.enter g av) W2 := by
            simp only [resolve, Deferred.ofValue, hevf, Sem.run_bind, Sem.run_pure, Result.andThen_ok, invoke]
            have he : #[Operand.const (.func (.yield (a.w.heap.size + 1)) #[] #[])].map (frm fr none kind a.arr (.inRangeFunc (a.w.heap.size + 1) :: k) dvn).eval = #[Value.func (.yield (a.w.heap.size + 1)) #[] #[]] := by
              rw [frm_eval]; simp [evalA]
            rw [he, hav]
            exact c4 _ _
          rw [hdvn] at hinv
          simp only [frm] at hinv
          simp only [stepG, stepG.exec, frm, Sem.runT_eq, hel]
          simp [stepG.apply, hdvn, hinv]
        · refine step_lone_go ?_
          have hend := run_endLoop (P := P) v2 (by rw [v3]; exact hbusy)
          rw [v4] at hend
          simp only [stepG, stepG.exec, frm, Sem.runT_eq, hend]
          simp
    · cases h8
  · cases h2

theorem stepX_ok (hE : EnvOK P E) (hS : SumOK P E) {run : X} (hr : XOK P run) : XOK P (stepX E run) := by
  intro fr c T df s e T' df' s' h ho
  have hcf := callX_ok hE hS hr
  have hyf := yieldX_ok (P := P) hr
  have plain : ∀ c e', (e', T, df, s) = (e, T', df', s') → (∀ rv kind k cs a, Arrm P (At fr rv kind cs a (start c k)) fr rv kind k cs a e') → Lg s s' ∧ Obl s ∧ CodeOK P fr c T df s e T' df' s' := by
    rintro c e' he hA
    cases he
    exact ⟨.refl _, ho, Pc.stay hA⟩
  cases c with
  | skip => simp only [stepX] at h; injection h with h; exact plain _ _ h fun _ _ _ _ _ => m_one stepR_skip
  | label l => simp only [stepX] at h; injection h with h; exact plain _ _ h fun _ _ _ _ _ => m_one stepR_label
  | seq x y => exact seq_ok hr h ho
  | cond c x y => exact cond_ok hr h ho
  | block id c => exact block_ok hr h ho
  | loop c => exact loop_ok hr h ho
  | exit id => simp only [stepX] at h; injection h with h; exact plain _ _ h fun _ _ _ _ _ => ⟨_, .refl _ _, rfl⟩
  | goto l => simp only [stepX] at h; injection h with h; exact plain _ _ h fun _ _ _ _ _ => ⟨_, .refl _ _, rfl⟩
  | ret => simp only [stepX] at h; injection h with h; exact plain _ _ h fun _ _ _ _ _ => ⟨_, .refl _ _⟩
  | scope c => exact scope_ok hr h ho
  | region id ops draw => exact region_ok hE hcf hyf h ho
  | rangeFunc f params assign body => exact rangeFunc_ok hE hr hcf h ho
  | refuse why => simp [stepX] at h

theorem exec_ok (hE : EnvOK P E) (hS : SumOK P E) : ∀ n, XOK P (exec E n) := by
  intro n
  induction n with
  | zero => intro fr c T df s e T' df' s' h; rw [exec_zero] at h; cases h
  | succ n ih => rw [exec_succ]; exact stepX_ok hE hS ih

theorem call_ok (hE : EnvOK P E) (hS : SumOK P E) (n : Nat) : CfOK P E (callX (exec E n) E) := callX_ok hE hS (exec_ok hE hS n)

end
end Go.Sx
