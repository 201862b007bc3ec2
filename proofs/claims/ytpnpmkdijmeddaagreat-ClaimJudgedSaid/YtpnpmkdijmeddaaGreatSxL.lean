/- The machine's steps through operations and calls. -/
import Derived.Test.YtpnpmkdijmeddaaGreatSxJ
set_option maxRecDepth 100000
namespace Go.Sx
section
variable {P:Program} {E:Env}
def frm (fr:Frs) (rv:Option Nat) (kind:CallKind) (tmps:Array Value) (todo:List Item) (dv:List Deferred):Frame:=
 {fn:=fr.fn,tmps,todo,defers:=dv,mode:=.run,kind,roundOf:=rv}
theorem frm_eval (fr:Frs) (rv:Option Nat) (kind:CallKind) (tmps:Array Value) (todo:List Item) (dv:List Deferred):(frm fr rv kind tmps todo dv).eval=evalA tmps:=by
 funext x
 cases x<;>rfl
def putA (a:Array Value) (d:Option Tmp) (v:Value):Array Value:=
 match d with
 |some t=>a.setIfInBounds t v
 |none=>a
theorem frm_finish (fr:Frs) (rv:Option Nat) (kind:CallKind) (tmps:Array Value) (ops:Array Oper) (i:Nat) (rest:List Nat) (k:List Item) (dv:List Deferred) (v:Value):
  (frm fr rv kind tmps (.inRegion ops (i::rest)::k) dv).finish v=frm fr rv kind (putA tmps ((ops[i]?).bind (·.dst)) v) (.inRegion ops rest::k) dv:=by
 cases h:(ops[i]?).bind (·.dst)<;>simp [Frame.finish,frm,putA,h]
def CtxR (D:Nat→Prop) (L:LM) (fr:Frs) (T:Tr V) (df:List Dfr) (arr:Array Value) (dv:List Deferred) (rv:Option Nat):Prop:=
 ∀ L',Agree D L L'→TmpR L' fr.nt T arr∧dv=df.map (Dfr.den L')∧rv=fr.rnd.map (fun l=>(L' l).blk.getD 0)
theorem CtxR.grow {D D':Nat→Prop} {L L':LM} {fr:Frs} {T:Tr V} {df:List Dfr} {arr:Array Value} {dv:List Deferred} {rv:Option Nat} (h:CtxR D L fr T df arr dv rv) (hd:∀ n,D n→D' n) (ha:Agree D L L'):
  CtxR D' L' fr T df arr dv rv:=fun L'' hL''=>h L'' (ha.trans (hL''.mono hd))
theorem putDst_ok {nt:Nat} {T T2:Tr V} {d:Option Tmp} {v:V} (h:putDst nt T d v=some T2) {L:LM} {arr:Array Value} (ht:TmpR L nt T arr):TmpR L nt T2 (putA arr d (v.den L)):=by
 unfold putDst at h
 cases d with
 |none=>cases h;exact ht
 |some t=>
  obtain ⟨_,h1,h2⟩:=XA h
  obtain ⟨_,h3,h4⟩:=XA h2
  cases h4
  have hlt:t<nt:=Nat.blt_eq.mp (XC h1)
  have hbig:t<big:=Nat.blt_eq.mp (XC h3)
  refine ⟨by simp [putA,ht.1],fun u=>?_⟩
  rw [Tr.get_put _ _ _ _ hbig]
  by_cases hu:u=t
  ·subst hu
   simp [putA,ht.1,hlt]
  ·have:=ht.2 u
   rw [if_neg hu,← this]
   simp [putA,Ne.symm hu]
theorem wantedX_ok {ops:Array Oper} {o:Oper} {T T1:Tr V} {s s1:St} {wt:Bool} (h:wantedX ops.toList o T s=some (wt,T1,s1)) (ho:Obl s1):
  Quiet s s1∧(∀ u,(T1.get u).getD XJ=(T.get u).getD XJ)∧∀ (L:LM) (arr:Array Value),
   (∀ g t,o.guard=some g→(ops[g.1]?).bind (·.dst)=some t→arr.getD t undef=((T.get t).getD XJ).den L)→Region.wanted o (yielded ops arr)=wt:=by
 unfold wantedX at h
 split at h
 ·rename_i hg
  cases h
  exact ⟨.refl ho,fun _=>rfl,fun L arr _=>by simp [Region.wanted,hg]⟩
 ·rename_i j want hg
  obtain ⟨g,h1,h2⟩:=XA h
  rw [nth_eq] at h1
  have h1':ops[j]?=some g:=by simpa using h1
  cases hgd:g.dst with
  |none=>rw [hgd] at h2;cases h2
  |some t=>
   rw [hgd] at h2
   simp only at h2
   have hyield:∀ (arr:Array Value),yielded ops arr j=match arr[t]? with|some (.bool b)=>some b|_=>none:=by
    intro arr
    simp only [yielded,h1',hgd,Option.bind_some]
    cases arr[t]? with
    |none=>rfl
    |some x=>cases x<;>rfl
   have hbind:(ops[j]?).bind (·.dst)=some t:=by rw [h1'];exact hgd
   split at h2
   ·rename_i b hT
    obtain ⟨_,h3,h4⟩:=XA h2
    generalize hd:dec b s=cs at h4
    obtain ⟨c,s2⟩:=cs
    cases h4
    obtain ⟨hcb,hq⟩:=dec_ok hd ho
    subst hcb
    have hbig:t<big:=Nat.blt_eq.mp (XC h3)
    refine ⟨hq,fun u=>?_,fun L arr ha=>?_⟩
    ·rw [Tr.get_put _ _ _ _ hbig]
     by_cases hu:u=t
     ·subst hu;rw [if_pos rfl,hT]
     ·rw [if_neg hu]
    ·have ha2:=ha _ _ hg hbind
     rw [hT] at ha2
     have ha1:t<arr.size:=by
      refine Nat.lt_of_not_le fun hn=>?_
      rw [Array.getD_eq_getD_getElem?,Array.getElem?_eq_none hn] at ha2
      simp [V.den,undef] at ha2
     have ha3:arr[t]?=some (.bool c):=by
      rw [Array.getD_eq_getD_getElem?,Array.getElem?_eq_getElem ha1] at ha2
      rw [Array.getElem?_eq_getElem ha1]
      simpa [V.den] using ha2
     simp only [Region.wanted,hg,hyield,ha3]
     cases c<;>cases want<;>rfl
   ·rename_i hnb
    cases h2
    refine ⟨.refl ho,fun _=>rfl,fun L arr ha=>?_⟩
    have ha2:=ha _ _ hg hbind
    have hne:∀ b,((T.get t).getD XJ).den L≠.bool b:=by
     intro b hb
     cases hT:T.get t with
     |none=>rw [hT] at hb;simp [V.den] at hb
     |some v=>
      rw [hT] at hb
      simp only [Option.getD_some] at hb
      cases v<;>simp [V.den] at hb
      ·exact hnb _ hT
      ·rename_i n es;cases hx:(L n).blk<;>simp [hx] at hb
      ·rename_i n es bs st l;cases hx:(L n).blk<;>simp [hx] at hb
    have ha3:yielded ops arr j=none:=by
     rw [hyield]
     cases ha4:arr[t]? with
     |none=>rfl
     |some x=>
      rw [Array.getD_eq_getD_getElem?,ha4] at ha2
      simp only [Option.getD_some] at ha2
      cases x<;>first|rfl|(exact absurd ha2.symm (hne _))
    simp [Region.wanted,hg,ha3]
theorem stepG_frm {fr:Frs} {rv:Option Nat} {kind:CallKind} {arr:Array Value} {ops:Array Oper} {i:Nat} {rest:List Nat} {k:List Item} {dv:List Deferred} {cs:List Frame} {w:World} {o:Oper}
  (ho:ops[i]?=some o) (hw:Region.wanted o (yielded ops arr)=true) (hd:rv=none∨∀ c,o.op≠.defer c):
  stepG P true {frame:=frm fr rv kind arr (.inRegion ops (i::rest)::k) dv,callers:=cs,status:=.running,dying:=none} w=
   stepG.apply P true (frm fr rv kind arr (.inRegion ops (i::rest)::k) dv) cs none (execOp (evalA arr) o) w:=by
 have he:=frm_eval fr rv kind arr (.inRegion ops (i::rest)::k) dv
 simp only [frm] at he
 cases rv with
 |none=>simp [stepG,stepG.exec,stepG.oper,Frame.oper?,frm,ho,hw,he]
 |some l=>
  have hd':∀ c,o.op≠.defer c:=hd.resolve_left (by simp)
  simp only [stepG,stepG.exec,stepG.oper,Frame.oper?,frm,ho,hw,he,Option.map_some,Option.getD_some,if_true]
  split
  ·rename_i l' c h1 h2
   exact absurd h2 (hd' c)
  ·rfl
theorem step_gives {fr:Frs} {rv:Option Nat} {kind:CallKind} {arr:Array Value} {ops:Array Oper} {i:Nat} {rest:List Nat} {k:List Item} {dv:List Deferred} {cs:List Frame} {w w':World} {o:Oper} {val:Value}
  (ho:ops[i]?=some o) (hw:Region.wanted o (yielded ops arr)=true) (hd:∀ c,o.op≠.defer c) (hg:Gives ((execOp (evalA arr) o).run P w) val w'):
  step P (lone (frm fr rv kind arr (.inRegion ops (i::rest)::k) dv) cs w)=.next (lone (frm fr rv kind (putA arr o.dst val) (.inRegion ops rest::k) dv) cs w'):=by
 have hfin:(ops[i]?).bind (·.dst)=o.dst:=by rw [ho];rfl
 rw [← hfin,← frm_finish]
 refine step_lone_go ?_
 rw [stepG_frm ho hw (.inr hd)]
 rcases hg with hg|⟨hg,rfl⟩<;>simp [stepG.apply,hg]
theorem step_skip_op {fr:Frs} {rv:Option Nat} {kind:CallKind} {arr:Array Value} {ops:Array Oper} {i:Nat} {rest:List Nat} {k:List Item} {dv:List Deferred} {cs:List Frame} {w:World} {o:Oper}
  (ho:ops[i]?=some o) (hw:Region.wanted o (yielded ops arr)=false):
  step P (lone (frm fr rv kind arr (.inRegion ops (i::rest)::k) dv) cs w)=.next (lone (frm fr rv kind (putA arr o.dst undef) (.inRegion ops rest::k) dv) cs w):=by
 have hfin:(ops[i]?).bind (·.dst)=o.dst:=by rw [ho];rfl
 rw [← hfin,← frm_finish]
 refine step_lone_go ?_
 have h':((ops[i]?).map (Region.wanted · (yielded ops arr))).getD false=false:=by rw [ho];exact hw
 simp only [frm] at *
 simp [stepG,stepG.exec,h']
theorem step_enter {fr:Frs} {rv:Option Nat} {kind:CallKind} {arr:Array Value} {ops:Array Oper} {i:Nat} {rest:List Nat} {k:List Item} {dv:List Deferred} {cs:List Frame} {w w':World} {o:Oper} {f:FuncId} {args:Array Value}
  (ho:ops[i]?=some o) (hw:Region.wanted o (yielded ops arr)=true) (hd:∀ c,o.op≠.defer c) (hg:(execOp (evalA arr) o).run P w=.ok (.enter f args) w'):
  step P (lone (frm fr rv kind arr (.inRegion ops (i::rest)::k) dv) cs w)=.next (lone (Frame.enter P f args .normal) (frm fr rv kind arr (.inRegion ops (i::rest)::k) dv::cs) w'):=by
 refine step_lone_go ?_
 rw [stepG_frm ho hw (.inr hd)]
 simp [stepG.apply,hg]
 rfl
theorem step_round {fr:Frs} {rv:Option Nat} {kind:CallKind} {arr:Array Value} {ops:Array Oper} {i:Nat} {rest:List Nat} {k:List Item} {dv:List Deferred} {cs:List Frame} {w w':World} {o:Oper} {l:Nat} {f:FuncId} {tmps:Array Value} {assign body:Code}
  (ho:ops[i]?=some o) (hw:Region.wanted o (yielded ops arr)=true) (hd:∀ c,o.op≠.defer c) (hg:(execOp (evalA arr) o).run P w=.ok (.round l f tmps assign body) w'):
  step P (lone (frm fr rv kind arr (.inRegion ops (i::rest)::k) dv) cs w)=.next (lone (Frame.round l f tmps assign body .normal) (frm fr rv kind arr (.inRegion ops (i::rest)::k) dv::cs) w'):=by
 refine step_lone_go ?_
 rw [stepG_frm ho hw (.inr hd)]
 simp [stepG.apply,hg]
theorem step_defer_op {fr:Frs} {kind:CallKind} {arr:Array Value} {ops:Array Oper} {i:Nat} {rest:List Nat} {k:List Item} {dv:List Deferred} {cs:List Frame} {w w':World} {o:Oper} {d:Deferred}
  (ho:ops[i]?=some o) (hw:Region.wanted o (yielded ops arr)=true) (hg:(execOp (evalA arr) o).run P w=.ok (.defer d) w'):
  step P (lone (frm fr none kind arr (.inRegion ops (i::rest)::k) dv) cs w)=.next (lone (frm fr none kind (putA arr o.dst undef) (.inRegion ops rest::k) (d::dv)) cs w'):=by
 have hfin:(ops[i]?).bind (·.dst)=o.dst:=by rw [ho];rfl
 rw [← hfin,← frm_finish]
 refine step_lone_go ?_
 rw [stepG_frm ho hw (.inl rfl)]
 simp [stepG.apply,hg]
 rfl
theorem step_region_end' {fr:Frs} {rv:Option Nat} {kind:CallKind} {arr:Array Value} {ops:Array Oper} {k:List Item} {dv:List Deferred} {cs:List Frame} {w:World}:
  step P (lone (frm fr rv kind arr (.inRegion ops []::k) dv) cs w)=.next (lone (frm fr rv kind arr k dv) cs w):=
 step_lone_go (by simp [stepG,stepG.exec,frm])
theorem step_region' {fr:Frs} {rv:Option Nat} {kind:CallKind} {arr:Array Value} {ops:Array Oper} {k:List Item} {dv:List Deferred} {cs:List Frame} {w:World} {id:Nat}:
  step P (lone (frm fr rv kind arr (.code (.region id ops false)::k) dv) cs w)=.next (lone (frm fr rv kind arr (.inRegion ops (List.range ops.size)::k) dv) cs w):=
 step_lone_go (by simp [stepG,stepG.exec,frm])
theorem step_region_draw' {fr:Frs} {rv:Option Nat} {kind:CallKind} {arr:Array Value} {ops:Array Oper} {k:List Item} {dv:List Deferred} {cs:List Frame} {w:World} {id:Nat}:
  step P (lone (frm fr rv kind arr (.code (.region id ops true)::k) dv) cs w)=
   .next (lone (frm fr rv kind arr (.inRegion ops (Region.schedule (P.follows .mixedOrders) ops (w.tape w.drawn (.order fr.fn id)))::k) dv) cs w.drew):=
 step_lone_go (by simp [stepG,stepG.exec,frm,choose,Sem.run,Question.forced,Question.cut])
def Leav (P:Program) (fr:Frame) (f:FuncId) (kind:CallKind) (val:Value) (w:World):Prop:=
 fr.mode=.returning∧fr.defers=[]∧fr.kind=kind∧fr.fn=f∧∃ fn,P.funcs[f]?=some fn∧(results fn fr.tmps).run P w=.ok val w
theorem Leav.step {fr c:Frame} {cs:List Frame} {f:FuncId} {val:Value} {w:World} (h:Leav P fr f .normal val w):step P (lone fr (c::cs) w)=.next (lone (c.finish val) cs w):=by
 obtain ⟨h1,h2,h3,h4,fn,h5,h6⟩:=h
 exact step_leave_returned ⟨h1,h2,h3,fn,by rw [h4];exact h5,h6⟩
def YB (P:Program) (f:FuncId) (args:List V) (s:St) (v:V) (s':St):Prop:=
 ∀ (D:Nat→Prop) (L:LM) (w:World) (kind:CallKind) (cs:List Frame) (av:Array Value),SR D L s.H.get w→(∀ L',Agree D L L'→av.toList=args.map (V.den L'))→(∀ n,D n→n<s.nx∨s'.nx≤n)→
  ∃ L' w' val,Mv D L s.H.get w L' s'.H.get w'∧SR (Grow D s.nx s'.nx) L' s'.H.get w'∧(∀ L'',Agree (Grow D s.nx s'.nx) L' L''→val=v.den L'')∧
   ∃ fr',Steps P (lone (Frame.enter P f av kind) cs w) (lone fr' cs w')∧Leav P fr' f kind val w'
def YieldOK (P:Program) (l:Nat) (args:List V) (s:St) (v:V) (s':St):Prop:=
 ∀ (D:Nat→Prop) (L:LM) (w:World) (c:Frame) (cs:List Frame) (av:Array Value),SR D L s.H.get w→(∀ L',Agree D L L'→av.toList=args.map (V.den L'))→(∀ n,D n→n<s.nx∨s'.nx≤n)→
  ∃ L' w' val,Mv D L s.H.get w L' s'.H.get w'∧SR (Grow D s.nx s'.nx) L' s'.H.get w'∧(∀ L'',Agree (Grow D s.nx s'.nx) L' L''→val=v.den L'')∧
   ∃ f tmps assign body,(Instr.yield ((L l).blk.getD 0) av).run P w=.ok (.round ((L l).blk.getD 0) f tmps assign body) w∧
    Steps P (lone (Frame.round ((L l).blk.getD 0) f tmps assign body .normal) (c::cs) w) (lone (c.finish val) cs w')
def CfOK (P:Program) (_E:Env) (cf:CallF):Prop:=∀ f args s v s',cf f args s=some (v,s')→Obl s'→Lg s s'∧Obl s∧YB P f args s v s'∧∀ av w,(callFunc f av).run P w=.ok (.enter f av) w
def YfOK (P:Program) (yf:YieldF):Prop:=∀ l args s v s',yf l args s=some (v,s')→Obl s'→Lg s s'∧Obl s∧YieldOK P l args s v s'
end
end Go.Sx
namespace Go.Sx
section
variable {P:Program} {E:Env}
def OpOK (P:Program) (op:Op) (T:Tr V) (s:St) (v:V) (s':St):Prop:=
 ∀ (D:Nat→Prop) (L:LM) (w:World) (fr:Frs) (rv:Option Nat) (kind:CallKind) (arr:Array Value) (ops:Array Oper) (i:Nat) (rest:List Nat) (k:List Item) (dv:List Deferred) (cs:List Frame) (o:Oper),
  ops[i]?=some o→o.op=op→Region.wanted o (yielded ops arr)=true→(∀ x∈op.operands,∀ u,ev T x=some u→∀ L',Agree D L L'→evalA arr x=u.den L')→SR D L s.H.get w→(∀ n,D n→n<s.nx∨s'.nx≤n)→
  ∃ L' w' val,Mv D L s.H.get w L' s'.H.get w'∧SR (Grow D s.nx s'.nx) L' s'.H.get w'∧(∀ L'',Agree (Grow D s.nx s'.nx) L' L''→val=v.den L'')∧
   Steps P (lone (frm fr rv kind arr (.inRegion ops (i::rest)::k) dv) cs w) (lone (frm fr rv kind (putA arr o.dst val) (.inRegion ops rest::k) dv) cs w')
theorem quiet_not_defer {op:Op} (h:isQuiet op=true) (c:Call):op≠.defer c:=by rintro rfl;simp [isQuiet] at h
theorem quiet_gives (hE:EnvOK P E) {T:Tr V} {op:Op} {s s':St} {v:V} {rd:List Nat} (h:quietX E T op s=some (v,rd,s')) (ho:Obl s') {D:Nat→Prop} {L:LM} {w:World} {ρ:Operand→Value} {o:Oper}
  (he:o.op=op) (hr:∀ x∈op.operands,∀ u,ev T x=some u→∀ L',Agree D L L'→ρ x=u.den L') (hO:∀ L',Agree D L L'→On L' s.H.get w rd):
  ∃ val,(∀ L',Agree D L L'→val=v.den L')∧(execOp ρ o).run P w=.ok (.value val) w:=by
 obtain ⟨_,hp⟩:=quietX_ok hE h ho
 have hrun:∀ L',Agree D L L'→(execOp ρ o).run P w=.ok (.value (v.den L')) w:=fun L' hL'=>hp L' w ρ o he (fun x hx u hu=>hr x hx u hu L' hL') (hO L' hL')
 refine ⟨v.den L,fun L' hL'=>?_,hrun L (.refl _ _)⟩
 have h1:=hrun L' hL'
 rw [hrun L (.refl _ _)] at h1
 injection h1 with h1 _
 injection h1
theorem SR.on {D:Nat→Prop} {L:LM} {H:Nat→Option Ob} {w:World} (h:SR D L H w) (rd:List Nat):∀ L',Agree D L L'→On L' H w rd:=
 fun L' hL'=>let h0:=h L' hL';⟨fun n _ o ho=>h0.ob n o ho,fun n _ m _ on om hn hm=>h0.inj n m on om hn hm⟩
theorem den_fn {L:LM} {g:FuncId} {first caps:List V}:(V.fn g first caps).den L=.func (.func g) (first.map (V.den L)).toArray (caps.map (V.den L)).toArray:=by simp [V.den,denL_eq]
theorem loud_not_defer {T:Tr V} {op:Op} {s:St} {r:V×St} (h:loudX E T op s=some r) (c:Call):op≠.defer c:=by rintro rfl;simp [loudX] at h
theorem runOp_ok (hE:EnvOK P E) {cf:CallF} {yf:YieldF} (hcf:CfOK P E cf) (hyf:YfOK P yf) {T:Tr V} {op:Op} {s s':St} {v:V} (h:runOp E cf yf T op s=some (v,s')) (ho:Obl s'):
  Lg s s'∧Obl s∧OpOK P op T s v s':=by
 have hloud:loudX E T op s=some (v,s')→Lg s s'∧Obl s∧OpOK P op T s v s':=by
  intro h
  obtain ⟨hlg,hob,hp⟩:=loudX_ok hE h ho
  refine ⟨hlg,hob,fun D L w fr rv kind arr ops i rest k dv cs o hoi he hw hr hSR hD=>?_⟩
  obtain ⟨L',w',val,g1,g2,g3,g4⟩:=hp (evalA arr) o he D L w hr hSR hD
  exact ⟨L',w',val,g1,g2,g3,.one (step_gives hoi hw (by rw [he];exact loud_not_defer h) g4)⟩
 unfold runOp at h
 split at h
 ·rename_i hq
  obtain ⟨⟨v',rd,s1⟩,h1,h2⟩:=XA h
  cases h2
  obtain ⟨hqq,_⟩:=quietX_ok hE h1 ho
  refine ⟨Lg.of_same hqq.1,hqq.2,fun D L w fr rv kind arr ops i rest k dv cs o hoi he hw hr hSR hD=>?_⟩
  obtain ⟨val,g1,g2⟩:=quiet_gives hE h1 ho he hr (hSR.on rd)
  refine ⟨L,w,val,?_,?_,?_,.one (step_gives hoi hw (by rw [he];exact quiet_not_defer hq) (.inl g2))⟩
  ·rw [hqq.1.H];exact .refl _ _ _ _
  ·rw [hqq.1.H,YA hqq.1.nx.symm];exact hSR
  ·rw [YA hqq.1.nx.symm];exact g1
 ·rename_i hq
  clear hq
  split at h
  ·rename_i c
   obtain ⟨callee,args,argTypes⟩:=c
   split at h
   ·rename_i f hc
    simp only at hc
    subst hc
    obtain ⟨fv,h1,h2⟩:=XA h
    obtain ⟨vs,h3,h4⟩:=XA h2
    have hargs:∀ {D:Nat→Prop} {L:LM} {arr:Array Value},(∀ x∈(Op.call ⟨.value f,args,argTypes⟩).operands,∀ u,ev T x=some u→∀ L',Agree D L L'→evalA arr x=u.den L')→
      ∀ L',Agree D L L'→(args.map (evalA arr)).toList=vs.map (V.den L'):=by
     intro D L arr hr L' hL'
     rw [Array.toList_map]
     exact evs_map h3 (fun x hx u hu=>hr x (by simp only [Op.operands,Call.operands];simp at hx;simp [hx]) u hu L' hL')
    split at h4
    ·rename_i g first caps
     obtain ⟨hlg,hob,hcall,hcallf⟩:=hcf _ _ _ _ _ h4 ho
     refine ⟨hlg,hob,fun D L w fr rv kind arr ops i rest k dv cs o hoi he hw hr hSR hD=>?_⟩
     have hf:=hr f (by simp [Op.operands,Call.operands]) _ h1
     have hfL:=hf L (.refl _ _)
     rw [den_fn] at hfL
     have hrun:(execOp (evalA arr) o).run P w=.ok (.enter g ((first.map (V.den L)).toArray++args.map (evalA arr)++(caps.map (V.den L)).toArray)) w:=by
      simp only [execOp,he,resolve,Deferred.ofValue,hfL,Sem.run_bind,Sem.run_pure,Result.andThen_ok,invoke]
      exact hcallf _ _
     obtain ⟨L',w',val,g1,g2,g3,fr',g4,g5⟩:=hcall D L w .normal (frm fr rv kind arr (.inRegion ops (i::rest)::k) dv::cs) ((first.map (V.den L)).toArray++args.map (evalA arr)++(caps.map (V.den L)).toArray) hSR (by
      intro L' hL'
      have hL2:=hf L' hL'
      rw [hf L (.refl _ _),den_fn,den_fn] at hL2
      injection hL2 with e1 e2 e3
      simp only [Array.toList_append,List.map_append,hargs hr L' hL']
      have e2':first.map (V.den L)=first.map (V.den L'):=by simpa using e2
      have e3':caps.map (V.den L)=caps.map (V.den L'):=by simpa using e3
      rw [e2',e3']) hD
     have hfin:(ops[i]?).bind (·.dst)=o.dst:=by rw [hoi];rfl
     refine ⟨L',w',val,g1,g2,g3,.head (step_enter hoi hw (by rw [he];simp) hrun) (g4.trans (.one ?_))⟩
     rw [← hfin,← frm_finish]
     exact g5.step
    ·rename_i l
     obtain ⟨hlg,hob,hy⟩:=hyf _ _ _ _ _ h4 ho
     refine ⟨hlg,hob,fun D L w fr rv kind arr ops i rest k dv cs o hoi he hw hr hSR hD=>?_⟩
     have hf:=hr f (by simp [Op.operands,Call.operands]) _ h1
     have hfL:=hf L (.refl _ _)
     obtain ⟨L',w',val,g1,g2,g3,f',tmps,assign,body,g4,g5⟩:=hy D L w (frm fr rv kind arr (.inRegion ops (i::rest)::k) dv) cs (args.map (evalA arr)) hSR (hargs hr) hD
     have hrun:(execOp (evalA arr) o).run P w=.ok (.round ((L l).blk.getD 0) f' tmps assign body) w:=by
      simp only [execOp,he,resolve,Deferred.ofValue,hfL,V.den,Sem.run_bind,Sem.run_pure,Result.andThen_ok,invoke]
      simpa using g4
     have hfin:(ops[i]?).bind (·.dst)=o.dst:=by rw [hoi];rfl
     refine ⟨L',w',val,g1,g2,g3,.head (step_round hoi hw (by rw [he];simp) hrun) ?_⟩
     rw [← hfin,← frm_finish]
     exact g5
    ·cases h4
   ·rename_i r m hc
    simp only at hc
    subst hc
    obtain ⟨rv,h1,h2⟩:=XA h
    obtain ⟨vs,h3,h4⟩:=XA h2
    split at h4
    ·rename_i t x
     obtain ⟨g,h5,h6⟩:=XA h4
     have hargs:∀ {D:Nat→Prop} {L:LM} {arr:Array Value},(∀ x∈(Op.call ⟨.invoke r m,args,argTypes⟩).operands,∀ u,ev T x=some u→∀ L',Agree D L L'→evalA arr x=u.den L')→
       ∀ L',Agree D L L'→(args.map (evalA arr)).toList=vs.map (V.den L'):=by
      intro D L arr hr L' hL'
      rw [Array.toList_map]
      exact evs_map h3 (fun x hx u hu=>hr x (by simp only [Op.operands,Call.operands];simp at hx;simp [hx]) u hu L' hL')
     obtain ⟨hlg,hob,hcall,hcallf⟩:=hcf _ _ _ _ _ h6 ho
     refine ⟨hlg,hob,fun D L w fr rv kind arr ops i rest k dv cs o hoi he hw hr hSR hD=>?_⟩
     have hf:=hr r (by simp [Op.operands,Call.operands]) _ h1
     have hfL:=hf L (.refl _ _)
     have hrun:(execOp (evalA arr) o).run P w=.ok (.enter g (#[x.den L]++args.map (evalA arr))) w:=by
      have hm:=hE.im t m g h5 (x.den L) w
      have h0:(#[Value.iface t (x.den L)]++args.map (evalA arr))[0]?=some (Value.iface t (x.den L)):=by rw [Array.getElem?_append_left (by simp)];rfl
      have hx:(#[Value.iface t (x.den L)]++args.map (evalA arr)).extract 1 (#[Value.iface t (x.den L)]++args.map (evalA arr)).size=args.map (evalA arr):=by
       simp [Array.extract_append]
      have hP:(program).run P w=.ok P w:=rfl
      simp only [execOp,he,resolve,hfL,V.den,Sem.run_bind,Sem.run_pure,Result.andThen_ok,invoke,h0,hx,callMethod,hP,hm]
      exact hcallf _ _
     obtain ⟨L',w',val,g1,g2,g3,fr',g4,g5⟩:=hcall D L w .normal (frm fr rv kind arr (.inRegion ops (i::rest)::k) dv::cs) (#[x.den L]++args.map (evalA arr)) hSR (by
      intro L' hL'
      have hL2:Value.iface t (x.den L)=Value.iface t (x.den L'):=(hf L (.refl _ _)).symm.trans (hf L' hL')
      injection hL2 with e1 e2
      rw [Array.toList_append,hargs hr L' hL',e2]
      rfl) hD
     have hfin:(ops[i]?).bind (·.dst)=o.dst:=by rw [hoi];rfl
     refine ⟨L',w',val,g1,g2,g3,.head (step_enter hoi hw (by rw [he];simp) hrun) (g4.trans (.one ?_))⟩
     rw [← hfin,← frm_finish]
     exact g5.step
    ·cases h4
   ·exact hloud h
  ·exact hloud h
def SeqOK (P:Program) (fr:Frs) (ops:Array Oper) (i:Nat) (n:Nat) (T:Tr V) (df:List Dfr) (s:St) (T':Tr V) (df':List Dfr) (s':St):Prop:=
 ∀ (D:Nat→Prop) (L:LM) (w:World) (rv:Option Nat) (kind:CallKind) (arr:Array Value) (k:List Item) (dv:List Deferred) (cs:List Frame),
  SR D L s.H.get w→CtxR D L fr T df arr dv rv→(∀ n,D n→n<s.nx∨s'.nx≤n)→
  ∃ L' w' arr' dv',Mv D L s.H.get w L' s'.H.get w'∧SR (Grow D s.nx s'.nx) L' s'.H.get w'∧CtxR (Grow D s.nx s'.nx) L' fr T' df' arr' dv' rv∧
   Steps P (lone (frm fr rv kind arr (.inRegion ops (List.range' i n)::k) dv) cs w) (lone (frm fr rv kind arr' (.inRegion ops []::k) dv') cs w')
theorem grow_trans {D:Nat→Prop} {a b c:Nat} (h1:a≤b) (h2:b≤c):Grow (Grow D a b) b c=Grow D a c:=by
 funext n
 apply propext
 simp only [Grow]
 constructor
 ·rintro ((h|h)|h)
  ·exact .inl h
  ·exact .inr ⟨h.1,by omega⟩
  ·exact .inr ⟨by omega,h.2⟩
 ·rintro (h|h)
  ·exact .inl (.inl h)
  ·by_cases hb:n<b
   ·exact .inl (.inr ⟨h.1,hb⟩)
   ·exact .inr ⟨by omega,h.2⟩
theorem fresh_grow {D:Nat→Prop} {a b c:Nat} (h1:a≤b) (h:∀ n,D n→n<a∨c≤n):∀ n,Grow D a b n→n<b∨c≤n:=by
 rintro n (hn|hn)
 ·rcases h n hn with h|h
  ·exact .inl (by omega)
  ·exact .inr h
 ·exact .inl hn.2
theorem fresh_left {D:Nat→Prop} {a b c:Nat} (h1:b≤c) (h:∀ n,D n→n<a∨c≤n):∀ n,D n→n<a∨b≤n:=fun n hn=>(h n hn).imp id (fun h=>by omega)
theorem seqOps_ok (hE:EnvOK P E) {cf:CallF} {yf:YieldF} (hcf:CfOK P E cf) (hyf:YfOK P yf) (fr:Frs) (ops:Array Oper):∀ (l:List Oper) (i:Nat) (T T':Tr V) (df df':List Dfr) (s s':St),
  ops.toList.drop i=l→seqOps E cf yf fr ops.toList l T df s=some (T',df',s')→Obl s'→Lg s s'∧Obl s∧SeqOK P fr ops i l.length T df s T' df' s':=by
 intro l
 induction l with
 |nil=>
  intro i T T' df df' s s' hl h ho
  simp only [seqOps] at h
  cases h
  refine ⟨.refl _,ho,fun D L w rv kind arr k dv cs hSR hC hD=>⟨L,w,arr,dv,.refl _ _ _ _,?_,?_,Steps.refl _ _⟩⟩
  ·rw [YA rfl];exact hSR
  ·rw [YA rfl];exact hC
 |cons o l ih=>
  intro i T T' df df' s s' hl h ho
  have hoi:ops[i]?=some o:=by
   have:=congrArg (fun l=>l[0]?) hl
   simpa using this
  have hl':ops.toList.drop (i+1)=l:=by
   have:=congrArg (List.drop 1) hl
   simpa [List.drop_drop,Nat.add_comm] using this
  simp only [seqOps] at h
  obtain ⟨⟨wt,T1,s1⟩,h1,h2⟩:=XA h
  clear h
  have key:∀ (T2:Tr V) (df2:List Dfr) (s2:St),seqOps E cf yf fr ops.toList l T2 df2 s2=some (T',df',s')→(Obl s2→Lg s s2∧Obl s)→
    (Obl s2→∀ (D:Nat→Prop) (L:LM) (w:World) (rv:Option Nat) (kind:CallKind) (arr:Array Value) (k:List Item) (dv:List Deferred) (cs:List Frame),
     SR D L s.H.get w→CtxR D L fr T df arr dv rv→(∀ n,D n→n<s.nx∨s2.nx≤n)→
     ∃ L' w' arr' dv',Mv D L s.H.get w L' s2.H.get w'∧SR (Grow D s.nx s2.nx) L' s2.H.get w'∧CtxR (Grow D s.nx s2.nx) L' fr T2 df2 arr' dv' rv∧
      Steps P (lone (frm fr rv kind arr (.inRegion ops (i::List.range' (i+1) l.length)::k) dv) cs w) (lone (frm fr rv kind arr' (.inRegion ops (List.range' (i+1) l.length)::k) dv') cs w'))→
    Lg s s'∧Obl s∧SeqOK P fr ops i (o::l).length T df s T' df' s':=by
   intro T2 df2 s2 hrest hlg hone
   obtain ⟨r1,r2,r3⟩:=ih (i+1) T2 T' df2 df' s2 s' hl' hrest ho
   obtain ⟨q1,q2⟩:=hlg r2
   refine ⟨q1.trans r1,q2,fun D L w rv kind arr k dv cs hSR hC hD=>?_⟩
   obtain ⟨L1,w1,arr1,dv1,g1,g2,g3,g4⟩:=hone r2 D L w rv kind arr k dv cs hSR hC (fresh_left r1.le hD)
   obtain ⟨L2,w2,arr2,dv2,f1,f2,f3,f4⟩:=r3 (Grow D s.nx s2.nx) L1 w1 rv kind arr1 k dv1 cs g2 g3 (fresh_grow q1.le hD)
   rw [grow_trans q1.le r1.le] at f2 f3
   exact ⟨L2,w2,arr2,dv2,g1.trans (fun _ h=>.inl h) f1,f2,f3,g4.trans f4⟩
  have hwant:Obl s1→Quiet s s1∧(∀ D L arr dv rv,CtxR D L fr T df arr dv rv→CtxR D L fr T1 df arr dv rv∧Region.wanted o (yielded ops arr)=wt):=by
   intro ho1
   obtain ⟨w1,w2,w3⟩:=wantedX_ok h1 ho1
   refine ⟨w1,fun D L arr dv rv hC=>⟨fun L' hL'=>?_,?_⟩⟩
   ·obtain ⟨c1,c2,c3⟩:=hC L' hL'
    exact ⟨⟨c1.1,fun t=>by rw [w2];exact c1.2 t⟩,c2,c3⟩
   ·obtain ⟨c1,_,_⟩:=hC L (.refl _ _)
    exact w3 L arr fun g t hg ht=>c1.2 t
  have hdst:∀ {D:Nat→Prop} {L:LM} {T1 T2:Tr V} {v:V} {val:Value} {df:List Dfr} {arr:Array Value} {dv:List Deferred} {rv:Option Nat},putDst fr.nt T1 o.dst v=some T2→CtxR D L fr T1 df arr dv rv→
    (∀ L',Agree D L L'→val=v.den L')→CtxR D L fr T2 df (putA arr o.dst val) dv rv:=by
   intro D L T1 T2 v val df arr dv rv hp hC hv L' hL'
   obtain ⟨c1,c2,c3⟩:=hC L' hL'
   exact ⟨by rw [hv L' hL'];exact putDst_ok hp c1,c2,c3⟩
  cases wt with
  |false=>
   obtain ⟨T2,h3,h4⟩:=XA h2
   refine key T2 df s1 h4 (fun ho1=>⟨Lg.of_same (hwant ho1).1.1,(hwant ho1).1.2⟩) (fun ho1 D L w rv kind arr k dv cs hSR hC hD=>?_)
   obtain ⟨q1,q2⟩:=hwant ho1
   obtain ⟨hC1,hw⟩:=q2 D L arr dv rv hC
   refine ⟨L,w,putA arr o.dst undef,dv,?_,?_,?_,.one (step_skip_op hoi hw)⟩
   ·rw [q1.1.H];exact .refl _ _ _ _
   ·rw [q1.1.H,YA q1.1.nx.symm];exact hSR
   ·rw [YA q1.1.nx.symm];exact hdst h3 hC1 (fun L' _=>(den_undef L').symm)
  |true=>
   simp only at h2
   split at h2
   ·rename_i c hop
    split at h2
    ·rename_i f hrnd hcallee
     obtain ⟨fv,h3,h4⟩:=XA h2
     obtain ⟨vs,h5,h6⟩:=XA h4
     split at h6
     ·rename_i g first caps
      obtain ⟨T2,h7,h8⟩:=XA h6
      refine key T2 _ s1 h8 (fun ho1=>⟨Lg.of_same (hwant ho1).1.1,(hwant ho1).1.2⟩) (fun ho1 D L w rv kind arr k dv cs hSR hC hD=>?_)
      obtain ⟨q1,q2⟩:=hwant ho1
      obtain ⟨hC1,hw⟩:=q2 D L arr dv rv hC
      obtain ⟨c1,c2,c3⟩:=hC1 L (.refl _ _)
      rw [hrnd] at c3
      simp only [Option.map_none] at c3
      subst c3
      have hden:∀ L',Agree D L L'→(⟨.fn (.func g) (caps.map (V.den L)).toArray,((first++vs).map (V.den L)).toArray⟩:Deferred)=(Dfr.call g (first++vs) caps).den L':=by
       intro L' hL'
       have e1:=ev_ok (hC1 L' hL').1 h3
       rw [ev_ok c1 h3,den_fn,den_fn] at e1
       injection e1 with _ e2 e3
       have e2':first.map (V.den L)=first.map (V.den L'):=by simpa using e2
       have e3':caps.map (V.den L)=caps.map (V.den L'):=by simpa using e3
       have e4:=evs_ok c1 h5
       rw [evs_ok (hC1 L' hL').1 h5] at e4
       simp only [Dfr.den,List.map_append,e2',e3',e4]
      have hrun:(execOp (evalA arr) o).run P w=.ok (.defer ⟨.fn (.func g) (caps.map (V.den L)).toArray,((first++vs).map (V.den L)).toArray⟩) w:=by
       have hf:=ev_ok c1 h3
       rw [den_fn] at hf
       have ha:c.args.map (evalA arr)=(vs.map (V.den L)).toArray:=by
        apply Array.ext'
        rw [Array.toList_map,evs_ok c1 h5]
       simp [execOp,hop,resolve,hcallee,Deferred.ofValue,hf,ha]
      refine ⟨L,w,putA arr o.dst undef,⟨.fn (.func g) (caps.map (V.den L)).toArray,((first++vs).map (V.den L)).toArray⟩::dv,?_,?_,?_,.one (step_defer_op hoi hw hrun)⟩
      ·rw [q1.1.H];exact .refl _ _ _ _
      ·rw [q1.1.H,YA q1.1.nx.symm];exact hSR
      ·rw [YA q1.1.nx.symm]
       intro L' hL'
       obtain ⟨d1,d2,d3⟩:=hdst h7 hC1 (fun L' _=>(den_undef L').symm) L' hL'
       exact ⟨d1,by rw [List.map_cons,← hden L' hL',d2],d3⟩
     ·cases h6
    ·cases h2
   ·obtain ⟨⟨v,s2⟩,h3,h4⟩:=XA h2
    obtain ⟨T2,h5,h6⟩:=XA h4
    refine key T2 df s2 h6 (fun ho2=>?_) (fun ho2 D L w rv kind arr k dv cs hSR hC hD=>?_)
    ·obtain ⟨p1,p2,_⟩:=runOp_ok hE hcf hyf h3 ho2
     obtain ⟨q1,_⟩:=hwant p2
     exact ⟨(Lg.of_same q1.1).trans p1,q1.2⟩
    ·obtain ⟨p1,p2,p3⟩:=runOp_ok hE hcf hyf h3 ho2
     obtain ⟨q1,q2⟩:=hwant p2
     obtain ⟨hC1,hw⟩:=q2 D L arr dv rv hC
     rw [← q1.1.H] at hSR ⊢
     rw [← q1.1.nx] at hD ⊢
     obtain ⟨L',w',val,g1,g2,g3,g4⟩:=p3 D L w fr rv kind arr ops i (List.range' (i+1) l.length) k dv cs o hoi rfl hw (fun x _ u hu L' hL'=>ev_ok (hC1 L' hL').1 hu) hSR hD
     exact ⟨L',w',_,dv,g1,g2,hdst h5 (hC1.grow (fun _ h=>.inl h) g1.agree) g3,g4⟩
end
end Go.Sx
