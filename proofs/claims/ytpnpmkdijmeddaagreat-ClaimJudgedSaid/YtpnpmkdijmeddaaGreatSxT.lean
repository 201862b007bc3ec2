/- Rounds, loops over functions; the interpreter is sound. -/
import Derived.Test.YtpnpmkdijmeddaaGreatSxR
set_option maxRecDepth 100000
namespace Go.Sx
section
variable {P:Program} {E:Env}
variable {fr:Frs} {T T1 T2 T':Tr V} {df df1 df2 df':List Dfr} {s s1 s2 s':St} {R R1 R2 R3:Rel}
theorem loop_write {D:Nat→Prop} {L:LM} {H H':Nat→Option Ob} {w:World} {n:Nat} {st st':LoopState} {pe pe':Option Code} {fn:FuncId} {tmps:Tr V} {nt:Nat} {params:List Tmp} {assign body:Code} {dl:Nat}
  (hSR:SR D L H w) (hn:H n=some (.loop st pe fn tmps nt params assign body dl)) (hH:∀ m,H' m=if m=n then some (.loop st' pe' fn tmps nt params assign body dl) else H m):
  ∃ k rec,(L n).blk=some k∧w.heap[k]?=some (.loop rec)∧rec.state=st∧rec.pending=pe∧
   Mv D L H w L H' (w.putObj k (.loop {rec with state:=st',pending:=pe'}))∧SR D L H' (w.putObj k (.loop {rec with state:=st',pending:=pe'})):=by
 have hDn:=hSR.live hn
 obtain ⟨k,arr,h1,h2,h3,h4⟩:=(hSR L (.refl _ _)).ob _ _ hn
 refine ⟨k,_,h1,h4,rfl,rfl,?_⟩
 refine write_mv hSR hn rfl rfl h1 hH (by simp) (fun b hb=>World.putObj_heap_other hb) ⟨rfl,rfl,rfl⟩ ?_
 intro L' hL' hHR
 obtain ⟨k',arr',e1,e2,e3,e4⟩:=hHR.ob _ _ hn
 have hk:k'=k:=by
  rw [← hL' n hDn,h1] at e1
  cases e1;rfl
 subst hk
 rw [h4] at e4
 injection e4 with e4
 injection e4 with e4
 injection e4 with _ _ _ ea _ _ _ ed
 refine ⟨k',arr',e1,e2,e3,?_⟩
 rw [World.putObj_heap_same (Array.getElem?_eq_some_iff.1 h4).1,ea,ed]
theorem Pc.round_write {l:Nat} {st st':LoopState} {pe pe':Option Code} {fn:FuncId} {tmps:Tr V} {nt:Nat} {params:List Tmp} {assign body:Code} {dl:Nat} (hl:fr.rnd=some l)
  (hn:s.H.get l=some (.loop st pe fn tmps nt params assign body dl)) (hu:s.upd l (some (.loop st' pe' fn tmps nt params assign body dl))=some s'):
  Pc fr T df s T df s' (fun rv _ _ _ a b=>∃ k rec,rv=some k∧a.w.heap[k]?=some (.loop rec)∧rec.state=st∧rec.pending=pe∧b=⟨a.arr,a.dv,a.w.putObj k (.loop {rec with state:=st',pending:=pe'})⟩):=by
 obtain ⟨u1,u2,u3,u4⟩:=upd_ok hu
 intro D L rv kind k cs a hSR hC hD
 obtain ⟨kk,rec,h1,h2,h3,h4,h5,h6⟩:=loop_write hSR hn u4
 refine ⟨L,⟨a.arr,a.dv,a.w.putObj kk (.loop {rec with state:=st',pending:=pe'})⟩,h5,?_,?_,kk,rec,?_,h2,h3,h4,rfl⟩
 ·rw [YA u1.symm];exact h6
 ·rw [YA u1.symm];exact hC
 ·have:=(hC L (.refl _ _)).2.2
  rw [this,hl]
  simp [h1]
theorem setAll_ok {L:LM} {nt:Nat}:∀ (l:List (Tmp×V)) (T T':Tr V) (arr:Array Value),setAll nt T l=some T'→TmpR L nt T arr→
  TmpR L nt T' (l.foldl (fun a p=>a.setIfInBounds p.1 (p.2.den L)) arr):=by
 intro l
 induction l with
 |nil=>intro T T' arr h hT;simp only [setAll] at h;cases h;exact hT
 |cons p l ih=>
  intro T T' arr h hT
  obtain ⟨t,v⟩:=p
  simp only [setAll] at h
  obtain ⟨T1,h1,h2⟩:=XA h
  exact ih _ _ _ h2 (putDst_ok h1 hT)
theorem zip_fold {L:LM}:∀ (ps:List Tmp) (vs:List V) (arr:Array Value),
  (ps.zip vs).foldl (fun a p=>a.setIfInBounds p.1 (p.2.den L)) arr=(ps.zip (vs.map (V.den L))).foldl (fun a p=>a.setIfInBounds p.1 p.2) arr:=by
 intro ps
 induction ps with
 |nil=>intro vs arr;rfl
 |cons p ps ih=>
  intro vs arr
  cases vs with
  |nil=>rfl
  |cons v vs=>simp only [List.zip_cons_cons,List.map_cons,List.foldl_cons];exact ih _ _
theorem yieldX_ok {run:X} (hr:XOK P run):YfOK P (yieldX run):=by
 intro l args s v s' h ho
 unfold yieldX at h
 split at h
 ·rename_i pe fn tmps nt params assign body dl hl
  obtain ⟨_,h1,h2⟩:=XA h
  obtain ⟨T0,h3,h4⟩:=XA h2
  obtain ⟨⟨e,T1,df1,s1⟩,h5,h6⟩:=XA h4
  clear h h2 h4
  simp only at h6
  split at h6
  ·rename_i pe' fn' tmps' nt' params' assign' body' dl' hl1
   obtain ⟨s2,h7,h8⟩:=XA h6
   obtain ⟨⟨e2,T3,df3,s3⟩,h9,h10⟩:=XA h8
   clear h6 h8
   simp only at h10
   split at h10
   ·rename_i st3 pe3 fn3 tmps3 nt3 params3 assign3 body3 dl3 hl3
    have hfin:∃ st4,s3.upd l (some (.loop st4 e2.code fn3 tmps3 nt3 params3 assign3 body3 dl3))=some s'∧v=.bool e2.code.isNone∧st4=(if e2.code.isNone then .ready else .done):=by
     cases hc:e2.code with
     |none=>
      rw [hc] at h10
      simp only at h10
      obtain ⟨s4,g1,g2⟩:=XA h10
      cases g2
      exact ⟨_,g1,rfl,rfl⟩
     |some j=>
      rw [hc] at h10
      simp only at h10
      obtain ⟨s4,g1,g2⟩:=XA h10
      cases g2
      exact ⟨_,g1,rfl,rfl⟩
    obtain ⟨st4,h11,hv,hst4⟩:=hfin
    clear h10
    obtain ⟨u1,u2,u3,u4⟩:=upd_ok h11
    obtain ⟨t1,t2,t3,t4⟩:=upd_ok h7
    have ho3:Obl s3:=by unfold Obl at ho ⊢;rw [u3] at ho;exact ho
    obtain ⟨b1,b2,b3⟩:=hr _ _ _ _ _ _ _ _ _ h9 ho3
    have ho1:Obl s1:=by unfold Obl at b2 ⊢;rw [t3] at b2;exact b2
    obtain ⟨a1,a2,a3⟩:=hr _ _ _ _ _ _ _ _ _ h5 ho1
    have hlen:args.length=params.length:=Nat.beq_eq.mp (XC h1)
    refine ⟨((a1.trans (.upd h7)).trans b1).trans (.upd h11),a2,?_⟩
    have p1:=(a3.at).atk (fun k=>.beginRound::.code body::k)
    have p2:=Pc.round_write (T:=T1) (df:=([]:List Dfr)) (fr:=⟨fn,some l,nt⟩) rfl hl1 h7
    have p3:=b3.at
    have p4:=Pc.round_write (T:=T3) (df:=df3) (fr:=⟨fn,some l,nt⟩) rfl hl3 h11
    have q12:=p1.trans p2 a1.le (by omega) (R3:=fun rv kind k cs a b=>Steps P (At ⟨fn,some l,nt⟩ rv kind cs a (.code assign::.beginRound::.code body::k)) (At ⟨fn,some l,nt⟩ rv kind cs b (.code body::k))) (by
     rintro rv kind k cs a b c hs ⟨kk,rec,g1,g2,g3,g4,rfl⟩
     refine Steps.trans hs (.one ?_)
     exact stepR_beginRound (b:=frm ⟨fn,some l,nt⟩ rv kind #[] [] []) (a:=⟨b.arr,b.dv⟩) (l:=kk) (by simp [frm,g1]) (by
      have:=run_beginRound (P:=P) g2 g3
      rw [← g4]
      exact this))
    have q123:=q12.trans p3 (by have:=a1.le;omega) b1.le (R3:=fun rv kind k cs a b=>Arrm P (At ⟨fn,some l,nt⟩ rv kind cs a (.code assign::.beginRound::.code body::k)) ⟨fn,some l,nt⟩ rv kind k cs b e2) (by
     intro rv kind k cs a b c hs ha
     exact .of_steps hs ha)
    have q:=q123.trans p4 (by have:=a1.le;have:=b1.le;omega) (by omega) (R3:=fun rv kind k cs a b=>k=[]→kind=.normal→∀ c cs',cs=c::cs'→
      Steps P (At ⟨fn,some l,nt⟩ rv kind cs a [.code assign,.beginRound,.code body]) (lone (c.finish (.bool e2.code.isNone)) cs' b.w)) (by
     rintro rv kind k cs a b c ha ⟨kk,rec,g1,g2,g3,g4,rfl⟩ rfl hkind c' cs' rfl
     have hend:∀ jump,jump=e2.code→(Instr.endRound kk jump).run P b.w=.ok (.bool e2.code.isNone) (b.w.putObj kk (.loop {rec with state:=st4,pending:=e2.code})):=by
      rintro jump rfl
      have:=run_endRound (P:=P) e2.code g2
      rw [hst4];exact this
     cases e2 with
     |normal=>exact Steps.trans ha (.one (stepR_round_end (b:=frm ⟨fn,some l,nt⟩ rv kind #[] [] []) (a:=⟨b.arr,b.dv⟩) (l:=kk) (by simp [frm,g1]) hkind (hend _ rfl)))
     |ret=>
      obtain ⟨k1,ha⟩:=ha
      exact Steps.trans ha (.one (stepR_round_ret (b:=frm ⟨fn,some l,nt⟩ rv kind #[] [] []) (a:=⟨b.arr,b.dv⟩) (l:=kk) (by simp [frm,g1]) hkind (hend _ rfl)))
     |exit id=>
      obtain ⟨k1,ha,hx⟩:=ha
      exact Steps.trans ha (.one (stepR_round_exit (b:=frm ⟨fn,some l,nt⟩ rv kind #[] [] []) (a:=⟨b.arr,b.dv⟩) (l:=kk) (by simp [frm,g1]) hkind hx (hend _ rfl)))
     |goto t=>
      obtain ⟨k1,ha,hx⟩:=ha
      exact Steps.trans ha (.one (stepR_round_goto (b:=frm ⟨fn,some l,nt⟩ rv kind #[] [] []) (a:=⟨b.arr,b.dv⟩) (l:=kk) (by simp [frm,g1]) hkind hx (hend _ rfl))))
    intro D L w c cs av hSR hav hD
    have hDl:=hSR.live hl
    obtain ⟨k,arr,m1,m2,m3,m4⟩:=(hSR L (.refl _ _)).ob _ _ hl
    have havs:av.size=args.length:=by
     have:=congrArg List.length (hav L (.refl _ _))
     simpa using this
    have hgd:(L l).blk.getD 0=k:=by rw [m1];rfl
    obtain ⟨tmps2,htm⟩:∃ tmps2,tmps2=(params.toArray.zip av).foldl (fun tmps (t,a)=>tmps.setIfInBounds t a) arr:=⟨_,rfl⟩
    have hctx:CtxR D L ⟨fn,some l,nt⟩ T0 [] tmps2 [] (some k):=by
     intro L' hL'
     refine ⟨?_,rfl,by simp [← hL' l hDl,m1]⟩
     obtain ⟨k',arr',e1,e2,e3,e4⟩:=(hSR L' hL').ob _ _ hl
     have hk:k'=k:=by
      rw [← hL' l hDl,m1] at e1
      cases e1;rfl
     subst hk
     rw [m4] at e4
     injection e4 with e4
     injection e4 with e4
     injection e4 with _ _ _ ea _ _ _ ed
     subst ea
     have:=setAll_ok _ _ _ _ h3 e3
     rw [zip_fold,← hav L' hL'] at this
     have hz:tmps2=(params.zip av.toList).foldl (fun a p=>a.setIfInBounds p.1 p.2) arr:=by
      rw [htm,← Array.foldl_toList]
      simp
     rw [hz];exact this
    obtain ⟨L',b,n1,n2,n3,n4⟩:=q D L (some k) .normal [] (c::cs) ⟨tmps2,[],w⟩ hSR hctx hD
    refine ⟨L',b.w,.bool e2.code.isNone,n1,n2,fun L'' _=>by rw [hv];rfl,fn,tmps2,assign,body,?_,?_⟩
    ·rw [hgd]
     have:=run_yield (P:=P) (args:=av) m4 (by simp;omega)
     rw [htm]
     exact this
    ·rw [hgd]
     exact n4 rfl rfl c cs rfl
   ·cases h10
  ·cases h6
 ·cases h
theorem rangeFunc_ok (_hE:EnvOK P E) {run:X} (hr:XOK P run) (hcf:CfOK P E (callX run E)) {f:Operand} {params:Array Tmp} {assign body:Code} {e:Ex} (h:stepX E run fr (.rangeFunc f params assign body) T df s=some (e,T',df',s')) (ho:Obl s'):
  Lg s s'∧Obl s∧CodeOK P fr (.rangeFunc f params assign body) T df s e T' df' s':=by
 simp only [stepX] at h
 obtain ⟨fv,h1,h2⟩:=XA h
 clear h
 split at h2
 ·rename_i g first caps hrnd
  obtain ⟨⟨d,s1⟩,h3,h4⟩:=XA h2
  obtain ⟨⟨l,s2⟩,h5,h6⟩:=XA h4
  obtain ⟨⟨rv0,s3⟩,h7,h8⟩:=XA h6
  clear h2 h4 h6
  simp only at h5 h7 h8
  split at h8
  ·rename_i st pe fn3 tmps3 nt3 params3 assign3 body3 dl3 hl3
   obtain ⟨_,h9,h10⟩:=XA h8
   obtain ⟨s4,h11,h12⟩:=XA h10
   clear h8 h10
   have hbusy:st≠.busy:=by
    intro hh
    subst hh
    have:=XC h9
    simp [Ex.isBusy] at this
   obtain ⟨d1,d2,d3,d4,d5⟩:=new_ok h3
   obtain ⟨l1,l2,l3,l4,l5⟩:=new_ok h5
   obtain ⟨u1,u2,u3,u4⟩:=upd_ok h11
   have hafter:Lg s4 s'∧Obl s4∧Pc fr T (.collected d::df) s4 T' df' s' (fun rv kind k cs a b=>Arrm P (At fr rv kind cs a ((pe.map Item.code).toList++k)) fr rv kind k cs b e):=by
    cases pe with
    |none=>
     simp only at h12
     cases h12
     exact ⟨.refl _,ho,Pc.stay fun rv kind k cs a=>.refl _ _⟩
    |some j=>
     simp only at h12
     obtain ⟨g1,g2,g3⟩:=hr _ _ _ _ _ _ _ _ _ h12 ho
     exact ⟨g1,g2,g3.at⟩
   obtain ⟨f1,f2,f3⟩:=hafter
   have ho3:Obl s3:=by unfold Obl at f2 ⊢;rw [u3] at f2;exact f2
   obtain ⟨c1,c2,c3,c4⟩:=hcf _ _ _ _ _ h7 ho3
   have ho0:Obl s:=by unfold Obl at c2 ⊢;rw [l4,d4] at c2;exact c2
   have hlg:Lg s s4:=((Lg.new h3).trans (.new h5)).trans (c1.trans (.upd h11))
   refine ⟨hlg.trans f1,ho0,?_⟩
   refine Pc.trans (R1:=fun rv kind k cs a b=>Steps P (At fr rv kind cs a (.code (.rangeFunc f params assign body)::k)) (At fr rv kind cs b ((pe.map Item.code).toList++k))) ?_ f3 hlg.le f1.le
    (fun rv kind k cs a b c hs ha=>.of_steps hs ha)
   intro D L rv kind k cs a hSR hC hD
   have hrv:rv=none:=by have:=(hC L (.refl _ _)).2.2;rw [this,hrnd];rfl
   subst hrv
   have hle3:s2.nx≤s4.nx:=by have:=c1.le;omega
   have hDd:¬ D s.nx:=fun hh=>by rcases hD _ hh with hh|hh<;>omega
   obtain ⟨x1,x2⟩:=alloc_mv (o:=.deferred (some [])) (x:=.deferred (some [])) (li:=⟨some a.w.heap.size,0,0,0⟩) (w0:=a.w) rfl hSR hDd d5 ⟨rfl,rfl,rfl,rfl⟩ rfl (by
    intro L' hL'
    have:=hL' s.nx (.inr ⟨Nat.le_refl _,Nat.lt_succ_self _⟩)
    simp only [if_true] at this
    exact ⟨a.w.heap.size,by rw [← this],by rw [← this],by simpa using World.alloc_heap_new a.w (.deferred (some []))⟩)
   obtain ⟨L1,hL1⟩:∃ L1,L1=(fun m=>if m=s.nx then (⟨some a.w.heap.size,0,0,0⟩:LI) else L m):=⟨_,rfl⟩
   rw [← hL1] at x1 x2
   have hLd:L1 s.nx=⟨some a.w.heap.size,0,0,0⟩:=by rw [hL1];simp
   have hDl:¬ Grow D s.nx (s.nx+1) s1.nx:=by
    rintro (hh|hh)
    ·rcases hD _ hh with hh|hh<;>omega
    ·omega
   obtain ⟨y1,y2⟩:=alloc_mv (o:=.loop .ready none fr.fn T fr.nt params.toList assign body d) (x:=.loop {state:=.ready,pending:=none,fn:=fr.fn,tmps:=a.arr,params,assign,body,defers:=a.w.heap.size})
    (li:=⟨some (a.w.alloc (.deferred (some []))).heap.size,0,0,0⟩) (w0:=a.w.alloc (.deferred (some []))) rfl x2 hDl l5 ⟨rfl,rfl,rfl,rfl⟩ rfl (by
    intro L' hL'
    have h13:=hL' s1.nx (.inr ⟨Nat.le_refl _,Nat.lt_succ_self _⟩)
    simp only [if_true] at h13
    have h14:=hL' s.nx (.inl (.inr ⟨Nat.le_refl _,Nat.lt_succ_self _⟩))
    have hne:¬ s.nx=s1.nx:=by omega
    simp only [if_neg hne,hLd] at h14
    have hag:Agree D L L':=by
     intro m hm
     have h15:=hL' m (.inl (.inl hm))
     have hne1:¬ m=s1.nx:=fun e=>hDl (.inl (e ▸ hm))
     simp only [if_neg hne1] at h15
     rw [← x1.agree m hm] at h15
     exact h15
    refine ⟨_,a.arr,by rw [← h13],by rw [← h13],(hC L' hag).1,?_⟩
    rw [World.alloc_heap_new]
    simp [d1,← h14])
   obtain ⟨L2,hL2⟩:∃ L2,L2=(fun m=>if m=s1.nx then (⟨some (a.w.alloc (.deferred (some []))).heap.size,0,0,0⟩:LI) else L1 m):=⟨_,rfl⟩
   rw [← hL2] at y1 y2
   have hLl:L2 l=⟨some (a.w.heap.size+1),0,0,0⟩:=by rw [hL2,l1];simp
   have hnx1:s.nx+1=s1.nx:=d2.symm
   have hnx2:s1.nx+1=s2.nx:=l2.symm
   rw [hnx1,hnx2,grow_trans (by omega) (by omega)] at y2
   have hag2:Agree D L L2:=x1.agree.trans (y1.agree.mono fun n hn=>.inl hn)
   have hfv:∀ L',Agree D L L'→evalA a.arr f=(V.fn g first caps).den L':=fun L' hL'=>ev_ok (hC L' hL').1 h1
   have hcaps:∀ L',Agree D L L'→first.map (V.den L)=first.map (V.den L')∧caps.map (V.den L)=caps.map (V.den L'):=by
    intro L' hL'
    have e1:=hfv L' hL'
    rw [hfv L (.refl _ _),den_fn,den_fn] at e1
    injection e1 with _ e2 e3
    exact ⟨by simpa using e2,by simpa using e3⟩
   obtain ⟨W2,hW2⟩:∃ W2,W2=(a.w.alloc (.deferred (some []))).alloc (.loop {state:=.ready,pending:=none,fn:=fr.fn,tmps:=a.arr,params,assign,body,defers:=a.w.heap.size}):=⟨_,rfl⟩
   rw [← hW2] at y1 y2
   obtain ⟨av,hav⟩:∃ av,av=(first.map (V.den L)).toArray++#[Value.func (.yield (a.w.heap.size+1)) #[] #[]]++(caps.map (V.den L)).toArray:=⟨_,rfl⟩
   obtain ⟨dvn,hdvn⟩:∃ dvn:List Deferred,dvn={target:=.collected a.w.heap.size,args:=#[]}::a.dv:=⟨_,rfl⟩
   obtain ⟨L3,w3,val,z1,z2,z3,fr',z4,z5⟩:=c3 _ L2 W2 .normal (frm fr none kind a.arr (.inRangeFunc (a.w.heap.size+1)::k) dvn::cs) av y2 (by
    intro L' hL'
    have hagL:Agree D L L':=hag2.trans (hL'.mono fun n hn=>.inl hn)
    have hl':L' l=⟨some (a.w.heap.size+1),0,0,0⟩:=by
     rw [← hL' l (.inr ⟨by omega,by omega⟩)];exact hLl
    rw [hav,(hcaps L' hagL).1,(hcaps L' hagL).2]
    simp [V.den,hl']) (by
    rintro n (hn|hn)
    ·rcases hD n hn with hh|hh
     ·exact .inl (by omega)
     ·exact .inr (by omega)
    ·exact .inl hn.2)
   rw [grow_trans (by omega) (by omega)] at z2
   obtain ⟨kk,rec,v1,v2,v3,v4,v5,v6⟩:=loop_write z2 hl3 u4
   have hkk:kk=a.w.heap.size+1:=by
    have h13:=z1.agree l (.inr ⟨by omega,by omega⟩)
    rw [← h13,hLl] at v1
    cases v1;rfl
   subst hkk
   rw [u1]
   refine ⟨L3,⟨a.arr,dvn,w3.putObj (a.w.heap.size+1) (.loop {rec with state:=.exhausted,pending:=pe})⟩,?_,v6,?_,?_⟩
   ·exact ((x1.trans (fun n hn=>.inl hn) (by rw [hnx1] at y1;exact y1:Mv (Grow D s.nx s1.nx) _ _ _ _ _ _)).trans (fun n hn=>.inl hn) z1).trans (fun n hn=>.inl hn) v5
   ·intro L' hL'
    have hag':Agree D L L':=hag2.trans ((z1.agree.mono fun n hn=>.inl hn).trans (hL'.mono fun n hn=>.inl hn))
    obtain ⟨g1,g2,g3⟩:=hC L' hag'
    refine ⟨g1,?_,g3⟩
    have h13:L' d=⟨some a.w.heap.size,0,0,0⟩:=by
     rw [d1,← hL' s.nx (.inr ⟨by omega,by omega⟩),← z1.agree s.nx (.inr ⟨by omega,by omega⟩),hL2]
     have hne:¬ s.nx=s1.nx:=by omega
     simp only [if_neg hne,hLd]
    rw [hdvn,g2,List.map_cons]
    simp [Dfr.den,h13]
   ·
    have hfin:(frm fr none kind a.arr (.inRangeFunc (a.w.heap.size+1)::k) dvn).finish val=frm fr none kind a.arr (.endRangeFunc (a.w.heap.size+1)::k) dvn:=by simp [Frame.finish,frm]
    refine Steps.head (m₁:=lone (Frame.enter P g av .normal) (frm fr none kind a.arr (.inRangeFunc (a.w.heap.size+1)::k) dvn::cs) W2) ?_ (z4.trans (.head (hfin ▸ z5.step (c:=frm fr none kind a.arr (.inRangeFunc (a.w.heap.size+1)::k) dvn) (cs:=cs)) (.one ?_)))
    ·refine step_lone_go ?_
     have hel:=run_enterLoop_outer (P:=P) (w:=a.w) fr.fn a.arr params assign body
     rw [← hW2] at hel
     have hevf:∀ todo,(frm fr none kind a.arr todo dvn).eval f=.func (.func g) (first.map (V.den L)).toArray (caps.map (V.den L)).toArray:=by
      intro todo
      rw [frm_eval,hfv L (.refl _ _),den_fn]
     have hinv:((do let d ← resolve (frm fr none kind a.arr (.inRangeFunc (a.w.heap.size+1)::k) dvn).eval {callee:=.value f,args:=#[.const (.func (.yield (a.w.heap.size+1)) #[] #[])],argTypes:=#[]} 0;invoke d.target d.args):Sem Next).run P W2=.ok (.enter g av) W2:=by
      simp only [resolve,Deferred.ofValue,hevf,Sem.run_bind,Sem.run_pure,Result.andThen_ok,invoke]
      have he:#[Operand.const (.func (.yield (a.w.heap.size+1)) #[] #[])].map (frm fr none kind a.arr (.inRangeFunc (a.w.heap.size+1)::k) dvn).eval=#[Value.func (.yield (a.w.heap.size+1)) #[] #[]]:=by
       rw [frm_eval];simp [evalA]
      rw [he,hav]
      exact c4 _ _
     rw [hdvn] at hinv
     simp only [frm] at hinv
     simp only [stepG,stepG.exec,frm,Sem.runT_eq,hel]
     simp [stepG.apply,hdvn,hinv]
    ·refine step_lone_go ?_
     have hend:=run_endLoop (P:=P) v2 (by rw [v3];exact hbusy)
     rw [v4] at hend
     simp only [stepG,stepG.exec,frm,Sem.runT_eq,hend]
     simp
  ·cases h8
 ·cases h2
theorem stepX_ok (hE:EnvOK P E) (hS:SumOK P E) {run:X} (hr:XOK P run):XOK P (stepX E run):=by
 intro fr c T df s e T' df' s' h ho
 have hcf:=callX_ok hE hS hr
 have hyf:=yieldX_ok (P:=P) hr
 have plain:∀ c e',(e',T,df,s)=(e,T',df',s')→(∀ rv kind k cs a,Arrm P (At fr rv kind cs a (start c k)) fr rv kind k cs a e')→Lg s s'∧Obl s∧CodeOK P fr c T df s e T' df' s':=by
  rintro c e' he hA
  cases he
  exact ⟨.refl _,ho,Pc.stay hA⟩
 cases c with
 |skip=>simp only [stepX] at h;injection h with h;exact plain _ _ h fun _ _ _ _ _=>m_one stepR_skip
 |label l=>simp only [stepX] at h;injection h with h;exact plain _ _ h fun _ _ _ _ _=>m_one stepR_label
 |seq x y=>exact seq_ok hr h ho
 |cond c x y=>exact cond_ok hr h ho
 |block id c=>exact block_ok hr h ho
 |loop c=>exact loop_ok hr h ho
 |exit id=>simp only [stepX] at h;injection h with h;exact plain _ _ h fun _ _ _ _ _=>⟨_,.refl _ _,rfl⟩
 |goto l=>simp only [stepX] at h;injection h with h;exact plain _ _ h fun _ _ _ _ _=>⟨_,.refl _ _,rfl⟩
 |ret=>simp only [stepX] at h;injection h with h;exact plain _ _ h fun _ _ _ _ _=>⟨_,.refl _ _⟩
 |scope c=>exact scope_ok hr h ho
 |region id ops draw=>exact region_ok hE hcf hyf h ho
 |rangeFunc f params assign body=>exact rangeFunc_ok hE hr hcf h ho
 |refuse why=>simp [stepX] at h
theorem exec_ok (hE:EnvOK P E) (hS:SumOK P E):∀ n,XOK P (exec E n):=by
 intro n
 induction n with
 |zero=>intro fr c T df s e T' df' s' h;rw [exec_zero] at h;cases h
 |succ n ih=>rw [exec_succ];exact stepX_ok hE hS ih
theorem call_ok (hE:EnvOK P E) (hS:SumOK P E) (n:Nat):CfOK P E (callX (exec E n) E):=callX_ok hE hS (exec_ok hE hS n)
end
end Go.Sx
namespace Go.Sx
mutual
def V.ren (π:Nat→Nat):V→V
 |.int k n=>.int k n
 |.bool b=>.bool b
 |.nilp=>.nilp
 |.ptr n idx size off=>.ptr (π n) idx size off
 |.slice n start es len cap=>.slice (π n) start es len cap
 |.nils=>.nils
 |.osl n es=>.osl (π n) es
 |.osv n es base start len=>.osv (π n) es base start len
 |.fn f first caps=>.fn f (V.renL π first) (V.renL π caps)
 |.yld l=>.yld (π l)
 |.nilf=>.nilf
 |.iface t v=>.iface t (v.ren π)
 |.nili=>.nili
 |.agg cs=>.agg (V.renL π cs)
 |.tup vs=>.tup (V.renL π vs)
 |.str s=>.str s
 |.nilm=>.nilm
def V.renL (π:Nat→Nat):List V→List V
 |[]=>[]
 |v::vs=>v.ren π::V.renL π vs
end
theorem renL_eq (π:Nat→Nat) (l:List V):V.renL π l=l.map (V.ren π):=by
 induction l with
 |nil=>rfl
 |cons v vs ih=>simp [V.renL,ih]
mutual
theorem den_ren (π:Nat→Nat) (L:LM):∀ v:V,(v.ren π).den L=v.den (fun n=>L (π n))
 |.int k n=>rfl
 |.bool b=>rfl
 |.nilp=>rfl
 |.ptr n idx size off=>rfl
 |.slice n start es len cap=>rfl
 |.nils=>rfl
 |.osl n es=>rfl
 |.osv n es base start len=>rfl
 |.fn f first caps=>by simp only [V.ren,V.den,denL_ren π L first,denL_ren π L caps]
 |.yld l=>rfl
 |.nilf=>rfl
 |.iface t v=>by simp only [V.ren,V.den,den_ren π L v]
 |.nili=>rfl
 |.agg cs=>by simp only [V.ren,V.den,denL_ren π L cs]
 |.tup vs=>by simp only [V.ren,V.den,denL_ren π L vs]
 |.str s=>rfl
 |.nilm=>rfl
theorem denL_ren (π:Nat→Nat) (L:LM):∀ l:List V,V.denL L (V.renL π l)=V.denL (fun n=>L (π n)) l
 |[]=>rfl
 |v::vs=>by simp only [V.renL,V.denL,den_ren π L v,denL_ren π L vs]
end
def Body.ren (π:Nat→Nat):Body→Body
 |.cells cs=>.cells (V.renL π cs)
 |b=>b
theorem shRow_ren (π:Nat→Nat):∀ (sh:List Sh) (r:List Int),(shRow sh r).map (V.ren π)=shRow sh r:=by
 intro sh
 induction sh with
 |nil=>intro r;rfl
 |cons s ss ih=>
  intro r
  cases r with
  |nil=>cases s<;>simp [shRow,Sh.mk,V.ren,ih]
  |cons n ns=>cases s<;>simp [shRow,Sh.mk,V.ren,ih]
theorem flat_ren (π:Nat→Nat) (b:Body):(b.ren π).flat=b.flat.map (V.ren π):=by
 cases b with
 |cells cs=>simp [Body.ren,Body.flat,renL_eq]
 |words k ws=>simp [Body.ren,Body.flat,V.ren]
 |rows sh rs=>
  simp only [Body.ren,Body.flat,List.map_flatMap]
  congr 1
  funext r
  rw [shRow_ren]
theorem cellsOf_ren (π:Nat→Nat) (L:LM) (b:Body):XE L (b.ren π)=XE (fun n=>L (π n)) b:=by
 simp only [XE,flat_ren,List.map_map]
 congr 1
 funext v
 exact den_ren π L v
theorem count_ren (π:Nat→Nat) (b:Body) (es:Nat):(b.ren π).count es=b.count es:=by
 cases b<;>simp [Body.ren,Body.count,renL_eq]
def Ob.ren (π:Nat→Nat):Ob→Ob
 |.mem b t op=>.mem (b.ren π) t op
 |o=>o
def Ob.plain:Ob→Bool
 |.mem ..=>true
 |.ro ..=>true
 |_=>false
theorem isRo_ren (π:Nat→Nat) (o:Ob):(o.ren π).isRo=o.isRo:=by cases o<;>rfl
theorem ObR_ren {π:Nat→Nat} {L:LM} {w:World} {m:Nat} {o:Ob} (hp:o.plain=true):ObR L w (π m) (o.ren π)↔ObR (fun n=>L (π n)) w m o:=by
 cases o with
 |mem b t op=>
  cases op with
  |none=>simp only [Ob.ren,ObR,cellsOf_ren]
  |some es=>simp only [Ob.ren,ObR,cellsOf_ren,count_ren,flat_ren,List.length_map]
 |ro k ws=>exact Iff.rfl
 |loop=>cases hp
 |deferred=>cases hp
theorem SR.take {D D':Nat→Prop} {L:LM} {H H':Nat→Option Ob} {w:World} {π:Nat→Nat} (h:SR D L H w) (_hD:∀ m,D' m→D (π m))
  (hH:∀ m o,H' m=some o→o.plain=true∧D' m∧H (π m)=some (o.ren π)) (hmen:∀ m o L1 L2,H' m=some o→Agree D' L1 L2→ObR L1 w m o→ObR L2 w m o)
  (hinj:∀ m n om on,H' m=some om→H' n=some on→om.isRo=false→m≠n→π m≠π n):
  SR D' (fun n=>L (π n)) H' w:=by
 have h0:=h L (.refl _ _)
 intro L' hL'
 refine ⟨fun m o ho=>?_,fun m n om on hm hn hne hr hb=>?_⟩
 ·obtain ⟨h1,h2,h3⟩:=hH m o ho
  exact hmen m o _ _ ho hL' ((ObR_ren h1).1 (h0.ob _ _ h3))
 ·obtain ⟨a1,a2,a3⟩:=hH m om hm
  obtain ⟨b1,b2,b3⟩:=hH n on hn
  rw [← hL' m a2,← hL' n b2]
  rw [← hL' m a2] at hb
  exact h0.inj (π m) (π n) _ _ a3 b3 (hinj m n om on hm hn hr hne) (by rw [isRo_ren];exact hr) hb
mutual
def V.names (p:Nat→Bool):V→Bool
 |.ptr n _ _ _=>p n
 |.slice n _ _ _ _=>p n
 |.osl n _=>p n
 |.osv n _ _ _ _=>p n
 |.fn _ first caps=>V.namesL p first&&V.namesL p caps
 |.yld l=>p l
 |.iface _ v=>v.names p
 |.agg cs=>V.namesL p cs
 |.tup vs=>V.namesL p vs
 |_=>true
def V.namesL (p:Nat→Bool):List V→Bool
 |[]=>true
 |v::vs=>v.names p&&V.namesL p vs
end
mutual
theorem den_names {p:Nat→Bool} {L L':LM} (h:∀ n,p n=true→L n=L' n):∀ v:V,v.names p=true→v.den L=v.den L'
 |.int k n,_=>rfl
 |.bool b,_=>rfl
 |.nilp,_=>rfl
 |.ptr n idx size off,hv=>by simp only [V.names] at hv;simp only [V.den,h n hv]
 |.slice n start es len cap,hv=>by simp only [V.names] at hv;simp only [V.den,h n hv]
 |.nils,_=>rfl
 |.osl n es,hv=>by simp only [V.names] at hv;simp only [V.den,h n hv]
 |.osv n es base start len,hv=>by simp only [V.names] at hv;simp only [V.den,h n hv]
 |.fn f first caps,hv=>by
  simp only [V.names,Bool.and_eq_true] at hv
  simp only [V.den,denL_names h first hv.1,denL_names h caps hv.2]
 |.yld l,hv=>by simp only [V.names] at hv;simp only [V.den,h l hv]
 |.nilf,_=>rfl
 |.iface t v,hv=>by simp only [V.names] at hv;simp only [V.den,den_names h v hv]
 |.nili,_=>rfl
 |.agg cs,hv=>by simp only [V.names] at hv;simp only [V.den,denL_names h cs hv]
 |.tup vs,hv=>by simp only [V.names] at hv;simp only [V.den,denL_names h vs hv]
 |.str s,_=>rfl
 |.nilm,_=>rfl
theorem denL_names {p:Nat→Bool} {L L':LM} (h:∀ n,p n=true→L n=L' n):∀ l:List V,V.namesL p l=true→V.denL L l=V.denL L' l
 |[],_=>rfl
 |v::vs,hv=>by
  simp only [V.namesL,Bool.and_eq_true] at hv
  simp only [V.denL,den_names h v hv.1,denL_names h vs hv.2]
end
mutual
theorem ren_names {p:Nat→Bool} {π π':Nat→Nat} (h:∀ n,p n=true→π n=π' n):∀ v:V,v.names p=true→v.ren π=v.ren π'
 |.int k n,_=>rfl
 |.bool b,_=>rfl
 |.nilp,_=>rfl
 |.ptr n idx size off,hv=>by simp only [V.names] at hv;simp only [V.ren,h n hv]
 |.slice n start es len cap,hv=>by simp only [V.names] at hv;simp only [V.ren,h n hv]
 |.nils,_=>rfl
 |.osl n es,hv=>by simp only [V.names] at hv;simp only [V.ren,h n hv]
 |.osv n es base start len,hv=>by simp only [V.names] at hv;simp only [V.ren,h n hv]
 |.fn f first caps,hv=>by
  simp only [V.names,Bool.and_eq_true] at hv
  simp only [V.ren,renL_names h first hv.1,renL_names h caps hv.2]
 |.yld l,hv=>by simp only [V.names] at hv;simp only [V.ren,h l hv]
 |.nilf,_=>rfl
 |.iface t v,hv=>by simp only [V.names] at hv;simp only [V.ren,ren_names h v hv]
 |.nili,_=>rfl
 |.agg cs,hv=>by simp only [V.names] at hv;simp only [V.ren,renL_names h cs hv]
 |.tup vs,hv=>by simp only [V.names] at hv;simp only [V.ren,renL_names h vs hv]
 |.str s,_=>rfl
 |.nilm,_=>rfl
theorem renL_names {p:Nat→Bool} {π π':Nat→Nat} (h:∀ n,p n=true→π n=π' n):∀ l:List V,V.namesL p l=true→V.renL π l=V.renL π' l
 |[],_=>rfl
 |v::vs,hv=>by
  simp only [V.namesL,Bool.and_eq_true] at hv
  simp only [V.renL,ren_names h v hv.1,renL_names h vs hv.2]
end
def Body.names (p:Nat→Bool):Body→Bool
 |.cells cs=>V.namesL p cs
 |_=>true
def Ob.names (p:Nat→Bool):Ob→Bool
 |.mem b _ _=>b.names p
 |.ro ..=>true
 |_=>false
theorem cellsOf_names {p:Nat→Bool} {L L':LM} (h:∀ n,p n=true→L n=L' n) {b:Body} (hb:b.names p=true):XE L b=XE L' b:=by
 cases b with
 |cells cs=>simp only [Body.names] at hb;have:=denL_names h cs hb;simp only [XE,Body.flat];rw [← denL_eq,← denL_eq];exact this
 |words k ws=>
  simp only [XE,Body.flat,List.map_map]
  congr 1
 |rows sh rs=>
  simp only [XE,Body.flat,List.map_flatMap]
  congr 1
  funext r
  have:∀ (sh:List Sh) (r:List Int),(shRow sh r).map (V.den L)=(shRow sh r).map (V.den L'):=by
   intro sh
   induction sh with
   |nil=>intro r;rfl
   |cons s ss ih=>intro r;cases r<;>cases s<;>simp [shRow,Sh.mk,V.den,ih]
  exact this sh r
theorem ObR_names {p:Nat→Bool} {L L':LM} {w:World} {m:Nat} {o:Ob} (h:∀ n,p n=true→L n=L' n) (hm:p m=true) (ho:o.names p=true) (hR:ObR L w m o):ObR L' w m o:=by
 have hLm:=h m hm
 cases o with
 |mem b t op=>
  simp only [Ob.names] at ho
  cases op with
  |none=>simp only [ObR] at hR ⊢;rw [← hLm,← cellsOf_names h ho];exact hR
  |some es=>simp only [ObR] at hR ⊢;rw [← hLm,← cellsOf_names h ho];exact hR
 |ro k ws=>simp only [ObR] at hR ⊢;rw [← hLm];exact hR
 |loop=>cases ho
 |deferred=>cases ho
end Go.Sx
namespace Go.Sx
section
variable {P:Program}
def YD (P:Program) (f:FuncId) (args:List V) (n0:Nat) (Hc:Nat→Option Ob) (v:V) (n1:Nat) (Hc':Nat→Option Ob):Prop:=
 ∀ (L:LM) (w:World) (kind:CallKind) (cs:List Frame) (av:Array Value),SR (fun n=>n<n0) L Hc w→(∀ L',Agree (fun n=>n<n0) L L'→av.toList=args.map (V.den L'))→
  ∃ L' w' val,Mv (fun n=>n<n0) L Hc w L' Hc' w'∧SR (fun n=>n<n1) L' Hc' w'∧(∀ L'',Agree (fun n=>n<n1) L' L''→val=v.den L'')∧
   ∃ fr',Steps P (lone (Frame.enter P f av kind) cs w) (lone fr' cs w')∧Leav P fr' f kind val w'
def ext (π:Nat→Nat) (n0 nx:Nat) (m:Nat):Nat:=if m<n0 then π m else nx+(m - n0)
theorem names_lt {n0:Nat} {L L':LM} (h:Agree (fun n=>n<n0) L L'):∀ n,(fun n=>decide (n<n0)) n=true→L n=L' n:=fun n hn=>h n (by simpa using hn)
theorem embed {f:FuncId} {ac:List V} {n0 n1:Nat} {Hc Hc':Nat→Option Ob} {vc:V} (h:YD P f ac n0 Hc vc n1 Hc') (hle:n0≤n1)
  (hsup:∀ m,n0≤m→Hc m=none) (hall:∀ m,m<n0→∃ o,Hc m=some o∧o.plain=true∧o.names (fun n=>decide (n<n0))=true) (hsame:∀ m,m<n0→Hc' m=Hc m)
  (hnew:∀ m o,Hc' m=some o→o.plain=true∧m<n1) (hac:∀ v∈ac,v.names (fun n=>decide (n<n0))=true)
  {s s':St} {args:List V} {v:V} (π:Nat→Nat) (hπ:∀ m o,Hc m=some o→s.H.get (π m)=some (o.ren π)) (hinj:∀ m n,m<n0→n<n0→m≠n→π m≠π n)
  (hargs:args=ac.map (V.ren π)) (hv:v=vc.ren (ext π n0 s.nx)) (hnx:s'.nx=s.nx+(n1 - n0))
  (hH:∀ n,s'.H.get n=if s.nx≤n∧n<s'.nx then (Hc' (n - s.nx+n0)).map (Ob.ren (ext π n0 s.nx)) else s.H.get n):YB P f args s v s':=by
 intro D L w kind cs av hSR hav hD
 have hDπ:∀ m,m<n0→D (π m):=fun m hm=>by obtain ⟨o,ho,_⟩:=hall m hm;exact hSR.live (hπ m o ho)
 have hout:∀ n,D n→¬ (s.nx≤n∧n<s'.nx):=fun n hn=>by rcases hD n hn with h|h<;>omega
 have hSRc:SR (fun n=>n<n0) (fun n=>L (π n)) Hc w:=by
  refine hSR.take (fun m hm=>hDπ m hm) (fun m o ho=>?_) (fun m o L1 L2 ho hA hR=>?_) (fun m n om on hm hn _ hne=>?_)
  ·have hm:m<n0:=by
    refine Nat.lt_of_not_le fun hle=>?_
    rw [hsup m hle] at ho;cases ho
   obtain ⟨o',h1,h2,_⟩:=hall m hm
   rw [h1] at ho;cases ho
   exact ⟨h2,hm,hπ m _ h1⟩
  ·have hm:m<n0:=by
    refine Nat.lt_of_not_le fun hle=>?_
    rw [hsup m hle] at ho;cases ho
   obtain ⟨o',h1,_,h3⟩:=hall m hm
   rw [h1] at ho;cases ho
   exact ObR_names (names_lt hA) (by simpa using hm) h3 hR
  ·have lt:∀ m o,Hc m=some o→m<n0:=fun m o ho=>Nat.lt_of_not_le fun hle=>by rw [hsup m hle] at ho;cases ho
   exact hinj m n (lt m _ hm) (lt n _ hn) hne
 obtain ⟨L1,w',val,M,S,hval,fr',hst,hlv⟩:=h (fun n=>L (π n)) w kind cs av hSRc (by
  intro L' hL'
  rw [hav L (.refl _ _),hargs,List.map_map]
  refine List.map_congr_left fun v hv=>?_
  rw [Function.comp,den_ren]
  exact den_names (names_lt hL') v (hac v hv))
 have hlt:∀ m o,Hc m=some o→m<n0:=fun m o ho=>Nat.lt_of_not_le fun hle=>by rw [hsup m hle] at ho;cases ho
 have hro:∀ m o,Hc' m=some o→o.isRo=true→m<n0:=fun m o ho hr=>hlt m o (M.ro m o ho hr)
 obtain ⟨π',hπ'⟩:∃ π',π'=ext π n0 s.nx:=⟨_,rfl⟩
 rw [← hπ'] at hv hH
 have hπlt:∀ m,m<n0→π' m=π m:=fun m hm=>by rw [hπ'];simp [ext,hm]
 have hπge:∀ m,n0≤m→π' m=s.nx+(m - n0):=fun m hm=>by rw [hπ'];simp [ext,Nat.not_lt.2 hm]
 have hren:∀ m o,Hc m=some o→o.ren π'=o.ren π:=by
  intro m o ho
  obtain ⟨o',h1,h2,h3⟩:=hall m (hlt m o ho)
  rw [ho] at h1;cases h1
  have key:∀ v:V,v.names (fun n=>decide (n<n0))=true→v.ren π'=v.ren π:=by
   intro v
   refine V.rec (motive_1:=fun v=>v.names (fun n=>decide (n<n0))=true→v.ren π'=v.ren π) (motive_2:=fun l=>V.namesL (fun n=>decide (n<n0)) l=true→V.renL π' l=V.renL π l)
    ?_ ?_ ?_ ?_ ?_ ?_ ?_ ?_ ?_ ?_ ?_ ?_ ?_ ?_ ?_ ?_ ?_ ?_ ?_ v
   ·intros;rfl
   ·intros;rfl
   ·intros;rfl
   ·intro n idx size off hv;simp only [V.names,decide_eq_true_eq] at hv;simp only [V.ren,hπlt n hv]
   ·intro n a b c d hv;simp only [V.names,decide_eq_true_eq] at hv;simp only [V.ren,hπlt n hv]
   ·intros;rfl
   ·intro n es hv;simp only [V.names,decide_eq_true_eq] at hv;simp only [V.ren,hπlt n hv]
   ·intro n a b c d hv;simp only [V.names,decide_eq_true_eq] at hv;simp only [V.ren,hπlt n hv]
   ·intro f a b ha hb hv;simp only [V.names,Bool.and_eq_true] at hv;simp only [V.ren,ha hv.1,hb hv.2]
   ·intro n hv;simp only [V.names,decide_eq_true_eq] at hv;simp only [V.ren,hπlt n hv]
   ·intros;rfl
   ·intro t v hv' hv;simp only [V.names] at hv;simp only [V.ren,hv' hv]
   ·intros;rfl
   ·intro l hl hv;simp only [V.names] at hv;simp only [V.ren,hl hv]
   ·intro l hl hv;simp only [V.names] at hv;simp only [V.ren,hl hv]
   ·intros;rfl
   ·intros;rfl
   ·intros;rfl
   ·intro v l hv hl hvl;simp only [V.namesL,Bool.and_eq_true] at hvl;simp only [V.renL,hv hvl.1,hl hvl.2]
  cases o with
  |mem b t op=>
   cases b with
   |cells cs=>
    simp only [Ob.names,Body.names] at h3
    simp only [Ob.ren,Body.ren]
    congr 2
    have:∀ l:List V,V.namesL (fun n=>decide (n<n0)) l=true→V.renL π' l=V.renL π l:=by
     intro l
     induction l with
     |nil=>intro _;rfl
     |cons v l ih=>intro hl;simp only [V.namesL,Bool.and_eq_true] at hl;simp only [V.renL,key v hl.1,ih hl.2]
    exact this cs h3
   |words k ws=>rfl
   |rows sh rs=>rfl
  |ro k ws=>rfl
  |loop=>cases h2
  |deferred=>cases h2
 obtain ⟨L',hL'⟩:∃ L':LM,L'=fun n=>if s.nx≤n∧n<s'.nx then L1 (n - s.nx+n0) else L n:=⟨_,rfl⟩
 have hL'old:∀ n,¬ (s.nx≤n∧n<s'.nx)→L' n=L n:=fun n hn=>by rw [hL'];simp only [if_neg hn]
 have hL'new:∀ m,n0≤m→m<n1→L' (π' m)=L1 m:=fun m h1 h2=>by
  rw [hL',hπge m h1]
  have:s.nx≤s.nx+(m - n0)∧s.nx+(m - n0)<s'.nx:=⟨by omega,by omega⟩
  simp only [if_pos this]
  congr 1;omega
 have hagr:Agree D L L':=fun n hn=>(hL'old n (hout n hn)).symm
 have hL1:∀ m,m<n1→L1 m=L' (π' m):=by
  intro m hm
  by_cases h1:m<n0
  ·rw [hπlt m h1,hL'old _ (hout _ (hDπ m h1)),← M.agree m h1]
  ·exact (hL'new m (by omega) hm).symm
 have himg:∀ n o,s'.H.get n=some o→(∃ m oc,n=π' m∧m<n1∧Hc' m=some oc∧o=oc.ren π'∧(n0≤m∨s.H.get n=some o))∨(s.H.get n=some o∧(∀ m,m<n0→n≠π m)∧¬ (s.nx≤n∧n<s'.nx)):=by
  intro n o ho
  rw [hH] at ho
  by_cases hn:s.nx≤n∧n<s'.nx
  ·rw [if_pos hn] at ho
   cases hc:Hc' (n - s.nx+n0) with
   |none=>rw [hc] at ho;cases ho
   |some oc=>
    rw [hc] at ho
    cases ho
    exact .inl ⟨_,oc,by rw [hπge _ (by omega)];omega,by omega,hc,rfl,.inl (by omega)⟩
  ·rw [if_neg hn] at ho
   by_cases hi:∃ m,m<n0∧n=π m
   ·obtain ⟨m,hm,rfl⟩:=hi
    obtain ⟨oc,h1,h2,h3⟩:=hall m hm
    have h4:=hπ m oc h1
    rw [ho] at h4
    cases h4
    exact .inl ⟨m,oc,(hπlt m hm).symm,by omega,by rw [hsame m hm];exact h1,(hren m oc h1).symm,.inr ho⟩
   ·exact .inr ⟨ho,fun m hm e=>hi ⟨m,hm,e⟩,hn⟩
 have hback:∀ b,(∃ j oj,Hc j=some oj∧oj.isRo=false∧(L (π j)).blk=some b)→∃ m om,s.H.get m=some om∧om.isRo=false∧(L m).blk=some b∧∃ j,j<n0∧m=π j:=by
  rintro b ⟨j,oj,h1,h2,h3⟩
  exact ⟨π j,_,hπ j oj h1,by rw [isRo_ren];exact h2,h3,j,hlt j oj h1,rfl⟩
 have hMv:Mv D L s.H.get w L' s'.H.get w':=by
  refine ⟨hagr,M.size,fun b hb hn=>?_,fun n o b ho hr hb=>?_,M.os,M.tape,M.output,fun n o ho hr=>?_⟩
  ·exact M.frame b hb fun m o ho hr hbl=>hn (π m) _ (hπ m o ho) (by rw [isRo_ren];exact hr) hbl
  ·rcases himg n o ho with ⟨m,oc,rfl,hm,hc,rfl,_⟩|⟨h1,h2,h3⟩
   ·rw [isRo_ren] at hr
    rw [← hL1 m hm] at hb
    rcases M.sub m oc b hc hr hb with h4|h4
    ·exact .inl h4
    ·obtain ⟨m',om,g1,g2,g3,_⟩:=hback b h4
     exact .inr ⟨m',om,g1,g2,g3⟩
   ·rw [hL'old n h3] at hb
    exact .inr ⟨n,o,h1,hr,hb⟩
  ·rcases himg n o ho with ⟨m,oc,rfl,hm,hc,rfl,h4⟩|⟨h1,h2,h3⟩
   ·rw [isRo_ren] at hr
    have:=hro m oc hc hr
    rcases h4 with h4|h4
    ·omega
    ·exact h4
   ·exact h1
 refine ⟨L',w',val,hMv,?_,?_,fr',hst,hlv⟩
 ·intro L'' hL''
  have hA:∀ n,D n→L'' n=L n:=fun n hn=>by rw [← hL'' n (.inl hn)];exact (hagr n hn).symm
  have hA1:Agree (fun m=>m<n1) L1 (fun m=>L'' (π' m)):=by
   intro m hm
   by_cases h1:m<n0
   ·simp only [hπlt m h1,hA _ (hDπ m h1),← M.agree m h1]
   ·have h2:Grow D s.nx s'.nx (π' m):=.inr (by rw [hπge m (by omega)];have hm:m<n1:=hm;exact ⟨by omega,by omega⟩)
    show L1 m=L'' (π' m)
    rw [← hL'' _ h2]
    exact hL1 m hm
  have hc:=S _ hA1
  have ho0:=hSR L'' (fun n hn=>(hA n hn).symm)
  refine ⟨fun n o ho=>?_,fun n m on om hn hm hne hr hb=>?_⟩
  ·rcases himg n o ho with ⟨m,oc,rfl,hm,hcm,rfl,_⟩|⟨h1,h2,h3⟩
   ·exact (ObR_ren (hnew m oc hcm).1).2 (hc.ob m oc hcm)
   ·have hDn:=hSR.live h1
    refine (ho0.ob n o h1).keep M.size fun b hb hbl=>M.frame b hbl fun j oj hj hjr hjb=>?_
    have hne:π j≠n:=fun e=>h2 j (hlt j oj hj) e.symm
    have:=ho0.inj (π j) n _ _ (hπ j oj hj) h1 hne (by rw [isRo_ren];exact hjr) (by rw [hA _ (hDπ j (hlt j oj hj)),hjb];simp)
    rw [hA _ (hDπ j (hlt j oj hj)),hjb,hb] at this
    exact this rfl
  ·intro heq
   have mix:∀ (n m:Nat) (on om:Ob) (j:Nat),s.H.get n=some on→(∀ i,i<n0→n≠π i)→Hc' j=some om→j<n1→(on.isRo=false∨om.isRo=false)→(L'' n).blk≠none→(L'' n).blk≠(L'' (π' j)).blk:=by
    intro n m on om j hn hni hj hjlt hrr hbn he
    have hDn:=hSR.live hn
    cases hb:(L'' n).blk with
    |none=>exact hbn hb
    |some b=>
     have hblt:=(ho0.ob n on hn).blk_lt hb
     rw [hb] at he
     cases hr:om.isRo with
     |true=>
      have hj0:=hro j om hj hr
      rcases hrr with h1|h1
      ·have h2:Hc j=some om:=by rw [← hsame j hj0];exact hj
       have h3:=ho0.inj n (π j) _ _ hn (hπ j om h2) (hni j hj0) h1 hbn
       rw [hπlt j hj0] at he
       exact h3 (by rw [hb,he])
      ·rw [hr] at h1;cases h1
     |false=>
      have hb1:(L1 j).blk=some b:=by rw [hA1 j hjlt];exact he.symm
      rcases M.sub j om b hj hr hb1 with h4|h4
      ·omega
      ·obtain ⟨m',om',g1,g2,g3,i,hi,rfl⟩:=hback b h4
       have h3:=ho0.inj (π i) n _ _ g1 hn (fun e=>hni i hi e.symm) g2 (by rw [hA _ (hDπ i hi),g3];simp)
       rw [hA _ (hDπ i hi),g3,hb] at h3
       exact h3 rfl
   rcases himg n on hn with ⟨j,oc,rfl,hj,hcj,rfl,_⟩|⟨h1,h2,h3⟩
   ·rw [isRo_ren] at hr
    rcases himg m om hm with ⟨i,od,rfl,hi,hci,rfl,_⟩|⟨g1,g2,g3⟩
    ·exact hc.inj j i oc od hcj hci (fun e=>hne (by rw [e])) hr hb heq
    ·exact mix m (π' j) om oc j g1 g2 hcj hj (.inr hr) (by rw [← heq];exact hb) heq.symm
   ·rcases himg m om hm with ⟨i,od,rfl,hi,hci,rfl,_⟩|⟨g1,g2,g3⟩
    ·exact mix n (π' i) on od i h1 h2 hci hi (.inl hr) hb heq
    ·exact ho0.inj n m on om h1 g1 hne hr hb heq
 ·intro L'' hL''
  have hA:∀ n,D n→L'' n=L n:=fun n hn=>by rw [← hL'' n (.inl hn)];exact (hagr n hn).symm
  have hA1:Agree (fun m=>m<n1) L1 (fun m=>L'' (π' m)):=by
   intro m hm
   by_cases h1:m<n0
   ·simp only [hπlt m h1,hA _ (hDπ m h1),← M.agree m h1]
   ·have h2:Grow D s.nx s'.nx (π' m):=.inr (by rw [hπge m (by omega)];have hm:m<n1:=hm;exact ⟨by omega,by omega⟩)
    show L1 m=L'' (π' m)
    rw [← hL'' _ h2]
    exact hL1 m hm
  rw [hval _ hA1,hv,den_ren]
end
end Go.Sx
