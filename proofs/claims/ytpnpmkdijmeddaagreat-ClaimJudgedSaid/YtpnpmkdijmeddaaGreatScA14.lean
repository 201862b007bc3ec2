/- A Claim's and a Peek's Step: their summaries. -/
import Derived.Test.YtpnpmkdijmeddaaGreatScA13
set_option maxRecDepth 100000
namespace Go.Sx
open Go.Proofs
def ptClT:List Pt:=[.i .i64,.i .u64,.i .i64,.i .u64,.i .u64,.i .i64,.i .u64,.b,.i .i64]
def ptCl0:List Pt:=ptTw++[.i .i64,.b,.np,.np]++ptClT
def ptCl1:List Pt:=ptTw++[.i .i64,.b,.p,.np]++ptClT
def ptCl2:List Pt:=ptTw++[.i .i64,.b,.p,.p]++ptClT
def ptPk:List Pt:=ptTw++ptClT
def clOf (is:List Int) (bs:List Bool):ClC:=⟨Tw.ofL is,(tlN 13 is).headD 0,bs.headD false,(tlN 14 is).headD 0,(tlN 15 is).headD 0,(tlN 16 is).headD 0,(tlN 17 is).headD 0,(tlN 18 is).headD 0,(tlN 19 is).headD 0,(tlN 20 is).headD 0,bs.tail.headD false,(tlN 21 is).headD 0⟩
def pkOf (is:List Int) (bs:List Bool):ClC:=⟨Tw.ofL is,0,false,(tlN 13 is).headD 0,(tlN 14 is).headD 0,(tlN 15 is).headD 0,(tlN 16 is).headD 0,(tlN 17 is).headD 0,(tlN 18 is).headD 0,(tlN 19 is).headD 0,bs.headD false,(tlN 20 is).headD 0⟩
structure CG where
 x:ClC
 p:Nat
 r:Nat
def gCl (pt:List Pt) (p:Nat) (H:Tr Ob):Option CG:=(gCells 103 pt (H.get p)).bind fun (is,bs,ns)=>some ⟨clOf is bs,ns.headD 0,ns.tail.headD 0⟩
theorem gCl0_ok {p:Nat} {H:Tr Ob} {g:CG} (h:gCl ptCl0 p H=some g):H.get p=some (claM .nilp .nilp g.x):=by
 unfold gCl at h
 obtain ⟨⟨is,bs,ns⟩,h1,h⟩:=XA h
 cases h
 exact gCells_ok h1
theorem gCl1_ok {p:Nat} {H:Tr Ob} {g:CG} (h:gCl ptCl1 p H=some g):H.get p=some (claM (.ptr g.p 0 0 0) .nilp g.x):=by
 unfold gCl at h
 obtain ⟨⟨is,bs,ns⟩,h1,h⟩:=XA h
 cases h
 exact gCells_ok h1
theorem gCl2_ok {p:Nat} {H:Tr Ob} {g:CG} (h:gCl ptCl2 p H=some g):H.get p=some (claM (.ptr g.p 0 0 0) (.ptr g.r 0 0 0) g.x):=by
 unfold gCl at h
 obtain ⟨⟨is,bs,ns⟩,h1,h⟩:=XA h
 cases h
 exact gCells_ok h1
def gPk (p:Nat) (H:Tr Ob):Option ClC:=(gCells 114 ptPk (H.get p)).bind fun (is,bs,_)=>some (pkOf is bs)
theorem gPk_ok {p:Nat} {H:Tr Ob} {g:ClC} (h:gPk p H=some g):H.get p=some (pekM g):=by
 unfold gPk at h
 obtain ⟨⟨is,bs,ns⟩,h1,h⟩:=XA h
 cases h
 exact gCells_ok h1
def KC (x y:ClC):Prop:=y.t=x.t∧y.made=x.made
def keepC (x y:ClC):ClC:={y with t:=x.t,made:=x.made}
theorem keepC_of {x y:ClC} (h:KC x y):keepC x y=y:=by
 obtain ⟨h1,h2⟩:=h
 unfold keepC
 rw [← h1,← h2]
theorem KC_fir (x:ClC) (j:MJ) (ws:List Int):KC x (firC x j ws).x:=by
 unfold firC
 by_cases h1:x.ln=1
 ·rw [if_pos h1]
  by_cases h:inT x.t.size (rawA (ws.getD (nxA x.t (-1) 0).toNat 0))
  ·rw [if_pos h];exact ⟨rfl,rfl⟩
  ·rw [if_neg h];exact ⟨rfl,rfl⟩
 ·rw [if_neg h1]
  by_cases h2:x.ln=2
  ·rw [if_pos h2];exact ⟨rfl,rfl⟩
  ·rw [if_neg h2];exact ⟨rfl,rfl⟩
theorem KC_cst (x:ClC) (j:MJ) (ws:List Int):KC x (cstC x j ws).x:=by
 unfold cstC
 by_cases h1:x.ln=1∨x.ln=2∨x.ln=3
 ·rw [if_pos h1];exact KC_fir x j ws
 by_cases h4:x.ln=4
 ·rw [if_neg h1,if_pos h4];exact ⟨rfl,rfl⟩
 by_cases h5:x.ln=5
 ·rw [if_neg h1,if_neg h4,if_pos h5]
  by_cases h:rawM (ws.getD (ptA x.t x.i (4+x.lv)).toNat 0)=true
  ·rw [if_pos h];exact ⟨rfl,rfl⟩
  ·rw [if_neg h];exact ⟨rfl,rfl⟩
 by_cases h6:x.ln=6
 ·rw [if_neg h1,if_neg h4,if_neg h5,if_pos h6]
  by_cases h:ws.getD (nxA x.t x.i x.lv).toNat 0=x.w
  ·rw [if_pos h];exact ⟨rfl,rfl⟩
  ·rw [if_neg h];exact ⟨rfl,rfl⟩
 by_cases h7:x.ln=7
 ·rw [if_neg h1,if_neg h4,if_neg h5,if_neg h6,if_pos h7];exact ⟨rfl,rfl⟩
 by_cases h8:x.ln=8
 ·rw [if_neg h1,if_neg h4,if_neg h5,if_neg h6,if_neg h7,if_pos h8]
  by_cases h:ws.getD (nxA x.t x.i 0).toNat 0=x.w
  ·rw [if_pos h];exact ⟨rfl,rfl⟩
  ·rw [if_neg h];exact ⟨rfl,rfl⟩
 by_cases h9:x.ln=9
 ·rw [if_neg h1,if_neg h4,if_neg h5,if_neg h6,if_neg h7,if_neg h8,if_pos h9];exact ⟨rfl,rfl⟩
 rw [if_neg h1,if_neg h4,if_neg h5,if_neg h6,if_neg h7,if_neg h8,if_neg h9];exact ⟨rfl,rfl⟩
theorem KC_qst (x:ClC) (j:MJ) (ws:List Int):KC x (qstC x j ws).x:=by
 unfold qstC
 by_cases h1:x.ln=4
 ·rw [if_pos h1];exact ⟨rfl,rfl⟩
 by_cases h4:x.ln=5
 ·rw [if_neg h1,if_pos h4];exact ⟨rfl,rfl⟩
 rw [if_neg h1,if_neg h4];exact KC_fir x j ws
theorem KC_dst (x:ClC) (f:FdC) (rs:List (List Int)) (j:MJ) (ws:List Int):KC x (dstC x f rs j ws).1:=by
 unfold dstC
 by_cases h1:x.ln=10
 ·rw [if_pos h1];exact ⟨rfl,rfl⟩
 ·rw [if_neg h1];exact ⟨rfl,rfl⟩
def smC0 (p m:Nat) (g:CG) (s:St):Option (V×St):=(gMem m s.H).bind fun k=>(need (decide (cPre g.x k.n k.ws)) s).bind fun s1=>
 match dec (decide (g.x.ln=91)) s1 with
 |(true,s2)=>(memS [p,k.m,k.w] [some (claM (.ptr 3 0 0 0) .nilp (keepC g.x (cstC g.x k.j k.ws).x)),some (memM 2 k.n (cstC g.x k.j k.ws).j),some (XL (cstC g.x k.j k.ws).ws),some (findM 4 (newF g.x.t g.x.gk)),some (toldM (newR g.x.t))] s2).bind fun s3=>some (.bool false,s3)
 |(false,s2)=>(memS [p,k.m,k.w] (cA (keepC g.x (cstC g.x k.j k.ws).x) k.n (cstC g.x k.j k.ws).j (cstC g.x k.j k.ws).ws) s2).bind fun s3=>some (.bool ((cstC g.x k.j k.ws).x.ln==99),s3)
def smC1 (p m:Nat) (g:CG) (s:St):Option (V×St):=(gFind g.p s.H).bind fun q=>(gMem m s.H).bind fun k=>(need (decide (dPre g.x q.x q.rs k.n k.ws)) s).bind fun s1=>
 match dec (decide (dNR g.x k.ws)) s1 with
 |(true,s2)=>(memS [p,q.f,q.td,k.m,k.w] (cB (.ptr 5 0 0 0) (keepC g.x (dstC g.x q.x q.rs k.j k.ws).1) q.x q.rs k.n (dstC g.x q.x q.rs k.j k.ws).2.j (dstC g.x q.x q.rs k.j k.ws).2.ws++[some (reM (.fn fLook [.ptr 5 0 0 0] []) .nilp ⟨true,0,g.x.t,g.x.i⟩)]) s2).bind fun s3=>some (.bool false,s3)
 |(false,s2)=>(memS [p,q.f,q.td,k.m,k.w] (cB .nilp (keepC g.x (dstC g.x q.x q.rs k.j k.ws).1) (keepF q.x (dstC g.x q.x q.rs k.j k.ws).2.x) (dstC g.x q.x q.rs k.j k.ws).2.rs k.n (dstC g.x q.x q.rs k.j k.ws).2.j (dstC g.x q.x q.rs k.j k.ws).2.ws) s2).bind fun s3=>some (.bool ((dstC g.x q.x q.rs k.j k.ws).1.ln==99),s3)
def reC (x:ClC) (l:Int):ClC:={x with ln:=l,by':=0}
def smC2 (p m:Nat) (g:CG) (s:St):Option (V×St):=(gFind g.p s.H).bind fun q=>(gMem m s.H).bind fun k=>(gRe0 g.r s.H).bind fun r=>(need (decide (g.x.ln=12∧g.x.made=true∧XS r.x.t.at' k.n k.ws∧0≤r.x.i∧r.x.i<r.x.t.size)) s).bind fun s1=>
 (memS [p,q.f,q.td,k.m,k.w,g.r] (cB (.ptr 5 0 0 0) (reC g.x 12) q.x q.rs k.n (jLd k.ws r.x.t.at' k.j) k.ws++[some (reM (.fn fPush [.ptr 5 0 0 0] []) (.ptr 6 0 0 0) r.x),some (puM (newP r.x.t r.x.i (k.ws.getD r.x.t.at'.toNat 0)))]) s1).bind fun s2=>some (.bool false,s2)
def smC3 (p m:Nat) (g:CG) (s:St):Option (V×St):=(gFind g.p s.H).bind fun q=>(gMem m s.H).bind fun k=>(gRe1 g.r s.H).bind fun r=>(gPu r.p s.H).bind fun x=>(need (decide (g.x.ln=12∧g.x.made=true∧pPre x k.n k.ws)) s).bind fun s1=>
 match dec (decide (pOver x k.ws)) s1 with
 |(true,s2)=>(memS [p,q.f,q.td,k.m,k.w,g.r,r.p] (cB (.ptr 5 0 0 0) (reC g.x 99) q.x q.rs k.n (pstC x k.j k.ws).j (pstC x k.j k.ws).ws++[some (reM .nilf (.ptr 6 0 0 0) r.x),some (puM (pstC x k.j k.ws).x)]) s2).bind fun s3=>some (.bool true,s3)
 |(false,s2)=>(memS [p,q.f,q.td,k.m,k.w,g.r,r.p] (cB (.ptr 5 0 0 0) (reC g.x 12) q.x q.rs k.n (pstC x k.j k.ws).j (pstC x k.j k.ws).ws++[some (reM (.fn fPush [.ptr 5 0 0 0] []) (.ptr 6 0 0 0) r.x),some (puM (keepP x (pstC x k.j k.ws).x))]) s2).bind fun s3=>some (.bool false,s3)
def smCStep (args:List V) (s:St):Option (V×St):=
 match args with
 |[.ptr p a b c,.ptr m a' b' c']=>(chk (isZ a b c)).bind fun _=>(chk (isZ a' b' c')).bind fun _=>match gCl ptCl0 p s.H with
  |some g=>smC0 p m g s
  |none=>match gCl ptCl1 p s.H with
   |some g=>smC1 p m g s
   |none=>(gCl ptCl2 p s.H).bind fun g=>match gRe0 g.r s.H with
    |some _=>smC2 p m g s
    |none=>smC3 p m g s
 |_=>none
def smPStep (args:List V) (s:St):Option (V×St):=
 match args with
 |[.ptr p a b c,.ptr m a' b' c']=>(chk (isZ a b c)).bind fun _=>(chk (isZ a' b' c')).bind fun _=>(gPk p s.H).bind fun g=>(gMem m s.H).bind fun k=>(need (decide (qPre g k.n k.ws)) s).bind fun s1=>
   (memS [p,k.m,k.w] (pA' (keepC g (qstC g k.j k.ws).x) k.n (qstC g k.j k.ws).j (qstC g k.j k.ws).ws) s1).bind fun s2=>some (.bool ((qstC g k.j k.ws).x.ln==99),s2)
 |_=>none
theorem smC0_ok {p m:Nat} {g:CG} {s s':St} {v:V} (h:smC0 p m g s=some (v,s')) (hg:s.H.get p=some (claM .nilp .nilp g.x)) (ho:Obl s'):Lg s s'∧Obl s∧YB PR 15 [.ptr p 0 0 0,.ptr m 0 0 0] s v s':=by
 unfold smC0 at h
 simp only [Option.bind_eq_some_iff] at h
 obtain ⟨k,h1',s1,h2,h⟩:=h
 obtain ⟨k0,k1,k2⟩:=gMem_ok h1'
 subst k0
 have hl:[p,k.m,k.w].map s.H.get=(cA g.x k.n k.j k.ws).map (Option.map (Ob.ren (πf [p,k.m,k.w]))):=by
  simp only [List.map_cons,List.map_nil,hg,k1,k2];rfl
 have hk:=keepC_of (KC_cst g.x k.j k.ws)
 split at h
 ·rename_i s2 hdec
  simp only [Option.bind_eq_some_iff] at h
  obtain ⟨s3,h3,h4⟩:=h
  cases h4
  obtain ⟨hb,hqd⟩:=dec_ok hdec (XN h3 ho)
  obtain ⟨hd,hq⟩:=XI h2 hqd.2
  rw [hk] at h3
  exact XO (l:=cA g.x k.n k.j k.ws) (ac:=cArgs) (cst_91 (of_decide_eq_true hd) (of_decide_eq_true hb.symm)) rfl (by kernel_rfl) (by kernel_rfl) (by kernel_rfl) (hq.trans hqd.1) h3 hl rfl rfl
 ·rename_i s2 hdec
  simp only [Option.bind_eq_some_iff] at h
  obtain ⟨s3,h3,h4⟩:=h
  cases h4
  obtain ⟨hb,hqd⟩:=dec_ok hdec (XN h3 ho)
  obtain ⟨hd,hq⟩:=XI h2 hqd.2
  rw [hk] at h3
  exact XO (l:=cA g.x k.n k.j k.ws) (ac:=cArgs) (cst_call (of_decide_eq_true hd) (of_decide_eq_false hb.symm)) rfl (by kernel_rfl) (by kernel_rfl) (by kernel_rfl) (hq.trans hqd.1) h3 hl rfl rfl
theorem smC1_ok {p m:Nat} {g:CG} {s s':St} {v:V} (h:smC1 p m g s=some (v,s')) (hg:s.H.get p=some (claM (.ptr g.p 0 0 0) .nilp g.x)) (ho:Obl s'):Lg s s'∧Obl s∧YB PR 15 [.ptr p 0 0 0,.ptr m 0 0 0] s v s':=by
 unfold smC1 at h
 simp only [Option.bind_eq_some_iff] at h
 obtain ⟨q,h1,k,h1',s1,h2,h⟩:=h
 obtain ⟨q0,q1,q2⟩:=gFind_ok h1
 obtain ⟨k0,k1,k2⟩:=gMem_ok h1'
 subst k0
 have hl:[p,q.f,q.td,k.m,k.w].map s.H.get=(cB .nilp g.x q.x q.rs k.n k.j k.ws).map (Option.map (Ob.ren (πf [p,q.f,q.td,k.m,k.w]))):=by
  simp only [List.map_cons,List.map_nil,hg,q0,q1,q2,k1,k2];rfl
 have hk:=keepC_of (KC_dst g.x q.x q.rs k.j k.ws)
 split at h
 ·rename_i s2 hdec
  simp only [Option.bind_eq_some_iff] at h
  obtain ⟨s3,h3,h4⟩:=h
  cases h4
  obtain ⟨hb,hqd⟩:=dec_ok hdec (XN h3 ho)
  obtain ⟨hd,hq⟩:=XI h2 hqd.2
  rw [hk] at h3
  exact XO (l:=cB .nilp g.x q.x q.rs k.n k.j k.ws) (ac:=iArgs) (dst_callR (of_decide_eq_true hd) (of_decide_eq_true hb.symm)) rfl (by kernel_rfl) (by kernel_rfl) (by kernel_rfl) (hq.trans hqd.1) h3 hl rfl rfl
 ·rename_i s2 hdec
  simp only [Option.bind_eq_some_iff] at h
  obtain ⟨s3,h3,h4⟩:=h
  cases h4
  obtain ⟨hb,hqd⟩:=dec_ok hdec (XN h3 ho)
  obtain ⟨hd,hq⟩:=XI h2 hqd.2
  rw [hk] at h3
  exact XO (l:=cB .nilp g.x q.x q.rs k.n k.j k.ws) (ac:=iArgs) (dst_call (of_decide_eq_true hd) (of_decide_eq_false hb.symm)) rfl (by kernel_rfl) (by kernel_rfl) (by kernel_rfl) (hq.trans hqd.1) h3 hl rfl rfl
theorem smC2_ok {p m:Nat} {g:CG} {s s':St} {v:V} (h:smC2 p m g s=some (v,s')) (hg:s.H.get p=some (claM (.ptr g.p 0 0 0) (.ptr g.r 0 0 0) g.x)) (ho:Obl s'):Lg s s'∧Obl s∧YB PR 15 [.ptr p 0 0 0,.ptr m 0 0 0] s v s':=by
 unfold smC2 at h
 simp only [Option.bind_eq_some_iff] at h
 obtain ⟨q,h1,k,h1',r,h1r,s1,h2,s2,h3,h4⟩:=h
 cases h4
 obtain ⟨q0,q1,q2⟩:=gFind_ok h1
 obtain ⟨k0,k1,k2⟩:=gMem_ok h1'
 subst k0
 have r1:=gRe0_ok h1r
 obtain ⟨hd,hq⟩:=XI h2 (XN h3 ho)
 obtain ⟨d0,d1,d⟩:=of_decide_eq_true hd
 have hl:[p,q.f,q.td,k.m,k.w,g.r].map s.H.get=(cB (.ptr 5 0 0 0) g.x q.x q.rs k.n k.j k.ws++[some (reM (.fn fLook [.ptr 5 0 0 0] []) .nilp r.x)]).map (Option.map (Ob.ren (πf [p,q.f,q.td,k.m,k.w,g.r]))):=by
  simp only [List.map_cons,List.map_nil,hg,q0,q1,q2,k1,k2,r1];rfl
 obtain ⟨x,pp,rr⟩:=g
 obtain ⟨t,lv,mine,ln,a,i,w,gk,ga,by1,made,err⟩:=x
 simp only at d0 d1
 subst d0;subst d1
 exact XO (l:=cB (.ptr 5 0 0 0) ⟨t,lv,mine,12,a,i,w,gk,ga,by1,true,err⟩ q.x q.rs k.n k.j k.ws++[some (reM (.fn fLook [.ptr 5 0 0 0] []) .nilp r.x)]) (ac:=iArgs) (Go.Sx.d0 (XD.2 (by simp only [List.forall_mem_cons];exact ⟨decide_eq_true d,fun _ hb=>by cases hb⟩))) rfl (by kernel_rfl) (by kernel_rfl) (by kernel_rfl) hq h3 hl rfl rfl
theorem smC3_ok {p m:Nat} {g:CG} {s s':St} {v:V} (h:smC3 p m g s=some (v,s')) (hg:s.H.get p=some (claM (.ptr g.p 0 0 0) (.ptr g.r 0 0 0) g.x)) (ho:Obl s'):Lg s s'∧Obl s∧YB PR 15 [.ptr p 0 0 0,.ptr m 0 0 0] s v s':=by
 unfold smC3 at h
 simp only [Option.bind_eq_some_iff] at h
 obtain ⟨q,h1,k,h1',r,h1r,x,h1x,s1,h2,h⟩:=h
 obtain ⟨q0,q1,q2⟩:=gFind_ok h1
 obtain ⟨k0,k1,k2⟩:=gMem_ok h1'
 subst k0
 have r1:=gRe1_ok h1r
 have x1:=gPu_ok h1x
 have hl:[p,q.f,q.td,k.m,k.w,g.r,r.p].map s.H.get=(cB (.ptr 5 0 0 0) g.x q.x q.rs k.n k.j k.ws++[some (reM (.fn fPush [.ptr 5 0 0 0] []) (.ptr 6 0 0 0) r.x),some (puM x)]).map (Option.map (Ob.ren (πf [p,q.f,q.td,k.m,k.w,g.r,r.p]))):=by
  simp only [List.map_cons,List.map_nil,hg,q0,q1,q2,k1,k2,r1,x1];rfl
 obtain ⟨z,pp,rr⟩:=g
 obtain ⟨t,lv,mine,ln,a,i,w,gk,ga,by1,made,err⟩:=z
 split at h
 ·rename_i s2 hdec
  simp only [Option.bind_eq_some_iff] at h
  obtain ⟨s3,h3,h4⟩:=h
  cases h4
  obtain ⟨hb,hqd⟩:=dec_ok hdec (XN h3 ho)
  obtain ⟨hd,hq⟩:=XI h2 hqd.2
  obtain ⟨d0,d1,d⟩:=of_decide_eq_true hd
  simp only at d0 d1
  subst d0;subst d1
  exact XO (l:=cB (.ptr 5 0 0 0) ⟨t,lv,mine,12,a,i,w,gk,ga,by1,true,err⟩ q.x q.rs k.n k.j k.ws++[some (reM (.fn fPush [.ptr 5 0 0 0] []) (.ptr 6 0 0 0) r.x),some (puM x)]) (ac:=iArgs) (d1E (XD.2 (by simp only [List.forall_mem_cons];exact ⟨hb.symm,decide_eq_true d,fun _ hb=>by cases hb⟩))) rfl (by kernel_rfl) (by kernel_rfl) (by kernel_rfl) (hq.trans hqd.1) h3 hl rfl rfl
 ·rename_i s2 hdec
  simp only [Option.bind_eq_some_iff] at h
  obtain ⟨s3,h3,h4⟩:=h
  cases h4
  obtain ⟨hb,hqd⟩:=dec_ok hdec (XN h3 ho)
  obtain ⟨hd,hq⟩:=XI h2 hqd.2
  obtain ⟨d0,d1,d⟩:=of_decide_eq_true hd
  simp only at d0 d1
  subst d0;subst d1
  exact XO (l:=cB (.ptr 5 0 0 0) ⟨t,lv,mine,12,a,i,w,gk,ga,by1,true,err⟩ q.x q.rs k.n k.j k.ws++[some (reM (.fn fPush [.ptr 5 0 0 0] []) (.ptr 6 0 0 0) r.x),some (puM x)]) (ac:=iArgs) (d1N (XD.2 (by simp only [List.forall_mem_cons];exact ⟨by rw [← hb];rfl,decide_eq_true d,fun _ hb=>by cases hb⟩))) rfl (by kernel_rfl) (by kernel_rfl) (by kernel_rfl) (hq.trans hqd.1) h3 hl rfl rfl
theorem smCStep_sm:SmOK PR 15 smCStep:=by
 refine ⟨fun args s v s' h ho=>?_,Tryz.call15⟩
 unfold smCStep at h
 split at h
 ·simp only [Option.bind_eq_some_iff] at h
  obtain ⟨_,h0,_,h0',h⟩:=h
  obtain ⟨rfl,rfl,rfl⟩:=isZ_ok (XC h0)
  obtain ⟨rfl,rfl,rfl⟩:=isZ_ok (XC h0')
  split at h
  ·rename_i g hg
   exact smC0_ok h (gCl0_ok hg) ho
  ·split at h
   ·rename_i g hg
    exact smC1_ok h (gCl1_ok hg) ho
   ·simp only [Option.bind_eq_some_iff] at h
    obtain ⟨g,hg,h⟩:=h
    split at h
    ·exact smC2_ok h (gCl2_ok hg) ho
    ·exact smC3_ok h (gCl2_ok hg) ho
 ·cases h
theorem smPStep_sm:SmOK PR 21 smPStep:=by
 refine ⟨fun args s v s' h ho=>?_,Tryz.call21⟩
 unfold smPStep at h
 split at h
 ·simp only [Option.bind_eq_some_iff] at h
  obtain ⟨_,h0,_,h0',g,hg,k,h1',s1,h2,s2,h3,h4⟩:=h
  obtain ⟨rfl,rfl,rfl⟩:=isZ_ok (XC h0)
  obtain ⟨rfl,rfl,rfl⟩:=isZ_ok (XC h0')
  cases h4
  have g1:=gPk_ok hg
  obtain ⟨k0,k1,k2⟩:=gMem_ok h1'
  subst k0
  obtain ⟨hd,hq⟩:=XI h2 (XN h3 ho)
  rw [keepC_of (KC_qst g k.j k.ws)] at h3
  exact XO (l:=pA' g k.n k.j k.ws) (ac:=cArgs) (qst_call (of_decide_eq_true hd)) rfl (by kernel_rfl) (by kernel_rfl) (by kernel_rfl) hq h3 (by simp only [List.map_cons,List.map_nil,g1,k1,k2];rfl) rfl rfl
 ·cases h
end Go.Sx
namespace Go.Sx
open Go.Proofs
abbrev frW:Frs:=⟨80,none,42⟩
noncomputable def wBody:Code:=bodyOf Tryz.f80
noncomputable def todoW:List Item:=((ctlN F0 (exec F0 400) frW 14 [.code wBody] (Tr.ofList [.ptr 0 0 0 0]) [] ⟨trO [some (memM 1 3 ⟨0,0,0,0,false,0⟩),some (XL (List.replicate 4096 0))],2,[],[],[]⟩).map (·.1)).getD []
def slW (k:Nat) (i:Int):List (Option V):=[some (.ptr 0 0 0 0),none,none,some (.osl 2 1)]++List.replicate 25 none++[some (.slice 1 0 1 k 4096),some (.int .i64 k),some (.int .i64 i)]++List.replicate 10 none
def slWE:List (Option V):=[none,none,some (.osl 2 1)]++List.replicate 39 none
section
variable {β:Base} {kind:CallKind} {cs:List Frame} {J:Nat→V} {a:Cf} {k:Nat} {i:Int} {j:MJ} {ws o:List Int}
theorem wStart (hβ:β.n0=2) (hA:YC β frW (Tr.ofList [.ptr 0 0 0 0]) [] (hO [some (memM 1 k j),some (XL ws)]) 2 far a) (hk:k≤4096):
  ∃ J' b',YC β frW (trO (slots J' 0 (slW k 0))) [] (hO [some (memM 1 k j),some (XL ws),some (rowU (List.replicate k 0))]) 3 far b'∧Steps PR (At frW none kind cs a [.code wBody]) (At frW none kind cs b' todoW):=
 YC.eval (n:=400) (m:=14) (orc:=bits 8 0b00000011) (πl:=[0,1,2]) (nx':=3) (far:=far) (todo:=[.code wBody]) (todo':=todoW) (l:=[some (memM 1 k j),some (XL ws)]) (l':=[some (memM 1 k j),some (XL ws),some (rowU (List.replicate (k:Int).toNat 0))]) (sl':=slW k 0)
  (B:=allB [decide ((∀ z∈(none:Option Int),0≤z)∧(∀ z∈some (k:Int),0≤z)∧0≤(k:Int).toNat∧(k:Int).toNat≤4096),decide (0≤(k:Int)∧(k:Int)≤k∧(k:Int)≤1048576)]) F0_ok S0_ok kind cs hA
  (by kernel_rfl) (by
   have e1:(∀ z∈(none:Option Int),0≤z)∧(∀ z∈some (k:Int),0≤z)∧0≤(k:Int).toNat∧(k:Int).toNat≤4096:=⟨fun z hz=>(by cases hz),fun z hz=>(by cases hz;omega),by omega,by simpa using hk⟩
   have e2:0≤(k:Int)∧(k:Int)≤k∧(k:Int)≤1048576:=⟨by omega,by omega,by omega⟩
   rw [decide_eq_true e1,decide_eq_true e2];rfl) rfl rfl rfl rfl rfl (fun m=>Nat.blt m 3) (p_all rfl rfl) (fun m hm=>by rw [hβ] at hm;exact Nat.blt_eq.mpr (by omega)) (by rw [hβ];kernel_rfl) (by kernel_rfl) (by kernel_rfl)
theorem wIter (hβ:β.n0=2) (hA:YC β frW (trO (slots J 0 (slW k i))) [] (hO [some (memM 1 k j),some (XL ws),some (rowU o)]) 3 far a)
  (hB:allB [decide (i.toNat<o.length),decide (0≤i∧i<(o.length:Int)),decide (i.toNat<ws.length),decide (0≤i∧i<(k:Int)),decide (i<(k:Int))]=true):
  ∃ J' b',YC β frW (trO (slots J' 0 (slW k (IntKind.i64.wrap (i+1))))) [] (hO [some (memM 1 k j),some (XL ws),some (rowU (o.set i.toNat (ws.getD i.toNat 0)))]) 3 far b'∧Steps PR (At frW none kind cs a todoW) (At frW none kind cs b' todoW):=
 YC.eval (n:=400) (m:=13) (orc:=bits 5 0b11111) (πl:=[0,1,2]) (nx':=3) (far:=far) (todo:=todoW) (todo':=todoW) (l:=[some (memM 1 k j),some (XL ws),some (rowU o)]) (l':=[some (memM 1 k j),some (XL ws),some (rowU (o.set i.toNat (ws.getD i.toNat 0)))]) (sl':=slW k (IntKind.i64.wrap (i+1))) F0_ok S0_ok kind cs hA
  (by kernel_rfl) hB rfl rfl rfl rfl rfl (fun m=>Nat.blt m 3) (p_all rfl rfl) (fun m hm=>by rw [hβ] at hm;exact Nat.blt_eq.mpr (by omega)) (by rw [hβ];kernel_rfl) (by kernel_rfl) (by kernel_rfl)
theorem wExit (hβ:β.n0=2) (hA:YC β frW (trO (slots J 0 (slW k i))) [] (hO [some (memM 1 k j),some (XL ws),some (rowU o)]) 3 far a) (h:¬ i<(k:Int)):
  ∃ J' b',YC β frW (trO (slots J' 0 slWE)) [] (hO [some (memM 1 k j),some (XL ws),some (rowU o)]) 3 far b'∧Steps PR (At frW none kind cs a todoW) (At frW none kind cs b' [.code .ret]):=
 YC.eval (n:=400) (m:=7) (orc:=bits 1 0b0) (πl:=[0,1,2]) (nx':=3) (far:=far) (todo:=todoW) (todo':=[.code .ret]) (l:=[some (memM 1 k j),some (XL ws),some (rowU o)]) (l':=[some (memM 1 k j),some (XL ws),some (rowU o)]) (sl':=slWE) (B:=allB [!decide (i<(k:Int))]) F0_ok S0_ok kind cs hA
  (by kernel_rfl) (by rw [decide_eq_false h];rfl) rfl rfl rfl rfl rfl (fun m=>Nat.blt m 3) (p_all rfl rfl) (fun m hm=>by rw [hβ] at hm;exact Nat.blt_eq.mpr (by omega)) (by rw [hβ];kernel_rfl) (by kernel_rfl) (by kernel_rfl)
theorem wLoop (hβ:β.n0=2) (hk:k≤4096) (hw:ws.length=4096):∀ (d:Nat) (J:Nat→V) (a:Cf) (i:Nat) (o:List Int),k=i+d→o.length=k→(∀ q,q<i→o.getD q 0=ws.getD q 0)→
  YC β frW (trO (slots J 0 (slW k (i:Int)))) [] (hO [some (memM 1 k j),some (XL ws),some (rowU o)]) 3 far a→
  ∃ J' b',YC β frW (trO (slots J' 0 slWE)) [] (hO [some (memM 1 k j),some (XL ws),some (rowU (ws.take k))]) 3 far b'∧Steps PR (At frW none kind cs a todoW) (At frW none kind cs b' [.code .ret]):=by
 intro d
 induction d with
 |zero=>
  intro J a i o hd ho hq hA
  obtain ⟨J',b',h1,h2⟩:=wExit (kind:=kind) (cs:=cs) hβ hA (by omega)
  have e:o=ws.take k:=by
   refine List.ext_getElem (by rw [List.length_take];omega) fun q h3 h4=>?_
   have:=hq q (by omega)
   rw [List.getD_eq_getElem?_getD,List.getElem?_eq_getElem h3,List.getD_eq_getElem?_getD,List.getElem?_eq_getElem (by omega)] at this
   rw [List.getElem_take]
   simpa using this
  rw [e] at h1
  exact ⟨J',b',h1,h2⟩
 |succ d ih=>
  intro J a i o hd ho hq hA
  obtain ⟨J1,b1,h1,h2⟩:=wIter (kind:=kind) (cs:=cs) hβ hA (by
   refine XD.2 ?_
   simp only [List.forall_mem_cons,decide_eq_true_eq,Int.toNat_natCast]
   exact ⟨by omega,by omega,by omega,by omega,by omega,fun _ hb=>by cases hb⟩)
  rw [XM (by omega) (by omega),Int.toNat_natCast] at h1
  obtain ⟨J2,b2,h3,h4⟩:=ih J1 b1 (i+1) (o.set i (ws.getD i 0)) (by omega) (by rw [List.length_set];exact ho) (fun q hq'=>by
   by_cases e:q=i
   ·subst e;rw [XV (by omega)]
   ·rw [XU (by omega)];exact hq q (by omega)) (by exact_mod_cast h1)
  exact ⟨J2,b2,h3,h2.trans h4⟩
theorem words_callN (hk:k≤4096) (hw:ws.length=4096):YD PR 80 [.ptr 0 0 0 0] 2 (hO [some (memM 1 k j),some (XL ws)]) (.osl 2 1) 3 (hO [some (memM 1 k j),some (XL ws),some (rowU (ws.take k))]):=by
 refine callH_of (c:=wBody) (t:=2) (hi:=far) Tryz.func80 (by kernel_rfl) (Nat.blt_eq.mp (by kernel_rfl)) (by kernel_rfl) (Nat.ble_eq.mp (by kernel_rfl)) (fun m o ho=>?_) (fun m o ho hr=>?_) rfl ?_
 ·have:=XP (p:=fun m=>Nat.blt m 3) [some (memM 1 k j),some (XL ws),some (rowU (ws.take k))] 0 (by kernel_rfl) m o ho
  rw [blt_fun] at this
  exact ⟨by simpa using this.2.1,this.2.2⟩
 ·rw [noRo_ok [some (memM 1 k j),some (XL ws),some (rowU (ws.take k))] (by kernel_rfl) m o ho] at hr;cases hr
 ·intro L w kind cs a hA
  obtain ⟨J1,b1,h1,h2⟩:=wStart (kind:=kind) (cs:=cs) rfl hA hk
  obtain ⟨J2,b2,h3,h4⟩:=wLoop (kind:=kind) (cs:=cs) rfl hk hw k J1 b1 0 _ (by omega) (by simp) (fun q hq=>absurd hq (Nat.not_lt_zero _)) h1
  exact ⟨b2,_,3,far,_,h3,rfl,h2.trans h4,.inr ⟨[],rfl⟩⟩
end
def wdsOK (n:Int) (ws:List Int):Prop:=0≤n∧n≤4096∧ws.length=4096
instance (n:Int) (ws:List Int):Decidable (wdsOK n ws):=inferInstanceAs (Decidable (_∧_))
theorem words_call {n:Int} {j:MJ} {ws:List Int} (h:wdsOK n ws):YD PR 80 [.ptr 0 0 0 0] 2 (hO [some (memM 1 n j),some (XL ws)]) (.osl 2 1) 3 (hO [some (memM 1 n j),some (XL ws),some (rowU (ws.take n.toNat))]):=by
 obtain ⟨h0,h1,h2⟩:=h
 obtain ⟨k,rfl⟩:=Int.eq_ofNat_of_zero_le h0
 exact words_callN (by omega) h2
def smWords (args:List V) (s:St):Option (V×St):=
 match args with
 |[.ptr m a b c]=>(chk (isZ a b c)).bind fun _=>(gMem m s.H).bind fun g=>(need (decide (wdsOK g.n g.ws)) s).bind fun s1=>(memS [g.m,g.w] [some (memM 1 g.n g.j),some (XL g.ws),some (rowU (g.ws.take g.n.toNat))] s1).bind fun s2=>some (.osl s.nx 1,s2)
 |_=>none
theorem smWords_sm:SmOK PR 80 smWords:=by
 refine ⟨fun args s v s' h ho=>?_,Tryz.call80⟩
 unfold smWords at h
 split at h
 ·simp only [Option.bind_eq_some_iff] at h
  obtain ⟨_,h0,g,h1,s1,h2,s2,h3,h4⟩:=h
  obtain ⟨rfl,rfl,rfl⟩:=isZ_ok (XC h0)
  cases h4
  obtain ⟨g0,g1,g2⟩:=gMem_ok h1
  subst g0
  obtain ⟨hd,hq⟩:=XI h2 (XN h3 ho)
  exact XO (l:=[some (memM 1 g.n g.j),some (XL g.ws)]) (ac:=[.ptr 0 0 0 0]) (words_call (of_decide_eq_true hd)) rfl (by kernel_rfl) (by kernel_rfl) (by kernel_rfl) hq h3 (by simp only [List.map_cons,List.map_nil,g1,g2];rfl) rfl rfl
 ·cases h
theorem mat_call {ws:List Int} {k:Int} (h0:0≤k) (h1:k<ws.length):YD PR 113 [.osl 0 1,.int .i64 k] 1 (hO [some (rowU ws)]) (.int .u64 (ws.getD k.toNat 0)) 1 (hO [some (rowU ws)]):=
 XH (l:=[some (rowU ws)]) (l':=[some (rowU ws)]) (n:=400) (f:=113) (args:=[.osl 0 1,.int .i64 k]) (vc:=.int .u64 (ws.getD k.toNat 0)) (orc:=bits 7 0b0000011) (πl:=[0]) (nx':=1) (B:=allB [decide (k.toNat<ws.length),decide (0≤k∧k<(ws.length:Int)),!decide (k≥(ws.length:Int)),!decide (k<0)]) F0_ok S0_ok (by kernel_rfl)
  (by rw [decide_eq_true (by omega),decide_eq_true ⟨h0,h1⟩,decide_eq_false (by omega),decide_eq_false (by omega)];rfl) rfl (by kernel_rfl) (by kernel_rfl) (by kernel_rfl) (by kernel_rfl)
def smMat (args:List V) (s:St):Option (V×St):=
 match args with
 |[.osl r es,.int .i64 k]=>(chk (Nat.beq es 1)).bind fun _=>(gWords .u64 54 (some 1) (s.H.get r)).bind fun ws=>(need (decide (0≤k∧k<ws.length)) s).bind fun s1=>some (.int .u64 (ws.getD k.toNat 0),s1)
 |_=>none
theorem smMat_sm:SmOK PR 113 smMat:=by
 refine ⟨fun args s v s' h ho=>?_,Tryz.call113⟩
 unfold smMat at h
 split at h
 ·rename_i r es k
  simp only [Option.bind_eq_some_iff] at h
  obtain ⟨_,h0,ws,h1,s1,h2,h4⟩:=h
  have:=Nat.beq_eq.mp (XC h0)
  subst this
  cases h4
  have g1:=gWords_ok h1
  obtain ⟨hd,hq⟩:=XI h2 ho
  obtain ⟨d1,d2⟩:=of_decide_eq_true hd
  refine ⟨Lg.of_same hq.1,hq.2,embed0 (l:=[some (rowU ws)]) (ac:=[.osl 0 1,.int .i64 k]) (mat_call d1 d2) (allSome_ok rfl) (by kernel_rfl) (by kernel_rfl) [r] rfl (map_get rfl (by rw [List.map_cons,g1];rfl)) (distinct_ok (by kernel_rfl)) rfl hq.1 rfl⟩
 ·cases h
theorem tindex_call {t:Tw} {w:Int}:YD PR 62 [.agg t.vs,.int .u64 w] 0 (hO []) (.int .i64 (indT t.size w)) 0 (hO []):=by
 by_cases h:rawA w≥t.size
 ·have e:indT t.size w=-1:=if_pos h
  rw [e]
  exact XH (l:=[]) (l':=[]) (n:=400) (f:=62) (args:=[.agg t.vs,.int .u64 w]) (vc:=.int .i64 (-1)) (orc:=bits 1 0b1) (πl:=[]) (nx':=2) (B:=allB [decide (rawA w≥t.size)]) FA_ok SA_ok (by kernel_rfl) (by rw [decide_eq_true h];rfl) rfl (by kernel_rfl) (by kernel_rfl) (by kernel_rfl) (by kernel_rfl)
 ·have e:indT t.size w=rawA w:=if_neg h
  rw [e]
  exact XH (l:=[]) (l':=[]) (n:=400) (f:=62) (args:=[.agg t.vs,.int .u64 w]) (vc:=.int .i64 (rawA w)) (orc:=bits 1 0b0) (πl:=[]) (nx':=2) (B:=allB [!decide (rawA w≥t.size)]) FA_ok SA_ok (by kernel_rfl) (by rw [decide_eq_false h];rfl) rfl (by kernel_rfl) (by kernel_rfl) (by kernel_rfl) (by kernel_rfl)
def smTIx (args:List V) (s:St):Option (V×St):=
 match args with
 |[.agg cs,.int .u64 w]=>(gTw cs).bind fun t=>some (.int .i64 (indT t.size w),s)
 |_=>none
theorem smTIx_sm:SmOK PR 62 smTIx:=by
 refine ⟨fun args s v s' h ho=>?_,Tryz.call62⟩
 unfold smTIx at h
 split at h
 ·simp only [Option.bind_eq_some_iff] at h
  obtain ⟨t,h0,h3⟩:=h
  have:=gTw_ok h0
  subst this
  cases h3
  exact ⟨.refl _,ho,embed0 (l:=[]) tindex_call (fun m hm=>absurd hm (Nat.not_lt_zero _)) (by kernel_rfl) (by kernel_rfl) [] rfl (fun m o ho=>by simp at ho) List.nodup_nil rfl (.refl _) rfl⟩
 ·cases h
theorem sound_call {t:Tw} (h:t.ok):YD PR 59 [.agg t.vs] 0 (hO []) (.bool true) 0 (hO []):=by
 obtain ⟨a1,a2,a3,a4,a5,a6,a7,a8⟩:=h
 rw [show true=decide (t.heads<4096) from (decide_eq_true a8).symm]
 exact XH (l:=[]) (l':=[]) (n:=400) (f:=59) (args:=[.agg t.vs]) (vc:=.bool (decide (t.heads<4096))) (orc:=bits 19 0b1111111111111111111) (πl:=[]) (nx':=1) (B:=allB [decide (t.heads≥0),decide (t.nodes<4096),decide (t.nodes≥0),decide (t.size≤128),decide (t.size≥1),decide (t.height≤4),decide (t.height≥1)]) F0_ok S0_ok (by kernel_rfl)
  (by rw [decide_eq_true a1,decide_eq_true a2,decide_eq_true a3,decide_eq_true a4,decide_eq_true a5,decide_eq_true a6,decide_eq_true a7];rfl) rfl (by kernel_rfl) (by kernel_rfl) (by kernel_rfl) (by kernel_rfl)
end Go.Sx
namespace Go.Sx
open Go.Proofs
def smSound (args:List V) (s:St):Option (V×St):=
 match args with
 |[.agg cs]=>(gTw cs).bind fun t=>(need (decide t.ok) s).bind fun s1=>some (.bool true,s1)
 |_=>none
theorem smSound_sm:SmOK PR 59 smSound:=by
 refine ⟨fun args s v s' h ho=>?_,Tryz.call59⟩
 unfold smSound at h
 split at h
 ·simp only [Option.bind_eq_some_iff] at h
  obtain ⟨t,h0,s1,h2,h3⟩:=h
  cases h3
  have:=gTw_ok h0
  subst this
  obtain ⟨hd,hq⟩:=XI h2 ho
  exact ⟨Lg.of_same hq.1,hq.2,embed0 (l:=[]) (sound_call (of_decide_eq_true hd)) (fun m hm=>absurd hm (Nat.not_lt_zero _)) (by kernel_rfl) (by kernel_rfl) [] rfl (fun m o ho=>by simp at ho) List.nodup_nil rfl hq.1 rfl⟩
 ·cases h
noncomputable def smsL:List (Nat×SmF):=[(59,smSound),(80,smWords),(113,smMat),(62,smTIx),(47,smNext),(86,smMarked)]
theorem smsL_ok:AllSm PR smsL:=⟨smSound_sm,smWords_sm,smMat_sm,smTIx_sm,smNext_sm,smMarked_sm,trivial⟩
noncomputable def FL:Env:=envOf tabT tabF (smOf smsL) seT imT pzT
theorem FL_ok:EnvOK PR FL:=env_ok _
theorem SL_ok:SumOK PR FL:=sumOK_of rfl smsL_ok
noncomputable def propB (p:Prop):Bool:=@decide p (Classical.propDecidable p)
theorem XF {p:Prop}:propB p=true↔p:=by unfold propB;exact @decide_eq_true_iff p (Classical.propDecidable p)
def w0L (t:Tw) (w:List Int) (i:Int):Int:=w.getD (nxA t i 0).toNat 0
def ndL (t:Tw) (w:List Int):Nat→Int
 |0=>indT t.size (w0L t w (-1))
 |j+1=>indT t.size (w0L t w (ndL t w j))
def inW (t:Tw) (w:List Int) (i:Int):Bool:=decide (0≤nxA t i 0∧nxA t i 0<(w.length:Int))
def owL (t:Tw) (w:List Int):Nat→List Bool→List Bool→List Bool
 |j,[],acc=>(!decide (ndL t w j≥0))::acc
 |j,b::bs,acc=>owL t w (Nat.succ j) bs (inW t w (ndL t w j)::decide (t.has (ndL t w j) 0)::(cond b (!!rawM (w0L t w (ndL t w j))) (!rawM (w0L t w (ndL t w j))))::inW t w (ndL t w j)::decide (t.has (ndL t w j) 0)::decide (((j:Nat):Int)<t.size)::decide (ndL t w j≥0)::acc)
def owS (t:Tw) (n:Int) (ws:List Int) (bs:List Bool):List Bool:=owL t (ws.take n.toNat) 0 bs [inW t (ws.take n.toNat) (-1),decide (t.has (-1) 0),decide (wdsOK n ws),decide t.ok]
def livB (t:Tw) (w:List Int):Nat→List Bool→List Int
 |_,[]=>[]
 |j,b::bs=>cond b (livB t w (Nat.succ j) bs) (ndL t w j::livB t w (Nat.succ j) bs)
abbrev lvL (n:Int) (j:MJ) (ws:List Int):List (Option Ob):=[some (memM 1 n j),some (XL ws)]
abbrev lvE (n:Int) (j:MJ) (ws ls:List Int):List (Option Ob):=[some (memM 1 n j),some (XL ws),some (rowI ls)]
end Go.Sx
namespace Go.Sx
open Go.Proofs
def lvV (ls:List Int):V:=match ls with
 |[]=>.nils
 |_::_=>.osl 2 1
def lvK (ls:List Int):Nat:=match ls with
 |[]=>2
 |_::_=>3
def lvM (n:Int) (j:MJ) (ws ls:List Int):List (Option Ob):=match ls with
 |[]=>lvL n j ws
 |_::_=>lvE n j ws ls
def LvTo (t:Tw) (n:Int) (j:MJ) (ws ls:List Int):Prop:=YD PR 105 [.agg t.vs,.ptr 0 0 0 0] 2 (hO (lvL n j ws)) (lvV ls) (lvK ls) (hO (lvM n j ws ls))
def lvO (bs:List Bool):List (Nat×Bool):=bits 2 2++bs.flatMap (fun b=>cond b (bits 16 65534) (bits 17 131071))++bits 16 57344
def lvX:List Bool→Nat
 |[]=>11
 |b::l=>cond b (lvX l) (lvX l+2)
def lvP (ls:List Int) (k:Nat):List Nat:=match ls with
 |[]=>[0,1]
 |_::_=>[0,1,k]
def LvB (bs:List Bool):Prop:=∀ {t:Tw} {n:Int} {j:MJ} {ws:List Int},allB (owS t n ws bs)=true→LvTo t n j ws (livB t (ws.take n.toNat) 0 bs)
theorem lvc {bs:List Bool} (h:∀ (t:Tw) (n:Int) (j:MJ) (ws:List Int),(callX (exec FL 400) FL 105 [.agg t.vs,.ptr 0 0 0 0] ⟨trO (lvL n j ws),2,lvO bs,[],[]⟩).map (fun r=>(r.1,r.2.nx,(lvP (livB t (ws.take n.toNat) 0 bs) (lvX bs - 1)).map r.2.H.get,allB r.2.obl))=
   some ((lvV (livB t (ws.take n.toNat) 0 bs)).ren (πf (lvP (livB t (ws.take n.toNat) 0 bs) (lvX bs - 1))),lvX bs,(lvM n j ws (livB t (ws.take n.toNat) 0 bs)).map (Option.map (Ob.ren (πf (lvP (livB t (ws.take n.toNat) 0 bs) (lvX bs - 1))))),allB (owS t n ws bs)))
  (hk:∀ (t:Tw) (n:Int) (j:MJ) (ws:List Int),(Nat.beq (lvM n j ws (livB t (ws.take n.toNat) 0 bs)).length (lvK (livB t (ws.take n.toNat) 0 bs))&&(chkP 2 (lvX bs) (lvP (livB t (ws.take n.toNat) 0 bs) (lvX bs - 1)) (lvM n j ws (livB t (ws.take n.toNat) 0 bs))&&(obsOK (fun m=>Nat.blt m (lvM n j ws (livB t (ws.take n.toNat) 0 bs)).length) 0 (lvM n j ws (livB t (ws.take n.toNat) 0 bs))&&(noRo (lvM n j ws (livB t (ws.take n.toNat) 0 bs))&&(lvV (livB t (ws.take n.toNat) 0 bs)).names (fun m=>Nat.blt m (lvM n j ws (livB t (ws.take n.toNat) 0 bs)).length)))))=true):LvB bs:=fun {t n j ws} hB=>by
 have k:=hk t n j ws
 simp only [Bool.and_eq_true] at k
 obtain ⟨k1,k2,k3,k4,k5⟩:=k
 have:=XH (n:=400) (l:=lvL n j ws) (orc:=lvO bs) FL_ok SL_ok (h t n j ws) hB rfl k2 k3 k4 k5
 unfold LvTo
 rw [← Nat.eq_of_beq_eq_true k1]
 exact this
theorem lv0:LvB []:=lvc (fun t n j ws=>by kernel_rfl) (fun t n j ws=>by kernel_rfl)
theorem lv1 (a:Bool):LvB [a]:=by cases a<;>exact lvc (fun t n j ws=>by kernel_rfl) (fun t n j ws=>by kernel_rfl)
theorem lv2 (a b:Bool):LvB [a,b]:=by cases a<;>cases b<;>exact lvc (fun t n j ws=>by kernel_rfl) (fun t n j ws=>by kernel_rfl)
theorem lv3 (a b c:Bool):LvB [a,b,c]:=by cases a<;>cases b<;>cases c<;>exact lvc (fun t n j ws=>by kernel_rfl) (fun t n j ws=>by kernel_rfl)
theorem lv4 (a b c d:Bool):LvB [a,b,c,d]:=by cases a<;>cases b<;>cases c<;>cases d<;>exact lvc (fun t n j ws=>by kernel_rfl) (fun t n j ws=>by kernel_rfl)
theorem lv5 (a b c d e:Bool):LvB [a,b,c,d,e]:=by cases a<;>cases b<;>cases c<;>cases d<;>cases e<;>exact lvc (fun t n j ws=>by kernel_rfl) (fun t n j ws=>by kernel_rfl)
theorem lv6a (b c d e f:Bool):LvB [true,b,c,d,e,f]:=by cases b<;>cases c<;>cases d<;>cases e<;>cases f<;>exact lvc (fun t n j ws=>by kernel_rfl) (fun t n j ws=>by kernel_rfl)
theorem lv6b (b c d e f:Bool):LvB [false,b,c,d,e,f]:=by cases b<;>cases c<;>cases d<;>cases e<;>cases f<;>exact lvc (fun t n j ws=>by kernel_rfl) (fun t n j ws=>by kernel_rfl)
theorem live_bs {t:Tw} {n:Int} {j:MJ} {ws:List Int} (bs:List Bool) (h:bs.length≤6) (hB:allB (owS t n ws bs)=true):LvTo t n j ws (livB t (ws.take n.toNat) 0 bs):=
 match bs,h,hB with
 |[],_,hB=>lv0 hB
 |[a],_,hB=>lv1 a hB
 |[a,b],_,hB=>lv2 a b hB
 |[a,b,c],_,hB=>lv3 a b c hB
 |[a,b,c,d],_,hB=>lv4 a b c d hB
 |[a,b,c,d,e],_,hB=>lv5 a b c d e hB
 |[true,b,c,d,e,f],_,hB=>lv6a b c d e f hB
 |[false,b,c,d,e,f],_,hB=>lv6b b c d e f hB
 |_::_::_::_::_::_::_::_,h,_=>absurd h (by simp only [List.length_cons];omega)
end Go.Sx
namespace Go.Sx
open Go.Proofs
section
variable {t:Tw} {n:Int} {j:MJ} {ws:List Int}
theorem ow_ok {w:List Int} (hn:∀ i,t.has i 0→inW t w i=true) (hk:t.ok):∀ (bs:List Bool) (j:Nat) (acc:List Bool),allB acc=true→(∀ i,i<bs.length→0≤ndL t w (j+i)∧((j+i:Nat):Int)<t.size∧bs.getD i false=rawM (w0L t w (ndL t w (j+i))))→ndL t w (j+bs.length)<0→allB (owL t w j bs acc)=true
 |[],j,acc,ha,_,hl=>by
  have:¬ ndL t w j≥0:=by
   have hl:ndL t w j<0:=hl
   omega
  simp only [owL,allB,decide_eq_false this]
  exact ha
 |b::bs,j,acc,ha,hi,hl=>by
  obtain ⟨h1,h2,h3⟩:=hi 0 (by simp)
  have h1:0≤ndL t w j:=h1
  have h2:(j:Int)<t.size:=h2
  have h3:b=rawM (w0L t w (ndL t w j)):=h3
  have hlt:ndL t w j<t.size:=by
   cases j with
   |zero=>exact indT_lt h1
   |succ j=>exact indT_lt h1
  have hh:t.has (ndL t w j) 0:=⟨hk,by decide,by have:=hk.1;omega,.inr ⟨h1,hlt⟩⟩
  simp only [owL]
  refine ow_ok hn hk bs (Nat.succ j) _ ?_ (fun i h=>?_) ?_
  ·have hm:(cond b (!!rawM (w0L t w (ndL t w j))) (!rawM (w0L t w (ndL t w j))))=true:=by
    rw [← h3];cases b<;>rfl
   simp only [allB,hn _ hh,decide_eq_true hh,hm,decide_eq_true h2,decide_eq_true (show ndL t w j≥0 from h1),cond_true]
   exact ha
  ·have:=hi (i+1) (by simp only [List.length_cons];omega)
   have e:Nat.succ j+i=j+(i+1):=by omega
   rw [e];exact this
  ·have e:Nat.succ j+bs.length=j+(b::bs).length:=by simp only [List.length_cons];omega
   rw [e];exact hl
def liveF (t:Tw) (w:List Int):Nat→Int→List Int
 |0,_=>[]
 |f+1,i=>if i<0 then [] else if rawM (w0L t w i)=true then liveF t w f (indT t.size (w0L t w i)) else i::liveF t w f (indT t.size (w0L t w i))
def liveW (t:Tw) (w:List Int):List Int:=liveF t w 6 (ndL t w 0)
def chainOK (t:Tw) (w:List Int):Prop:=∃ k,k≤6∧(∀ j,j<k→0≤ndL t w j∧((j:Nat):Int)<t.size)∧ndL t w k<0
theorem livB_F {w:List Int}:∀ (bs:List Bool) (j f:Nat),bs.length≤f→(∀ i,i<bs.length→0≤ndL t w (j+i)∧bs.getD i false=rawM (w0L t w (ndL t w (j+i))))→ndL t w (j+bs.length)<0→livB t w j bs=liveF t w f (ndL t w j)
 |[],j,0,_,_,_=>rfl
 |[],j,f+1,_,_,hl=>by
  have hl:ndL t w j<0:=hl
  show []=(if ndL t w j<0 then [] else _)
  rw [if_pos hl]
 |b::bs,j,0,h,_,_=>by simp at h
 |b::bs,j,f+1,h,hi,hl=>by
  obtain ⟨h1,h3⟩:=hi 0 (by simp)
  have h1:0≤ndL t w j:=h1
  have h3:b=rawM (w0L t w (ndL t w j)):=h3
  have ih:=livB_F bs (Nat.succ j) f (by simp only [List.length_cons] at h;omega) (fun i h=>by
   have:=hi (i+1) (by simp only [List.length_cons];omega)
   have e:Nat.succ j+i=j+(i+1):=by omega
   rw [e];exact this) (by
   have e:Nat.succ j+bs.length=j+(b::bs).length:=by simp only [List.length_cons];omega
   rw [e];exact hl)
  show cond b (livB t w (Nat.succ j) bs) (ndL t w j::livB t w (Nat.succ j) bs)=(if ndL t w j<0 then [] else if rawM (w0L t w (ndL t w j))=true then liveF t w f (ndL t w (j+1)) else ndL t w j::liveF t w f (ndL t w (j+1)))
  rw [if_neg (by omega),ih,h3]
  cases rawM (w0L t w (ndL t w j))<;>rfl
def lvPre (t:Tw) (n:Int) (ws:List Int):Prop:=t.fit n ws∧0≤n∧chainOK t (ws.take n.toNat)
theorem live_call (h:lvPre t n ws):LvTo t n j ws (liveW t (ws.take n.toNat)):=by
 obtain ⟨hf,hn0,k,hk,hc,hl⟩:=h
 obtain ⟨w,hw⟩:∃ w,w=ws.take n.toNat:=⟨_,rfl⟩
 rw [← hw] at hc hl
 have h4:=hf.2.2.2.1
 have h5:=hf.2.2.2.2
 have hlen:(w.length:Int)=n:=by rw [hw,List.length_take];omega
 have hin:∀ i,t.has i 0→inW t w i=true:=fun i hi=>by
  have:=hf.nx hi
  unfold inW
  rw [hlen]
  exact decide_eq_true ⟨this.1,this.2.1⟩
 have hb:∀ i,i<k→((List.range k).map fun j=>rawM (w0L t w (ndL t w j))).getD i false=rawM (w0L t w (ndL t w i)):=fun i hi=>by
  rw [List.getD_eq_getElem?_getD,List.getElem?_map,List.getElem?_range hi];rfl
 have hlb:((List.range k).map fun j=>rawM (w0L t w (ndL t w j))).length=k:=by simp
 have e:liveW t w=livB t w 0 ((List.range k).map fun j=>rawM (w0L t w (ndL t w j))):=by
  refine (livB_F _ 0 6 (by rw [hlb];exact hk) (fun i hi=>?_) (by rw [hlb,Nat.zero_add];exact hl)).symm
  rw [hlb] at hi
  rw [Nat.zero_add]
  exact ⟨(hc i hi).1,hb i hi⟩
 rw [← hw,e,hw]
 refine live_bs _ (by rw [← hw,hlb];exact hk) ?_
 unfold owS
 rw [← hw]
 have h0:t.has (-1) 0:=⟨hf.1,by decide,by have:=hf.1.1;omega,.inl rfl⟩
 refine ow_ok hin hf.1 _ 0 _ ?_ (fun i hi=>?_) (by rw [hlb,Nat.zero_add];exact hl)
 ·simp only [allB,hin _ h0,decide_eq_true h0,decide_eq_true hf.1,decide_eq_true (show wdsOK n ws from ⟨hn0,h4,h5⟩),cond_true]
 ·rw [hlb] at hi
  rw [Nat.zero_add]
  exact ⟨(hc i hi).1,(hc i hi).2,hb i hi⟩
end
noncomputable def smLive (args:List V) (s:St):Option (V×St):=
 match args with
 |[.agg cs,.ptr m a b c]=>(chk (isZ a b c)).bind fun _=>(gTw cs).bind fun t=>(gMem m s.H).bind fun g=>(need (propB (lvPre t g.n g.ws)) s).bind fun s1=>
   match dec (decide (liveW t (g.ws.take g.n.toNat)=[])) s1 with
   |(true,s2)=>some (.nils,s2)
   |(false,s2)=>(memS [g.m,g.w] (lvE g.n g.j g.ws (liveW t (g.ws.take g.n.toNat))) s2).bind fun s3=>some (.osl s.nx 1,s3)
 |_=>none
theorem smLive_sm:SmOK PR 105 smLive:=by
 refine ⟨fun args s v s' h ho=>?_,Tryz.call105⟩
 unfold smLive at h
 split at h
 ·simp only [Option.bind_eq_some_iff] at h
  obtain ⟨_,h0,t,ht,g,h1,s1,h2,h⟩:=h
  obtain ⟨rfl,rfl,rfl⟩:=isZ_ok (XC h0)
  have:=gTw_ok ht
  subst this
  obtain ⟨g0,g1,g2⟩:=gMem_ok h1
  subst g0
  have hl:[g.m,g.w].map s.H.get=(lvL g.n g.j g.ws).map (Option.map (Ob.ren (πf [g.m,g.w]))):=by
   simp only [List.map_cons,List.map_nil,g1,g2];rfl
  split at h
  ·rename_i s2 hdec
   cases h
   obtain ⟨hb,hqd⟩:=dec_ok hdec ho
   obtain ⟨hd,hq⟩:=XI h2 hqd.2
   have hq2:=hq.trans hqd.1
   have hcall:=live_call (j:=g.j) (XF.1 hd)
   rw [of_decide_eq_true hb.symm] at hcall
   have hne:g.m≠g.w:=fun e=>by rw [e,g2] at g1;cases g1
   refine ⟨Lg.of_same hq2.1,hq2.2,embed0 (l:=lvL g.n g.j g.ws) (ac:=[.agg t.vs,.ptr 0 0 0 0]) hcall (allSome_ok rfl) (by kernel_rfl) (by kernel_rfl) [g.m,g.w] rfl (map_get rfl hl) (by simp [hne]) rfl hq2.1 rfl⟩
  ·rename_i s2 hdec
   simp only [Option.bind_eq_some_iff] at h
   obtain ⟨s3,h3,h4⟩:=h
   cases h4
   obtain ⟨hb,hqd⟩:=dec_ok hdec (XN h3 ho)
   obtain ⟨hd,hq⟩:=XI h2 hqd.2
   have hcall:=live_call (j:=g.j) (XF.1 hd)
   have hne:=of_decide_eq_false hb.symm
   obtain ⟨x,r,e⟩:=List.exists_cons_of_ne_nil hne
   rw [e] at hcall h3
   exact XO (l:=lvL g.n g.j g.ws) (ac:=[.agg t.vs,.ptr 0 0 0 0]) hcall rfl (by kernel_rfl) (by kernel_rfl) (by kernel_rfl) (hq.trans hqd.1) h3 hl rfl rfl
 ·cases h
end Go.Sx
