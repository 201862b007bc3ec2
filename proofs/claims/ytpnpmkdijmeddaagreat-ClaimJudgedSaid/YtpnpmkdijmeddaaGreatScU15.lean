/- The plain law of a crew over a tower: the Peek's acts. -/
import Derived.Test.YtpnpmkdijmeddaaGreatScU14b
set_option maxRecDepth 100000
namespace Go.Sx
open Go.Ql (SInv FInv fstep updF XX XW lkd RW liv insK Ent XT)
section
variable {n H m c:Nat} {σ:CS} {g g':GhC} {f0:Int}
theorem CI.a3 (I:CI n H m σ g) {k':PS} {o':Int} {fl':List Int} {cl':List (List Int)} {ck':Int} {ws':List Int} {j':MJ} (_ho:σ.o3=c) (p:pend σ.cl c f0 6 0 0) (W':WI n H σ.ks σ.hs g'.X g'.M ws') (V':SInv H n (keyF σ.ks) (hiF n σ.hs) g'.X g'.M g'.E g'.C)
  (R:RW n (-1) g.X g.M g.E g'.X g'.M g'.E) (h':HI n σ.ks cl' ck' g'.O g'.T (liv (g'.M 0) (g'.C 0))) (T:TR c g σ.cl g' cl') (hlen:cl'.length=σ.cl.length) (tl:∀ y∈g'.T,∀ i∈y.S,1≤g'.E i)
  (opn':∀ c,c<cl'.length→(cl'.getD c []).getD 2 0=-1→(c:Int)=σ.o0∨(c:Int)=σ.o1∨(c:Int)=σ.o2∨(c:Int)=o') (p':PCore n H σ.ks g' cl' fl' k' o') (hd:g'.d0=g.d0∧g'.d1=g.d1∧g'.d2=g.d2)
  (bf:fl'.length≤m+1) (bck:ck'≤((m+1:Nat):Int)):
  CI n H (m+1) {σ with ws:=ws',j:=j',pk:=k',o3:=o',f3:=fl',cl:=cl',ck:=ck'} g':=by
 have n0:=I.ne0 p (by decide)
 obtain ⟨n1,n2⟩:=I.ne1 p (by decide)
 have b:=I.b
 have k1':KCore n H σ.ks σ.hs g' cl' σ.f1 g'.d1 σ.c0 σ.o1:=by rw [hd.2.1];exact I.k1.mono R T n1
 have k2':KCore n H σ.ks σ.hs g' cl' σ.f2 g'.d2 σ.c1 σ.o2:=by rw [hd.2.2];exact I.k2.mono R T n2
 exact ⟨I.N,I.t,I.sz,W',V',h',opn',I.i.mono R T n0 hd.1,k1',k2',p',I.df,I.fut' (own:=-1) (by omega) R,I.cn,fun i hi=>R.mm _ _ (I.gt i hi),fun i hi=>⟨R.mm _ _ (I.g1 i hi).1,(I.g1 i hi).2⟩,fun i hi=>⟨R.mm _ _ (I.g2 i hi).1,(I.g2 i hi).2⟩,tl,
  ⟨by show cl'.length≤m+1;rw [hlen];exact Nat.le_succ_of_le b.cl,bck,Nat.le_succ_of_le b.f0,Nat.le_succ_of_le b.f1,Nat.le_succ_of_le b.f2,bf,Nat.le_succ_of_le b.gt⟩⟩
def LfP (n:Nat) (σ:CS) (g:GhC) (l:Nat):Prop:=match σ.pk with
 |.a y=>QL n σ.ks g.X y l
 |_=>True
def AO3 (n H m:Nat) (σ:CS) (g:GhC):Prop:=∃ σ' g',StA 3 σ σ'∧CI n H (m+1) σ' g'∧(σ'.o3=-1∨((∀ l,LfP n σ g (l+1)→LfP n σ' g' l)∧σ'.o3=σ.o3))∧σ'.ks=σ.ks∧σ'.o0=σ.o0∧σ'.o1=σ.o1∧σ'.o2=σ.o2∧σ'.cl.length=σ.cl.length
end
variable {n H m:Nat} {t:Tw} {sz:Int} {ks hs:List Int} {j:MJ} {ws f0 f1 f2 f3 gt:List Int} {cl:List (List Int)} {o0 o1 o2 o3 ck:Int} {io:IS} {c0 c1:KS} {g:GhC} {y:ClC}
theorem act3 {σ:CS} (I:CI n H m σ g) (ho:σ.o3≥0) (hm:m<5000):AO3 n H m σ g:=by
 obtain ⟨t,sz,ks,hs,j,ws,f0,f1,f2,f3,gt,cl,o0,o1,o2,o3,ck,io,c0,c1,pk⟩:=σ
 have ho:o3≥0:=ho
 cases pk with
 |none=>have:=I.p;have:o3=-1:=this;omega
 |over=>have:=I.p;have:o3=-1:=this;omega
 |a y=>
 obtain ⟨c,fr,e,p,S,hnc⟩:=I.p
 have e:o3=c:=e
 have b:=I.b
 have bf:f3.length≤m:=b.f3
 have bck:ck≤(m:Int):=b.ck
 have W:WI n H ks hs g.X g.M ws:=I.W
 have V:SInv H n (keyF ks) (hiF n hs) g.X g.M g.E g.C:=I.V
 have N:Nums n H ks hs:=I.N
 have hsz:sz=szW n H:=I.sz
 have hh:HI n ks cl ck g.O g.T (liv (g.M 0) (g.C 0)):=I.h
 have hfr:=hh.fle p
 have hpl:c<cl.length:=p.1
 have hpre:qPre (pkN y) sz ws:=by rw [hsz];exact S.pkN.pre N W
 have hfst:fstL t sz ws=hdS (liv (g.M 0) (g.C 0)):=I.fst
 have hopn:∀ d,d<cl.length→(cl.getD d []).getD 2 0=-1→(d:Int)=o0∨(d:Int)=o1∨(d:Int)=o2∨(d:Int)=o3:=I.opn
 have h0:=hh.ck0
 have hw:IntKind.i64.wrap (ck+1)=ck+1:=XM (by omega) (by omega)
 have hP:∀ i,QP g.T f3 fr i→QP (g.T++[⟨ck,liv (g.M 0) (g.C 0),.tau⟩]) (f3++[fstL t sz ws]) fr i:=fun i h=>⟨by simp [h.1],by
  obtain ⟨z,k1,k2⟩:=h.2
  exact ⟨z,by simp [k1],k2⟩⟩
 have hF:∀ i,(liv (g.M 0) (g.C 0)).head?=some i→QP (g.T++[⟨ck,liv (g.M 0) (g.C 0),.tau⟩]) (f3++[fstL t sz ws]) fr i:=fun i h=>⟨by rw [hfst,hdS_some h];simp,⟨ck,liv (g.M 0) (g.C 0),.tau⟩,by simp,rfl,h,hfr.2⟩
 have quiet:∀ (X':Nat→Int→Int) (C':Nat→List Int) (ws':List Int) (j':MJ) (y':ClC),WI n H ks hs X' g.M ws'→SInv H n (keyF ks) (hiF n hs) X' g.M g.E C'→RW n (-1) g.X g.M g.E X' g.M g.E→liv (g.M 0) (C' 0)=liv (g.M 0) (g.C 0)→
   PCore n H ks ⟨X',g.M,g.E,C',g.O,g.T++[⟨ck,liv (g.M 0) (g.C 0),.tau⟩],g.d0,g.d1,g.d2⟩ cl (f3++[fstL t sz ws]) (.a y') o3→
   CI n H (m+1) ⟨t,sz,ks,hs,j',ws',f0,f1,f2,f3++[fstL t sz ws],gt,cl,o0,o1,o2,o3,ck,io,c0,c1,.a y'⟩ ⟨X',g.M,g.E,C',g.O,g.T++[⟨ck,liv (g.M 0) (g.C 0),.tau⟩],g.d0,g.d1,g.d2⟩:=fun X' C' ws' j' y' W' V' R hlv p'=>by
  refine I.a3 (g':=⟨X',g.M,g.E,C',g.O,g.T++[⟨ck,liv (g.M 0) (g.C 0),.tau⟩],g.d0,g.d1,g.d2⟩) (cl':=cl) (ck':=ck) e p W' V' R ?_ (TR.snoc rfl (tau_calls _ _ _) (fun _ _=>rfl) (.inl rfl)) rfl (I.tl' rfl rfl R.lv) I.opn p' ⟨rfl,rfl,rfl⟩ (by simp;omega) (by omega)
  show HI n ks cl ck g.O _ (liv (g.M 0) (C' 0))
  rw [hlv];exact hh.tau I.srt
 obtain ⟨X',C',W',V',R,hlv,hcase⟩:=S.pkN.step (j:=j) N W V hP hF
 have hkc:keepC (pkN y) (qstC (pkN y) j ws).x=(qstC (pkN y) j ws).x:=keepC_of (KC_qst (pkN y) j ws)
 rcases hcase with ⟨x1,x2,x3,x4⟩|⟨q1,q2,q3,q4⟩|⟨q1,q2,q3,q4,q5⟩|⟨q1,q2,q3,q4,q5,q6⟩|⟨x1,x2,x3,x4,x5,x6⟩
 ·
  have x3:y.ln=1:=x3
  have hn:=hnc (by omega)
  have hst:=aqX3 (t:=t) (hs:=hs) (ks:=ks) (j:=j) (f0:=f0) (f1:=f1) (f2:=f2) (gt:=gt) (cl:=cl) (o0:=o0) (o1:=o1) (o2:=o2) (ck:=ck) (io:=io) (c0:=c0) (c1:=c1) ho I.lvp (by omega:f3.length+1≤1048576) (I.livW.trans x4) hpre x1 S.made (by rw [show (qstC (pkN y) j ws).1.12=15 from x2];decide)
   ⟨by omega,by omega⟩ (by omega) (by rw [rs_len];omega) (by rw [rs_len,rs_len];omega) (by rw [rs_len,rs_len,rs_len];omega) x2 (by simp;omega) (by
    rw [part_all,hfst,x4];simp [hdS])
  rw [x2] at hst
  refine ⟨_,⟨X',g.M,g.E,C',updO g.O c (.look none),g.T++[⟨ck,[],.read c⟩],g.d0,g.d1,g.d2⟩,hst,?_,.inl rfl,rfl,rfl,rfl,rfl,by show (clE cl o3 ck 15 0 0).length=_;unfold clE;rw [rs_len,rs_len,rs_len,rs_len]⟩
  rw [hw,e,clE_eq p h0 (by omega)]
  refine I.a3 (k':=.over) (o':=-1) e p W' V' R ?_ (TR.snoc (z:=⟨ck,[],.read c⟩) rfl (fun d hd=>List.mem_singleton.1 hd) (fun d hd=>updO_ne hd) (.inr ⟨_,rfl⟩)) (by rw [List.length_set]) (I.tl' rfl x4.symm R.lv) (opn_fin (P:=fun c=>(c:Int)=o0∨(c:Int)=o1∨(c:Int)=o2∨(c:Int)=-1) (show ck+1≠-1 by omega) p.1 fun d hd ht=>by have:=hopn d hd ht;omega) rfl ⟨rfl,rfl,rfl⟩ (by simp;omega) (by omega)
  show HI n ks _ _ _ _ (liv (g.M 0) (C' 0))
  rw [hlv,x4]
  rw [x4] at hh
  refine (hh.none p hn (.look none) (.inr rfl)).fin p (callsT_snoc.2 (.inr (by simp [Ql.callOf]))) ?_
  exact .inr (.inr ⟨rfl,rfl,rfl,.inl ⟨updO_eq,rfl,rfl,rfl⟩⟩)
 ·have hst:=aqN3 (t:=t) (hs:=hs) (ks:=ks) (j:=j) (f0:=f0) (f1:=f1) (f2:=f2) (gt:=gt) (cl:=cl) (o0:=o0) (o1:=o1) (o2:=o2) (ck:=ck) (io:=io) (c0:=c0) (c1:=c1) ho I.lvp (by omega:f3.length+1≤1048576) hpre q1
  rw [hkc] at hst
  have hyl:y.ln=1∨y.ln=2∨y.ln=3:=q2.ln
  have hn:=hnc (by omega)
  refine ⟨_,_,hst,quiet X' C' _ _ _ W' V' R hlv ⟨c,fr,e,p,.inl q3,fun _ h=>hn (tau_in.1 h)⟩,.inr ⟨fun l h=>q4 l (QL.pkN h),rfl⟩,rfl,rfl,rfl,rfl,rfl⟩
 ·
  have hst:=aqN3 (t:=t) (hs:=hs) (ks:=ks) (j:=j) (f0:=f0) (f1:=f1) (f2:=f2) (gt:=gt) (cl:=cl) (o0:=o0) (o1:=o1) (o2:=o2) (ck:=ck) (io:=io) (c0:=c0) (c1:=c1) ho I.lvp (by omega:f3.length+1≤1048576) hpre q1
  rw [hkc] at hst
  have q2:y.ln=2:=q2
  have hn:=hnc (by omega)
  obtain ⟨k1,z,k2,k3,k4,k5⟩:=q3
  have htl:=I.tl' (g':=⟨X',g.M,g.E,C',g.O,g.T++[⟨ck,liv (g.M 0) (g.C 0),.tau⟩],g.d0,g.d1,g.d2⟩) (z:=⟨ck,liv (g.M 0) (g.C 0),.tau⟩) rfl rfl R.lv
  have hi1:1≤g.E (pkN y).i:=htl z k2 _ (Ql.head_mem k4)
  obtain ⟨pre,suf,hsp⟩:=List.append_of_mem k2
  have hh1:=hh.tau I.srt
  rw [hsp] at hh1
  have hn1:¬ c∈XT (pre++z::suf):=by rw [← hsp];exact fun h=>hn (tau_in.1 h)
  have hh2:=hh1.rep p hn1 k3 k5
  rw [k4] at hh2
  have hin:c∈XT (pre++{z with e:=.read c}::suf):=(Ql.callsT_rep k3).2 (.inl rfl)
  have hrep:∀ y∈pre++z::suf,∃ y'∈pre++({z with e:=.read c}:Ent)::suf,y'.S=y.S∧y'.ck=y.ck:=fun y hy=>by
   rcases List.mem_append.1 hy with h|h
   ·exact ⟨y,List.mem_append_left _ h,rfl,rfl⟩
   ·rcases List.mem_cons.1 h with h|h
    ·rw [h];exact ⟨{z with e:=.read c},by simp,rfl,rfl⟩
    ·exact ⟨y,by simp [h],rfl,rfl⟩
  have hper:∀ y∈pre++({z with e:=.read c}:Ent)::suf,∃ y'∈pre++z::suf,y'.S=y.S:=fun y hy=>by
   rcases List.mem_append.1 hy with h|h
   ·exact ⟨y,List.mem_append_left _ h,rfl⟩
   ·rcases List.mem_cons.1 h with h|h
    ·rw [h];exact ⟨z,by simp,rfl⟩
    ·exact ⟨y,by simp [h],rfl⟩
  refine ⟨_,⟨X',g.M,g.E,C',updO g.O c (.look (some (pkN y).i)),pre++{z with e:=.read c}::suf,g.d0,g.d1,g.d2⟩,hst,?_,.inr ⟨fun l h=>q5 l (QL.pkN h),rfl⟩,rfl,rfl,rfl,rfl,rfl⟩
  refine I.a3 (g':=⟨X',g.M,g.E,C',updO g.O c (.look (some (pkN y).i)),pre++{z with e:=.read c}::suf,g.d0,g.d1,g.d2⟩) (cl':=cl) (ck':=ck) e p W' V' R ?_ ⟨fun a ha=>?_,fun d hd=>⟨?_,updO_ne hd⟩,fun _ _ _ _ _ _ h=>h⟩ rfl (fun a ha i hi=>?_) I.opn ⟨c,fr,e,p,.inr (q4 _ ⟨k1,hin,updO_eq,hi1⟩),fun h=>?_⟩ ⟨rfl,rfl,rfl⟩ (by simp;omega) (by omega)
  ·show HI n ks cl ck _ _ (liv (g.M 0) (C' 0))
   rw [hlv];exact hh2
  ·exact hrep a (by rw [← hsp];simp [ha])
  ·show d∈XT (pre++_::suf)↔_
   rw [Ql.callsT_rep k3,← hsp,tau_in]
   exact ⟨fun h=>h.resolve_left hd,.inr⟩
  ·obtain ⟨a',h1,h2⟩:=hper a ha
   rw [← h2] at hi
   rw [← hsp] at h1
   exact htl a' h1 i hi
  ·have:=(q4 (fun _=>True) trivial).ln
   omega
 ·have hst:=aqN3 (t:=t) (hs:=hs) (ks:=ks) (j:=j) (f0:=f0) (f1:=f1) (f2:=f2) (gt:=gt) (cl:=cl) (o0:=o0) (o1:=o1) (o2:=o2) (ck:=ck) (io:=io) (c0:=c0) (c1:=c1) ho I.lvp (by omega:f3.length+1≤1048576) hpre q1
  rw [hkc] at hst
  refine ⟨_,_,hst,quiet X' C' _ _ _ W' V' R hlv ⟨c,fr,e,p,.inr ⟨q4.t,q4.made,q4.err,q4.ln,q4.i0,q4.i1,⟨by simp [q4.p.1],tau_in.2 q4.p.2.1,q4.p.2.2⟩,q4.gk⟩,fun h=>?_⟩,.inr ⟨fun l h=>q6 l (QL.pkN h),rfl⟩,rfl,rfl,rfl,rfl,rfl⟩
  have:=q4.ln
  omega
 ·
  have i0:0≤y.i:=x4.i0
  have i1:y.i<n:=x4.i1
  obtain ⟨p1,p2,p3,p4⟩:=x4.p
  have hcn:=I.cn
  have hlt:y.i<(cntI io:Int):=Int.not_le.mp fun h=>by
   have h1:g.E y.i=0:=(I.fut y.i h).1
   have h2:1≤g.E y.i:=p4
   omega
  have hcn:cntI io≤n:=I.cn
  have hal:(allV (fun m=>m) io).length=cntI io:=allV_len (by obtain ⟨_,_,_,_⟩:=N.g;omega)
  have hkl:ks.length=n:=N.kl
  have e9:(qstC (pkN y) j ws).1.9=y.i:=x5
  have e9':(qstC (pkN y) j ws).x.ga=y.i:=x5
  have e8:(qstC (pkN y) j ws).1.8=keyF ks y.i:=x6
  have e8':(qstC (pkN y) j ws).x.gk=keyF ks y.i:=x6
  have hst:=aqO3 (t:=t) (hs:=hs) (ks:=ks) (j:=j) (f0:=f0) (f1:=f1) (f2:=f2) (gt:=gt) (cl:=cl) (o0:=o0) (o1:=o1) (o2:=o2) (ck:=ck) (io:=io) (c0:=c0) (c1:=c1) ho I.lvp (by omega:f3.length+1≤1048576) hpre x1 S.made x2
   ⟨by omega,by omega⟩ (by omega) (by rw [rs_len];omega) (by rw [rs_len,rs_len];omega) (by rw [rs_len,rs_len,rs_len];omega) (by rw [e9];omega) (by rw [e9,hal];omega) (by rw [e9];omega) (by rw [e9];omega) (by rw [e9,e8];rfl) (by simp;omega) (by rw [e9,part_all];exact List.mem_append_left _ p1)
  rw [e9',e8'] at hst
  refine ⟨_,⟨X',g.M,g.E,C',g.O,g.T++[⟨ck,liv (g.M 0) (g.C 0),.tau⟩],g.d0,g.d1,g.d2⟩,hst,?_,.inl rfl,rfl,rfl,rfl,rfl,by show (clE cl o3 ck 0 _ _).length=_;unfold clE;rw [rs_len,rs_len,rs_len,rs_len]⟩
  rw [hw,e,clE_eq p h0 (by omega)]
  refine I.a3 (k':=.over) (o':=-1) e p W' V' R ?_ (TR.snoc (z:=⟨ck,liv (g.M 0) (g.C 0),.tau⟩) rfl (tau_calls _ _ _) (fun _ _=>rfl) (.inr ⟨_,rfl⟩)) (by rw [List.length_set]) (I.tl' rfl rfl R.lv) (opn_fin (P:=fun c=>(c:Int)=o0∨(c:Int)=o1∨(c:Int)=o2∨(c:Int)=-1) (show ck+1≠-1 by omega) p.1 fun d hd ht=>by have:=hopn d hd ht;omega) rfl ⟨rfl,rfl,rfl⟩ (by simp;omega) (by omega)
  show HI n ks _ _ _ _ (liv (g.M 0) (C' 0))
  rw [hlv]
  exact (hh.tau I.srt).fin p (tau_in.2 p2) (.inr (.inr ⟨rfl,rfl,rfl,.inr ⟨y.i,p3,i0,i1,rfl,rfl,rfl⟩⟩))
end Go.Sx
namespace Go.Sx
open Go.Ql (SInv FInv fstep updF XX XW lkd RW liv insK Ent XT)
section
variable {n H m:Nat} {σ:CS} {g:GhC}
theorem HI.clk {ks:List Int} {cl:List (List Int)} {ck:Int} {op:Nat→Ql.Op} {tr:List Ent} {Sf:List Int} (h:HI n ks cl ck op tr Sf):HI n ks cl (ck+1) op tr Sf:=by
 have hck:=h.ck0
 refine ⟨h.G.mono fun d hd=>⟨rfl,rfl,?_⟩,by omega,fun x hx=>by have:=h.tck x hx;omega,h.lt,fun d hd=>?_⟩
 ·unfold toL
  split<;>omega
 ·obtain ⟨f',t,k',a',w',e',m,v,e1,e2,e3,e4,e5⟩:=h.rows d hd
  exact ⟨f',t,k',a',w',e',m,v,e1,e2,by omega,e4,e5.imp id fun g=>⟨g.1,g.2.1,by omega,g.2.2.2⟩⟩
theorem TR.begin {o:Ql.Op} {r:List Int} {d0 d1 d2:Ql.Fd} {cl:List (List Int)}:TR cl.length g cl ⟨g.X,g.M,g.E,g.C,updO g.O cl.length o,g.T,d0,d1,d2⟩ (cl++[r]):=by
 refine ⟨fun y hy=>⟨y,hy,rfl,rfl⟩,fun c hc=>⟨Iff.rfl,updO_ne hc⟩,fun c f k a w hc p=>⟨by have:=p.1;simp;omega,?_⟩⟩
 have:=p.1
 rw [getD_snoc,if_neg hc];exact p.2
theorem opn_beg {cl:List (List Int)} {r:List Int} {P:Nat→Prop} (h:∀ d,d<cl.length→(cl.getD d []).getD 2 0=-1→P d) (hn:P cl.length):∀ d,d<(cl++[r]).length→((cl++[r]).getD d []).getD 2 0=-1→P d:=fun d hd ht=>by
 rw [getD_snoc] at ht
 by_cases e:d=cl.length
 ·rw [e];exact hn
 ·rw [if_neg e] at ht
  exact h d (by simp at hd;omega) ht
theorem CI.lt (I:CI n H m σ g):σ.o0<σ.cl.length∧σ.o1<σ.cl.length∧σ.o2<σ.cl.length∧σ.o3<σ.cl.length:=by
 refine ⟨?_,?_,?_,?_⟩
 ·by_cases h:σ.o0≥0
  ·obtain ⟨c,f,a,e,p⟩:=I.i.call h
   have:=p.1
   omega
  ·omega
 ·rcases I.k1.call with e|⟨c,f,e,p⟩
  ·omega
  ·have:=p.1;omega
 ·rcases I.k2.call with e|⟨c,f,e,p⟩
  ·omega
  ·have:=p.1;omega
 ·rcases I.p.call with e|⟨c,f,e,p⟩
  ·omega
  ·have:=p.1;omega
end
section
variable {n H m:Nat} {t:Tw} {sz:Int} {ks hs:List Int} {j:MJ} {ws f0 f1 f2 f3 gt:List Int} {cl:List (List Int)} {o0 o1 o2 o3 ck:Int} {io:IS} {c0 c1:KS} {pk:PS} {g:GhC}
theorem beg0 (I:CI n H m ⟨t,sz,ks,hs,j,ws,f0,f1,f2,f3,gt,cl,-1,o1,o2,o3,ck,io,c0,c1,pk⟩ g) (k:Nat) (hk:cntI io=k) (hkn:k<n) {ref:Int} (href:ref=lnkW k false):
  ∃ g',CI n H (m+1) ⟨t,sz,ks,hs,j,ws,[],f1,f2,f3,gt,cl++[[(cl.length:Int),ck+1,-1,4,k,0,ks.getD k 0,0,0,0]],cl.length,o1,o2,o3,ck+1,.a k ⟨t,true,false,ref,ks.getD k 0,k,hs.getD k 0,1,0,0,0,0⟩ (newF t (ks.getD k 0)) (newR t),c0,c1,pk⟩ g':=by
 have b:=I.b
 have N:Nums n H ks hs:=I.N
 obtain ⟨z1,z2,z3,z4⟩:=id N.g
 have hh:HI n ks cl ck g.O g.T (liv (g.M 0) (g.C 0)):=I.h
 have ht:t=tw n H:=I.t
 have hlt:(-1:Int)<cl.length∧o1<(cl.length:Int)∧o2<(cl.length:Int)∧o3<(cl.length:Int):=I.lt
 have hopn:∀ d,d<cl.length→(cl.getD d []).getD 2 0=-1→(d:Int)=-1∨(d:Int)=o1∨(d:Int)=o2∨(d:Int)=o3:=I.opn
 have hfut:∀ i:Int,(cntI io:Int)≤i→g.E i=0∧∀ l,g.M l i=false:=I.fut
 have hf:=hfut k (by omega)
 have hhi:=N.hi (i:=k) (by omega) (by omega)
 obtain ⟨h',p,hnc⟩:=hh.begin (k:=4) (a:=k) (w:=keyF ks k) (.inl rfl) (.put (k:Int))
 have bcl:cl.length≤m:=b.cl
 have bck:ck≤(m:Int):=b.ck
 have T:=TR.begin (g:=g) (o:=.put (k:Int)) (r:=rowQ cl.length (ck+1) (-1) 4 k (keyF ks k) 0 0 0) (d0:=Ql.Fd.anew H ⟨1,0,0,0,0,fun _=>(0,0)⟩) (d1:=g.d1) (d2:=g.d2) (cl:=cl)
 subst ht
 refine ⟨⟨g.X,g.M,g.E,g.C,updO g.O cl.length (.put (k:Int)),g.T,Ql.Fd.anew H ⟨1,0,0,0,0,fun _=>(0,0)⟩,g.d1,g.d2⟩,I.N,rfl,I.sz,I.W,I.V,h',opn_beg (P:=fun c=>(c:Int)=cl.length∨(c:Int)=o1∨(c:Int)=o2∨(c:Int)=o3) (fun d hd ht=>?_) (.inl rfl),⟨cl.length,ck+1,rfl,p,updO_eq,⟨fun h=>absurd h hnc,fun h=>?_⟩,?_⟩,I.k1.mono (RW.refl (own:=-1)) T (show o1≠_ by omega),I.k2.mono (RW.refl (own:=-1)) T (show o2≠_ by omega),I.p.mono (RW.refl (own:=-1)) T (show o3≠_ by omega) (fun y hy=>hy),I.df,fun i hi=>hfut i ?_,?_,I.gt,I.g1,I.g2,I.tl,
  ⟨by simp;omega,by show ck+1≤((m+1:Nat):Int);omega,Nat.zero_le _,Nat.le_succ_of_le b.f1,Nat.le_succ_of_le b.f2,Nat.le_succ_of_le b.f3,Nat.le_succ_of_le b.gt⟩⟩
 ·have:=hopn d hd ht
  omega
 ·have h:1≤g.E k:=h
  omega
 ·refine IR.of ⟨rfl,rfl,rfl,href,rfl,rfl,hhi.1.symm,by omega,by omega⟩ ⟨rfl,rfl,rfl⟩ 1 0 rfl rfl (by omega) (by omega) (fun _=>⟨FR.new N.g,Ql.FInv.anew (by omega)⟩) (by omega) (fun _ h=>(by cases h)) (fun _=>hf) (by omega) (by omega) (by omega) (by omega) (by omega) (by omega)
 ·have h:((k+1:Nat):Int)≤i:=hi
  omega
 ·show k+1≤n
  omega
theorem skip0 (I:CI n H m ⟨t,sz,ks,hs,j,ws,f0,f1,f2,f3,gt,cl,-1,o1,o2,o3,ck,io,c0,c1,pk⟩ g):CI n H (m+1) ⟨t,sz,ks,hs,j,ws,f0,f1,f2,f3,gt,cl,-1,o1,o2,o3,ck+1,io,c0,c1,pk⟩ g:=by
 have b:=I.b
 have bck:ck≤(m:Int):=b.ck
 have hh:HI n ks cl ck g.O g.T (liv (g.M 0) (g.C 0)):=I.h
 exact ⟨I.N,I.t,I.sz,I.W,I.V,hh.clk,I.opn,I.i,I.k1,I.k2,I.p,I.df,I.fut,I.cn,I.gt,I.g1,I.g2,I.tl,⟨Nat.le_succ_of_le b.cl,by show ck+1≤((m+1:Nat):Int);omega,Nat.le_succ_of_le b.f0,Nat.le_succ_of_le b.f1,Nat.le_succ_of_le b.f2,Nat.le_succ_of_le b.f3,Nat.le_succ_of_le b.gt⟩⟩
theorem skr1 (P:Int→Prop):SkR n H g.X g.M g.E P ⟨tw n H,0,false,1,0,0,0,0,0,0,true,0⟩:=
 ⟨rfl,rfl,rfl,.inl rfl,fun h=>absurd rfl h,fun h=>absurd h (by decide:¬ (1:Int)=2),fun h=>absurd h (by decide:¬ (1:Int)=3)⟩
theorem not9:¬ own9 ⟨t,0,false,1,0,0,0,0,0,0,true,0⟩:=fun h=>absurd h (show ¬ ((1:Int)=9∨(1:Int)=91) by decide)
theorem beg1 (I:CI n H m ⟨t,sz,ks,hs,j,ws,f0,f1,f2,f3,gt,cl,o0,-1,o2,o3,ck,io,c0,c1,pk⟩ g):
  ∃ g',CI n H (m+1) ⟨t,sz,ks,hs,j,ws,f0,[],f2,f3,gt,cl++[[(cl.length:Int),ck+1,-1,5,0,0,0,0,0,0]],o0,cl.length,o2,o3,ck+1,io,.a ⟨t,0,false,1,0,0,0,0,0,0,true,0⟩,c1,pk⟩ g':=by
 have b:=I.b
 have N:Nums n H ks hs:=I.N
 have hh:HI n ks cl ck g.O g.T (liv (g.M 0) (g.C 0)):=I.h
 have ht:t=tw n H:=I.t
 have hlt:o0<(cl.length:Int)∧(-1:Int)<cl.length∧o2<(cl.length:Int)∧o3<(cl.length:Int):=I.lt
 have hopn:∀ d,d<cl.length→(cl.getD d []).getD 2 0=-1→(d:Int)=o0∨(d:Int)=-1∨(d:Int)=o2∨(d:Int)=o3:=I.opn
 obtain ⟨h',p,hnc⟩:=hh.begin (k:=5) (a:=0) (w:=0) (.inr (.inl rfl)) (.pick none)
 have bcl:cl.length≤m:=b.cl
 have bck:ck≤(m:Int):=b.ck
 have T:=TR.begin (g:=g) (o:=.pick none) (r:=rowQ cl.length (ck+1) (-1) 5 0 0 0 0 0) (d0:=g.d0) (d1:=g.d1) (d2:=g.d2) (cl:=cl)
 subst ht
 refine ⟨⟨g.X,g.M,g.E,g.C,updO g.O cl.length (.pick none),g.T,g.d0,g.d1,g.d2⟩,I.N,rfl,I.sz,I.W,I.V,h',opn_beg (P:=fun c=>(c:Int)=o0∨(c:Int)=cl.length∨(c:Int)=o2∨(c:Int)=o3) (fun d hd ht=>?_) (.inr (.inl rfl)),I.i.mono (RW.refl (own:=-1)) T (show o0≠_ by omega) rfl,⟨cl.length,ck+1,rfl,p,⟨fun h=>absurd h hnc,fun h=>absurd h not9⟩,fun h=>absurd h not9,.inl (skr1 _)⟩,I.k2.mono (RW.refl (own:=-1)) T (show o2≠_ by omega),I.p.mono (RW.refl (own:=-1)) T (show o3≠_ by omega) (fun y hy=>hy),fun h=>?_,I.fut,I.cn,I.gt,fun i h=>absurd h.1 not9,I.g2,I.tl,
  ⟨by simp;omega,by show ck+1≤((m+1:Nat):Int);omega,Nat.le_succ_of_le b.f0,Nat.zero_le _,Nat.le_succ_of_le b.f2,Nat.le_succ_of_le b.f3,Nat.le_succ_of_le b.gt⟩⟩
 ·have:=hopn d hd ht
  omega
 ·have h:(cl.length:Int)=o2:=h
  omega
theorem beg2 (I:CI n H m ⟨t,sz,ks,hs,j,ws,f0,f1,f2,f3,gt,cl,o0,o1,-1,o3,ck,io,c0,c1,pk⟩ g):
  ∃ g',CI n H (m+1) ⟨t,sz,ks,hs,j,ws,f0,f1,[],f3,gt,cl++[[(cl.length:Int),ck+1,-1,5,0,0,0,0,0,0]],o0,o1,cl.length,o3,ck+1,io,c0,.a ⟨t,0,false,1,0,0,0,0,0,0,true,0⟩,pk⟩ g':=by
 have b:=I.b
 have N:Nums n H ks hs:=I.N
 have hh:HI n ks cl ck g.O g.T (liv (g.M 0) (g.C 0)):=I.h
 have ht:t=tw n H:=I.t
 have hlt:o0<(cl.length:Int)∧o1<(cl.length:Int)∧(-1:Int)<cl.length∧o3<(cl.length:Int):=I.lt
 have hopn:∀ d,d<cl.length→(cl.getD d []).getD 2 0=-1→(d:Int)=o0∨(d:Int)=o1∨(d:Int)=-1∨(d:Int)=o3:=I.opn
 obtain ⟨h',p,hnc⟩:=hh.begin (k:=5) (a:=0) (w:=0) (.inr (.inl rfl)) (.pick none)
 have bcl:cl.length≤m:=b.cl
 have bck:ck≤(m:Int):=b.ck
 have T:=TR.begin (g:=g) (o:=.pick none) (r:=rowQ cl.length (ck+1) (-1) 5 0 0 0 0 0) (d0:=g.d0) (d1:=g.d1) (d2:=g.d2) (cl:=cl)
 subst ht
 refine ⟨⟨g.X,g.M,g.E,g.C,updO g.O cl.length (.pick none),g.T,g.d0,g.d1,g.d2⟩,I.N,rfl,I.sz,I.W,I.V,h',opn_beg (P:=fun c=>(c:Int)=o0∨(c:Int)=o1∨(c:Int)=cl.length∨(c:Int)=o3) (fun d hd ht=>?_) (.inr (.inr (.inl rfl))),I.i.mono (RW.refl (own:=-1)) T (show o0≠_ by omega) rfl,I.k1.mono (RW.refl (own:=-1)) T (show o1≠_ by omega),⟨cl.length,ck+1,rfl,p,⟨fun h=>absurd h hnc,fun h=>absurd h not9⟩,fun h=>absurd h not9,.inl (skr1 _)⟩,I.p.mono (RW.refl (own:=-1)) T (show o3≠_ by omega) (fun y hy=>hy),fun h=>?_,I.fut,I.cn,I.gt,fun i h=>⟨(I.g1 i h).1,(I.g1 i h).2.1,fun h=>absurd h.1 not9⟩,fun i h=>absurd h.1 not9,I.tl,
  ⟨by simp;omega,by show ck+1≤((m+1:Nat):Int);omega,Nat.le_succ_of_le b.f0,Nat.le_succ_of_le b.f1,Nat.zero_le _,Nat.le_succ_of_le b.f3,Nat.le_succ_of_le b.gt⟩⟩
 ·have:=hopn d hd ht
  omega
 ·have h:o1=(cl.length:Int):=h
  omega
theorem beg3 (I:CI n H m ⟨t,sz,ks,hs,j,ws,f0,f1,f2,f3,gt,cl,o0,o1,o2,-1,ck,io,c0,c1,pk⟩ g):
  ∃ g',CI n H (m+1) ⟨t,sz,ks,hs,j,ws,f0,f1,f2,[],gt,cl++[[(cl.length:Int),ck+1,-1,6,0,0,0,0,0,0]],o0,o1,o2,cl.length,ck+1,io,c0,c1,.a ⟨t,0,false,1,0,0,0,0,0,0,true,0⟩⟩ g':=by
 have b:=I.b
 have N:Nums n H ks hs:=I.N
 have hh:HI n ks cl ck g.O g.T (liv (g.M 0) (g.C 0)):=I.h
 have ht:t=tw n H:=I.t
 have hlt:o0<(cl.length:Int)∧o1<(cl.length:Int)∧o2<(cl.length:Int)∧(-1:Int)<cl.length:=I.lt
 have hopn:∀ d,d<cl.length→(cl.getD d []).getD 2 0=-1→(d:Int)=o0∨(d:Int)=o1∨(d:Int)=o2∨(d:Int)=-1:=I.opn
 obtain ⟨h',p,hnc⟩:=hh.begin (k:=6) (a:=0) (w:=0) (.inr (.inr rfl)) (.look none)
 have bcl:cl.length≤m:=b.cl
 have bck:ck≤(m:Int):=b.ck
 have T:=TR.begin (g:=g) (o:=.look none) (r:=rowQ cl.length (ck+1) (-1) 6 0 0 0 0 0) (d0:=g.d0) (d1:=g.d1) (d2:=g.d2) (cl:=cl)
 subst ht
 refine ⟨⟨g.X,g.M,g.E,g.C,updO g.O cl.length (.look none),g.T,g.d0,g.d1,g.d2⟩,I.N,rfl,I.sz,I.W,I.V,h',opn_beg (P:=fun c=>(c:Int)=o0∨(c:Int)=o1∨(c:Int)=o2∨(c:Int)=cl.length) (fun d hd ht=>?_) (.inr (.inr (.inr rfl))),I.i.mono (RW.refl (own:=-1)) T (show o0≠_ by omega) rfl,I.k1.mono (RW.refl (own:=-1)) T (show o1≠_ by omega),I.k2.mono (RW.refl (own:=-1)) T (show o2≠_ by omega),⟨cl.length,ck+1,rfl,p,.inl (skr1 _),fun _=>hnc⟩,I.df,I.fut,I.cn,I.gt,I.g1,I.g2,I.tl,
  ⟨by simp;omega,by show ck+1≤((m+1:Nat):Int);omega,Nat.le_succ_of_le b.f0,Nat.le_succ_of_le b.f1,Nat.le_succ_of_le b.f2,Nat.zero_le _,Nat.le_succ_of_le b.gt⟩⟩
 have:=hopn d hd ht
 omega
end
theorem pick_rg (x:Int):0≤XR x 4∧XR x 4<4:=by
 unfold XR
 have h1:x.tmod 4<4:=Int.tmod_lt_of_pos x (by decide)
 have h2:-4<x.tmod 4:=by
  have:=Int.lt_tmod_of_pos x (b:=4) (by decide)
  omega
 split
 ·rw [XM (by omega) (by omega)];omega
 ·omega
theorem begs {n H m:Nat} {σ:CS} {g:GhC} (I:CI n H m σ g) (hm:m<5000) (c:Int) (hc:(c=0∧σ.o0<0)∨(c=1∧σ.o1<0)∨(c=2∧σ.o2<0)∨(c=3∧σ.o3<0)):∃ σ' g',StH c σ σ'∧CI n H (m+1) σ' g'∧σ'.ks=σ.ks:=by
 have h0m:(σ.o0<0→σ.o0=-1)∧(σ.o1<0→σ.o1=-1)∧(σ.o2<0→σ.o2=-1)∧(σ.o3<0→σ.o3=-1):=by
  refine ⟨fun h=>?_,fun h=>?_,fun h=>?_,fun h=>?_⟩
  ·have:=I.i
   cases hio:σ.io with
   |none=>rw [hio] at this;exact this
   |over k=>rw [hio] at this;exact this
   |a k x f rs=>rw [hio] at this;obtain ⟨c,f0,e,_⟩:=this;omega
   |r k x f rs q=>rw [hio] at this;obtain ⟨c,f0,e,_⟩:=this;omega
   |p k x f rs q u=>rw [hio] at this;obtain ⟨c,f0,e,_⟩:=this;omega
  ·rcases I.k1.call with e|⟨c,f,e,p⟩<;>omega
  ·rcases I.k2.call with e|⟨c,f,e,p⟩<;>omega
  ·rcases I.p.call with e|⟨c,f,e,p⟩<;>omega
 have hio0:σ.o0<0→σ.io=.none∨∃ k,σ.io=.over k:=fun h=>by
  have:=I.i
  cases hio:σ.io with
  |none=>exact .inl rfl
  |over k=>exact .inr ⟨k,rfl⟩
  |a k x f rs=>rw [hio] at this;obtain ⟨c,f0,e,_⟩:=this;omega
  |r k x f rs q=>rw [hio] at this;obtain ⟨c,f0,e,_⟩:=this;omega
  |p k x f rs q u=>rw [hio] at this;obtain ⟨c,f0,e,_⟩:=this;omega
 obtain ⟨t,sz,ks,hs,j,ws,f0,f1,f2,f3,gt,cl,o0,o1,o2,o3,ck,io,c0,c1,pk⟩:=σ
 simp only at hc h0m hio0
 have b:=I.b
 have bcl:cl.length≤m:=b.cl
 have bck:ck≤(m:Int):=b.ck
 have hck0:0≤ck:=I.h.ck0
 have hw:IntKind.i64.wrap (ck+1)=ck+1:=XM (by omega) (by omega)
 have N:Nums n H ks hs:=I.N
 have ht:t=tw n H:=I.t
 have hok:=tw_ok N.g
 obtain ⟨z1,z2,z3,z4⟩:=id N.g
 have hkl:=N.kl
 have hhl:=N.hl
 rcases hc with ⟨rfl,h⟩|⟨rfl,h⟩|⟨rfl,h⟩|⟨rfl,h⟩
 ·have e:=h0m.1 h
  subst e
  have hP:t.hasP 0 0:=by rw [ht];exact ⟨hok,by decide,by simp only [tw];omega,by decide,by simp only [tw];omega⟩
  have hp0:¬ (ptA t 0 0<0):=by rw [ht];unfold ptA;simp only [tw];omega
  have eh:t.height=(H:Int):=by rw [ht];rfl
  have es:t.size=(n:Int):=by rw [ht];rfl
  have hok':t.ok:=by rw [ht];exact hok
  by_cases hlt:cntI io<n
  ·have hh1:=N.h1 (cntI io:Nat) (by omega) (by omega)
   rw [Int.toNat_natCast] at hh1
   rcases hio0 h with e|⟨k,e⟩
   ·subst e
    have hlt':0<n:=hlt
    have hst:=abg0_0 (t:=t) (sz:=sz) (ks:=ks) (hs:=hs) (j:=j) (ws:=ws) (f0:=f0) (f1:=f1) (f2:=f2) (f3:=f3) (gt:=gt) (cl:=cl) (o1:=o1) (o2:=o2) (o3:=o3) (ck:=ck) (c0:=c0) (c1:=c1) (pk:=pk) (by omega) (by omega) (by omega) (by omega) (by omega) hP hp0 (by omega) (by have:(1:Int)≤hs.getD 0 0:=hh1.1;omega) (by have:hs.getD 0 0≤(H:Int):=hh1.2;omega) hok' (by omega)
    rw [hw] at hst
    obtain ⟨g',I'⟩:=beg0 I 0 rfl hlt' (ref:=65537) (by decide)
    exact ⟨_,g',hst,I',rfl⟩
   ·subst e
    have hk5:k=0∨k=1∨k=2∨k=3∨k=4:=by have h:k+1<n:=hlt;omega
    rcases hk5 with rfl|rfl|rfl|rfl|rfl
    ·have hlt':1<n:=hlt
     have hst:=abg1_0 (t:=t) (sz:=sz) (ks:=ks) (hs:=hs) (j:=j) (ws:=ws) (f0:=f0) (f1:=f1) (f2:=f2) (f3:=f3) (gt:=gt) (cl:=cl) (o1:=o1) (o2:=o2) (o3:=o3) (ck:=ck) (c0:=c0) (c1:=c1) (pk:=pk) (by omega) (by omega) (by omega) (by omega) (by omega) hP hp0 (by omega) (by have:(1:Int)≤hs.getD 1 0:=hh1.1;omega) (by have:hs.getD 1 0≤(H:Int):=hh1.2;omega) hok' (by omega)
     rw [hw] at hst
     obtain ⟨g',I'⟩:=beg0 I 1 rfl hlt' (ref:=65538) (by decide)
     exact ⟨_,g',hst,I',rfl⟩
    ·have hlt':2<n:=hlt
     have hst:=abg2_0 (t:=t) (sz:=sz) (ks:=ks) (hs:=hs) (j:=j) (ws:=ws) (f0:=f0) (f1:=f1) (f2:=f2) (f3:=f3) (gt:=gt) (cl:=cl) (o1:=o1) (o2:=o2) (o3:=o3) (ck:=ck) (c0:=c0) (c1:=c1) (pk:=pk) (by omega) (by omega) (by omega) (by omega) (by omega) hP hp0 (by omega) (by have:(1:Int)≤hs.getD 2 0:=hh1.1;omega) (by have:hs.getD 2 0≤(H:Int):=hh1.2;omega) hok' (by omega)
     rw [hw] at hst
     obtain ⟨g',I'⟩:=beg0 I 2 rfl hlt' (ref:=65539) (by decide)
     exact ⟨_,g',hst,I',rfl⟩
    ·have hlt':3<n:=hlt
     have hst:=abg3_0 (t:=t) (sz:=sz) (ks:=ks) (hs:=hs) (j:=j) (ws:=ws) (f0:=f0) (f1:=f1) (f2:=f2) (f3:=f3) (gt:=gt) (cl:=cl) (o1:=o1) (o2:=o2) (o3:=o3) (ck:=ck) (c0:=c0) (c1:=c1) (pk:=pk) (by omega) (by omega) (by omega) (by omega) (by omega) hP hp0 (by omega) (by have:(1:Int)≤hs.getD 3 0:=hh1.1;omega) (by have:hs.getD 3 0≤(H:Int):=hh1.2;omega) hok' (by omega)
     rw [hw] at hst
     obtain ⟨g',I'⟩:=beg0 I 3 rfl hlt' (ref:=65540) (by decide)
     exact ⟨_,g',hst,I',rfl⟩
    ·have hlt':4<n:=hlt
     have hst:=abg4_0 (t:=t) (sz:=sz) (ks:=ks) (hs:=hs) (j:=j) (ws:=ws) (f0:=f0) (f1:=f1) (f2:=f2) (f3:=f3) (gt:=gt) (cl:=cl) (o1:=o1) (o2:=o2) (o3:=o3) (ck:=ck) (c0:=c0) (c1:=c1) (pk:=pk) (by omega) (by omega) (by omega) (by omega) (by omega) hP hp0 (by omega) (by have:(1:Int)≤hs.getD 4 0:=hh1.1;omega) (by have:hs.getD 4 0≤(H:Int):=hh1.2;omega) hok' (by omega)
     rw [hw] at hst
     obtain ⟨g',I'⟩:=beg0 I 4 rfl hlt' (ref:=65541) (by decide)
     exact ⟨_,g',hst,I',rfl⟩
    ·have hlt':5<n:=hlt
     have hst:=abg5_0 (t:=t) (sz:=sz) (ks:=ks) (hs:=hs) (j:=j) (ws:=ws) (f0:=f0) (f1:=f1) (f2:=f2) (f3:=f3) (gt:=gt) (cl:=cl) (o1:=o1) (o2:=o2) (o3:=o3) (ck:=ck) (c0:=c0) (c1:=c1) (pk:=pk) (by omega) (by omega) (by omega) (by omega) (by omega) hP hp0 (by omega) (by have:(1:Int)≤hs.getD 5 0:=hh1.1;omega) (by have:hs.getD 5 0≤(H:Int):=hh1.2;omega) hok' (by omega)
     rw [hw] at hst
     obtain ⟨g',I'⟩:=beg0 I 5 rfl hlt' (ref:=65542) (by decide)
     exact ⟨_,g',hst,I',rfl⟩
  ·have hcn:cntI io≤n:=I.cn
   rcases hio0 h with e|⟨k,e⟩
   ·subst e
    have:¬ 0<n:=hlt
    omega
   ·subst e
    have hk6:cntI (.over k)≤6:=by omega
    have hst:=ask_0 (t:=t) (sz:=sz) (ks:=ks) (hs:=hs) (j:=j) (ws:=ws) (f0:=f0) (f1:=f1) (f2:=f2) (f3:=f3) (gt:=gt) (cl:=cl) (o1:=o1) (o2:=o2) (o3:=o3) (ck:=ck) (c0:=c0) (c1:=c1) (pk:=pk) (kk:=k) (by rw [allV_len hk6];omega)
    rw [hw] at hst
    exact ⟨_,g,hst,skip0 I,rfl⟩
 ·have e:=h0m.2.1 h
  subst e
  have hst:=abg_1 (t:=t) (sz:=sz) (ks:=ks) (hs:=hs) (j:=j) (ws:=ws) (f0:=f0) (f1:=f1) (f2:=f2) (f3:=f3) (gt:=gt) (cl:=cl) (o0:=o0) (o2:=o2) (o3:=o3) (ck:=ck) (io:=io) (c0:=c0) (c1:=c1) (pk:=pk) (by rw [ht];exact tw_has N.g (dm0 N.g)) (by rw [ht];unfold nxA;rw [if_pos rfl];simp only [tw];omega) (by omega)
  rw [hw] at hst
  obtain ⟨g',I'⟩:=beg1 I
  exact ⟨_,g',hst,I',rfl⟩
 ·have e:=h0m.2.2.1 h
  subst e
  have hst:=abg_2 (t:=t) (sz:=sz) (ks:=ks) (hs:=hs) (j:=j) (ws:=ws) (f0:=f0) (f1:=f1) (f2:=f2) (f3:=f3) (gt:=gt) (cl:=cl) (o0:=o0) (o1:=o1) (o3:=o3) (ck:=ck) (io:=io) (c0:=c0) (c1:=c1) (pk:=pk) (by rw [ht];exact tw_has N.g (dm0 N.g)) (by rw [ht];unfold nxA;rw [if_pos rfl];simp only [tw];omega) (by omega)
  rw [hw] at hst
  obtain ⟨g',I'⟩:=beg2 I
  exact ⟨_,g',hst,I',rfl⟩
 ·have e:=h0m.2.2.2 h
  subst e
  have hst:=abg_3 (t:=t) (sz:=sz) (ks:=ks) (hs:=hs) (j:=j) (ws:=ws) (f0:=f0) (f1:=f1) (f2:=f2) (f3:=f3) (gt:=gt) (cl:=cl) (o0:=o0) (o1:=o1) (o2:=o2) (ck:=ck) (io:=io) (c0:=c0) (c1:=c1) (pk:=pk) (by rw [ht];exact tw_has N.g (dm0 N.g)) (by rw [ht];unfold nxA;rw [if_pos rfl];simp only [tw];omega) (by omega)
  rw [hw] at hst
  obtain ⟨g',I'⟩:=beg3 I
  exact ⟨_,g',hst,I',rfl⟩
end Go.Sx
