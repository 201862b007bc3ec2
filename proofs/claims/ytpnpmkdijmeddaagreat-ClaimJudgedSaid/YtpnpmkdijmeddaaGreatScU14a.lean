/- The plain law of a crew over a tower: a Claim's acts (core 1). Printed by gen_U14.py. -/
import Derived.Test.YtpnpmkdijmeddaaGreatScB3a
import Derived.Test.YtpnpmkdijmeddaaGreatScB3b
set_option maxRecDepth 100000
namespace Go.Sx
open Go.Ql (SInv FInv fstep updF XX XW lkd RW liv insK Ent XT)
theorem part_all {l:List Int}:part l 0 l.length=l:=by unfold part;rw [List.drop_zero,List.take_length]
theorem allV_len {io:IS} (h:cntI io≤6):(allV (fun m=>m) io).length=cntI io:=by
 have g:∀ k,k+1≤6→(takeN k (oldV fun m=>m)++[V.ptr 22 0 0 0]).length=k+1:=fun k hk=>by
  have:k=0∨k=1∨k=2∨k=3∨k=4∨k=5:=by omega
  rcases this with rfl|rfl|rfl|rfl|rfl|rfl<;>rfl
 cases io with
 |none=>rfl
 |over k=>exact g k h
 |a k x f rs=>exact g k h
 |r k x f rs q=>exact g k h
 |p k x f rs q u=>exact g k h
theorem CI.fin_ok {n H m:Nat} {σ:CS} {g:GhC} {i:Int} (I:CI n H m σ g) (i0:0≤i) (i1:i<n) (hm:g.M 0 i=true):¬ (i≥(((allV (fun m=>m) σ.io).length:Nat):Int))∧(0≤i∧i<((σ.ks.length:Nat):Int))∧i.toNat<σ.ks.length:=by
 have hc:=I.cn
 have hg:=I.N.g
 have hk:=I.N.kl
 have h6:cntI σ.io≤6:=by obtain ⟨_,_,_,_⟩:=hg;omega
 refine ⟨fun h=>?_,⟨i0,by omega⟩,by omega⟩
 rw [allV_len h6] at h
 have:=(I.fut i h).2 0
 rw [hm] at this;cases this
section
variable {n H m c:Nat} {σ:CS} {g g':GhC} {f0:Int}
theorem CI.a1 (I:CI n H m σ g) {k':KS} {o':Int} {fl' gt':List Int} {cl':List (List Int)} {ck':Int} {ws':List Int} {j':MJ} {z:Ent} (ho:σ.o1=c) (p:pend σ.cl c f0 5 0 0) (W':WI n H σ.ks σ.hs g'.X g'.M ws') (V':SInv H n (keyF σ.ks) (hiF n σ.hs) g'.X g'.M g'.E g'.C)
  (R:RW n (-1) g.X g.M g.E g'.X g'.M g'.E) (h':HI n σ.ks cl' ck' g'.O g'.T (liv (g'.M 0) (g'.C 0))) (hT:g'.T=g.T++[z]) (hz:z.S=liv (g.M 0) (g.C 0)) (hze:∀ d∈Ql.callOf z.e,d=c) (hO:∀ d,d≠c→g'.O d=g.O d) (hcl:cl'=σ.cl∨∃ r,cl'=σ.cl.set c r)
  (opn':∀ c,c<cl'.length→(cl'.getD c []).getD 2 0=-1→(c:Int)=σ.o0∨(c:Int)=o'∨(c:Int)=σ.o2∨(c:Int)=σ.o3) (k1':KCore n H σ.ks σ.hs g' cl' fl' g'.d1 k' o') (ho':o'=σ.o1∨o'=-1) (hd:g'.d0=g.d0∧g'.d2=g.d2)
  (hgt:∀ i∈gt',g'.M 0 i=true) (hg:∀ i,ownP k' i→g'.M 0 i=true∧¬ i∈gt'∧¬ ownP σ.c1 i) (hg2:∀ i,ownP σ.c1 i→¬ i∈gt')
  (bf:fl'.length≤m+1) (bck:ck'≤((m+1:Nat):Int)) (bg:gt'.length≤m+1):
  CI n H (m+1) {σ with ws:=ws',j:=j',c0:=k',o1:=o',f1:=fl',cl:=cl',ck:=ck',gt:=gt'} g':=by
 have T:TR c g σ.cl g' cl':=TR.snoc hT hze hO hcl
 have n0:=I.ne0 p (by decide)
 have n3:=I.ne3 p (by decide)
 have n2:σ.o2≠c:=fun h=>by have:=I.df;omega
 have hlen:cl'.length=σ.cl.length:=by
  rcases hcl with rfl|⟨r,rfl⟩
  ·rfl
  ·rw [List.length_set]
 have b:=I.b
 have hother:KCore n H σ.ks σ.hs g' cl' σ.f2 g'.d2 σ.c1 σ.o2:=by rw [hd.2];exact I.k2.mono R T n2
 refine ⟨I.N,I.t,I.sz,W',V',h',opn',I.i.mono R T n0 hd.1,k1',hother,I.p.mono R T n3 (fun y hy=>by rw [hT];simp [hy]),fun h=>(by have h:o'=σ.o2:=h;rcases ho' with e|e;exact e.trans (I.df (e.symm.trans h));exact e),I.fut' (own:=-1) (by omega) R,I.cn,hgt,hg,fun i hi=>⟨R.mm _ _ (I.g2 i hi).1,hg2 i hi⟩,I.tl' hT hz R.lv,
  ⟨by show cl'.length≤m+1;rw [hlen];exact Nat.le_succ_of_le b.cl,bck,Nat.le_succ_of_le b.f0,bf,Nat.le_succ_of_le b.f2,Nat.le_succ_of_le b.f3,bg⟩⟩
def LfK1 (n H:Nat) (σ:CS) (g:GhC) (l:Nat):Prop:=match σ.c0 with
 |.a y=>CLf n H σ.ks σ.ws g.X g.M y l
 |.b y _ _=>DL n H σ.ks g.X g.M y g.d1 l
 |.r _ _ _ _=>4≤l
 |.p _ _ _ _ u=>PL σ.ws u l
 |_=>True
def AO1 (n H m:Nat) (σ:CS) (g:GhC):Prop:=∃ σ' g',StA 1 σ σ'∧CI n H (m+1) σ' g'∧(σ'.o1=-1∨((∀ l,LfK1 n H σ g (l+1)→LfK1 n H σ' g' l)∧σ'.o1=σ.o1))∧σ'.ks=σ.ks∧σ'.o0=σ.o0∧σ'.o2=σ.o2∧σ'.o3=σ.o3∧σ'.cl.length=σ.cl.length
end
section
variable {n H m:Nat} {t:Tw} {sz:Int} {ks hs:List Int} {j:MJ} {ws f0 f1 f2 f3 gt:List Int} {cl:List (List Int)} {o0 o1 o2 o3 ck:Int} {f:FdC} {rs:List (List Int)} {io:IS} {c0 c1:KS} {pk:PS} {g:GhC} {q:ReC} {u:PuC} {y:ClC}
theorem act1q {k k':KS} {ws':List Int} {j':MJ} {X':Nat→Int→Int} {M':Nat→Int→Bool} {C':Nat→List Int} {d':Ql.Fd} (I:CI n H m ⟨t,sz,ks,hs,j,ws,f0,f1,f2,f3,gt,cl,o0,o1,o2,o3,ck,io,k,c1,pk⟩ g) {c:Nat} {fr:Int} (e:o1=c) (p:pend cl c fr 5 0 0)
  (W':WI n H ks hs X' M' ws') (V':SInv H n (keyF ks) (hiF n hs) X' M' g.E C') (R:RW n (-1) g.X g.M g.E X' M' g.E) (hlv:liv (M' 0) (C' 0)=liv (g.M 0) (g.C 0)) (hown:∀ i,ownP k' i→ownP k i)
  (i':∀ T',(c∈XT T'↔c∈XT g.T)→(∀ i,WP (g.T++[⟨ck,liv (g.M 0) (g.C 0),.tau⟩]) (f1++[fstL t sz ws]) fr i→WP T' (f1++[fstL t sz ws]) fr i)→KCore n H ks hs (⟨X',M',g.E,C',g.O,T',g.d0,d',g.d2⟩) cl (f1++[fstL t sz ws]) d' k' o1):
  ∃ g',CI n H (m+1) ⟨t,sz,ks,hs,j',ws',f0,f1++[fstL t sz ws],f2,f3,gt,cl,o0,o1,o2,o3,ck,io,k',c1,pk⟩ g'∧g'.X=X'∧g'.M=M'∧g'.d1=d':=by
 have b:=I.b
 have bf:f1.length≤m:=b.f1
 have bck:ck≤(m:Int):=b.ck
 have bg:gt.length≤m:=b.gt
 have hh:HI n ks cl ck g.O g.T (liv (g.M 0) (g.C 0)):=I.h
 refine ⟨⟨X',M',g.E,C',g.O,(g.T++[⟨ck,liv (g.M 0) (g.C 0),.tau⟩]),g.d0,d',g.d2⟩,?_,rfl,rfl,rfl⟩
 refine I.a1 (g':=⟨X',M',g.E,C',g.O,(g.T++[⟨ck,liv (g.M 0) (g.C 0),.tau⟩]),g.d0,d',g.d2⟩) (z:=⟨ck,liv (g.M 0) (g.C 0),.tau⟩) (k':=k') (cl':=cl) (ck':=ck) (gt':=gt) (fl':=f1++[fstL t sz ws]) e p W' V' R ?_ rfl rfl (tau_calls _ _ _) (fun _ _=>rfl) (.inl rfl) I.opn (i' _ tau_in (fun i h=>h)) (.inl rfl) ⟨rfl,rfl⟩ (fun i hi=>R.mm _ _ (I.gt i hi)) (fun i hi=>?_) (fun i hi=>?_) (by simp;omega) (by omega) (by omega)
 ·show HI n ks cl ck g.O _ (liv (M' 0) (C' 0))
  rw [hlv];exact hh.tau I.srt
 ·have:=I.g1 i (hown i hi)
  exact ⟨R.mm _ _ this.1,this.2⟩
 ·exact (I.g2 i hi).2
theorem act1e {k:KS} {ws':List Int} {j':MJ} {i:Int} (I:CI n H m ⟨t,sz,ks,hs,j,ws,f0,f1,f2,f3,gt,cl,o0,o1,o2,o3,ck,io,k,c1,pk⟩ g) (hm:m<5000) {c:Nat} {fr:Int} (e:o1=c) (p:pend cl c fr 5 0 0) (hc:c∈XT g.T) (hO:g.O c=.pick (some i)) (i0:0≤i) (i1:i<n) (hk:ownP k i)
  (W':WI n H ks hs g.X g.M ws'):∃ g',CI n H (m+1) ⟨t,sz,ks,hs,j',ws',f0,f1++[fstL t sz ws],f2,f3,gt++[i],clE cl o1 ck 0 i (keyF ks i),o0,-1,o2,o3,IntKind.i64.wrap (ck+1),io,.over,c1,pk⟩ g':=by
 have b:=I.b
 have bf:f1.length≤m:=b.f1
 have bck:ck≤(m:Int):=b.ck
 have bg:gt.length≤m:=b.gt
 have hh:HI n ks cl ck g.O g.T (liv (g.M 0) (g.C 0)):=I.h
 have h0:=hh.ck0
 have hw:IntKind.i64.wrap (ck+1)=ck+1:=XM (by omega) (by omega)
 have hopn:∀ d,d<cl.length→(cl.getD d []).getD 2 0=-1→(d:Int)=o0∨(d:Int)=o1∨(d:Int)=o2∨(d:Int)=o3:=I.opn
 refine ⟨⟨g.X,g.M,g.E,g.C,g.O,g.T++[⟨ck,liv (g.M 0) (g.C 0),.tau⟩],g.d0,g.d1,g.d2⟩,?_⟩
 rw [hw,e,clE_eq p h0 (by omega)]
 refine I.a1 (z:=⟨ck,liv (g.M 0) (g.C 0),.tau⟩) (k':=.over) (o':=-1) e p W' I.V .refl ((hh.tau I.srt).fin p (tau_in.2 hc) ?_) rfl rfl (tau_calls _ _ _) (fun _ _=>rfl) (.inr ⟨_,rfl⟩) (opn_fin (P:=fun c=>(c:Int)=o0∨(c:Int)=-1∨(c:Int)=o2∨(c:Int)=o3) (show ck+1≠-1 by omega) p.1 fun d hd ht=>?_) rfl (.inr rfl) ⟨rfl,rfl⟩ (fun a ha=>?_) (fun a ha=>(by cases ha)) (fun a ha=>?_) (by simp;omega) (by omega) (by simp;omega)
 ·exact .inr (.inl ⟨rfl,rfl,rfl,.inr ⟨i,hO,i0,i1,rfl,rfl,rfl⟩⟩)
 ·have:=hopn d hd ht
  omega
 ·rcases List.mem_append.1 ha with h|h
  ·exact I.gt a h
  ·rw [List.mem_singleton.1 h];exact (I.g1 i hk).1
 ·intro h
  rcases List.mem_append.1 h with h|h
  ·exact (I.g2 a ha).2 h
  ·rw [List.mem_singleton.1 h] at ha;exact (I.g1 i hk).2.2 ha
end
section
variable {n H m:Nat} {t:Tw} {sz:Int} {ks hs:List Int} {j:MJ} {ws f0 f1 f2 f3 gt:List Int} {cl:List (List Int)} {o0 o1 o2 o3 ck:Int} {f:FdC} {rs:List (List Int)} {io:IS} {c1:KS} {pk:PS} {g:GhC} {q:ReC} {u:PuC} {y:ClC}
theorem act1a (I:CI n H m ⟨t,sz,ks,hs,j,ws,f0,f1,f2,f3,gt,cl,o0,o1,o2,o3,ck,io,.a y,c1,pk⟩ g) (ho:o1≥0) (hm:m<5000) (h91:y.ln≠91):AO1 n H m ⟨t,sz,ks,hs,j,ws,f0,f1,f2,f3,gt,cl,o0,o1,o2,o3,ck,io,.a y,c1,pk⟩ g:=by
 obtain ⟨c,fr,e,p,hev,hOc,S⟩:=I.k1
 have e:o1=c:=e
 have b:=I.b
 have bf:f1.length≤m:=b.f1
 have bck:ck≤(m:Int):=b.ck
 have bg:gt.length≤m:=b.gt
 have W:WI n H ks hs g.X g.M ws:=I.W
 have V:SInv H n (keyF ks) (hiF n hs) g.X g.M g.E g.C:=I.V
 have N:Nums n H ks hs:=I.N
 have hsz:sz=szW n H:=I.sz
 have hh:HI n ks cl ck g.O g.T (liv (g.M 0) (g.C 0)):=I.h
 have hfr:=hh.fle p
 have hpl:c<cl.length:=p.1
 have hpre:cPre y sz ws:=by rw [hsz];exact S.pre N W
 have hfst:fstL t sz ws=hdS (liv (g.M 0) (g.C 0)):=I.fst
 have hopn:∀ d,d<cl.length→(cl.getD d []).getD 2 0=-1→(d:Int)=o0∨(d:Int)=o1∨(d:Int)=o2∨(d:Int)=o3:=I.opn
 have h0:=hh.ck0
 have hw:IntKind.i64.wrap (ck+1)=ck+1:=XM (by omega) (by omega)
 have hP:∀ i,WP g.T f1 fr i→WP (g.T++[⟨ck,liv (g.M 0) (g.C 0),.tau⟩]) (f1++[fstL t sz ws]) fr i:=fun i h=>h.mono (fun x hx=>by simp [hx]) fun z hz=>⟨z,by simp [hz],rfl,rfl⟩
 have hF:∀ i,(liv (g.M 0) (g.C 0)).head?=some i→WP (g.T++[⟨ck,liv (g.M 0) (g.C 0),.tau⟩]) (f1++[fstL t sz ws]) fr i:=fun i h=>⟨by rw [hfst,hdS_some h];simp,⟨ck,liv (g.M 0) (g.C 0),.tau⟩,by simp,h,hfr.2⟩
 obtain ⟨X',M',C',W',V',R,⟨x1,x2,x3,x4,x5⟩|⟨S',hl,hcase⟩⟩:=S.step (j:=j) N W V hP hF h91
 ·
  have hnc:¬ c∈XT g.T:=fun h=>x5 (hev.1 h)
  have hst:=akX1 (t:=t) (hs:=hs) (ks:=ks) (j:=j) (f0:=f0) (f2:=f2) (f3:=f3) (gt:=gt) (cl:=cl) (o0:=o0) (o2:=o2) (o3:=o3) (ck:=ck) (io:=io) (c1:=c1) (pk:=pk) ho I.lvp (by omega:f1.length+1≤1048576) (I.livW.trans x3) hpre h91 x1 S.made (by rw [show (cstC y j ws).1.12=15 from x2];decide)
   ⟨by omega,by omega⟩ (by omega) (by rw [rs_len];omega) (by rw [rs_len,rs_len];omega) (by rw [rs_len,rs_len,rs_len];omega) x2 (by simp;omega) (by
    have:part (f1++[fstL t sz ws]) 0 (f1++[fstL t sz ws]).length=f1++[fstL t sz ws]:=by unfold part;rw [List.drop_zero,List.take_length]
    rw [this,hfst,x3];simp [hdS])
  rw [x2] at hst
  have hT0:(⟨ck,[],.read c⟩:Ent).S=liv (g.M 0) (g.C 0):=x3.symm
  refine ⟨_,⟨X',M',g.E,C',updO g.O c (.pick none),g.T++[⟨ck,[],.read c⟩],g.d0,g.d1,g.d2⟩,hst,?_,.inl rfl,rfl,rfl,rfl,rfl,by show (clE cl o1 ck 15 0 0).length=_;unfold clE;rw [rs_len,rs_len,rs_len,rs_len]⟩
  rw [hw,e,clE_eq p h0 (by omega)]
  refine I.a1 (z:=⟨ck,[],.read c⟩) (k':=.over) (o':=-1) e p W' V' R ?_ rfl hT0 (fun d hd=>List.mem_singleton.1 hd) (fun d hd=>updO_ne hd) (.inr ⟨_,rfl⟩) (opn_fin (P:=fun c=>(c:Int)=o0∨(c:Int)=-1∨(c:Int)=o2∨(c:Int)=o3) (show ck+1≠-1 by omega) p.1 fun d hd ht=>by have:=hopn d hd ht;omega) rfl (.inr rfl) ⟨rfl,rfl⟩ (fun a ha=>R.mm _ _ (I.gt a ha)) (fun a ha=>(by cases ha)) (fun a ha=>?_) (by simp;omega) (by omega) (by omega)
  ·show HI n ks _ _ _ _ (liv (M' 0) (C' 0))
   rw [x4,x3]
   rw [x3] at hh
   refine (hh.none p hnc (.pick none) (.inl rfl)).fin p (callsT_snoc.2 (.inr (by simp [Ql.callOf]))) ?_
   exact .inr (.inl ⟨rfl,rfl,rfl,.inl ⟨updO_eq,rfl,rfl,rfl⟩⟩)
  ·exact (I.g2 a ha).2
 ·have hln:(cstC y j ws).x.ln≠99:=by have:=S'.ln;omega
  have hst:=akN1 (t:=t) (hs:=hs) (ks:=ks) (j:=j) (f0:=f0) (f2:=f2) (f3:=f3) (gt:=gt) (cl:=cl) (o0:=o0) (o2:=o2) (o3:=o3) (ck:=ck) (io:=io) (c1:=c1) (pk:=pk) ho I.lvp (by omega:f1.length+1≤1048576) hpre h91 hln
  rw [keepC_of (KC_cst y j ws)] at hst
  rcases hcase with ⟨l1,l2,l3⟩|⟨l1,l2,l3,l4,l5,l6,l7⟩
  ·obtain ⟨g',I',e1,e2,e3⟩:=act1q (k:=.a y) (k':=.a (cstC y j ws).x) (j':=(cstC y j ws).j) (d':=g.d1) I e p W' V' R l1 (fun i hi=>⟨l2.1 hi.1,(l3 (l2.1 hi.1)).symm.trans hi.2⟩) fun T' hT hW=>⟨c,fr,e,p,hT.trans (hev.trans l2.symm),fun h=>by
    show g.O c=_
    rw [l3 (l2.1 h)];exact hOc (l2.1 h),S'.mono (own:=-1) .refl hW⟩
   exact ⟨_,g',hst,I',.inr ⟨fun l h=>by
    show CLf n H ks (cstC y j ws).ws g'.X g'.M (cstC y j ws).x l
    rw [e1,e2];exact hl l h,rfl⟩,rfl,rfl,rfl,rfl,rfl⟩
  ·have hnc:¬ c∈XT g.T:=fun h=>l5 (hev.1 h)
   have S8:KR n H ks hs g.M g.E (WP g.T f1 fr) y:=S.resolve_left fun S=>by have:=S.ln;omega
   have V0:=V.lv 0 (by obtain ⟨_,_,_,_⟩:=N.g;omega)
   have hmn:M' 0 (cstC y j ws).x.i=true:=(S'.resolve_left fun S=>by have:=S.ln;unfold own9 at l6;omega).mn l6
   refine ⟨_,⟨X',M',g.E,C',updO g.O c (.pick (some y.i)),g.T++[⟨ck,liv (g.M 0) (g.C 0),.mark c y.i⟩],g.d0,g.d1,g.d2⟩,hst,?_,.inr ⟨fun l h=>hl l h,rfl⟩,rfl,rfl,rfl,rfl,rfl⟩
   refine I.a1 (z:=⟨ck,liv (g.M 0) (g.C 0),.mark c y.i⟩) (k':=.a (cstC y j ws).x) (cl':=cl) (ck':=ck) (gt':=gt) (fl':=f1++[fstL t sz ws]) e p W' V' R ?_ rfl rfl (fun d hd=>List.mem_singleton.1 hd) (fun d hd=>updO_ne hd) (.inl rfl) I.opn ⟨c,fr,e,p,?_,fun _=>?_,S'.mono (own:=-1) .refl fun i h=>h.mono (fun x hx=>hx) fun z hz=>?_⟩ (.inl rfl) ⟨rfl,rfl⟩ (fun a ha=>R.mm _ _ (I.gt a ha)) (fun a ha=>?_) (fun a ha=>?_) (by simp;omega) (by omega) (by omega)
   ·show HI n ks cl ck _ _ (liv (M' 0) (C' 0))
    rw [l1]
    exact hh.mark I.srt p hnc (V0.lives.2 ⟨l3,l2⟩) S8.p.2
   ·show c∈XT (g.T++_)↔_
    rw [callsT_snoc]
    exact ⟨fun _=>l6,fun _=>.inr (by simp [Ql.callOf])⟩
   ·show updO g.O c _ c=_
    rw [updO_eq,l4]
   ·rcases List.mem_append.1 hz with h|h
    ·exact ⟨z,List.mem_append_left _ h,rfl,rfl⟩
    ·rw [List.mem_singleton.1 h]
     exact ⟨⟨ck,liv (g.M 0) (g.C 0),.mark c y.i⟩,List.mem_append_right _ (List.mem_singleton.2 rfl),rfl,rfl⟩
   ·have ea:y.i=a:=l4.symm.trans ha.2
    rw [ha.2] at hmn
    refine ⟨hmn,fun h=>?_,fun h=>?_⟩
    ·have:=I.gt a h
     rw [← ea,l2] at this;cases this
    ·have:=(I.g2 a h).1
     rw [← ea,l2] at this;cases this
   ·exact (I.g2 a ha).2
theorem act1f (I:CI n H m ⟨t,sz,ks,hs,j,ws,f0,f1,f2,f3,gt,cl,o0,o1,o2,o3,ck,io,.a y,c1,pk⟩ g) (ho:o1≥0) (hm:m<5000) (h91:y.ln=91):AO1 n H m ⟨t,sz,ks,hs,j,ws,f0,f1,f2,f3,gt,cl,o0,o1,o2,o3,ck,io,.a y,c1,pk⟩ g:=by
 obtain ⟨c,fr,e,p,hev,hOc,S⟩:=I.k1
 have e:o1=c:=e
 have b:=I.b
 have bf:f1.length≤m:=b.f1
 have W:WI n H ks hs g.X g.M ws:=I.W
 have V:SInv H n (keyF ks) (hiF n hs) g.X g.M g.E g.C:=I.V
 have N:Nums n H ks hs:=I.N
 have hsz:sz=szW n H:=I.sz
 have hpre:cPre y sz ws:=by rw [hsz];exact S.pre N W
 have ho9:own9 y:=.inr h91
 have hP:∀ i,WP g.T f1 fr i→WP (g.T++[⟨ck,liv (g.M 0) (g.C 0),.tau⟩]) (f1++[fstL t sz ws]) fr i:=fun i h=>h.mono (fun x hx=>by simp [hx]) fun z hz=>⟨z,by simp [hz],rfl,rfl⟩
 obtain ⟨ew,d',D',ei,hl⟩:=S.l91 (j:=j) N W V hP h91
 have hst:=akF1 (t:=t) (hs:=hs) (ks:=ks) (j:=j) (f0:=f0) (f2:=f2) (f3:=f3) (gt:=gt) (cl:=cl) (o0:=o0) (o2:=o2) (o3:=o3) (ck:=ck) (io:=io) (c1:=c1) (pk:=pk) ho I.lvp (by omega:f1.length+1≤1048576) hpre h91
 rw [keepC_of (KC_cst y j ws)] at hst
 obtain ⟨g',I',e1,e2,e3⟩:=act1q (k:=.a y) (k':=.b (cstC y j ws).x (newF y.t y.gk) (newR y.t)) (j':=(cstC y j ws).j) (ws':=(cstC y j ws).ws) (d':=d') I e p (by rw [ew];exact W) V .refl rfl (fun i hi=>⟨ho9,ei.symm.trans hi⟩) fun T' hT hW=>⟨c,fr,e,p,hT.2 (hev.2 ho9),by
   show g.O c=_
   rw [ei];exact hOc ho9,D'.mono (own:=-1) .refl hW⟩
 exact ⟨_,g',hst,I',.inr ⟨fun l h=>by
  show DL n H ks g'.X g'.M (cstC y j ws).x g'.d1 l
  rw [e1,e2,e3];exact hl l h,rfl⟩,rfl,rfl,rfl,rfl,rfl⟩
theorem act1b (I:CI n H m ⟨t,sz,ks,hs,j,ws,f0,f1,f2,f3,gt,cl,o0,o1,o2,o3,ck,io,.b y f rs,c1,pk⟩ g) (ho:o1≥0) (hm:m<5000):AO1 n H m ⟨t,sz,ks,hs,j,ws,f0,f1,f2,f3,gt,cl,o0,o1,o2,o3,ck,io,.b y f rs,c1,pk⟩ g:=by
 obtain ⟨c,fr,e,p,hc,hOc,S⟩:=I.k1
 have e:o1=c:=e
 have b:=I.b
 have bf:f1.length≤m:=b.f1
 have bg:gt.length≤m:=b.gt
 have W:WI n H ks hs g.X g.M ws:=I.W
 have V:SInv H n (keyF ks) (hiF n hs) g.X g.M g.E g.C:=I.V
 have N:Nums n H ks hs:=I.N
 have hsz:sz=szW n H:=I.sz
 have hpl:c<cl.length:=p.1
 have hpre:dPre y f rs sz ws:=by rw [hsz];exact S.pre N W
 have hP:∀ i,WP g.T f1 fr i→WP (g.T++[⟨ck,liv (g.M 0) (g.C 0),.tau⟩]) (f1++[fstL t sz ws]) fr i:=fun i h=>h.mono (fun x hx=>by simp [hx]) fun z hz=>⟨z,by simp [hz],rfl,rfl⟩
 rcases S.ln with hx|hx
 ·obtain ⟨X',C',d',W',V',R,hlv,D',ei,hl⟩:=S.l10 (j:=j) N W V hP hx
  have hln:(dstC y f rs j ws).1.ln≠99:=by have:=D'.ln;omega
  have hst:=abN1 (t:=t) (hs:=hs) (ks:=ks) (j:=j) (f0:=f0) (f2:=f2) (f3:=f3) (gt:=gt) (cl:=cl) (o0:=o0) (o2:=o2) (o3:=o3) (ck:=ck) (io:=io) (c1:=c1) (pk:=pk) ho I.lvp (by omega:f1.length+1≤1048576) hpre (fun h=>by have:=h.1;omega) hln
  rw [keepC_of (KC_dst y f rs j ws)] at hst
  have ef:keepF f (dstC y f rs j ws).2.x=(dstC y f rs j ws).2.x:=by
   unfold dstC
   rw [if_pos hx]
   exact keepF_eq (fstC_keep f rs j ws)
  rw [ef] at hst
  obtain ⟨g',I',e1,e2,e3⟩:=act1q (k:=.b y f rs) (k':=.b (dstC y f rs j ws).1 (dstC y f rs j ws).2.x (dstC y f rs j ws).2.rs) (j':=(dstC y f rs j ws).2.j) (d':=d') I e p W' V' R hlv (fun i hi=>ei.symm.trans hi) fun T' hT hW=>⟨c,fr,e,p,hT.2 hc,by
    show g.O c=_
    rw [ei];exact hOc,D'.mono (own:=-1) .refl hW⟩
  exact ⟨_,g',hst,I',.inr ⟨fun l h=>by
   show DL n H ks g'.X g'.M (dstC y f rs j ws).1 g'.d1 l
   rw [e1,e2,e3];exact hl l h,rfl⟩,rfl,rfl,rfl,rfl,rfl⟩
 ·have B:=S.B
  have i0:=B.i0
  have i1:=B.i1
  have ed:=dst_11' (f:=f) (rs:=rs) (j:=j) (ws:=ws) hx
  have ew:(dstC y f rs j ws).2.ws=ws.set (ptA (tw n H) y.i 3).toNat (addW ws (ptA y.t y.i 3).toNat 18446744073709551615):=by rw [ed,B.t]
  have W':WI n H ks hs g.X g.M (dstC y f rs j ws).2.ws:=by rw [ew];exact let_ws N W i0 i1
  by_cases hz:addW ws (ptA y.t y.i 3).toNat 18446744073709551615=0
  ·have hst:=abR1 (t:=t) (hs:=hs) (ks:=ks) (j:=j) (f0:=f0) (f2:=f2) (f3:=f3) (gt:=gt) (cl:=cl) (o0:=o0) (o2:=o2) (o3:=o3) (ck:=ck) (io:=io) (c1:=c1) (pk:=pk) ho I.lvp (by omega:f1.length+1≤1048576) hpre ⟨hx,hz⟩
   rw [keepC_of (KC_dst y f rs j ws)] at hst
   have ey:(dstC y f rs j ws).1={y with by':=y.a,ln:=12}:=by rw [ed];show ({y with by':=y.a,ln:=if _ then 12 else 99}:ClC)=_;rw [if_pos hz]
   obtain ⟨g',I',e1,e2,e3⟩:=act1q (k:=.b y f rs) (k':=.r (dstC y f rs j ws).1 f rs ⟨true,0,y.t,y.i⟩) (j':=(dstC y f rs j ws).2.j) (d':=g.d1) I e p W' V .refl rfl (fun i hi=>by rw [ey] at hi;exact hi) fun T' hT hW=>⟨c,fr,e,p,hT.2 hc,by rw [ey];exact hOc,by rw [ey];exact (B.mono (fun _ h=>h) fun i h=>hW i (hP i h)).upd rfl rfl rfl rfl rfl rfl,by rw [ey],by rw [ey,B.t]⟩
   exact ⟨_,g',hst,I',.inr ⟨fun l h=>by
    have h:DL n H ks g.X g.M y g.d1 (l+1):=h
    have:=h.l11 hx
    show 4≤l
    omega,rfl⟩,rfl,rfl,rfl,rfl,rfl⟩
  ·have ey:(dstC y f rs j ws).1={y with by':=y.a,ln:=99}:=by rw [ed];show ({y with by':=y.a,ln:=if _ then 12 else 99}:ClC)=_;rw [if_neg hz]
   have e9:(dstC y f rs j ws).1.9=y.i:=by rw [ey];exact B.ga
   have e9':(dstC y f rs j ws).1.ga=y.i:=e9
   have e8:(dstC y f rs j ws).1.8=keyF ks y.i:=by rw [ey];exact B.gk
   have e8':(dstC y f rs j ws).1.gk=keyF ks y.i:=e8
   have hend:=I.fin_ok (i:=y.i) i0 i1 (I.g1 y.i rfl).1
   have hst:=abO1 (t:=t) (hs:=hs) (ks:=ks) (j:=j) (f0:=f0) (f2:=f2) (f3:=f3) (gt:=gt) (cl:=cl) (o0:=o0) (o2:=o2) (o3:=o3) (ck:=ck) (io:=io) (c1:=c1) (pk:=pk) ho I.lvp (by omega:f1.length+1≤1048576) hpre (fun h=>hz h.2) (by rw [ey]) B.made (by rw [ey];exact B.err)
    ⟨by omega,by omega⟩ (by omega) (by rw [rs_len];omega) (by rw [rs_len,rs_len];omega) (by rw [rs_len,rs_len,rs_len];omega) (by rw [e9];omega) (by rw [e9];exact hend.1) (by rw [e9];exact hend.2.1) (by rw [e9];exact hend.2.2) (by rw [e9,e8];rfl) (by omega)
    (by rw [e9,part_all];exact (I.g1 y.i rfl).2.1) (by omega) (by simp;omega) (by rw [e9,part_all];exact List.mem_append_left _ B.p.1)
   rw [e9',e8'] at hst
   obtain ⟨g',I'⟩:=act1e (j':=(dstC y f rs j ws).2.j) (k:=.b y f rs) I hm e p hc hOc i0 i1 rfl W'
   exact ⟨_,g',hst,I',.inl rfl,rfl,rfl,rfl,rfl,by show (clE cl o1 ck 0 _ _).length=_;unfold clE;rw [rs_len,rs_len,rs_len,rs_len]⟩
theorem act1r (I:CI n H m ⟨t,sz,ks,hs,j,ws,f0,f1,f2,f3,gt,cl,o0,o1,o2,o3,ck,io,.r y f rs q,c1,pk⟩ g) (ho:o1≥0) (hm:m<5000):AO1 n H m ⟨t,sz,ks,hs,j,ws,f0,f1,f2,f3,gt,cl,o0,o1,o2,o3,ck,io,.r y f rs q,c1,pk⟩ g:=by
 obtain ⟨c,fr,e,p,hc,hOc,B,hx,hq⟩:=I.k1
 have e:o1=c:=e
 have b:=I.b
 have bf:f1.length≤m:=b.f1
 have W:WI n H ks hs g.X g.M ws:=I.W
 have V:SInv H n (keyF ks) (hiF n hs) g.X g.M g.E g.C:=I.V
 have N:Nums n H ks hs:=I.N
 have hsz:sz=szW n H:=I.sz
 have hP:∀ i,WP g.T f1 fr i→WP (g.T++[⟨ck,liv (g.M 0) (g.C 0),.tau⟩]) (f1++[fstL t sz ws]) fr i:=fun i h=>h.mono (fun x hx=>by simp [hx]) fun z hz=>⟨z,by simp [hz],rfl,rfl⟩
 subst hq
 have hst:=arN1 (t:=t) (hs:=hs) (ks:=ks) (j:=j) (f0:=f0) (f2:=f2) (f3:=f3) (gt:=gt) (cl:=cl) (o0:=o0) (o2:=o2) (o3:=o3) (ck:=ck) (io:=io) (c1:=c1) (pk:=pk) (f:=f) (rs:=rs) (q:=⟨true,0,tw n H,y.i⟩) ho I.lvp (by omega:f1.length+1≤1048576)
  ⟨hx,B.made,by rw [hsz];exact at_B N W.len (_k:=0),B.i0,B.i1⟩
 obtain ⟨g',I',e1,e2,e3⟩:=act1q (k:=.r y f rs ⟨true,0,tw n H,y.i⟩) (k':=.p (reC y 12) f rs ⟨true,0,tw n H,y.i⟩ (newP (tw n H) y.i (ws.getD (tw n H).at'.toNat 0))) (j':=jLd ws (tw n H).at' j) (d':=g.d1) I e p W V .refl rfl (fun i hi=>hi) fun T' hT hW=>⟨c,fr,e,p,hT.2 hc,hOc,(B.mono (fun _ h=>h) fun i h=>hW i (hP i h)).upd rfl rfl rfl rfl rfl rfl,rfl,PI.new N.g _⟩
 exact ⟨_,g',hst,I',.inr ⟨fun l h=>by
  have h:4≤l+1:=h
  show PL ws _ l
  exact ⟨fun _=>by omega,fun h=>absurd h f_ne.1,fun h=>absurd h f_ne.2.1⟩,rfl⟩,rfl,rfl,rfl,rfl,rfl⟩
theorem act1p (I:CI n H m ⟨t,sz,ks,hs,j,ws,f0,f1,f2,f3,gt,cl,o0,o1,o2,o3,ck,io,.p y f rs q u,c1,pk⟩ g) (ho:o1≥0) (hm:m<5000):AO1 n H m ⟨t,sz,ks,hs,j,ws,f0,f1,f2,f3,gt,cl,o0,o1,o2,o3,ck,io,.p y f rs q u,c1,pk⟩ g:=by
 obtain ⟨c,fr,e,p,hc,hOc,B,hx,P⟩:=I.k1
 have e:o1=c:=e
 have b:=I.b
 have bf:f1.length≤m:=b.f1
 have bg:gt.length≤m:=b.gt
 have W:WI n H ks hs g.X g.M ws:=I.W
 have V:SInv H n (keyF ks) (hiF n hs) g.X g.M g.E g.C:=I.V
 have N:Nums n H ks hs:=I.N
 have hsz:sz=szW n H:=I.sz
 have hpl:c<cl.length:=p.1
 have i0:=B.i0
 have i1:=B.i1
 have hpre:pPre u sz ws:=by rw [hsz];exact P.pre N W.len i0 i1
 obtain ⟨W',hn⟩:=P.step (j:=j) N W i0 i1
 have hP:∀ i,WP g.T f1 fr i→WP (g.T++[⟨ck,liv (g.M 0) (g.C 0),.tau⟩]) (f1++[fstL t sz ws]) fr i:=fun i h=>h.mono (fun x hx=>by simp [hx]) fun z hz=>⟨z,by simp [hz],rfl,rfl⟩
 by_cases hv:pOver u ws
 ·have hend:=I.fin_ok (i:=y.i) i0 i1 (I.g1 y.i rfl).1
  have hst:=apO1 (t:=t) (hs:=hs) (ks:=ks) (j:=j) (f0:=f0) (f2:=f2) (f3:=f3) (gt:=gt) (cl:=cl) (o0:=o0) (o2:=o2) (o3:=o3) (ck:=ck) (io:=io) (c1:=c1) (pk:=pk) (f:=f) (rs:=rs) (q:=q) ho I.lvp (by omega:f1.length+1≤1048576) ⟨hx,B.made,hpre⟩ hv B.made B.err
   ⟨by omega,by omega⟩ (by omega) (by rw [rs_len];omega) (by rw [rs_len,rs_len];omega) (by rw [rs_len,rs_len,rs_len];omega) (by rw [B.ga];omega) (by rw [B.ga];exact hend.1) (by rw [B.ga];exact hend.2.1) (by rw [B.ga];exact hend.2.2) (by rw [B.ga];exact B.gk) (by omega)
   (by rw [B.ga,part_all];exact (I.g1 y.i rfl).2.1) (by omega) (by simp;omega) (by rw [B.ga,part_all];exact List.mem_append_left _ B.p.1)
  rw [B.ga,B.gk] at hst
  obtain ⟨g',I'⟩:=act1e (j':=(pstC u j ws).j) (k:=.p y f rs q u) I hm e p hc hOc i0 i1 rfl W'
  exact ⟨_,g',hst,I',.inl rfl,rfl,rfl,rfl,rfl,by show (clE cl o1 ck 0 _ _).length=_;unfold clE;rw [rs_len,rs_len,rs_len,rs_len]⟩
 ·have hst:=apN1 (t:=t) (hs:=hs) (ks:=ks) (j:=j) (f0:=f0) (f2:=f2) (f3:=f3) (gt:=gt) (cl:=cl) (o0:=o0) (o2:=o2) (o3:=o3) (ck:=ck) (io:=io) (c1:=c1) (pk:=pk) (f:=f) (rs:=rs) (q:=q) ho I.lvp (by omega:f1.length+1≤1048576) ⟨hx,B.made,hpre⟩ hv
  rw [keepP_eq] at hst
  obtain ⟨P',hl⟩:=hn hv
  obtain ⟨g',I',e1,e2,e3⟩:=act1q (k:=.p y f rs q u) (k':=.p (reC y 12) f rs q (pstC u j ws).x) (j':=(pstC u j ws).j) (d':=g.d1) I e p W' V .refl rfl (fun i hi=>hi) fun T' hT hW=>⟨c,fr,e,p,hT.2 hc,hOc,(B.mono (fun _ h=>h) fun i h=>hW i (hP i h)).upd rfl rfl rfl rfl rfl rfl,rfl,P'⟩
  exact ⟨_,g',hst,I',.inr ⟨fun l h=>hl l h,rfl⟩,rfl,rfl,rfl,rfl,rfl⟩
end
theorem act1 {n H m:Nat} {σ:CS} {g:GhC} (I:CI n H m σ g) (ho:σ.o1≥0) (hm:m<5000):AO1 n H m σ g:=by
 obtain ⟨t,sz,ks,hs,j,ws,f0,f1,f2,f3,gt,cl,o0,o1,o2,o3,ck,io,c0,c1,pk⟩:=σ
 have ho:o1≥0:=ho
 cases c0 with
 |none=>have:=I.k1;have:o1=-1:=this;omega
 |over=>have:=I.k1;have:o1=-1:=this;omega
 |a y=>
  by_cases h:y.ln=91
  ·exact act1f I ho hm h
  ·exact act1a I ho hm h
 |b y f rs=>exact act1b I ho hm
 |r y f rs q=>exact act1r I ho hm
 |p y f rs q u=>exact act1p I ho hm
end Go.Sx
