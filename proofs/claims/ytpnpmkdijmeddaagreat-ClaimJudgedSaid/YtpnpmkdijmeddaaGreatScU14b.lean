/- The plain law of a crew over a tower: a Claim's acts (core 2). Printed by gen_U14.py. -/
import Derived.Test.YtpnpmkdijmeddaaGreatScU14a
import Derived.Test.YtpnpmkdijmeddaaGreatScB3c
import Derived.Test.YtpnpmkdijmeddaaGreatScB2
set_option maxRecDepth 100000
namespace Go.Sx
open Go.Ql (SInv FInv fstep updF XX XW lkd RW liv insK Ent XT)
section
variable {n H m c:Nat} {σ:CS} {g g':GhC} {f0:Int}
theorem CI.a2 (I:CI n H m σ g) {k':KS} {o':Int} {fl' gt':List Int} {cl':List (List Int)} {ck':Int} {ws':List Int} {j':MJ} {z:Ent} (ho:σ.o2=c) (p:pend σ.cl c f0 5 0 0) (W':WI n H σ.ks σ.hs g'.X g'.M ws') (V':SInv H n (keyF σ.ks) (hiF n σ.hs) g'.X g'.M g'.E g'.C)
  (R:RW n (-1) g.X g.M g.E g'.X g'.M g'.E) (h':HI n σ.ks cl' ck' g'.O g'.T (liv (g'.M 0) (g'.C 0))) (hT:g'.T=g.T++[z]) (hz:z.S=liv (g.M 0) (g.C 0)) (hze:∀ d∈Ql.callOf z.e,d=c) (hO:∀ d,d≠c→g'.O d=g.O d) (hcl:cl'=σ.cl∨∃ r,cl'=σ.cl.set c r)
  (opn':∀ c,c<cl'.length→(cl'.getD c []).getD 2 0=-1→(c:Int)=σ.o0∨(c:Int)=σ.o1∨(c:Int)=o'∨(c:Int)=σ.o3) (k1':KCore n H σ.ks σ.hs g' cl' fl' g'.d2 k' o') (ho':o'=σ.o2∨o'=-1) (hd:g'.d0=g.d0∧g'.d1=g.d1)
  (hgt:∀ i∈gt',g'.M 0 i=true) (hg:∀ i,ownP k' i→g'.M 0 i=true∧¬ i∈gt'∧¬ ownP σ.c0 i) (hg2:∀ i,ownP σ.c0 i→¬ i∈gt')
  (bf:fl'.length≤m+1) (bck:ck'≤((m+1:Nat):Int)) (bg:gt'.length≤m+1):
  CI n H (m+1) {σ with ws:=ws',j:=j',c1:=k',o2:=o',f2:=fl',cl:=cl',ck:=ck',gt:=gt'} g':=by
 have T:TR c g σ.cl g' cl':=TR.snoc hT hze hO hcl
 have n0:=I.ne0 p (by decide)
 have n3:=I.ne3 p (by decide)
 have n2:σ.o1≠c:=fun h=>by have:=I.df;omega
 have hlen:cl'.length=σ.cl.length:=by
  rcases hcl with rfl|⟨r,rfl⟩
  ·rfl
  ·rw [List.length_set]
 have b:=I.b
 have hother:KCore n H σ.ks σ.hs g' cl' σ.f1 g'.d1 σ.c0 σ.o1:=by rw [hd.2];exact I.k1.mono R T n2
 refine ⟨I.N,I.t,I.sz,W',V',h',opn',I.i.mono R T n0 hd.1,hother,k1',I.p.mono R T n3 (fun y hy=>by rw [hT];simp [hy]),fun h=>(by have h:σ.o1=o':=h;rcases ho' with e|e;exact I.df (h.trans e);exact h.trans e),I.fut' (own:=-1) (by omega) R,I.cn,hgt,fun i hi=>⟨R.mm _ _ (I.g1 i hi).1,hg2 i hi,fun h=>(hg i h).2.2 hi⟩,fun i hi=>⟨(hg i hi).1,(hg i hi).2.1⟩,I.tl' hT hz R.lv,
  ⟨by show cl'.length≤m+1;rw [hlen];exact Nat.le_succ_of_le b.cl,bck,Nat.le_succ_of_le b.f0,Nat.le_succ_of_le b.f1,bf,Nat.le_succ_of_le b.f3,bg⟩⟩
def LfK2 (n H:Nat) (σ:CS) (g:GhC) (l:Nat):Prop:=match σ.c1 with
 |.a y=>CLf n H σ.ks σ.ws g.X g.M y l
 |.b y _ _=>DL n H σ.ks g.X g.M y g.d2 l
 |.r _ _ _ _=>4≤l
 |.p _ _ _ _ u=>PL σ.ws u l
 |_=>True
def AO2 (n H m:Nat) (σ:CS) (g:GhC):Prop:=∃ σ' g',StA 2 σ σ'∧CI n H (m+1) σ' g'∧(σ'.o2=-1∨((∀ l,LfK2 n H σ g (l+1)→LfK2 n H σ' g' l)∧σ'.o2=σ.o2))∧σ'.ks=σ.ks∧σ'.o0=σ.o0∧σ'.o1=σ.o1∧σ'.o3=σ.o3∧σ'.cl.length=σ.cl.length
end
section
variable {n H m:Nat} {t:Tw} {sz:Int} {ks hs:List Int} {j:MJ} {ws f0 f1 f2 f3 gt:List Int} {cl:List (List Int)} {o0 o1 o2 o3 ck:Int} {f:FdC} {rs:List (List Int)} {io:IS} {c0 c1:KS} {pk:PS} {g:GhC} {q:ReC} {u:PuC} {y:ClC}
theorem act2q {k k':KS} {ws':List Int} {j':MJ} {X':Nat→Int→Int} {M':Nat→Int→Bool} {C':Nat→List Int} {d':Ql.Fd} (I:CI n H m ⟨t,sz,ks,hs,j,ws,f0,f1,f2,f3,gt,cl,o0,o1,o2,o3,ck,io,c0,k,pk⟩ g) {c:Nat} {fr:Int} (e:o2=c) (p:pend cl c fr 5 0 0)
  (W':WI n H ks hs X' M' ws') (V':SInv H n (keyF ks) (hiF n hs) X' M' g.E C') (R:RW n (-1) g.X g.M g.E X' M' g.E) (hlv:liv (M' 0) (C' 0)=liv (g.M 0) (g.C 0)) (hown:∀ i,ownP k' i→ownP k i)
  (i':∀ T',(c∈XT T'↔c∈XT g.T)→(∀ i,WP (g.T++[⟨ck,liv (g.M 0) (g.C 0),.tau⟩]) (f2++[fstL t sz ws]) fr i→WP T' (f2++[fstL t sz ws]) fr i)→KCore n H ks hs (⟨X',M',g.E,C',g.O,T',g.d0,g.d1,d'⟩) cl (f2++[fstL t sz ws]) d' k' o2):
  ∃ g',CI n H (m+1) ⟨t,sz,ks,hs,j',ws',f0,f1,f2++[fstL t sz ws],f3,gt,cl,o0,o1,o2,o3,ck,io,c0,k',pk⟩ g'∧g'.X=X'∧g'.M=M'∧g'.d2=d':=by
 have b:=I.b
 have bf:f2.length≤m:=b.f2
 have bck:ck≤(m:Int):=b.ck
 have bg:gt.length≤m:=b.gt
 have hh:HI n ks cl ck g.O g.T (liv (g.M 0) (g.C 0)):=I.h
 refine ⟨⟨X',M',g.E,C',g.O,(g.T++[⟨ck,liv (g.M 0) (g.C 0),.tau⟩]),g.d0,g.d1,d'⟩,?_,rfl,rfl,rfl⟩
 refine I.a2 (g':=⟨X',M',g.E,C',g.O,(g.T++[⟨ck,liv (g.M 0) (g.C 0),.tau⟩]),g.d0,g.d1,d'⟩) (z:=⟨ck,liv (g.M 0) (g.C 0),.tau⟩) (k':=k') (cl':=cl) (ck':=ck) (gt':=gt) (fl':=f2++[fstL t sz ws]) e p W' V' R ?_ rfl rfl (tau_calls _ _ _) (fun _ _=>rfl) (.inl rfl) I.opn (i' _ tau_in (fun i h=>h)) (.inl rfl) ⟨rfl,rfl⟩ (fun i hi=>R.mm _ _ (I.gt i hi)) (fun i hi=>?_) (fun i hi=>?_) (by simp;omega) (by omega) (by omega)
 ·show HI n ks cl ck g.O _ (liv (M' 0) (C' 0))
  rw [hlv];exact hh.tau I.srt
 ·have:=I.g2 i (hown i hi)
  exact ⟨R.mm _ _ this.1,this.2,fun h=>(I.g1 i h).2.2 (hown i hi)⟩
 ·exact (I.g1 i hi).2.1
theorem act2e {k:KS} {ws':List Int} {j':MJ} {i:Int} (I:CI n H m ⟨t,sz,ks,hs,j,ws,f0,f1,f2,f3,gt,cl,o0,o1,o2,o3,ck,io,c0,k,pk⟩ g) (hm:m<5000) {c:Nat} {fr:Int} (e:o2=c) (p:pend cl c fr 5 0 0) (hc:c∈XT g.T) (hO:g.O c=.pick (some i)) (i0:0≤i) (i1:i<n) (hk:ownP k i)
  (W':WI n H ks hs g.X g.M ws'):∃ g',CI n H (m+1) ⟨t,sz,ks,hs,j',ws',f0,f1,f2++[fstL t sz ws],f3,gt++[i],clE cl o2 ck 0 i (keyF ks i),o0,o1,-1,o3,IntKind.i64.wrap (ck+1),io,c0,.over,pk⟩ g':=by
 have b:=I.b
 have bf:f2.length≤m:=b.f2
 have bck:ck≤(m:Int):=b.ck
 have bg:gt.length≤m:=b.gt
 have hh:HI n ks cl ck g.O g.T (liv (g.M 0) (g.C 0)):=I.h
 have h0:=hh.ck0
 have hw:IntKind.i64.wrap (ck+1)=ck+1:=XM (by omega) (by omega)
 have hopn:∀ d,d<cl.length→(cl.getD d []).getD 2 0=-1→(d:Int)=o0∨(d:Int)=o1∨(d:Int)=o2∨(d:Int)=o3:=I.opn
 refine ⟨⟨g.X,g.M,g.E,g.C,g.O,g.T++[⟨ck,liv (g.M 0) (g.C 0),.tau⟩],g.d0,g.d1,g.d2⟩,?_⟩
 rw [hw,e,clE_eq p h0 (by omega)]
 refine I.a2 (z:=⟨ck,liv (g.M 0) (g.C 0),.tau⟩) (k':=.over) (o':=-1) e p W' I.V .refl ((hh.tau I.srt).fin p (tau_in.2 hc) ?_) rfl rfl (tau_calls _ _ _) (fun _ _=>rfl) (.inr ⟨_,rfl⟩) (opn_fin (P:=fun c=>(c:Int)=o0∨(c:Int)=o1∨(c:Int)=-1∨(c:Int)=o3) (show ck+1≠-1 by omega) p.1 fun d hd ht=>?_) rfl (.inr rfl) ⟨rfl,rfl⟩ (fun a ha=>?_) (fun a ha=>(by cases ha)) (fun a ha=>?_) (by simp;omega) (by omega) (by simp;omega)
 ·exact .inr (.inl ⟨rfl,rfl,rfl,.inr ⟨i,hO,i0,i1,rfl,rfl,rfl⟩⟩)
 ·have:=hopn d hd ht
  omega
 ·rcases List.mem_append.1 ha with h|h
  ·exact I.gt a h
  ·rw [List.mem_singleton.1 h];exact (I.g2 i hk).1
 ·intro h
  rcases List.mem_append.1 h with h|h
  ·exact (I.g1 a ha).2.1 h
  ·rw [List.mem_singleton.1 h] at ha;exact (I.g1 i ha).2.2 hk
end
section
variable {n H m:Nat} {t:Tw} {sz:Int} {ks hs:List Int} {j:MJ} {ws f0 f1 f2 f3 gt:List Int} {cl:List (List Int)} {o0 o1 o2 o3 ck:Int} {f:FdC} {rs:List (List Int)} {io:IS} {c0:KS} {pk:PS} {g:GhC} {q:ReC} {u:PuC} {y:ClC}
theorem act2a (I:CI n H m ⟨t,sz,ks,hs,j,ws,f0,f1,f2,f3,gt,cl,o0,o1,o2,o3,ck,io,c0,.a y,pk⟩ g) (ho:o2≥0) (hm:m<5000) (h91:y.ln≠91):AO2 n H m ⟨t,sz,ks,hs,j,ws,f0,f1,f2,f3,gt,cl,o0,o1,o2,o3,ck,io,c0,.a y,pk⟩ g:=by
 obtain ⟨c,fr,e,p,hev,hOc,S⟩:=I.k2
 have e:o2=c:=e
 have b:=I.b
 have bf:f2.length≤m:=b.f2
 have bck:ck≤(m:Int):=b.ck
 have bg:gt.length≤m:=b.gt
 have W:WI n H ks hs g.X g.M ws:=I.W
 have V:SInv H n (keyF ks) (hiF n hs) g.X g.M g.E g.C:=I.V
 have N:Nums n H ks hs:=I.N
 have hsz:sz=szW n H:=I.sz
 have hh:HI n ks cl ck g.O g.T (liv (g.M 0) (g.C 0)):=I.h
 have hfr:=hh.fle p
 have hpl:c<cl.length:=p.1
 have hpre:cPre y sz ws:=by rw [hsz];exact S.pre N W
 have hfst:fstL t sz ws=hdS (liv (g.M 0) (g.C 0)):=I.fst
 have hopn:∀ d,d<cl.length→(cl.getD d []).getD 2 0=-1→(d:Int)=o0∨(d:Int)=o1∨(d:Int)=o2∨(d:Int)=o3:=I.opn
 have h0:=hh.ck0
 have hw:IntKind.i64.wrap (ck+1)=ck+1:=XM (by omega) (by omega)
 have hP:∀ i,WP g.T f2 fr i→WP (g.T++[⟨ck,liv (g.M 0) (g.C 0),.tau⟩]) (f2++[fstL t sz ws]) fr i:=fun i h=>h.mono (fun x hx=>by simp [hx]) fun z hz=>⟨z,by simp [hz],rfl,rfl⟩
 have hF:∀ i,(liv (g.M 0) (g.C 0)).head?=some i→WP (g.T++[⟨ck,liv (g.M 0) (g.C 0),.tau⟩]) (f2++[fstL t sz ws]) fr i:=fun i h=>⟨by rw [hfst,hdS_some h];simp,⟨ck,liv (g.M 0) (g.C 0),.tau⟩,by simp,h,hfr.2⟩
 obtain ⟨X',M',C',W',V',R,⟨x1,x2,x3,x4,x5⟩|⟨S',hl,hcase⟩⟩:=S.step (j:=j) N W V hP hF h91
 ·
  have hnc:¬ c∈XT g.T:=fun h=>x5 (hev.1 h)
  have hst:=akX2 (t:=t) (hs:=hs) (ks:=ks) (j:=j) (f0:=f0) (f1:=f1) (f3:=f3) (gt:=gt) (cl:=cl) (o0:=o0) (o1:=o1) (o3:=o3) (ck:=ck) (io:=io) (c0:=c0) (pk:=pk) ho I.lvp (by omega:f2.length+1≤1048576) (I.livW.trans x3) hpre h91 x1 S.made (by rw [show (cstC y j ws).1.12=15 from x2];decide)
   ⟨by omega,by omega⟩ (by omega) (by rw [rs_len];omega) (by rw [rs_len,rs_len];omega) (by rw [rs_len,rs_len,rs_len];omega) x2 (by simp;omega) (by
    have:part (f2++[fstL t sz ws]) 0 (f2++[fstL t sz ws]).length=f2++[fstL t sz ws]:=by unfold part;rw [List.drop_zero,List.take_length]
    rw [this,hfst,x3];simp [hdS])
  rw [x2] at hst
  have hT0:(⟨ck,[],.read c⟩:Ent).S=liv (g.M 0) (g.C 0):=x3.symm
  refine ⟨_,⟨X',M',g.E,C',updO g.O c (.pick none),g.T++[⟨ck,[],.read c⟩],g.d0,g.d1,g.d2⟩,hst,?_,.inl rfl,rfl,rfl,rfl,rfl,by show (clE cl o2 ck 15 0 0).length=_;unfold clE;rw [rs_len,rs_len,rs_len,rs_len]⟩
  rw [hw,e,clE_eq p h0 (by omega)]
  refine I.a2 (z:=⟨ck,[],.read c⟩) (k':=.over) (o':=-1) e p W' V' R ?_ rfl hT0 (fun d hd=>List.mem_singleton.1 hd) (fun d hd=>updO_ne hd) (.inr ⟨_,rfl⟩) (opn_fin (P:=fun c=>(c:Int)=o0∨(c:Int)=o1∨(c:Int)=-1∨(c:Int)=o3) (show ck+1≠-1 by omega) p.1 fun d hd ht=>by have:=hopn d hd ht;omega) rfl (.inr rfl) ⟨rfl,rfl⟩ (fun a ha=>R.mm _ _ (I.gt a ha)) (fun a ha=>(by cases ha)) (fun a ha=>?_) (by simp;omega) (by omega) (by omega)
  ·show HI n ks _ _ _ _ (liv (M' 0) (C' 0))
   rw [x4,x3]
   rw [x3] at hh
   refine (hh.none p hnc (.pick none) (.inl rfl)).fin p (callsT_snoc.2 (.inr (by simp [Ql.callOf]))) ?_
   exact .inr (.inl ⟨rfl,rfl,rfl,.inl ⟨updO_eq,rfl,rfl,rfl⟩⟩)
  ·exact (I.g1 a ha).2.1
 ·have hln:(cstC y j ws).x.ln≠99:=by have:=S'.ln;omega
  have hst:=akN2 (t:=t) (hs:=hs) (ks:=ks) (j:=j) (f0:=f0) (f1:=f1) (f3:=f3) (gt:=gt) (cl:=cl) (o0:=o0) (o1:=o1) (o3:=o3) (ck:=ck) (io:=io) (c0:=c0) (pk:=pk) ho I.lvp (by omega:f2.length+1≤1048576) hpre h91 hln
  rw [keepC_of (KC_cst y j ws)] at hst
  rcases hcase with ⟨l1,l2,l3⟩|⟨l1,l2,l3,l4,l5,l6,l7⟩
  ·obtain ⟨g',I',e1,e2,e3⟩:=act2q (k:=.a y) (k':=.a (cstC y j ws).x) (j':=(cstC y j ws).j) (d':=g.d2) I e p W' V' R l1 (fun i hi=>⟨l2.1 hi.1,(l3 (l2.1 hi.1)).symm.trans hi.2⟩) fun T' hT hW=>⟨c,fr,e,p,hT.trans (hev.trans l2.symm),fun h=>by
    show g.O c=_
    rw [l3 (l2.1 h)];exact hOc (l2.1 h),S'.mono (own:=-1) .refl hW⟩
   exact ⟨_,g',hst,I',.inr ⟨fun l h=>by
    show CLf n H ks (cstC y j ws).ws g'.X g'.M (cstC y j ws).x l
    rw [e1,e2];exact hl l h,rfl⟩,rfl,rfl,rfl,rfl,rfl⟩
  ·have hnc:¬ c∈XT g.T:=fun h=>l5 (hev.1 h)
   have S8:KR n H ks hs g.M g.E (WP g.T f2 fr) y:=S.resolve_left fun S=>by have:=S.ln;omega
   have V0:=V.lv 0 (by obtain ⟨_,_,_,_⟩:=N.g;omega)
   have hmn:M' 0 (cstC y j ws).x.i=true:=(S'.resolve_left fun S=>by have:=S.ln;unfold own9 at l6;omega).mn l6
   refine ⟨_,⟨X',M',g.E,C',updO g.O c (.pick (some y.i)),g.T++[⟨ck,liv (g.M 0) (g.C 0),.mark c y.i⟩],g.d0,g.d1,g.d2⟩,hst,?_,.inr ⟨fun l h=>hl l h,rfl⟩,rfl,rfl,rfl,rfl,rfl⟩
   refine I.a2 (z:=⟨ck,liv (g.M 0) (g.C 0),.mark c y.i⟩) (k':=.a (cstC y j ws).x) (cl':=cl) (ck':=ck) (gt':=gt) (fl':=f2++[fstL t sz ws]) e p W' V' R ?_ rfl rfl (fun d hd=>List.mem_singleton.1 hd) (fun d hd=>updO_ne hd) (.inl rfl) I.opn ⟨c,fr,e,p,?_,fun _=>?_,S'.mono (own:=-1) .refl fun i h=>h.mono (fun x hx=>hx) fun z hz=>?_⟩ (.inl rfl) ⟨rfl,rfl⟩ (fun a ha=>R.mm _ _ (I.gt a ha)) (fun a ha=>?_) (fun a ha=>?_) (by simp;omega) (by omega) (by omega)
   ·show HI n ks cl ck _ _ (liv (M' 0) (C' 0))
    rw [l1]
    exact hh.mark I.srt p hnc (V0.lives.2 ⟨l3,l2⟩) S8.p.2
   ·show c∈XT (g.T++_)↔_
    rw [callsT_snoc]
    exact ⟨fun _=>l6,fun _=>.inr (by simp [Ql.callOf])⟩
   ·show updO g.O c _ c=_
    rw [updO_eq,l4]
   ·rcases List.mem_append.1 hz with h|h
    ·exact ⟨z,List.mem_append_left _ h,rfl,rfl⟩
    ·rw [List.mem_singleton.1 h]
     exact ⟨⟨ck,liv (g.M 0) (g.C 0),.mark c y.i⟩,List.mem_append_right _ (List.mem_singleton.2 rfl),rfl,rfl⟩
   ·have ea:y.i=a:=l4.symm.trans ha.2
    rw [ha.2] at hmn
    refine ⟨hmn,fun h=>?_,fun h=>?_⟩
    ·have:=I.gt a h
     rw [← ea,l2] at this;cases this
    ·have:=(I.g1 a h).1
     rw [← ea,l2] at this;cases this
   ·exact (I.g1 a ha).2.1
theorem act2f (I:CI n H m ⟨t,sz,ks,hs,j,ws,f0,f1,f2,f3,gt,cl,o0,o1,o2,o3,ck,io,c0,.a y,pk⟩ g) (ho:o2≥0) (hm:m<5000) (h91:y.ln=91):AO2 n H m ⟨t,sz,ks,hs,j,ws,f0,f1,f2,f3,gt,cl,o0,o1,o2,o3,ck,io,c0,.a y,pk⟩ g:=by
 obtain ⟨c,fr,e,p,hev,hOc,S⟩:=I.k2
 have e:o2=c:=e
 have b:=I.b
 have bf:f2.length≤m:=b.f2
 have W:WI n H ks hs g.X g.M ws:=I.W
 have V:SInv H n (keyF ks) (hiF n hs) g.X g.M g.E g.C:=I.V
 have N:Nums n H ks hs:=I.N
 have hsz:sz=szW n H:=I.sz
 have hpre:cPre y sz ws:=by rw [hsz];exact S.pre N W
 have ho9:own9 y:=.inr h91
 have hP:∀ i,WP g.T f2 fr i→WP (g.T++[⟨ck,liv (g.M 0) (g.C 0),.tau⟩]) (f2++[fstL t sz ws]) fr i:=fun i h=>h.mono (fun x hx=>by simp [hx]) fun z hz=>⟨z,by simp [hz],rfl,rfl⟩
 obtain ⟨ew,d',D',ei,hl⟩:=S.l91 (j:=j) N W V hP h91
 have hst:=akF2 (t:=t) (hs:=hs) (ks:=ks) (j:=j) (f0:=f0) (f1:=f1) (f3:=f3) (gt:=gt) (cl:=cl) (o0:=o0) (o1:=o1) (o3:=o3) (ck:=ck) (io:=io) (c0:=c0) (pk:=pk) ho I.lvp (by omega:f2.length+1≤1048576) hpre h91
 rw [keepC_of (KC_cst y j ws)] at hst
 obtain ⟨g',I',e1,e2,e3⟩:=act2q (k:=.a y) (k':=.b (cstC y j ws).x (newF y.t y.gk) (newR y.t)) (j':=(cstC y j ws).j) (ws':=(cstC y j ws).ws) (d':=d') I e p (by rw [ew];exact W) V .refl rfl (fun i hi=>⟨ho9,ei.symm.trans hi⟩) fun T' hT hW=>⟨c,fr,e,p,hT.2 (hev.2 ho9),by
   show g.O c=_
   rw [ei];exact hOc ho9,D'.mono (own:=-1) .refl hW⟩
 exact ⟨_,g',hst,I',.inr ⟨fun l h=>by
  show DL n H ks g'.X g'.M (cstC y j ws).x g'.d2 l
  rw [e1,e2,e3];exact hl l h,rfl⟩,rfl,rfl,rfl,rfl,rfl⟩
theorem act2b (I:CI n H m ⟨t,sz,ks,hs,j,ws,f0,f1,f2,f3,gt,cl,o0,o1,o2,o3,ck,io,c0,.b y f rs,pk⟩ g) (ho:o2≥0) (hm:m<5000):AO2 n H m ⟨t,sz,ks,hs,j,ws,f0,f1,f2,f3,gt,cl,o0,o1,o2,o3,ck,io,c0,.b y f rs,pk⟩ g:=by
 obtain ⟨c,fr,e,p,hc,hOc,S⟩:=I.k2
 have e:o2=c:=e
 have b:=I.b
 have bf:f2.length≤m:=b.f2
 have bg:gt.length≤m:=b.gt
 have W:WI n H ks hs g.X g.M ws:=I.W
 have V:SInv H n (keyF ks) (hiF n hs) g.X g.M g.E g.C:=I.V
 have N:Nums n H ks hs:=I.N
 have hsz:sz=szW n H:=I.sz
 have hpl:c<cl.length:=p.1
 have hpre:dPre y f rs sz ws:=by rw [hsz];exact S.pre N W
 have hP:∀ i,WP g.T f2 fr i→WP (g.T++[⟨ck,liv (g.M 0) (g.C 0),.tau⟩]) (f2++[fstL t sz ws]) fr i:=fun i h=>h.mono (fun x hx=>by simp [hx]) fun z hz=>⟨z,by simp [hz],rfl,rfl⟩
 rcases S.ln with hx|hx
 ·obtain ⟨X',C',d',W',V',R,hlv,D',ei,hl⟩:=S.l10 (j:=j) N W V hP hx
  have hln:(dstC y f rs j ws).1.ln≠99:=by have:=D'.ln;omega
  have hst:=abN2 (t:=t) (hs:=hs) (ks:=ks) (j:=j) (f0:=f0) (f1:=f1) (f3:=f3) (gt:=gt) (cl:=cl) (o0:=o0) (o1:=o1) (o3:=o3) (ck:=ck) (io:=io) (c0:=c0) (pk:=pk) ho I.lvp (by omega:f2.length+1≤1048576) hpre (fun h=>by have:=h.1;omega) hln
  rw [keepC_of (KC_dst y f rs j ws)] at hst
  have ef:keepF f (dstC y f rs j ws).2.x=(dstC y f rs j ws).2.x:=by
   unfold dstC
   rw [if_pos hx]
   exact keepF_eq (fstC_keep f rs j ws)
  rw [ef] at hst
  obtain ⟨g',I',e1,e2,e3⟩:=act2q (k:=.b y f rs) (k':=.b (dstC y f rs j ws).1 (dstC y f rs j ws).2.x (dstC y f rs j ws).2.rs) (j':=(dstC y f rs j ws).2.j) (d':=d') I e p W' V' R hlv (fun i hi=>ei.symm.trans hi) fun T' hT hW=>⟨c,fr,e,p,hT.2 hc,by
    show g.O c=_
    rw [ei];exact hOc,D'.mono (own:=-1) .refl hW⟩
  exact ⟨_,g',hst,I',.inr ⟨fun l h=>by
   show DL n H ks g'.X g'.M (dstC y f rs j ws).1 g'.d2 l
   rw [e1,e2,e3];exact hl l h,rfl⟩,rfl,rfl,rfl,rfl,rfl⟩
 ·have B:=S.B
  have i0:=B.i0
  have i1:=B.i1
  have ed:=dst_11' (f:=f) (rs:=rs) (j:=j) (ws:=ws) hx
  have ew:(dstC y f rs j ws).2.ws=ws.set (ptA (tw n H) y.i 3).toNat (addW ws (ptA y.t y.i 3).toNat 18446744073709551615):=by rw [ed,B.t]
  have W':WI n H ks hs g.X g.M (dstC y f rs j ws).2.ws:=by rw [ew];exact let_ws N W i0 i1
  by_cases hz:addW ws (ptA y.t y.i 3).toNat 18446744073709551615=0
  ·have hst:=abR2 (t:=t) (hs:=hs) (ks:=ks) (j:=j) (f0:=f0) (f1:=f1) (f3:=f3) (gt:=gt) (cl:=cl) (o0:=o0) (o1:=o1) (o3:=o3) (ck:=ck) (io:=io) (c0:=c0) (pk:=pk) ho I.lvp (by omega:f2.length+1≤1048576) hpre ⟨hx,hz⟩
   rw [keepC_of (KC_dst y f rs j ws)] at hst
   have ey:(dstC y f rs j ws).1={y with by':=y.a,ln:=12}:=by rw [ed];show ({y with by':=y.a,ln:=if _ then 12 else 99}:ClC)=_;rw [if_pos hz]
   obtain ⟨g',I',e1,e2,e3⟩:=act2q (k:=.b y f rs) (k':=.r (dstC y f rs j ws).1 f rs ⟨true,0,y.t,y.i⟩) (j':=(dstC y f rs j ws).2.j) (d':=g.d2) I e p W' V .refl rfl (fun i hi=>by rw [ey] at hi;exact hi) fun T' hT hW=>⟨c,fr,e,p,hT.2 hc,by rw [ey];exact hOc,by rw [ey];exact (B.mono (fun _ h=>h) fun i h=>hW i (hP i h)).upd rfl rfl rfl rfl rfl rfl,by rw [ey],by rw [ey,B.t]⟩
   exact ⟨_,g',hst,I',.inr ⟨fun l h=>by
    have h:DL n H ks g.X g.M y g.d2 (l+1):=h
    have:=h.l11 hx
    show 4≤l
    omega,rfl⟩,rfl,rfl,rfl,rfl,rfl⟩
  ·have ey:(dstC y f rs j ws).1={y with by':=y.a,ln:=99}:=by rw [ed];show ({y with by':=y.a,ln:=if _ then 12 else 99}:ClC)=_;rw [if_neg hz]
   have e9:(dstC y f rs j ws).1.9=y.i:=by rw [ey];exact B.ga
   have e9':(dstC y f rs j ws).1.ga=y.i:=e9
   have e8:(dstC y f rs j ws).1.8=keyF ks y.i:=by rw [ey];exact B.gk
   have e8':(dstC y f rs j ws).1.gk=keyF ks y.i:=e8
   have hend:=I.fin_ok (i:=y.i) i0 i1 (I.g2 y.i rfl).1
   have hst:=abO2 (t:=t) (hs:=hs) (ks:=ks) (j:=j) (f0:=f0) (f1:=f1) (f3:=f3) (gt:=gt) (cl:=cl) (o0:=o0) (o1:=o1) (o3:=o3) (ck:=ck) (io:=io) (c0:=c0) (pk:=pk) ho I.lvp (by omega:f2.length+1≤1048576) hpre (fun h=>hz h.2) (by rw [ey]) B.made (by rw [ey];exact B.err)
    ⟨by omega,by omega⟩ (by omega) (by rw [rs_len];omega) (by rw [rs_len,rs_len];omega) (by rw [rs_len,rs_len,rs_len];omega) (by rw [e9];omega) (by rw [e9];exact hend.1) (by rw [e9];exact hend.2.1) (by rw [e9];exact hend.2.2) (by rw [e9,e8];rfl) (by omega)
    (by rw [e9,part_all];exact (I.g2 y.i rfl).2) (by omega) (by simp;omega) (by rw [e9,part_all];exact List.mem_append_left _ B.p.1)
   rw [e9',e8'] at hst
   obtain ⟨g',I'⟩:=act2e (j':=(dstC y f rs j ws).2.j) (k:=.b y f rs) I hm e p hc hOc i0 i1 rfl W'
   exact ⟨_,g',hst,I',.inl rfl,rfl,rfl,rfl,rfl,by show (clE cl o2 ck 0 _ _).length=_;unfold clE;rw [rs_len,rs_len,rs_len,rs_len]⟩
theorem act2r (I:CI n H m ⟨t,sz,ks,hs,j,ws,f0,f1,f2,f3,gt,cl,o0,o1,o2,o3,ck,io,c0,.r y f rs q,pk⟩ g) (ho:o2≥0) (hm:m<5000):AO2 n H m ⟨t,sz,ks,hs,j,ws,f0,f1,f2,f3,gt,cl,o0,o1,o2,o3,ck,io,c0,.r y f rs q,pk⟩ g:=by
 obtain ⟨c,fr,e,p,hc,hOc,B,hx,hq⟩:=I.k2
 have e:o2=c:=e
 have b:=I.b
 have bf:f2.length≤m:=b.f2
 have W:WI n H ks hs g.X g.M ws:=I.W
 have V:SInv H n (keyF ks) (hiF n hs) g.X g.M g.E g.C:=I.V
 have N:Nums n H ks hs:=I.N
 have hsz:sz=szW n H:=I.sz
 have hP:∀ i,WP g.T f2 fr i→WP (g.T++[⟨ck,liv (g.M 0) (g.C 0),.tau⟩]) (f2++[fstL t sz ws]) fr i:=fun i h=>h.mono (fun x hx=>by simp [hx]) fun z hz=>⟨z,by simp [hz],rfl,rfl⟩
 subst hq
 have hst:=arN2 (t:=t) (hs:=hs) (ks:=ks) (j:=j) (f0:=f0) (f1:=f1) (f3:=f3) (gt:=gt) (cl:=cl) (o0:=o0) (o1:=o1) (o3:=o3) (ck:=ck) (io:=io) (c0:=c0) (pk:=pk) (f:=f) (rs:=rs) (q:=⟨true,0,tw n H,y.i⟩) ho I.lvp (by omega:f2.length+1≤1048576)
  ⟨hx,B.made,by rw [hsz];exact at_B N W.len (_k:=0),B.i0,B.i1⟩
 obtain ⟨g',I',e1,e2,e3⟩:=act2q (k:=.r y f rs ⟨true,0,tw n H,y.i⟩) (k':=.p (reC y 12) f rs ⟨true,0,tw n H,y.i⟩ (newP (tw n H) y.i (ws.getD (tw n H).at'.toNat 0))) (j':=jLd ws (tw n H).at' j) (d':=g.d2) I e p W V .refl rfl (fun i hi=>hi) fun T' hT hW=>⟨c,fr,e,p,hT.2 hc,hOc,(B.mono (fun _ h=>h) fun i h=>hW i (hP i h)).upd rfl rfl rfl rfl rfl rfl,rfl,PI.new N.g _⟩
 exact ⟨_,g',hst,I',.inr ⟨fun l h=>by
  have h:4≤l+1:=h
  show PL ws _ l
  exact ⟨fun _=>by omega,fun h=>absurd h f_ne.1,fun h=>absurd h f_ne.2.1⟩,rfl⟩,rfl,rfl,rfl,rfl,rfl⟩
theorem act2p (I:CI n H m ⟨t,sz,ks,hs,j,ws,f0,f1,f2,f3,gt,cl,o0,o1,o2,o3,ck,io,c0,.p y f rs q u,pk⟩ g) (ho:o2≥0) (hm:m<5000):AO2 n H m ⟨t,sz,ks,hs,j,ws,f0,f1,f2,f3,gt,cl,o0,o1,o2,o3,ck,io,c0,.p y f rs q u,pk⟩ g:=by
 obtain ⟨c,fr,e,p,hc,hOc,B,hx,P⟩:=I.k2
 have e:o2=c:=e
 have b:=I.b
 have bf:f2.length≤m:=b.f2
 have bg:gt.length≤m:=b.gt
 have W:WI n H ks hs g.X g.M ws:=I.W
 have V:SInv H n (keyF ks) (hiF n hs) g.X g.M g.E g.C:=I.V
 have N:Nums n H ks hs:=I.N
 have hsz:sz=szW n H:=I.sz
 have hpl:c<cl.length:=p.1
 have i0:=B.i0
 have i1:=B.i1
 have hpre:pPre u sz ws:=by rw [hsz];exact P.pre N W.len i0 i1
 obtain ⟨W',hn⟩:=P.step (j:=j) N W i0 i1
 have hP:∀ i,WP g.T f2 fr i→WP (g.T++[⟨ck,liv (g.M 0) (g.C 0),.tau⟩]) (f2++[fstL t sz ws]) fr i:=fun i h=>h.mono (fun x hx=>by simp [hx]) fun z hz=>⟨z,by simp [hz],rfl,rfl⟩
 by_cases hv:pOver u ws
 ·have hend:=I.fin_ok (i:=y.i) i0 i1 (I.g2 y.i rfl).1
  have hst:=apO2 (t:=t) (hs:=hs) (ks:=ks) (j:=j) (f0:=f0) (f1:=f1) (f3:=f3) (gt:=gt) (cl:=cl) (o0:=o0) (o1:=o1) (o3:=o3) (ck:=ck) (io:=io) (c0:=c0) (pk:=pk) (f:=f) (rs:=rs) (q:=q) ho I.lvp (by omega:f2.length+1≤1048576) ⟨hx,B.made,hpre⟩ hv B.made B.err
   ⟨by omega,by omega⟩ (by omega) (by rw [rs_len];omega) (by rw [rs_len,rs_len];omega) (by rw [rs_len,rs_len,rs_len];omega) (by rw [B.ga];omega) (by rw [B.ga];exact hend.1) (by rw [B.ga];exact hend.2.1) (by rw [B.ga];exact hend.2.2) (by rw [B.ga];exact B.gk) (by omega)
   (by rw [B.ga,part_all];exact (I.g2 y.i rfl).2) (by omega) (by simp;omega) (by rw [B.ga,part_all];exact List.mem_append_left _ B.p.1)
  rw [B.ga,B.gk] at hst
  obtain ⟨g',I'⟩:=act2e (j':=(pstC u j ws).j) (k:=.p y f rs q u) I hm e p hc hOc i0 i1 rfl W'
  exact ⟨_,g',hst,I',.inl rfl,rfl,rfl,rfl,rfl,by show (clE cl o2 ck 0 _ _).length=_;unfold clE;rw [rs_len,rs_len,rs_len,rs_len]⟩
 ·have hst:=apN2 (t:=t) (hs:=hs) (ks:=ks) (j:=j) (f0:=f0) (f1:=f1) (f3:=f3) (gt:=gt) (cl:=cl) (o0:=o0) (o1:=o1) (o3:=o3) (ck:=ck) (io:=io) (c0:=c0) (pk:=pk) (f:=f) (rs:=rs) (q:=q) ho I.lvp (by omega:f2.length+1≤1048576) ⟨hx,B.made,hpre⟩ hv
  rw [keepP_eq] at hst
  obtain ⟨P',hl⟩:=hn hv
  obtain ⟨g',I',e1,e2,e3⟩:=act2q (k:=.p y f rs q u) (k':=.p (reC y 12) f rs q (pstC u j ws).x) (j':=(pstC u j ws).j) (d':=g.d2) I e p W' V .refl rfl (fun i hi=>hi) fun T' hT hW=>⟨c,fr,e,p,hT.2 hc,hOc,(B.mono (fun _ h=>h) fun i h=>hW i (hP i h)).upd rfl rfl rfl rfl rfl rfl,rfl,P'⟩
  exact ⟨_,g',hst,I',.inr ⟨fun l h=>hl l h,rfl⟩,rfl,rfl,rfl,rfl,rfl⟩
end
theorem act2 {n H m:Nat} {σ:CS} {g:GhC} (I:CI n H m σ g) (ho:σ.o2≥0) (hm:m<5000):AO2 n H m σ g:=by
 obtain ⟨t,sz,ks,hs,j,ws,f0,f1,f2,f3,gt,cl,o0,o1,o2,o3,ck,io,c0,c1,pk⟩:=σ
 have ho:o2≥0:=ho
 cases c1 with
 |none=>have:=I.k2;have:o2=-1:=this;omega
 |over=>have:=I.k2;have:o2=-1:=this;omega
 |a y=>
  by_cases h:y.ln=91
  ·exact act2f I ho hm h
  ·exact act2a I ho hm h
 |b y f rs=>exact act2b I ho hm
 |r y f rs q=>exact act2r I ho hm
 |p y f rs q u=>exact act2p I ho hm
end Go.Sx
namespace Go.Sx
variable {t:Tw} {sz:Int} {ks:List Int} {hs:List Int} {j:MJ} {ws:List Int} {f0:List Int} {f1:List Int} {f2:List Int} {f3:List Int} {gt:List Int} {cl:List (List Int)} {o0:Int} {o1:Int} {o2:Int} {o3:Int} {ck:Int} {io:IS} {c0:KS} {c1:KS} {pk:PS} {x:InsC} {y:ClC} {f:FdC} {rs:List (List Int)} {q:ReC} {u:PuC} {kk:Nat}
theorem aqN3 (ho:o3≥0) (hlv:lvPre t sz ws) (hf:f3.length+1≤1048576) (g0:qPre (pkN y) sz ws) (g1:(qstC (pkN y) j ws).1.4≠99):StA 3 ⟨t,sz,ks,hs,j,ws,f0,f1,f2,f3,gt,cl,o0,o1,o2,o3,ck,io,c0,c1,(.a y)⟩ ⟨t,sz,ks,hs,(qstC (pkN y) j ws).j,(qstC (pkN y) j ws).ws,f0,f1,f2,(f3++[fstL t sz ws]),gt,cl,o0,o1,o2,o3,ck,io,c0,c1,(.a (keepC (pkN y) (qstC (pkN y) j ws).x))⟩:=by
 refine ⟨fun zs len cap i hp h0 h1 h2=>?_,fun k hk0 hk1=>PlPc.of fun zs=>?_⟩
 ·by_cases hl:liveW t (ws.take sz.toNat)=[]
  ·rw [fstL_E hl];exact pcA 3 [] [0,1,2,3,4,5,6,7,8,9,10,11,12,13,14,39,16,17,18,19,20,21,22,23,24,25,26,27,28,29,30,31,32,33,34,35,36,37] 40 14 (bits 18 0x3f7e4) (XB (zT g1)<|cD g0<|tE hf hlv hl ho (rH hp h0 h1 h2)) (fun J=>by kernel_rfl) (by kernel_rfl)
  ·rw [fstL_L hl];exact pcA 3 [] [0,1,2,3,4,5,6,7,8,9,10,11,12,13,14,40,16,17,18,19,20,21,22,23,24,25,26,27,28,29,30,31,32,33,34,35,36,37] 41 14 (bits 20 0xfd9e4) (XB (zT g1)<|cD g0<|tL hf hlv hl ho (rH hp h0 h1 h2)) (fun J=>by kernel_rfl) (by kernel_rfl)
 ·by_cases hl:liveW t (ws.take sz.toNat)=[]
  ·rw [fstL_E hl];exact pcA 3 [] [0,1,2,3,4,5,6,7,8,9,10,11,12,13,14,39,16,17,18,19,20,21,22,23,24,25,26,27,28,29,30,31,32,33,34,35,36,37] 40 14 (bits 21 0x1c6fc8) (XB (zT g1)<|cD g0<|tE hf hlv hl ho (rG hk1 ho)) (fun J=>by kernel_rfl) (by kernel_rfl)
  ·rw [fstL_L hl];exact pcA 3 [] [0,1,2,3,4,5,6,7,8,9,10,11,12,13,14,40,16,17,18,19,20,21,22,23,24,25,26,27,28,29,30,31,32,33,34,35,36,37] 41 14 (bits 23 0x71b3c8) (XB (zT g1)<|cD g0<|tL hf hlv hl ho (rG hk1 ho)) (fun J=>by kernel_rfl) (by kernel_rfl)
theorem aqX3 (ho:o3≥0) (hlv:lvPre t sz ws) (hf:f3.length+1≤1048576) (hl:liveW t (ws.take sz.toNat)=[]) (g0:qPre (pkN y) sz ws) (g1:(qstC (pkN y) j ws).1.4=99) (g2:y.made=true) (g3:(qstC (pkN y) j ws).1.12≠0) (g4:0≤o3∧o3<((List.length cl:Nat):Int)) (g5:Int.toNat o3<List.length cl) (g6:Int.toNat o3<List.length (Go.Sx.rs cl (Int.toNat o3) 2 (IntKind.i64.wrap (ck+1)))) (g7:Int.toNat o3<List.length (Go.Sx.rs (Go.Sx.rs cl (Int.toNat o3) 2 (IntKind.i64.wrap (ck+1))) (Int.toNat o3) 7 (qstC (pkN y) j ws).1.12)) (g8:Int.toNat o3<List.length (Go.Sx.rs (Go.Sx.rs (Go.Sx.rs cl (Int.toNat o3) 2 (IntKind.i64.wrap (ck+1))) (Int.toNat o3) 7 (qstC (pkN y) j ws).1.12) (Int.toNat o3) 8 0)) (g9:(qstC (pkN y) j ws).1.12=15) (g10:List.length (f3++[fstL t sz ws])≤1048576) (g11:(-1:Int)∈part (f3++[fstL t sz ws]) 0 (List.length (f3++[fstL t sz ws]))):StA 3 ⟨t,sz,ks,hs,j,ws,f0,f1,f2,f3,gt,cl,o0,o1,o2,o3,ck,io,c0,c1,(.a y)⟩ ⟨t,sz,ks,hs,(qstC (pkN y) j ws).j,(qstC (pkN y) j ws).ws,f0,f1,f2,(f3++[fstL t sz ws]),gt,(clE cl o3 ck (qstC (pkN y) j ws).x.err 0 0),o0,o1,o2,(-1),(IntKind.i64.wrap (ck+1)),io,c0,c1,.over⟩:=by
 refine ⟨fun zs len cap i hp h0 h1 h2=>?_,fun k hk0 hk1=>PlPc.of fun zs=>?_⟩
 ·rw [fstL_E hl] at g10 g11 ⊢;exact pcA 3 [0,0,0,0,0,0,0,0,0,0,0,0,0,0,0,0,0,0,0,0,0,0,0,0,0,0,0,0,0,0,0,0,0,0,0,0,0,2] [0,1,2,3,4,5,6,7,8,9,10,11,12,13,14,39,16,17,18,19,20,21,22,23,24,25,26,27,28,29,30,31,32,33,34,35,36,37] 44 14 (bits 51 0x7efcc7fe0effe) (XB (n2T g11)<|cD g10<|XB (qT g9)<|XB (zT g3)<|XB (zT g3)<|cD g8<|cD g7<|cD g6<|cD g5<|cD g4<|XB (bT g3)<|XB (cT g1)<|XB (mT g2)<|XB (qT g1)<|cD g0<|tE hf hlv hl ho (rH hp h0 h1 h2)) (fun J=>by kernel_rfl) (by kernel_rfl)
 ·rw [fstL_E hl] at g10 g11 ⊢;exact pcA 3 [0,0,0,0,0,0,0,0,0,0,0,0,0,0,0,0,0,0,0,0,0,0,0,0,0,0,0,0,0,0,0,0,0,0,0,0,0,2] [0,1,2,3,4,5,6,7,8,9,10,11,12,13,14,39,16,17,18,19,20,21,22,23,24,25,26,27,28,29,30,31,32,33,34,35,36,37] 44 14 (bits 54 0x38df98ffc1dffc) (XB (n2T g11)<|cD g10<|XB (qT g9)<|XB (zT g3)<|XB (zT g3)<|cD g8<|cD g7<|cD g6<|cD g5<|cD g4<|XB (bT g3)<|XB (cT g1)<|XB (mT g2)<|XB (qT g1)<|cD g0<|tE hf hlv hl ho (rG hk1 ho)) (fun J=>by kernel_rfl) (by kernel_rfl)
theorem aqO3 (ho:o3≥0) (hlv:lvPre t sz ws) (hf:f3.length+1≤1048576) (g0:qPre (pkN y) sz ws) (g1:(qstC (pkN y) j ws).1.4=99) (g2:y.made=true) (g3:(qstC (pkN y) j ws).1.12=0) (g4:0≤o3∧o3<((List.length cl:Nat):Int)) (g5:Int.toNat o3<List.length cl) (g6:Int.toNat o3<List.length (Go.Sx.rs cl (Int.toNat o3) 2 (IntKind.i64.wrap (ck+1)))) (g7:Int.toNat o3<List.length (Go.Sx.rs (Go.Sx.rs cl (Int.toNat o3) 2 (IntKind.i64.wrap (ck+1))) (Int.toNat o3) 7 0)) (g8:Int.toNat o3<List.length (Go.Sx.rs (Go.Sx.rs (Go.Sx.rs cl (Int.toNat o3) 2 (IntKind.i64.wrap (ck+1))) (Int.toNat o3) 7 0) (Int.toNat o3) 8 (qstC (pkN y) j ws).1.9)) (g9:¬ ((qstC (pkN y) j ws).1.9<0)) (g10:¬ ((qstC (pkN y) j ws).1.9≥((List.length (allV (fun m=>m) io):Nat):Int))) (g11:0≤(qstC (pkN y) j ws).1.9∧(qstC (pkN y) j ws).1.9<((List.length ks:Nat):Int)) (g12:Int.toNat (qstC (pkN y) j ws).1.9<List.length ks) (g13:(qstC (pkN y) j ws).1.8=List.getD ks (Int.toNat (qstC (pkN y) j ws).1.9) 0) (g14:List.length (f3++[fstL t sz ws])≤1048576) (g15:(qstC (pkN y) j ws).1.9∈part (f3++[fstL t sz ws]) 0 (List.length (f3++[fstL t sz ws]))):StA 3 ⟨t,sz,ks,hs,j,ws,f0,f1,f2,f3,gt,cl,o0,o1,o2,o3,ck,io,c0,c1,(.a y)⟩ ⟨t,sz,ks,hs,(qstC (pkN y) j ws).j,(qstC (pkN y) j ws).ws,f0,f1,f2,(f3++[fstL t sz ws]),gt,(clE cl o3 ck 0 (qstC (pkN y) j ws).x.ga (qstC (pkN y) j ws).x.gk),o0,o1,o2,(-1),(IntKind.i64.wrap (ck+1)),io,c0,c1,.over⟩:=by
 refine ⟨fun zs len cap i hp h0 h1 h2=>?_,fun k hk0 hk1=>PlPc.of fun zs=>?_⟩
 ·by_cases hl:liveW t (ws.take sz.toNat)=[]
  ·rw [fstL_E hl] at g14 g15 ⊢;exact pcA 3 [0,0,0,0,0,0,0,0,0,0,0,0,0,0,0,0,0,0,0,0,0,0,0,0,0,0,0,0,0,0,0,0,0,0,0,0,0,2] [0,1,2,3,4,5,6,7,8,9,10,11,12,13,14,39,16,17,18,19,20,21,22,23,24,25,26,27,28,29,30,31,32,33,34,35,36,37] 44 14 (bits 81 0x1fbf30ffa00028001fffe) (XB (n2T g15)<|cD g14<|XB (cT g13)<|cD g12<|cD g11<|cN g10<|cN g9<|cD g8<|cD g7<|cD g6<|cD g5<|cD g4<|XB (cT g3)<|XB (cT g1)<|XB (mT g2)<|XB (qT g1)<|cD g0<|tE hf hlv hl ho (rH hp h0 h1 h2)) (fun J=>by kernel_rfl) (by kernel_rfl)
  ·rw [fstL_L hl] at g14 g15 ⊢;exact pcA 3 [0,0,0,0,0,0,0,0,0,0,0,0,0,0,0,0,0,0,0,0,0,0,0,0,0,0,0,0,0,0,0,0,0,0,0,0,0,2] [0,1,2,3,4,5,6,7,8,9,10,11,12,13,14,40,16,17,18,19,20,21,22,23,24,25,26,27,28,29,30,31,32,33,34,35,36,37] 45 14 (bits 83 0x7ecf30ffa00028001fffe) (XB (n2T g15)<|cD g14<|XB (cT g13)<|cD g12<|cD g11<|cN g10<|cN g9<|cD g8<|cD g7<|cD g6<|cD g5<|cD g4<|XB (cT g3)<|XB (cT g1)<|XB (mT g2)<|XB (qT g1)<|cD g0<|tL hf hlv hl ho (rH hp h0 h1 h2)) (fun J=>by kernel_rfl) (by kernel_rfl)
 ·by_cases hl:liveW t (ws.take sz.toNat)=[]
  ·rw [fstL_E hl] at g14 g15 ⊢;exact pcA 3 [0,0,0,0,0,0,0,0,0,0,0,0,0,0,0,0,0,0,0,0,0,0,0,0,0,0,0,0,0,0,0,0,0,0,0,0,0,2] [0,1,2,3,4,5,6,7,8,9,10,11,12,13,14,39,16,17,18,19,20,21,22,23,24,25,26,27,28,29,30,31,32,33,34,35,36,37] 44 14 (bits 84 0xe37e61ff400050003fffc) (XB (n2T g15)<|cD g14<|XB (cT g13)<|cD g12<|cD g11<|cN g10<|cN g9<|cD g8<|cD g7<|cD g6<|cD g5<|cD g4<|XB (cT g3)<|XB (cT g1)<|XB (mT g2)<|XB (qT g1)<|cD g0<|tE hf hlv hl ho (rG hk1 ho)) (fun J=>by kernel_rfl) (by kernel_rfl)
  ·rw [fstL_L hl] at g14 g15 ⊢;exact pcA 3 [0,0,0,0,0,0,0,0,0,0,0,0,0,0,0,0,0,0,0,0,0,0,0,0,0,0,0,0,0,0,0,0,0,0,0,0,0,2] [0,1,2,3,4,5,6,7,8,9,10,11,12,13,14,40,16,17,18,19,20,21,22,23,24,25,26,27,28,29,30,31,32,33,34,35,36,37] 45 14 (bits 86 0x38d9e61ff400050003fffc) (XB (n2T g15)<|cD g14<|XB (cT g13)<|cD g12<|cD g11<|cN g10<|cN g9<|cD g8<|cD g7<|cD g6<|cD g5<|cD g4<|XB (cT g3)<|XB (cT g1)<|XB (mT g2)<|XB (qT g1)<|cD g0<|tL hf hlv hl ho (rG hk1 ho)) (fun J=>by kernel_rfl) (by kernel_rfl)
theorem abg0_0 (g0:¬ ((0:Int)≥(ks.length:Int))) (g1:(0:Int)≤0∧(0:Int)<(ks.length:Int)) (g2:0<ks.length) (g3:(0:Int)≤0∧(0:Int)<(hs.length:Int)) (g4:0<hs.length) (g5:t.hasP 0 0) (g6:¬ (ptA t 0 0<0)) (g7:¬ ((0:Int)≥t.size)) (g8:¬ (hs.getD 0 0<1)) (g9:¬ (hs.getD 0 0 > t.height)) (g10:t.ok) (g11:cl.length+1≤1048576):StH 0 ⟨t,sz,ks,hs,j,ws,f0,f1,f2,f3,gt,cl,(-1),o1,o2,o3,ck,.none,c0,c1,pk⟩ ⟨t,sz,ks,hs,j,ws,[],f1,f2,f3,gt,(cl++[[(cl.length:Int),IntKind.i64.wrap (ck+1),-1,4,0,0,ks.getD 0 0,0,0,0]]),(cl.length:Int),o1,o2,o3,(IntKind.i64.wrap (ck+1)),(.a 0 ⟨t,true,false,65537,ks.getD 0 0,0,hs.getD 0 0,1,0,0,0,0⟩ (newF t (ks.getD 0 0)) (newR t)),c0,c1,pk⟩:=fun zs len cap i hp h0 h1 h2=>
 pcN0 [0,0,0,0,0,0,0,0,0,0,0,0,1,0,0,0,0,0,0,0,0,0,0,0,0,0,0,0,0,0,0,0,0,0,0,0,0,0] [0,1,2,3,4,5,6,7,8,81,10,83,12,13,14,15,16,17,18,19,20,21,59,78,79,25,26,27,28,29,30,31,32,33,34,35,36,37] 84 14 (bits 149 0x1fefbffc0f8003ff8000007ffc0f8003ff81fe) (cD g11<|cD g2<|cD g1<|cD g10<|cN g9<|cN g8<|cN g7<|cN g6<|cD g5<|cD g4<|cD g3<|cD g2<|cD g1<|cN g0<|rH hp h0 h1 h2) (fun J=>by kernel_rfl) (by kernel_rfl) rfl
theorem abg1_0 (g0:¬ ((1:Int)≥(ks.length:Int))) (g1:(0:Int)≤1∧(1:Int)<(ks.length:Int)) (g2:1<ks.length) (g3:(0:Int)≤1∧(1:Int)<(hs.length:Int)) (g4:1<hs.length) (g5:t.hasP 0 0) (g6:¬ (ptA t 0 0<0)) (g7:¬ ((1:Int)≥t.size)) (g8:¬ (hs.getD 1 0<1)) (g9:¬ (hs.getD 1 0 > t.height)) (g10:t.ok) (g11:cl.length+1≤1048576):StH 0 ⟨t,sz,ks,hs,j,ws,f0,f1,f2,f3,gt,cl,(-1),o1,o2,o3,ck,(.over 0),c0,c1,pk⟩ ⟨t,sz,ks,hs,j,ws,[],f1,f2,f3,gt,(cl++[[(cl.length:Int),IntKind.i64.wrap (ck+1),-1,4,1,0,ks.getD 1 0,0,0,0]]),(cl.length:Int),o1,o2,o3,(IntKind.i64.wrap (ck+1)),(.a 1 ⟨t,true,false,65538,ks.getD 1 0,1,hs.getD 1 0,1,0,0,0,0⟩ (newF t (ks.getD 1 0)) (newR t)),c0,c1,pk⟩:=fun zs len cap i hp h0 h1 h2=>
 pcN0 [0,0,0,0,0,0,0,0,0,0,0,0,1,0,0,0,0,0,0,0,0,0,0,0,0,0,0,0,0,0,0,0,0,0,0,0,0,0] [0,1,2,3,4,5,6,7,8,81,10,83,12,13,14,15,22,17,18,19,20,21,59,78,79,25,26,27,28,29,30,31,32,33,34,35,36,37] 84 14 (bits 149 0x1fefbffc0f8003ff8000007ffc0f8003ff81fe) (cD g11<|cD g2<|cD g1<|cD g10<|cN g9<|cN g8<|cN g7<|cN g6<|cD g5<|cD g4<|cD g3<|cD g2<|cD g1<|cN g0<|rH hp h0 h1 h2) (fun J=>by kernel_rfl) (by kernel_rfl) rfl
theorem abg2_0 (g0:¬ ((2:Int)≥(ks.length:Int))) (g1:(0:Int)≤2∧(2:Int)<(ks.length:Int)) (g2:2<ks.length) (g3:(0:Int)≤2∧(2:Int)<(hs.length:Int)) (g4:2<hs.length) (g5:t.hasP 0 0) (g6:¬ (ptA t 0 0<0)) (g7:¬ ((2:Int)≥t.size)) (g8:¬ (hs.getD 2 0<1)) (g9:¬ (hs.getD 2 0 > t.height)) (g10:t.ok) (g11:cl.length+1≤1048576):StH 0 ⟨t,sz,ks,hs,j,ws,f0,f1,f2,f3,gt,cl,(-1),o1,o2,o3,ck,(.over 1),c0,c1,pk⟩ ⟨t,sz,ks,hs,j,ws,[],f1,f2,f3,gt,(cl++[[(cl.length:Int),IntKind.i64.wrap (ck+1),-1,4,2,0,ks.getD 2 0,0,0,0]]),(cl.length:Int),o1,o2,o3,(IntKind.i64.wrap (ck+1)),(.a 2 ⟨t,true,false,65539,ks.getD 2 0,2,hs.getD 2 0,1,0,0,0,0⟩ (newF t (ks.getD 2 0)) (newR t)),c0,c1,pk⟩:=fun zs len cap i hp h0 h1 h2=>
 pcN0 [0,0,0,0,0,0,0,0,0,0,0,0,1,0,0,0,0,0,0,0,0,0,0,0,0,0,0,0,0,0,0,0,0,0,0,0,0,0] [0,1,2,3,4,5,6,7,8,81,10,83,12,13,14,15,16,22,18,19,20,21,59,78,79,25,26,27,28,29,30,31,32,33,34,35,36,37] 84 14 (bits 149 0x1fefbffc0f8003ff8000007ffc0f8003ff81fe) (cD g11<|cD g2<|cD g1<|cD g10<|cN g9<|cN g8<|cN g7<|cN g6<|cD g5<|cD g4<|cD g3<|cD g2<|cD g1<|cN g0<|rH hp h0 h1 h2) (fun J=>by kernel_rfl) (by kernel_rfl) rfl
theorem abg3_0 (g0:¬ ((3:Int)≥(ks.length:Int))) (g1:(0:Int)≤3∧(3:Int)<(ks.length:Int)) (g2:3<ks.length) (g3:(0:Int)≤3∧(3:Int)<(hs.length:Int)) (g4:3<hs.length) (g5:t.hasP 0 0) (g6:¬ (ptA t 0 0<0)) (g7:¬ ((3:Int)≥t.size)) (g8:¬ (hs.getD 3 0<1)) (g9:¬ (hs.getD 3 0 > t.height)) (g10:t.ok) (g11:cl.length+1≤1048576):StH 0 ⟨t,sz,ks,hs,j,ws,f0,f1,f2,f3,gt,cl,(-1),o1,o2,o3,ck,(.over 2),c0,c1,pk⟩ ⟨t,sz,ks,hs,j,ws,[],f1,f2,f3,gt,(cl++[[(cl.length:Int),IntKind.i64.wrap (ck+1),-1,4,3,0,ks.getD 3 0,0,0,0]]),(cl.length:Int),o1,o2,o3,(IntKind.i64.wrap (ck+1)),(.a 3 ⟨t,true,false,65540,ks.getD 3 0,3,hs.getD 3 0,1,0,0,0,0⟩ (newF t (ks.getD 3 0)) (newR t)),c0,c1,pk⟩:=fun zs len cap i hp h0 h1 h2=>
 pcN0 [0,0,0,0,0,0,0,0,0,0,0,0,1,0,0,0,0,0,0,0,0,0,0,0,0,0,0,0,0,0,0,0,0,0,0,0,0,0] [0,1,2,3,4,5,6,7,8,81,10,83,12,13,14,15,16,17,22,19,20,21,59,78,79,25,26,27,28,29,30,31,32,33,34,35,36,37] 84 14 (bits 149 0x1fefbffc0f8003ff8000007ffc0f8003ff81fe) (cD g11<|cD g2<|cD g1<|cD g10<|cN g9<|cN g8<|cN g7<|cN g6<|cD g5<|cD g4<|cD g3<|cD g2<|cD g1<|cN g0<|rH hp h0 h1 h2) (fun J=>by kernel_rfl) (by kernel_rfl) rfl
theorem abg4_0 (g0:¬ ((4:Int)≥(ks.length:Int))) (g1:(0:Int)≤4∧(4:Int)<(ks.length:Int)) (g2:4<ks.length) (g3:(0:Int)≤4∧(4:Int)<(hs.length:Int)) (g4:4<hs.length) (g5:t.hasP 0 0) (g6:¬ (ptA t 0 0<0)) (g7:¬ ((4:Int)≥t.size)) (g8:¬ (hs.getD 4 0<1)) (g9:¬ (hs.getD 4 0 > t.height)) (g10:t.ok) (g11:cl.length+1≤1048576):StH 0 ⟨t,sz,ks,hs,j,ws,f0,f1,f2,f3,gt,cl,(-1),o1,o2,o3,ck,(.over 3),c0,c1,pk⟩ ⟨t,sz,ks,hs,j,ws,[],f1,f2,f3,gt,(cl++[[(cl.length:Int),IntKind.i64.wrap (ck+1),-1,4,4,0,ks.getD 4 0,0,0,0]]),(cl.length:Int),o1,o2,o3,(IntKind.i64.wrap (ck+1)),(.a 4 ⟨t,true,false,65541,ks.getD 4 0,4,hs.getD 4 0,1,0,0,0,0⟩ (newF t (ks.getD 4 0)) (newR t)),c0,c1,pk⟩:=fun zs len cap i hp h0 h1 h2=>
 pcN0 [0,0,0,0,0,0,0,0,0,0,0,0,1,0,0,0,0,0,0,0,0,0,0,0,0,0,0,0,0,0,0,0,0,0,0,0,0,0] [0,1,2,3,4,5,6,7,8,81,10,83,12,13,14,15,16,17,18,22,20,21,59,78,79,25,26,27,28,29,30,31,32,33,34,35,36,37] 84 14 (bits 149 0x1fefbffc0f8003ff8000007ffc0f8003ff81fe) (cD g11<|cD g2<|cD g1<|cD g10<|cN g9<|cN g8<|cN g7<|cN g6<|cD g5<|cD g4<|cD g3<|cD g2<|cD g1<|cN g0<|rH hp h0 h1 h2) (fun J=>by kernel_rfl) (by kernel_rfl) rfl
theorem abg5_0 (g0:¬ ((5:Int)≥(ks.length:Int))) (g1:(0:Int)≤5∧(5:Int)<(ks.length:Int)) (g2:5<ks.length) (g3:(0:Int)≤5∧(5:Int)<(hs.length:Int)) (g4:5<hs.length) (g5:t.hasP 0 0) (g6:¬ (ptA t 0 0<0)) (g7:¬ ((5:Int)≥t.size)) (g8:¬ (hs.getD 5 0<1)) (g9:¬ (hs.getD 5 0 > t.height)) (g10:t.ok) (g11:cl.length+1≤1048576):StH 0 ⟨t,sz,ks,hs,j,ws,f0,f1,f2,f3,gt,cl,(-1),o1,o2,o3,ck,(.over 4),c0,c1,pk⟩ ⟨t,sz,ks,hs,j,ws,[],f1,f2,f3,gt,(cl++[[(cl.length:Int),IntKind.i64.wrap (ck+1),-1,4,5,0,ks.getD 5 0,0,0,0]]),(cl.length:Int),o1,o2,o3,(IntKind.i64.wrap (ck+1)),(.a 5 ⟨t,true,false,65542,ks.getD 5 0,5,hs.getD 5 0,1,0,0,0,0⟩ (newF t (ks.getD 5 0)) (newR t)),c0,c1,pk⟩:=fun zs len cap i hp h0 h1 h2=>
 pcN0 [0,0,0,0,0,0,0,0,0,0,0,0,1,0,0,0,0,0,0,0,0,0,0,0,0,0,0,0,0,0,0,0,0,0,0,0,0,0] [0,1,2,3,4,5,6,7,8,81,10,83,12,13,14,15,16,17,18,19,22,21,59,78,79,25,26,27,28,29,30,31,32,33,34,35,36,37] 84 14 (bits 149 0x1fefbffc0f8003ff8000007ffc0f8003ff81fe) (cD g11<|cD g2<|cD g1<|cD g10<|cN g9<|cN g8<|cN g7<|cN g6<|cD g5<|cD g4<|cD g3<|cD g2<|cD g1<|cN g0<|rH hp h0 h1 h2) (fun J=>by kernel_rfl) (by kernel_rfl) rfl
theorem ask_0 (g0:((List.length (allV (fun m=>m) (IS.over kk)):Nat):Int)≥((List.length ks:Nat):Int)):StH 0 ⟨t,sz,ks,hs,j,ws,f0,f1,f2,f3,gt,cl,(-1),o1,o2,o3,ck,(.over kk),c0,c1,pk⟩ ⟨t,sz,ks,hs,j,ws,f0,f1,f2,f3,gt,cl,(-1),o1,o2,o3,(IntKind.i64.wrap (ck+1)),(.over kk),c0,c1,pk⟩:=fun zs len cap i hp h0 h1 h2=>
 pcA 0 [] [0,1,2,3,4,5,6,7,8,9,10,11,12,13,14,15,16,17,18,19,20,21,22,23,24,25,26,27,28,29,30,31,32,33,34,35,36,37] 39 14 (bits 10 0x3fe) (cD g0<|rH hp h0 h1 h2) (fun J=>by kernel_rfl) (by kernel_rfl)
theorem abg_1 (g0:Tw.has t (-1) 0) (g1:¬ (nxA t (-1) 0<0)) (g2:List.length cl+1≤1048576):StH 1 ⟨t,sz,ks,hs,j,ws,f0,f1,f2,f3,gt,cl,o0,(-1),o2,o3,ck,io,c0,c1,pk⟩ ⟨t,sz,ks,hs,j,ws,f0,[],f2,f3,gt,(cl++[[(cl.length:Int),IntKind.i64.wrap (ck+1),-1,5,0,0,0,0,0,0]]),o0,(cl.length:Int),o2,o3,(IntKind.i64.wrap (ck+1)),io,(.a ⟨t,0,false,1,0,0,0,0,0,0,true,0⟩),c1,pk⟩:=fun zs len cap i hp h0 h1 h2=>
 pcN1 [0,0,0,0,0,0,0,0,0,0,0,0,0,1,0,0,0,0,0,0,0,0,0,0,0,0,0,0,1,1,1,1,0,0,0,0,0,0] [0,1,2,3,4,5,6,7,8,9,10,44,12,13,14,15,16,17,18,19,20,21,22,23,24,25,26,42,28,29,30,31,32,33,34,35,36,37] 45 14 (bits 17 0x1fdbe) (cD g2<|cN g1<|cD g0<|rH hp h0 h1 h2) (fun J=>by kernel_rfl) (by kernel_rfl) rfl
theorem abg_2 (g0:Tw.has t (-1) 0) (g1:¬ (nxA t (-1) 0<0)) (g2:List.length cl+1≤1048576):StH 2 ⟨t,sz,ks,hs,j,ws,f0,f1,f2,f3,gt,cl,o0,o1,(-1),o3,ck,io,c0,c1,pk⟩ ⟨t,sz,ks,hs,j,ws,f0,f1,[],f3,gt,(cl++[[(cl.length:Int),IntKind.i64.wrap (ck+1),-1,5,0,0,0,0,0,0]]),o0,o1,(cl.length:Int),o3,(IntKind.i64.wrap (ck+1)),io,c0,(.a ⟨t,0,false,1,0,0,0,0,0,0,true,0⟩),pk⟩:=fun zs len cap i hp h0 h1 h2=>
 pcN2 [0,0,0,0,0,0,0,0,0,0,0,0,0,0,1,0,0,0,0,0,0,0,0,0,0,0,0,0,0,0,0,0,0,1,1,1,1,0] [0,1,2,3,4,5,6,7,8,9,10,44,12,13,14,15,16,17,18,19,20,21,22,23,24,25,26,27,28,29,30,31,42,33,34,35,36,37] 45 14 (bits 17 0x1fdbe) (cD g2<|cN g1<|cD g0<|rH hp h0 h1 h2) (fun J=>by kernel_rfl) (by kernel_rfl) rfl
theorem abg_3 (g0:Tw.has t (-1) 0) (g1:¬ (nxA t (-1) 0<0)) (g2:List.length cl+1≤1048576):StH 3 ⟨t,sz,ks,hs,j,ws,f0,f1,f2,f3,gt,cl,o0,o1,o2,(-1),ck,io,c0,c1,pk⟩ ⟨t,sz,ks,hs,j,ws,f0,f1,f2,[],gt,(cl++[[(cl.length:Int),IntKind.i64.wrap (ck+1),-1,6,0,0,0,0,0,0]]),o0,o1,o2,(cl.length:Int),(IntKind.i64.wrap (ck+1)),io,c0,c1,(.a ⟨t,0,false,1,0,0,0,0,0,0,true,0⟩)⟩:=fun zs len cap i hp h0 h1 h2=>
 pcN3 [0,0,0,0,0,0,0,0,0,0,0,0,0,0,0,1,0,0,0,0,0,0,0,0,0,0,0,0,0,0,0,0,0,0,0,0,0,0] [0,1,2,3,4,5,6,7,8,9,10,44,12,13,14,15,16,17,18,19,20,21,22,23,24,25,26,27,28,29,30,31,32,33,34,35,36,42] 45 14 (bits 16 0xfe5e) (cD g2<|cN g1<|cD g0<|rH hp h0 h1 h2) (fun J=>by kernel_rfl) (by kernel_rfl) rfl
end Go.Sx
