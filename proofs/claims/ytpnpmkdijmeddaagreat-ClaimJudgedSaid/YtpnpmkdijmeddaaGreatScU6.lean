/- A Claim's step, a Peek's. -/
import Derived.Test.YtpnpmkdijmeddaaGreatScU4
set_option maxRecDepth 100000
namespace Go.Sx
open Go.Ql (SInv FInv fstep updF XX XW lkd RW liv)
structure SkR (n H:Nat) (nx:Nat→Int→Int) (mk:Nat→Int→Bool) (lev:Int→Nat) (P:Int→Prop) (x:ClC):Prop where
 t:x.t=tw n H
 made:x.made=true
 err:x.err=0
 ln:x.ln=1∨x.ln=2∨x.ln=3
 n1:x.ln≠1→0≤x.i∧x.i<n∧x.a=lnkW x.i false∧lkd n lev 0 x.i
 n2:x.ln=2→mk 0 x.i=false→P x.i
 n3:x.ln=3→mk 0 x.i=true∧x.w=lnkW (nx 0 x.i) true
def hrk (n:Nat) (ks:List Int) (nx:Nat→Int→Int):Nat:=if nx 0 (-1)=-1 then 0 else Ql.rk n (keyF ks) (nx 0 (-1))
structure SL (n:Nat) (ks:List Int) (nx:Nat→Int→Int) (K:Nat) (x:ClC) (m:Nat):Prop where
 l1:x.ln=1→3*hrk n ks nx+K+3≤m
 l2:x.ln=2→(nx 0 (-1)=x.i∧3*hrk n ks nx+K+2≤m)∨3*hrk n ks nx+K+5≤m
 l3:x.ln=3→(nx 0 (-1)=x.i∧3*hrk n ks nx+K+1≤m)∨3*hrk n ks nx+K+4≤m
section
variable {n H:Nat} {ks hs ws:List Int} {nx nx':Nat→Int→Int} {mk mk':Nat→Int→Bool} {lev lev':Int→Nat} {C:Nat→List Int} {P P':Int→Prop} {x:ClC} {j:MJ}
theorem hrk_le:hrk n ks nx≤n:=by
 unfold hrk
 split
 ·omega
 ·have:=Ql.rk_le (N:=n) (key:=keyF ks) (nx 0 (-1));omega
theorem SkR.mono (S:SkR n H nx mk lev P x) {own:Int} (R:RW n own nx mk lev nx' mk' lev') (hP:∀ i,P i→P' i):SkR n H nx' mk' lev' P' x:=by
 refine ⟨S.t,S.made,S.err,S.ln,fun h=>?_,fun h h2=>?_,fun h=>?_⟩
 ·obtain ⟨a,b,c,d⟩:=S.n1 h
  exact ⟨a,b,c,d.mono R.lv⟩
 ·refine hP _ (S.n2 h ?_)
  cases hm:mk 0 x.i with
  |false=>rfl
  |true=>rw [R.mm _ _ hm] at h2;cases h2
 ·obtain ⟨h1,h2⟩:=S.n3 h
  obtain ⟨a,b,c,d⟩:=S.n1 (by omega)
  exact ⟨R.mm _ _ h1,by rw [R.fz _ _ d h1];exact h2⟩
def SOut (n H:Nat) (ks hs:List Int) (nx:Nat→Int→Int) (mk:Nat→Int→Bool) (lev:Int→Nat) (C:Nat→List Int) (P':Int→Prop) (x x':ClC) (ws':List Int):Prop:=
 ∃ nx' C',WI n H ks hs nx' mk ws'∧SInv H n (keyF ks) (hiF n hs) nx' mk lev C'∧RW n (-1) nx mk lev nx' mk lev∧liv (mk 0) (C' 0)=liv (mk 0) (C 0)∧
  ((x'.ln=99∧x'.err=15∧liv (mk 0) (C 0)=[])∨(SkR n H nx' mk lev P' x'∧∀ K m,SL n ks nx K x (m+1)→SL n ks nx' K x' m)∨
   (x'.ln=4∧x'.t=tw n H∧x'.made=true∧x'.err=0∧0≤x'.i∧x'.i<n∧x'.a=lnkW x'.i false∧lkd n lev 0 x'.i∧P' x'.i∧mk 0 x'.i=false∧x'.i=x.i∧x.ln=2∧∀ K m,SL n ks nx K x (m+1)→K≤m))
theorem dm0 (g:Geo n H):dm n H 0 (-1):=⟨.inl rfl,by obtain ⟨_,_,_,_⟩:=g;omega⟩
theorem dmi (g:Geo n H) {i:Int} (h0:0≤i) (h1:i<n):dm n H 0 i:=⟨.inr ⟨h0,h1⟩,by obtain ⟨_,_,_,_⟩:=g;omega⟩
theorem pt40 (g:Geo n H) {i:Int} (h0:0≤i):(ptA (tw n H) i 4).toNat=ad n H 0 i:=by
 have:=pt4 (n:=n) (H:=H) (l:=0) g h0
 rw [show (4:Int)=4+((0:Nat):Int) by decide,this];rfl
theorem SkR.step (S:SkR n H nx mk lev P x) (N:Nums n H ks hs) (W:WI n H ks hs nx mk ws) (V:SInv H n (keyF ks) (hiF n hs) nx mk lev C) (hP:∀ i,P i→P' i) (hF:∀ i,(liv (mk 0) (C 0)).head?=some i→P' i):
  SOut n H ks hs nx mk lev C P' x (firC x j ws).x (firC x j ws).ws:=by
 obtain ⟨g1,g2,g3,g4⟩:=id N.g
 have hd0:=dm0 N.g
 have V0:=V.lv 0 (by omega)
 have hr0:=W.rg _ _ hd0
 have hw0:=W.lk _ _ hd0
 rw [V.hd 0] at hw0
 have ea:(nxA x.t (-1) 0).toNat=ad n H 0 (-1):=by rw [S.t];rfl
 have esz:x.t.size=(n:Int):=by rw [S.t];rfl
 rcases S.ln with e|e|e
 ·unfold firC
  rw [if_pos e,ea,hw0,rA N.g hr0.1 hr0.2,esz]
  by_cases hi:inT (n:Int) (nx 0 (-1))
  ·rw [if_pos hi]
   have hne:nx 0 (-1)≠-1:=by have:=hi.1;omega
   obtain ⟨B,hB,b1,b2,b3⟩:=V0.first rfl hne
   refine ⟨nx,C,W,V,.refl,rfl,.inr (.inl ⟨⟨S.t,S.made,S.err,.inr (.inl rfl),fun _=>⟨hi.1,hi.2,rfl,b2⟩,fun _ h=>hF _ (b3 h),fun h=>absurd h (by decide:¬ (2:Int)=3)⟩,fun K m h=>⟨fun h=>absurd h (by decide:¬ (2:Int)=1),fun _=>.inl ⟨rfl,by have:=h.l1 e;omega⟩,fun h=>absurd h (by decide:¬ (2:Int)=3)⟩⟩)⟩
  ·rw [if_neg hi]
   have hne:nx 0 (-1)=-1:=by
    have h0:¬ (0≤nx 0 (-1)∧nx 0 (-1)<n):=hi
    omega
   exact ⟨nx,C,W,V,.refl,rfl,.inl ⟨rfl,rfl,(V0.none hne).2⟩⟩
 ·obtain ⟨i0,i1,ia,il⟩:=S.n1 (by omega)
  have hdi:=dmi N.g i0 i1
  have hri:=W.rg _ _ hdi
  unfold firC
  rw [if_neg (show ¬ x.ln=1 by omega),if_pos e,S.t,pt40 N.g i0,W.lk _ _ hdi,rM N.g hri.1 hri.2]
  cases hm:mk 0 x.i with
  |true=>
   refine ⟨nx,C,W,V,.refl,rfl,.inr (.inl ⟨⟨rfl,S.made,S.err,.inr (.inr rfl),fun _=>⟨i0,i1,ia,il⟩,fun h=>absurd h (by decide:¬ (3:Int)=2),fun _=>⟨hm,rfl⟩⟩,fun K m h=>⟨fun h=>absurd h (by decide:¬ (3:Int)=1),fun h=>absurd h (by decide:¬ (3:Int)=2),fun _=>?_⟩⟩)⟩
   exact (h.l2 e).imp (fun h=>⟨h.1,by omega⟩) fun h=>by omega
  |false=>
   exact ⟨nx,C,W,V,.refl,rfl,.inr (.inr ⟨rfl,rfl,S.made,S.err,i0,i1,ia,il,hP _ (S.n2 e hm),hm,rfl,e,fun K m h=>by rcases h.l2 e with ⟨_,h⟩|h<;>omega⟩)⟩
 ·obtain ⟨i0,i1,ia,il⟩:=S.n1 (by omega)
  obtain ⟨hm,hw⟩:=S.n3 e
  have hdi:=dmi N.g i0 i1
  have hri:=W.rg _ _ hdi
  have I:FInv H n (keyF ks) 0 nx mk lev ⟨3,0,-1,x.i,nx 0 x.i,fun _=>(-1,-1)⟩:=
   ⟨fun l _ _=>⟨.inl rfl,.inl rfl⟩,by show 0<H;omega,fun _=>.inl rfl,fun _=>⟨il,.inl rfl⟩,fun _=>⟨hm,rfl⟩,fun h=>(by cases h),.inr (.inr (.inl rfl))⟩
  obtain ⟨C',b1,b2,b3⟩:=Ql.fstep_ok V I
  have hR:=RW.fstep V I (own:=-1)
  have es:(fstep H (keyF ks) 0 nx mk ⟨3,0,-1,x.i,nx 0 x.i,fun _=>(-1,-1)⟩).1=if nx 0 (-1)=x.i then up2 nx 0 (-1) (nx 0 x.i) else nx:=by
   unfold fstep
   rw [if_neg (show ¬ (3:Nat)=1 by decide),if_neg (show ¬ (3:Nat)=2 by decide),if_pos rfl]
   by_cases h:nx 0 (-1)=x.i
   ·rw [if_pos ⟨h,V.hd 0⟩,if_pos h];rfl
   ·rw [if_neg (fun h2=>h h2.1),if_neg h]
  rw [es] at b1 hR
  have hiff:ws.getD (ad n H 0 (-1)) 0=x.a↔nx 0 (-1)=x.i:=by
   rw [hw0,ia,lk_inj N.g hr0.1 hr0.2 (by omega) i1];simp
  unfold firC
  rw [if_neg (show ¬ x.ln=1 by omega),if_neg (show ¬ x.ln=2 by omega),hw,rC N.g hri.1 hri.2,ea]
  refine ⟨_,C',?_,b1,hR,b2 0 (by omega),.inr (.inl ⟨⟨S.t,S.made,S.err,.inl rfl,fun h=>absurd rfl h,fun h=>absurd h (by decide:¬ (1:Int)=2),fun h=>absurd h (by decide:¬ (1:Int)=3)⟩,fun K m h=>⟨fun _=>?_,fun h=>absurd h (by decide:¬ (1:Int)=2),fun h=>absurd h (by decide:¬ (1:Int)=3)⟩⟩)⟩
  ·show WI n H ks hs _ mk (casW ws _ _ _)
   unfold casW
   by_cases h:nx 0 (-1)=x.i
   ·rw [if_pos (hiff.2 h),if_pos h]
    have hW:=W.set (b:=false) N.g hd0 hri.1 hri.2
    rw [← V.hd 0,up2_self,V.hd 0] at hW
    exact hW
   ·rw [if_neg (fun g=>h (hiff.1 g)),if_neg h];exact W
  ·have h3:=h.l3 e
   by_cases hg:nx 0 (-1)=x.i
   ·rw [if_pos hg]
    have hne:nx 0 (-1)≠-1:=by omega
    have h1:hrk n ks nx=Ql.rk n (keyF ks) x.i:=by unfold hrk;rw [if_neg hne,hg]
    have h2:hrk n ks (up2 nx 0 (-1) (nx 0 x.i))+1≤hrk n ks nx:=by
     rw [h1]
     unfold hrk
     rw [up2_eq]
     by_cases z:nx 0 x.i=-1
     ·rw [if_pos z]
      have:=Ql.rk_pos (N:=n) (key:=keyF ks) i0 i1
      omega
     ·rw [if_neg z]
      rcases V0.nxt x.i (.inr il) with g|⟨_,_,g⟩
      ·exact absurd g z
      ·rcases g with g|g
       ·omega
       ·exact Ql.rk_lt i0 i1 g
    rcases h3 with ⟨_,h3⟩|h3<;>omega
   ·rw [if_neg hg]
    rcases h3 with ⟨h3,_⟩|h3
    ·exact absurd h3 hg
    ·omega
end
end Go.Sx
namespace Go.Sx
open Go.Ql (SInv FInv fstep updF XX XW lkd RW liv)
structure KR (n H:Nat) (ks hs:List Int) (mk:Nat→Int→Bool) (lev:Int→Nat) (P:Int→Prop) (x:ClC):Prop where
 t:x.t=tw n H
 made:x.made=true
 err:x.err=0
 ln:x.ln=4∨x.ln=5∨x.ln=6∨x.ln=7∨x.ln=8∨x.ln=9∨x.ln=91
 i0:0≤x.i
 i1:x.i<n
 a:x.a=lnkW x.i false
 lk:lkd n lev 0 x.i
 p:P x.i
 lv:x.ln=5∨x.ln=6→1≤x.lv∧x.lv<hiF n hs x.i∧∀ l:Nat,x.lv<l→l<hiF n hs x.i→mk l x.i=true
 up:x.ln=7∨x.ln=8→∀ l:Nat,1≤l→l<hiF n hs x.i→mk l x.i=true
 w:x.ln=6∨x.ln=8→isLk n x.w
 mn:x.ln=9∨x.ln=91→mk 0 x.i=true
 gk:x.ln=91→x.gk=keyF ks x.i
def ZL (n H:Nat) (mk:Nat→Int→Bool) (i:Int) (Z:Nat):Prop:=(mk 0 i=false∧H*Ql.Bd n+10≤Z)∨3*n+2*H+H*Ql.Bd n+16≤Z
structure KL (n H:Nat) (ws:List Int) (mk:Nat→Int→Bool) (x:ClC) (m:Nat):Prop where
 l4:x.ln=4→∃ Z,ZL n H mk x.i Z∧2*H+Z≤m
 l5:x.ln=5→∃ Z,ZL n H mk x.i Z∧2*x.lv.toNat+Z≤m
 l6:x.ln=6→∃ Z,ZL n H mk x.i Z∧((ws.getD (nxA x.t x.i x.lv).toNat 0=x.w∧2*x.lv.toNat+Z≤m+1)∨2*x.lv.toNat+Z+1≤m)
 l7:x.ln=7→ZL n H mk x.i m
 l8:x.ln=8→(ws.getD (nxA x.t x.i 0).toNat 0=x.w∧H*Ql.Bd n+9≤m)∨∃ Z,ZL n H mk x.i Z∧Z+1≤m
 l9:x.ln=9→H*Ql.Bd n+8≤m
 l91:x.ln=91→H*Ql.Bd n+7≤m
def CR (n H:Nat) (ks hs:List Int) (nx:Nat→Int→Int) (mk:Nat→Int→Bool) (lev:Int→Nat) (P:Int→Prop) (x:ClC):Prop:=SkR n H nx mk lev P x∨KR n H ks hs mk lev P x
def CLf (n H:Nat) (ks ws:List Int) (nx:Nat→Int→Int) (mk:Nat→Int→Bool) (x:ClC) (m:Nat):Prop:=SL n ks nx (2*H+H*Ql.Bd n+10) x m∧KL n H ws mk x m
def own9 (x:ClC):Prop:=x.ln=9∨x.ln=91
def COut (n H:Nat) (ks hs ws:List Int) (nx:Nat→Int→Int) (mk:Nat→Int→Bool) (lev:Int→Nat) (C:Nat→List Int) (P':Int→Prop) (x x':ClC) (ws':List Int):Prop:=
 ∃ nx' mk' C',WI n H ks hs nx' mk' ws'∧SInv H n (keyF ks) (hiF n hs) nx' mk' lev C'∧RW n (-1) nx mk lev nx' mk' lev∧
  ((x'.ln=99∧x'.err=15∧liv (mk 0) (C 0)=[]∧liv (mk' 0) (C' 0)=liv (mk 0) (C 0)∧¬ own9 x)∨
   (CR n H ks hs nx' mk' lev P' x'∧(∀ m,CLf n H ks ws nx mk x (m+1)→CLf n H ks ws' nx' mk' x' m)∧
    ((liv (mk' 0) (C' 0)=liv (mk 0) (C 0)∧(own9 x'↔own9 x)∧(own9 x→x'.i=x.i))∨(liv (mk' 0) (C' 0)=(liv (mk 0) (C 0)).filter (·≠x.i)∧mk 0 x.i=false∧lkd n lev 0 x.i∧x'.i=x.i∧¬ own9 x∧own9 x'∧x.ln=8))))
section
variable {n H:Nat} {ks hs ws:List Int} {nx nx':Nat→Int→Int} {mk mk':Nat→Int→Bool} {lev lev':Int→Nat} {C:Nat→List Int} {P P':Int→Prop} {x:ClC} {j:MJ}
theorem KR.mono (S:KR n H ks hs mk lev P x) {own:Int} (R:RW n own nx mk lev nx' mk' lev') (hP:∀ i,P i→P' i):KR n H ks hs mk' lev' P' x:=
 ⟨S.t,S.made,S.err,S.ln,S.i0,S.i1,S.a,S.lk.mono R.lv,hP _ S.p,fun h=>⟨(S.lv h).1,(S.lv h).2.1,fun l h1 h2=>R.mm _ _ ((S.lv h).2.2 l h1 h2)⟩,fun h l h1 h2=>R.mm _ _ (S.up h l h1 h2),S.w,fun h=>R.mm _ _ (S.mn h),S.gk⟩
theorem CR.mono (S:CR n H ks hs nx mk lev P x) {own:Int} (R:RW n own nx mk lev nx' mk' lev') (hP:∀ i,P i→P' i):CR n H ks hs nx' mk' lev' P' x:=S.imp (fun S=>S.mono R hP) fun S=>S.mono R hP
theorem SL.no {K m:Nat} (h:x.ln≠1∧x.ln≠2∧x.ln≠3):SL n ks nx K x m:=⟨fun e=>absurd e h.1,fun e=>absurd e h.2.1,fun e=>absurd e h.2.2⟩
theorem KL.of {m:Nat} (c:Nat) (hc:x.ln=c)
  (h4:c=4→∃ Z,ZL n H mk x.i Z∧2*H+Z≤m) (h5:c=5→∃ Z,ZL n H mk x.i Z∧2*x.lv.toNat+Z≤m)
  (h6:c=6→∃ Z,ZL n H mk x.i Z∧((ws.getD (nxA x.t x.i x.lv).toNat 0=x.w∧2*x.lv.toNat+Z≤m+1)∨2*x.lv.toNat+Z+1≤m)) (h7:c=7→ZL n H mk x.i m)
  (h8:c=8→(ws.getD (nxA x.t x.i 0).toNat 0=x.w∧H*Ql.Bd n+9≤m)∨∃ Z,ZL n H mk x.i Z∧Z+1≤m) (h9:c=9→H*Ql.Bd n+8≤m) (h91:c=91→H*Ql.Bd n+7≤m):KL n H ws mk x m:=
 ⟨fun e=>h4 (by omega),fun e=>h5 (by omega),fun e=>h6 (by omega),fun e=>h7 (by omega),fun e=>h8 (by omega),fun e=>h9 (by omega),fun e=>h91 (by omega)⟩
theorem KR.of (t:x.t=tw n H) (made:x.made=true) (err:x.err=0) (i0:0≤x.i) (i1:x.i<n) (ha:x.a=lnkW x.i false) (lk:lkd n lev 0 x.i) (p:P x.i) (c:Nat) (hc:x.ln=c) (hr:c=4∨c=5∨c=6∨c=7∨c=8∨c=9∨c=91)
  (lv:c=5∨c=6→1≤x.lv∧x.lv<hiF n hs x.i∧∀ l:Nat,x.lv<l→l<hiF n hs x.i→mk l x.i=true) (up:c=7∨c=8→∀ l:Nat,1≤l→l<hiF n hs x.i→mk l x.i=true)
  (w:c=6∨c=8→isLk n x.w) (mn:c=9∨c=91→mk 0 x.i=true) (gk:c=91→x.gk=keyF ks x.i):KR n H ks hs mk lev P x:=
 ⟨t,made,err,by omega,i0,i1,ha,lk,p,fun h=>lv (by omega),fun h=>up (by omega),fun h=>w (by omega),fun h=>mn (by omega),fun h=>gk (by omega)⟩
theorem cst_ge4 (h:x.ln=4∨x.ln=5∨x.ln=6∨x.ln=7∨x.ln=8∨x.ln=9∨x.ln=91):¬ (x.ln=1∨x.ln=2∨x.ln=3):=by omega
theorem bel_ok (_g:Geo n H) (_hh:hiF n hs x.i≤H) (t:x.t=tw n H) (made:x.made=true) (err:x.err=0) (i0:0≤x.i) (i1:x.i<n) (ha:x.a=lnkW x.i false) (lk:lkd n lev 0 x.i) (p:P x.i) {l:Nat} (hl:1≤l) (hl2:l≤hiF n hs x.i) (hm:∀ q:Nat,l≤q→q<hiF n hs x.i→mk q x.i=true):
  KR n H ks hs mk lev P (belL x l)∧(∀ m Z,ZL n H mk x.i Z→2*(l - 1)+Z≤m→CLf n H ks ws nx mk (belL x l) m)∧¬ own9 (belL x l):=by
 by_cases e:(l:Int) - 1<1
 ·have e1:(belL x l).ln=((7:Nat):Int):=if_pos e
  refine ⟨KR.of t made err i0 i1 ha lk p 7 e1 (by omega) (by omega) (fun _ q h1 h2=>hm q (by omega) h2) (by omega) (by omega) (by omega),fun m Z hZ hm=>⟨SL.no (by omega),KL.of 7 e1 (by omega) (by omega) (by omega) (fun _=>?_) (by omega) (by omega) (by omega)⟩,by unfold own9;omega⟩
  exact hZ.imp (fun h=>⟨h.1,by omega⟩) fun h=>by omega
 ·have e1:(belL x l).ln=((5:Nat):Int):=if_neg e
  have e2:(belL x l).lv=(l:Int) - 1:=rfl
  refine ⟨KR.of t made err i0 i1 ha lk p 5 e1 (by omega) (fun _=>⟨by omega,by show (l:Int) - 1<hiF n hs x.i;omega,fun q h1 h2=>hm q (by omega) h2⟩) (by omega) (by omega) (by omega) (by omega),fun m Z hZ hm=>⟨SL.no (by omega),KL.of 5 e1 (by omega) (fun _=>⟨Z,hZ,?_⟩) (by omega) (by omega) (by omega) (by omega) (by omega)⟩,by unfold own9;omega⟩
  rw [e2];omega
theorem KR.l4 (S:KR n H ks hs mk lev P x) (N:Nums n H ks hs) (W:WI n H ks hs nx mk ws) (V:SInv H n (keyF ks) (hiF n hs) nx mk lev C) (hP:∀ i,P i→P' i) (hx:x.ln=4):COut n H ks hs ws nx mk lev C P' x (cstC x j ws).x (cstC x j ws).ws:=by
 have hh:=N.hi S.i0 S.i1
 have eh:x.t.height=(H:Int):=by rw [S.t];rfl
 have ep:(ptA x.t x.i 2).toNat=pd n H x.i 2:=by rw [S.t];rfl
 unfold cstC
 rw [if_neg (cst_ge4 S.ln),if_pos hx,ep,W.hig _ S.i0 S.i1,eh]
 have el:(if hs.getD x.i.toNat 0<(H:Int) then hs.getD x.i.toNat 0 else (H:Int))=((hiF n hs x.i:Nat):Int):=by
  split<;>omega
 rw [el]
 obtain ⟨b1,b2,b3⟩:=bel_ok (ks:=ks) (ws:=ws) (nx:=nx) (mk:=mk) (P:=P') (x:={x with by':=x.a}) N.g hh.2.2 S.t S.made S.err S.i0 S.i1 S.a S.lk (hP _ S.p) (l:=hiF n hs x.i) hh.2.1 (Nat.le_refl _) (fun q h1 h2=>absurd (show q<hiF n hs x.i from h2) (by omega))
 refine ⟨nx,mk,C,W,V,.refl,.inr ⟨.inr b1,fun m hm=>?_,.inl ⟨rfl,⟨fun h=>absurd h b3,fun h=>by unfold own9 at h;omega⟩,fun _=>rfl⟩⟩⟩
 obtain ⟨Z,h1,h2⟩:=hm.2.l4 hx
 exact b2 m Z h1 (by have:=hh.2.2;omega)
theorem KR.l5 (S:KR n H ks hs mk lev P x) (N:Nums n H ks hs) (W:WI n H ks hs nx mk ws) (V:SInv H n (keyF ks) (hiF n hs) nx mk lev C) (hP:∀ i,P i→P' i) (hx:x.ln=5):COut n H ks hs ws nx mk lev C P' x (cstC x j ws).x (cstC x j ws).ws:=by
 have hh:=N.hi S.i0 S.i1
 obtain ⟨u1,u2,u3⟩:=S.lv (.inl hx)
 obtain ⟨l,hl⟩:∃ l:Nat,x.lv=l:=⟨x.lv.toNat,by omega⟩
 have hd:dm n H l x.i:=⟨.inr ⟨S.i0,S.i1⟩,by omega⟩
 have hr:=W.rg _ _ hd
 have ep:(ptA x.t x.i (4+x.lv)).toNat=ad n H l x.i:=by rw [S.t,hl,pt4 N.g S.i0];rfl
 unfold cstC
 rw [if_neg (cst_ge4 S.ln),if_neg (show ¬ x.ln=4 by omega),if_pos hx,ep,W.lk _ _ hd,rM N.g hr.1 hr.2]
 cases hm:mk l x.i with
 |true=>
  rw [if_pos rfl,hl]
  obtain ⟨b1,b2,b3⟩:=bel_ok (ks:=ks) (ws:=ws) (nx:=nx) (mk:=mk) (P:=P') (x:={x with by':=x.a,w:=lnkW (nx l x.i) true}) N.g hh.2.2 S.t S.made S.err S.i0 S.i1 S.a S.lk (hP _ S.p) (l:=l) (by omega) (by show l≤hiF n hs x.i;omega) (fun q h1 h2=>by
   by_cases e:q=l
   ·rw [e];exact hm
   ·exact u3 q (by omega) h2)
  refine ⟨nx,mk,C,W,V,.refl,.inr ⟨.inr b1,fun m hm=>?_,.inl ⟨rfl,⟨fun h=>absurd h b3,fun h=>by unfold own9 at h;omega⟩,fun _=>rfl⟩⟩⟩
  obtain ⟨Z,h1,h2⟩:=hm.2.l5 hx
  exact b2 m Z h1 (by omega)
 |false=>
  rw [if_neg (by decide)]
  have hw:ws.getD (nxA x.t x.i x.lv).toNat 0=lnkW (nx l x.i) false:=by
   have:(nxA x.t x.i x.lv).toNat=ad n H l x.i:=by rw [S.t,hl];rfl
   rw [this,W.lk _ _ hd,hm]
  refine ⟨nx,mk,C,W,V,.refl,.inr ⟨.inr (KR.of S.t S.made S.err S.i0 S.i1 S.a S.lk (hP _ S.p) 6 rfl (by omega) (fun _=>⟨u1,u2,u3⟩) (by omega) (fun _=>⟨_,rfl,hr.1,hr.2⟩) (by omega) (by omega)),fun m hm=>⟨SL.no (show (6:Int)≠1∧(6:Int)≠2∧(6:Int)≠3 by decide),KL.of 6 rfl (by omega) (by omega) (fun _=>?_) (by omega) (by omega) (by omega) (by omega)⟩,
   .inl ⟨rfl,⟨fun h=>absurd h (show ¬ ((6:Int)=9∨(6:Int)=91) by decide),fun h=>by unfold own9 at h;omega⟩,fun _=>rfl⟩⟩⟩
  obtain ⟨Z,h1,h2⟩:=hm.2.l5 hx
  exact ⟨Z,h1,.inl ⟨hw,h2⟩⟩
theorem KR.l6 (S:KR n H ks hs mk lev P x) (N:Nums n H ks hs) (W:WI n H ks hs nx mk ws) (V:SInv H n (keyF ks) (hiF n hs) nx mk lev C) (hP:∀ i,P i→P' i) (hx:x.ln=6):COut n H ks hs ws nx mk lev C P' x (cstC x j ws).x (cstC x j ws).ws:=by
 have hh:=N.hi S.i0 S.i1
 obtain ⟨u1,u2,u3⟩:=S.lv (.inr hx)
 obtain ⟨l,hl⟩:∃ l:Nat,x.lv=l:=⟨x.lv.toNat,by omega⟩
 have hd:dm n H l x.i:=⟨.inr ⟨S.i0,S.i1⟩,by omega⟩
 have hr:=W.rg _ _ hd
 obtain ⟨v,w1,w2,w3⟩:=S.w (.inl hx)
 have ep:(nxA x.t x.i x.lv).toNat=ad n H l x.i:=by rw [S.t,hl];rfl
 unfold cstC
 rw [if_neg (cst_ge4 S.ln),if_neg (show ¬ x.ln=4 by omega),if_neg (show ¬ x.ln=5 by omega),if_pos hx]
 by_cases e:ws.getD (nxA x.t x.i x.lv).toNat 0=x.w
 ·rw [if_pos e,hl]
  have e':=e
  rw [ep,W.lk _ _ hd,w1] at e'
  obtain ⟨e1,e2⟩:=(lk_inj N.g hr.1 hr.2 w2 w3).1 e'
  have hW:=W.set (b:=true) N.g hd hr.1 hr.2
  rw [up2_self] at hW
  have ew:casW ws (nxA x.t x.i x.lv).toNat x.w (rawOn x.w)=ws.set (ad n H l x.i) (lnkW (nx l x.i) true):=by
   unfold casW
   rw [if_pos e,ep,w1,rOn N.g w2 w3,e1]
  have e0:∀ i,up2 mk l x.i true 0 i=mk 0 i:=fun i=>up2_ne fun h=>by omega
  have e0':up2 mk l x.i true 0=mk 0:=funext e0
  have hmn:∀ q:Nat,l≤q→q<hiF n hs x.i→up2 mk l x.i true q x.i=true:=fun q h1 h2=>by
   by_cases e:q=l
   ·subst e;exact up2_eq
   ·rw [up2_ne (fun h=>e h.1)];exact u3 q (by omega) h2
  obtain ⟨b1,b2,b3⟩:=bel_ok (ks:=ks) (ws:=casW ws (nxA x.t x.i x.lv).toNat x.w (rawOn x.w)) (nx:=nx) (mk:=up2 mk l x.i true) (P:=P') (x:={x with by':=x.a}) N.g hh.2.2 S.t S.made S.err S.i0 S.i1 S.a S.lk (hP _ S.p) (l:=l) (by omega) (by show l≤hiF n hs x.i;omega) hmn
  have hR:RW n (-1) nx mk lev nx (up2 mk l x.i true) lev:=by
   refine ⟨fun _=>Nat.le_refl _,fun _ _=>rfl,fun q i h=>?_,fun _ _ _ _=>rfl,fun _ _ _ _ _=>rfl,fun k hk q=>up2_ne fun h=>?_⟩
   ·by_cases g:q=l∧i=x.i
    ·obtain ⟨rfl,rfl⟩:=g;exact up2_eq
    ·rw [up2_ne g];exact h
   ·have:=S.lk.2.2
    rw [← h.2] at this
    omega
  refine ⟨nx,up2 mk l x.i true,C,by rw [← hl,ew];exact hW,V.mark S.i0 (fun h=>u3 (l+1) (by omega) h),hR,.inr ⟨.inr b1,fun m hm=>?_,.inl ⟨by rw [e0'],⟨fun h=>absurd h b3,fun h=>by unfold own9 at h;omega⟩,fun _=>rfl⟩⟩⟩
  obtain ⟨Z,h1,h2⟩:=hm.2.l6 hx
  rw [hl] at b2
  refine b2 m Z (h1.imp (fun h=>⟨(e0 x.i).trans h.1,h.2⟩) id) ?_
  rcases h2 with ⟨_,h2⟩|h2<;>omega
 ·rw [if_neg e]
  have ew:casW ws (nxA x.t x.i x.lv).toNat x.w (rawOn x.w)=ws:=if_neg e
  show COut n H ks hs ws nx mk lev C P' x _ (casW ws _ _ _)
  rw [ew]
  refine ⟨nx,mk,C,W,V,.refl,.inr ⟨.inr (KR.of S.t S.made S.err S.i0 S.i1 S.a S.lk (hP _ S.p) 5 rfl (by omega) (fun _=>⟨u1,u2,u3⟩) (by omega) (by omega) (by omega) (by omega)),fun m hm=>⟨SL.no (show (5:Int)≠1∧(5:Int)≠2∧(5:Int)≠3 by decide),KL.of 5 rfl (by omega) (fun _=>?_) (by omega) (by omega) (by omega) (by omega) (by omega)⟩,
   .inl ⟨rfl,⟨fun h=>absurd h (show ¬ ((5:Int)=9∨(5:Int)=91) by decide),fun h=>by unfold own9 at h;omega⟩,fun _=>rfl⟩⟩⟩
  obtain ⟨Z,h1,h2⟩:=hm.2.l6 hx
  refine ⟨Z,h1,?_⟩
  rcases h2 with ⟨h2,_⟩|h2
  ·exact absurd h2 e
  ·show 2*x.lv.toNat+Z≤m;omega
theorem KR.l7 (S:KR n H ks hs mk lev P x) (N:Nums n H ks hs) (W:WI n H ks hs nx mk ws) (V:SInv H n (keyF ks) (hiF n hs) nx mk lev C) (hP:∀ i,P i→P' i) (hx:x.ln=7):COut n H ks hs ws nx mk lev C P' x (cstC x j ws).x (cstC x j ws).ws:=by
 have hd:=dmi N.g S.i0 S.i1
 have hr:=W.rg _ _ hd
 unfold cstC
 rw [if_neg (cst_ge4 S.ln),if_neg (show ¬ x.ln=4 by omega),if_neg (show ¬ x.ln=5 by omega),if_neg (show ¬ x.ln=6 by omega),if_pos hx,S.t,pt40 N.g S.i0,W.lk _ _ hd,rM N.g hr.1 hr.2]
 cases hm:mk 0 x.i with
 |true=>
  refine ⟨nx,mk,C,W,V,.refl,.inr ⟨.inl ⟨rfl,S.made,S.err,.inr (.inr rfl),fun _=>⟨S.i0,S.i1,S.a,S.lk⟩,fun h=>absurd h (by decide:¬ (3:Int)=2),fun _=>⟨hm,rfl⟩⟩,fun m h=>⟨⟨fun h=>absurd h (by decide:¬ (3:Int)=1),fun h=>absurd h (by decide:¬ (3:Int)=2),fun _=>.inr ?_⟩,KL.of 3 rfl (by omega) (by omega) (by omega) (by omega) (by omega) (by omega) (by omega)⟩,
   .inl ⟨rfl,⟨fun h=>absurd h (show ¬ ((3:Int)=9∨(3:Int)=91) by decide),fun h=>by unfold own9 at h;omega⟩,fun _=>rfl⟩⟩⟩
  have h7:=h.2.l7 hx
  have hq:=hrk_le (n:=n) (ks:=ks) (nx:=nx)
  rcases h7 with ⟨h7,_⟩|h7
  ·rw [hm] at h7;cases h7
  ·omega
 |false=>
  have hw:ws.getD (nxA (tw n H) x.i 0).toNat 0=lnkW (nx 0 x.i) false:=by
   have:(nxA (tw n H) x.i 0).toNat=ad n H 0 x.i:=rfl
   rw [this,W.lk _ _ hd,hm]
  refine ⟨nx,mk,C,W,V,.refl,.inr ⟨.inr (KR.of rfl S.made S.err S.i0 S.i1 S.a S.lk (hP _ S.p) 8 rfl (by omega) (by omega) (fun _=>S.up (.inl hx)) (fun _=>⟨_,rfl,hr.1,hr.2⟩) (by omega) (by omega)),fun m h=>⟨SL.no (show (8:Int)≠1∧(8:Int)≠2∧(8:Int)≠3 by decide),KL.of 8 rfl (by omega) (by omega) (by omega) (by omega) (fun _=>.inl ⟨hw,?_⟩) (by omega) (by omega)⟩,
   .inl ⟨rfl,⟨fun h=>absurd h (show ¬ ((8:Int)=9∨(8:Int)=91) by decide),fun h=>by unfold own9 at h;omega⟩,fun _=>rfl⟩⟩⟩
  rcases h.2.l7 hx with ⟨_,h⟩|h<;>omega
theorem KR.l8 (S:KR n H ks hs mk lev P x) (N:Nums n H ks hs) (W:WI n H ks hs nx mk ws) (V:SInv H n (keyF ks) (hiF n hs) nx mk lev C) (hP:∀ i,P i→P' i) (hx:x.ln=8):COut n H ks hs ws nx mk lev C P' x (cstC x j ws).x (cstC x j ws).ws:=by
 obtain ⟨g1,g2,g3,g4⟩:=id N.g
 have hd:=dmi N.g S.i0 S.i1
 have hr:=W.rg _ _ hd
 have hup:=S.up (.inr hx)
 obtain ⟨v,w1,w2,w3⟩:=S.w (.inr hx)
 have ep:(nxA x.t x.i 0).toNat=ad n H 0 x.i:=by rw [S.t];rfl
 unfold cstC
 rw [if_neg (cst_ge4 S.ln),if_neg (show ¬ x.ln=4 by omega),if_neg (show ¬ x.ln=5 by omega),if_neg (show ¬ x.ln=6 by omega),if_neg (show ¬ x.ln=7 by omega),if_pos hx]
 by_cases e:ws.getD (nxA x.t x.i 0).toNat 0=x.w
 ·rw [if_pos e]
  have e':=e
  rw [ep,W.lk _ _ hd,w1] at e'
  obtain ⟨e1,e2⟩:=(lk_inj N.g hr.1 hr.2 w2 w3).1 e'
  have hW:=W.set (b:=true) N.g hd hr.1 hr.2
  rw [up2_self] at hW
  have ew:casW ws (nxA x.t x.i 0).toNat x.w (rawOn x.w)=ws.set (ad n H 0 x.i) (lnkW (nx 0 x.i) true):=by
   unfold casW
   rw [if_pos e,ep,w1,rOn N.g w2 w3,e1]
  have hR:RW n (-1) nx mk lev nx (up2 mk 0 x.i true) lev:=by
   refine ⟨fun _=>Nat.le_refl _,fun _ _=>rfl,fun q i h=>?_,fun _ _ _ _=>rfl,fun _ _ _ _ _=>rfl,fun k hk q=>up2_ne fun h=>?_⟩
   ·by_cases g:q=0∧i=x.i
    ·obtain ⟨rfl,rfl⟩:=g;exact up2_eq
    ·rw [up2_ne g];exact h
   ·have:=S.lk.2.2
    rw [← h.2] at this
    omega
  have hlv:liv (up2 mk 0 x.i true 0) (C 0)=(liv (mk 0) (C 0)).filter (·≠x.i):=by
   have e0:up2 mk 0 x.i true 0=updF (mk 0) x.i true:=by unfold up2;rw [if_pos rfl]
   rw [e0];exact ((V.lv 0 (by omega)).mark x.i).2
  refine ⟨nx,up2 mk 0 x.i true,C,by rw [ew];exact hW,V.mark S.i0 (fun h=>hup 1 (by omega) h),hR,.inr ⟨.inr (KR.of S.t S.made S.err S.i0 S.i1 S.a S.lk (hP _ S.p) 9 rfl (by omega) (by omega) (by omega) (by omega) (fun _=>up2_eq) (by omega)),fun m h=>⟨SL.no (show (9:Int)≠1∧(9:Int)≠2∧(9:Int)≠3 by decide),KL.of 9 rfl (by omega) (by omega) (by omega) (by omega) (by omega) (fun _=>?_) (by omega)⟩,
   .inr ⟨hlv,e2,S.lk,rfl,fun h=>by unfold own9 at h;omega,.inl rfl,hx⟩⟩⟩
  rcases h.2.l8 hx with ⟨_,h⟩|⟨Z,h1,h2⟩
  ·omega
  ·rcases h1 with ⟨_,h1⟩|h1<;>omega
 ·rw [if_neg e]
  have ew:casW ws (nxA x.t x.i 0).toNat x.w (rawOn x.w)=ws:=if_neg e
  show COut n H ks hs ws nx mk lev C P' x _ (casW ws _ _ _)
  rw [ew]
  refine ⟨nx,mk,C,W,V,.refl,.inr ⟨.inr (KR.of S.t S.made S.err S.i0 S.i1 S.a S.lk (hP _ S.p) 7 rfl (by omega) (by omega) (fun _=>hup) (by omega) (by omega) (by omega)),fun m h=>⟨SL.no (show (7:Int)≠1∧(7:Int)≠2∧(7:Int)≠3 by decide),KL.of 7 rfl (by omega) (by omega) (by omega) (fun _=>?_) (by omega) (by omega) (by omega)⟩,
   .inl ⟨rfl,⟨fun h=>absurd h (show ¬ ((7:Int)=9∨(7:Int)=91) by decide),fun h=>by unfold own9 at h;omega⟩,fun _=>rfl⟩⟩⟩
  rcases h.2.l8 hx with ⟨h,_⟩|⟨Z,h1,h2⟩
  ·exact absurd h e
  ·exact h1.imp (fun h=>⟨h.1,by omega⟩) fun h=>by omega
theorem KR.l9 (S:KR n H ks hs mk lev P x) (_N:Nums n H ks hs) (W:WI n H ks hs nx mk ws) (V:SInv H n (keyF ks) (hiF n hs) nx mk lev C) (hP:∀ i,P i→P' i) (hx:x.ln=9):COut n H ks hs ws nx mk lev C P' x (cstC x j ws).x (cstC x j ws).ws:=by
 have ep:(ptA x.t x.i 0).toNat=pd n H x.i 0:=by rw [S.t];rfl
 unfold cstC
 rw [if_neg (cst_ge4 S.ln),if_neg (show ¬ x.ln=4 by omega),if_neg (show ¬ x.ln=5 by omega),if_neg (show ¬ x.ln=6 by omega),if_neg (show ¬ x.ln=7 by omega),if_neg (show ¬ x.ln=8 by omega),if_pos hx,ep,W.key _ S.i0 S.i1]
 exact ⟨nx,mk,C,W,V,.refl,.inr ⟨.inr (KR.of S.t S.made S.err S.i0 S.i1 S.a S.lk (hP _ S.p) 91 rfl (by omega) (by omega) (by omega) (by omega) (fun _=>S.mn (.inl hx)) (fun _=>rfl)),fun m h=>⟨SL.no (show (91:Int)≠1∧(91:Int)≠2∧(91:Int)≠3 by decide),KL.of 91 rfl (by omega) (by omega) (by omega) (by omega) (by omega) (by omega) (fun _=>by have:=h.2.l9 hx;omega)⟩,
   .inl ⟨rfl,⟨fun _=>.inl hx,fun _=>.inr rfl⟩,fun _=>rfl⟩⟩⟩
end
end Go.Sx
namespace Go.Sx
open Go.Ql (SInv FInv fstep updF XX XW lkd RW liv)
section
variable {n H:Nat} {ks hs ws:List Int} {nx nx':Nat→Int→Int} {mk mk':Nat→Int→Bool} {lev lev':Int→Nat} {C:Nat→List Int} {P P' P2 P2':Int→Prop} {x:ClC} {j:MJ} {f:FdC} {rs:List (List Int)}
theorem CR.step (S:CR n H ks hs nx mk lev P x) (N:Nums n H ks hs) (W:WI n H ks hs nx mk ws) (V:SInv H n (keyF ks) (hiF n hs) nx mk lev C) (hP:∀ i,P i→P' i) (hF:∀ i,(liv (mk 0) (C 0)).head?=some i→P' i) (h91:x.ln≠91):
  COut n H ks hs ws nx mk lev C P' x (cstC x j ws).x (cstC x j ws).ws:=by
 rcases S with S|S
 ·have ec:cstC x j ws=firC x j ws:=by unfold cstC;rw [if_pos S.ln]
  have hno:¬ own9 x:=fun h=>by have:=S.ln;unfold own9 at h;omega
  rw [ec]
  obtain ⟨nx',C',a1,a2,a3,a4,h|⟨h1,h2⟩|⟨c1,c2,c3,c4,c5,c6,c7,c8,c9,c10,c11,c12,c13⟩⟩:=S.step (j:=j) N W V hP hF
  ·exact ⟨nx',mk,C',a1,a2,a3,.inl ⟨h.1,h.2.1,h.2.2,a4,hno⟩⟩
  ·have hl:=h1.ln
   exact ⟨nx',mk,C',a1,a2,a3,.inr ⟨.inl h1,fun m hm=>⟨h2 _ _ hm.1,KL.of (firC x j ws).x.ln.toNat (by omega) (by omega) (by omega) (by omega) (by omega) (by omega) (by omega) (by omega)⟩,.inl ⟨a4,⟨fun h=>by unfold own9 at h;omega,fun h=>absurd h hno⟩,fun h=>absurd h hno⟩⟩⟩
  ·exact ⟨nx',mk,C',a1,a2,a3,.inr ⟨.inr (KR.of c2 c3 c4 c5 c6 c7 c8 c9 4 c1 (by omega) (by omega) (by omega) (by omega) (by omega) (by omega)),fun m hm=>⟨SL.no (by omega),KL.of 4 c1 (fun _=>⟨H*Ql.Bd n+10,.inl ⟨c10,Nat.le_refl _⟩,by have:=c13 _ _ hm.1;omega⟩) (by omega) (by omega) (by omega) (by omega) (by omega) (by omega)⟩,
    .inl ⟨a4,⟨fun h=>by unfold own9 at h;omega,fun h=>absurd h hno⟩,fun h=>absurd h hno⟩⟩⟩
 ·have hln:=S.ln
  have hc:x.ln=4∨x.ln=5∨x.ln=6∨x.ln=7∨x.ln=8∨x.ln=9:=by omega
  rcases hc with h|h|h|h|h|h
  ·exact S.l4 N W V hP h
  ·exact S.l5 N W V hP h
  ·exact S.l6 N W V hP h
  ·exact S.l7 N W V hP h
  ·exact S.l8 N W V hP h
  ·exact S.l9 N W V hP h
theorem CR.ln (S:CR n H ks hs nx mk lev P x):x.ln=1∨x.ln=2∨x.ln=3∨x.ln=4∨x.ln=5∨x.ln=6∨x.ln=7∨x.ln=8∨x.ln=9∨x.ln=91:=by
 rcases S with S|S
 ·have:=S.ln;omega
 ·have:=S.ln;omega
theorem CR.made (S:CR n H ks hs nx mk lev P x):x.made=true:=S.elim (·.made) (·.made)
theorem CR.err (S:CR n H ks hs nx mk lev P x):x.err=0:=S.elim (·.err) (·.err)
theorem CR.pre (S:CR n H ks hs nx mk lev P x) (N:Nums n H ks hs) (W:WI n H ks hs nx mk ws):cPre x (szW n H) ws:=by
 have hln:=S.ln
 rcases S with S|S
 ·refine ⟨by rw [S.t];exact tw_fit N.g W.len,S.made,?_⟩
  rcases S.ln with h|h|h
  ·exact .inl h
  ·obtain ⟨i0,i1,_⟩:=S.n1 (by omega)
   exact .inr (.inr ⟨i0,by rw [S.t];exact i1,.inl h⟩)
  ·exact .inr (.inl h)
 ·have hh:=N.hi S.i0 S.i1
  refine ⟨by rw [S.t];exact tw_fit N.g W.len,S.made,.inr (.inr ⟨S.i0,by rw [S.t];exact S.i1,?_⟩)⟩
  have eh:x.t.height=(H:Int):=by rw [S.t];rfl
  have ep:(ptA x.t x.i 2).toNat=pd n H x.i 2:=by rw [S.t];rfl
  rcases S.ln with h|h|h|h|h|h|h
  ·exact .inr (.inl ⟨h,by rw [ep,W.hig _ S.i0 S.i1];omega⟩)
  ·exact .inr (.inr (.inl ⟨.inl h,(S.lv (.inl h)).1,by have:=(S.lv (.inl h)).2.1;omega⟩))
  ·exact .inr (.inr (.inl ⟨.inr h,(S.lv (.inr h)).1,by have:=(S.lv (.inr h)).2.1;omega⟩))
  ·exact .inr (.inr (.inr (.inl h)))
  ·exact .inr (.inr (.inr (.inr (.inl h))))
  ·exact .inr (.inr (.inr (.inr (.inr (.inl h)))))
  ·exact .inr (.inr (.inr (.inr (.inr (.inr h)))))
theorem low_eq {w:Int} (h0:0≤w) (h1:w<65536):low16 w=w:=by
 unfold low16
 have e2:=and_mask 16 w h0 (by omega) (by omega)
 have e3:(65535:Int)=2 ^ 16 - 1:=by decide
 rw [e3,e2,XY (by omega) (by omega),XM (by omega) (by omega)]
 omega
structure DB (n H:Nat) (ks:List Int) (mk:Nat→Int→Bool) (P:Int→Prop) (x:ClC):Prop where
 t:x.t=tw n H
 made:x.made=true
 err:x.err=0
 i0:0≤x.i
 i1:x.i<n
 p:P x.i
 mn:mk 0 x.i=true
 gk:x.gk=keyF ks x.i
 ga:x.ga=x.i
theorem DB.mono (S:DB n H ks mk P x) (hm:∀ i,mk 0 i=true→mk' 0 i=true) (hP:∀ i,P i→P' i):DB n H ks mk' P' x:=⟨S.t,S.made,S.err,S.i0,S.i1,hP _ S.p,hm _ S.mn,S.gk,S.ga⟩
theorem DB.upd {y:ClC} (S:DB n H ks mk P x) (h1:y.t=x.t) (h2:y.made=x.made) (h3:y.err=x.err) (h4:y.i=x.i) (h5:y.gk=x.gk) (h6:y.ga=x.ga):DB n H ks mk P y:=
 ⟨h1.trans S.t,h2.trans S.made,h3.trans S.err,by rw [h4];exact S.i0,by rw [h4];exact S.i1,by rw [h4];exact S.p,by rw [h4];exact S.mn,by rw [h5,h4];exact S.gk,by rw [h6,h4];exact S.ga⟩
structure DR (n H:Nat) (ks:List Int) (nx:Nat→Int→Int) (mk:Nat→Int→Bool) (lev:Int→Nat) (P:Int→Prop) (x:ClC) (f:FdC) (rs:List (List Int)) (fd:Ql.Fd):Prop where
 B:DB n H ks mk P x
 ft:f.t=tw n H
 ln:x.ln=10∨x.ln=11
 F:x.ln=10→FR n H (keyF ks x.i) f rs fd∧FInv H n (keyF ks) (keyF ks x.i) nx mk lev fd∧fd.ln≠9
structure DL (n H:Nat) (ks:List Int) (nx:Nat→Int→Int) (mk:Nat→Int→Bool) (x:ClC) (fd:Ql.Fd) (m:Nat):Prop where
 l10:x.ln=10→Ql.FL H n (keyF ks) nx mk fd 6 (H*Ql.Bd n+6) m
 l11:x.ln=11→6≤m
theorem DR.mono {fd:Ql.Fd} (S:DR n H ks nx mk lev P x f rs fd) {own:Int} (R:RW n own nx mk lev nx' mk' lev') (hP:∀ i,P i→P' i):DR n H ks nx' mk' lev' P' x f rs fd:=
 ⟨S.B.mono (R.mm 0) hP,S.ft,S.ln,fun h=>⟨(S.F h).1,R.fi (S.F h).2.1,(S.F h).2.2⟩⟩
theorem cst_91' (hx:x.ln=91):cstC x j ws=⟨{x with by':=x.a,ga:=low16 (ws.getD (ptA x.t x.i 1).toNat 0),ln:=10},jLd ws (ptA x.t x.i 1) j,ws⟩:=by
 unfold cstC
 rw [if_neg (show ¬ (x.ln=1∨x.ln=2∨x.ln=3) by omega),if_neg (show ¬ x.ln=4 by omega),if_neg (show ¬ x.ln=5 by omega),if_neg (show ¬ x.ln=6 by omega),if_neg (show ¬ x.ln=7 by omega),if_neg (show ¬ x.ln=8 by omega),if_neg (show ¬ x.ln=9 by omega)]
theorem CR.l91 (S:CR n H ks hs nx mk lev P x) (N:Nums n H ks hs) (W:WI n H ks hs nx mk ws) (V:SInv H n (keyF ks) (hiF n hs) nx mk lev C) (hP:∀ i,P i→P' i) (hx:x.ln=91):
  (cstC x j ws).ws=ws∧∃ fd,DR n H ks nx mk lev P' (cstC x j ws).x (newF x.t x.gk) (newR x.t) fd∧(cstC x j ws).x.i=x.i∧∀ m,CLf n H ks ws nx mk x (m+1)→DL n H ks nx mk (cstC x j ws).x fd m:=by
 obtain ⟨g1,g2,g3,g4⟩:=id N.g
 have S:KR n H ks hs mk lev P x:=S.resolve_left fun S=>by have:=S.ln;omega
 have ep:(ptA x.t x.i 1).toNat=pd n H x.i 1:=by rw [S.t];rfl
 have i0:=S.i0
 have i1:=S.i1
 rw [cst_91' hx,ep,W.job _ S.i0 S.i1,low_eq i0 (by omega)]
 refine ⟨rfl,Ql.Fd.anew H ⟨1,0,0,0,0,fun _=>(0,0)⟩,⟨⟨S.t,S.made,S.err,S.i0,S.i1,hP _ S.p,S.mn (.inr hx),S.gk hx,rfl⟩,S.t,.inl rfl,fun _=>?_⟩,rfl,fun m hm=>⟨fun _=>Ql.FL_new V (by omega) (by have:=hm.2.l91 hx;omega),fun h=>absurd h (by decide:¬ (10:Int)=11)⟩⟩
 rw [S.t,S.gk hx]
 exact ⟨FR.new N.g,Ql.FInv.anew (by omega),fun h=>by cases h⟩
theorem DR.pre {fd:Ql.Fd} (S:DR n H ks nx mk lev P x f rs fd) (N:Nums n H ks hs) (W:WI n H ks hs nx mk ws):dPre x f rs (szW n H) ws:=by
 refine ⟨by rw [S.B.t];exact tw_fit N.g W.len,S.B.made,by rw [S.ft,S.B.t],S.B.i0,by rw [S.B.t];exact S.B.i1,S.ln.imp (fun h=>?_) id⟩
 obtain ⟨F,I,h9⟩:=S.F h
 exact ⟨h,F.pre N.g W.len I,fun e=>h9 (by have:=F.ln;omega)⟩
theorem DR.l10 {fd:Ql.Fd} (S:DR n H ks nx mk lev P x f rs fd) (N:Nums n H ks hs) (W:WI n H ks hs nx mk ws) (V:SInv H n (keyF ks) (hiF n hs) nx mk lev C) (hP:∀ i,P i→P' i) (hx:x.ln=10):
  ∃ nx' C' fd',WI n H ks hs nx' mk (dstC x f rs j ws).2.ws∧SInv H n (keyF ks) (hiF n hs) nx' mk lev C'∧RW n (-1) nx mk lev nx' mk lev∧liv (mk 0) (C' 0)=liv (mk 0) (C 0)∧DR n H ks nx' mk lev P' (dstC x f rs j ws).1 (dstC x f rs j ws).2.x (dstC x f rs j ws).2.rs fd'∧(dstC x f rs j ws).1.i=x.i∧
   ∀ m,DL n H ks nx mk x fd (m+1)→DL n H ks nx' mk (dstC x f rs j ws).1 fd' m:=by
 obtain ⟨g1,g2,g3,g4⟩:=id N.g
 obtain ⟨F,I,h9⟩:=S.F hx
 obtain ⟨a1,a2⟩:=F.step (j:=j) N.g W V I h9
 obtain ⟨C',b1,b2,b3⟩:=Ql.fstep_ok V I
 have eln:=a1.ln
 unfold dstC
 rw [if_pos hx]
 have B':DB n H ks mk P' ({x with by':=(fstC f rs j ws).x.by',ln:=if (fstC f rs j ws).x.ln=9 then 11 else 10}:ClC):=(S.B.mono (fun _ h=>h) hP).upd rfl rfl rfl rfl rfl rfl
 refine ⟨_,C',(fstep H (keyF ks) (keyF ks x.i) nx mk fd).2,a2,b1,.fstep V I,b2 0 (by omega),⟨B',a1.t,?_,fun h=>⟨a1,b3,fun e=>?_⟩⟩,rfl,fun m hm=>?_⟩
 ·show (if _ then (11:Int) else 10)=10∨(if _ then (11:Int) else 10)=11
  split
  ·exact .inr rfl
  ·exact .inl rfl
 ·have h:(if (fstC f rs j ws).x.ln=9 then (11:Int) else 10)=10:=h
  rw [if_pos (by omega)] at h
  omega
 ·have h1:=Ql.FL_step V I h9 (by omega) (hm.l10 hx)
  refine ⟨fun _=>h1,fun _=>?_⟩
  rcases Ql.FL_end h1 with h|h<;>omega
theorem dst_11' (hx:x.ln=11):dstC x f rs j ws=({x with by':=x.a,ln:=if addW ws (ptA x.t x.i 3).toNat 18446744073709551615=0 then 12 else 99},⟨f,rs,jAdd ws (ptA x.t x.i 3) 18446744073709551615 j,ws.set (ptA x.t x.i 3).toNat (addW ws (ptA x.t x.i 3).toNat 18446744073709551615)⟩):=by
 unfold dstC
 rw [if_neg (show ¬ x.ln=10 by omega)]
structure QB (n H:Nat) (ks:List Int) (P:Int→Prop) (x:ClC):Prop where
 t:x.t=tw n H
 made:x.made=true
 err:x.err=0
 ln:x.ln=4∨x.ln=5
 i0:0≤x.i
 i1:x.i<n
 p:P x.i
 gk:x.ln=5→x.gk=keyF ks x.i
def QR (n H:Nat) (ks:List Int) (nx:Nat→Int→Int) (mk:Nat→Int→Bool) (lev:Int→Nat) (P P2:Int→Prop) (x:ClC):Prop:=SkR n H nx mk lev P x∨QB n H ks P2 x
theorem QR.mono (S:QR n H ks nx mk lev P P2 x) {own:Int} (R:RW n own nx mk lev nx' mk' lev') (hP:∀ i,P i→P' i) (h2:∀ i,P2 i→P2' i):QR n H ks nx' mk' lev' P' P2' x:=
 S.imp (fun S=>S.mono R hP) fun S=>⟨S.t,S.made,S.err,S.ln,S.i0,S.i1,h2 _ S.p,S.gk⟩
theorem QR.pkN (S:QR n H ks nx mk lev P P2 x):QR n H ks nx mk lev P P2 (pkN x):=S.imp (fun S=>⟨S.t,S.made,S.err,S.ln,S.n1,S.n2,S.n3⟩) fun S=>⟨S.t,S.made,S.err,S.ln,S.i0,S.i1,S.p,S.gk⟩
theorem QR.made (S:QR n H ks nx mk lev P P2 x):x.made=true:=S.elim (·.made) (·.made)
def QL (n:Nat) (ks:List Int) (nx:Nat→Int→Int) (x:ClC) (m:Nat):Prop:=SL n ks nx 2 x m∧(x.ln=4→2≤m)∧(x.ln=5→1≤m)
theorem QL.pkN {m:Nat} (h:QL n ks nx x m):QL n ks nx (pkN x) m:=⟨⟨h.1.l1,h.1.l2,h.1.l3⟩,h.2⟩
theorem QR.pre (S:QR n H ks nx mk lev P P2 x) (N:Nums n H ks hs) (W:WI n H ks hs nx mk ws):qPre x (szW n H) ws:=by
 rcases S with S|S
 ·refine ⟨by rw [S.t];exact tw_fit N.g W.len,S.made,?_⟩
  rcases S.ln with h|h|h
  ·exact .inl h
  ·obtain ⟨i0,i1,_⟩:=S.n1 (by omega)
   exact .inr (.inr ⟨i0,by rw [S.t];exact i1,.inl h⟩)
  ·exact .inr (.inl h)
 ·exact ⟨by rw [S.t];exact tw_fit N.g W.len,S.made,.inr (.inr ⟨S.i0,by rw [S.t];exact S.i1,.inr S.ln⟩)⟩
theorem QR.step (S:QR n H ks nx mk lev P P2 x) (N:Nums n H ks hs) (W:WI n H ks hs nx mk ws) (V:SInv H n (keyF ks) (hiF n hs) nx mk lev C) (hP:∀ i,P i→P' i) (hF:∀ i,(liv (mk 0) (C 0)).head?=some i→P' i):
  ∃ nx' C',WI n H ks hs nx' mk (qstC x j ws).ws∧SInv H n (keyF ks) (hiF n hs) nx' mk lev C'∧RW n (-1) nx mk lev nx' mk lev∧liv (mk 0) (C' 0)=liv (mk 0) (C 0)∧
   (((qstC x j ws).x.ln=99∧(qstC x j ws).x.err=15∧x.ln=1∧liv (mk 0) (C 0)=[])∨
    ((qstC x j ws).x.ln≠99∧SkR n H nx mk lev P x∧SkR n H nx' mk lev P' (qstC x j ws).x∧∀ m,QL n ks nx x (m+1)→QL n ks nx' (qstC x j ws).x m)∨
    ((qstC x j ws).x.ln≠99∧x.ln=2∧P' x.i∧(∀ Q:Int→Prop,Q x.i→QB n H ks Q (qstC x j ws).x)∧∀ m,QL n ks nx x (m+1)→QL n ks nx' (qstC x j ws).x m)∨
    ((qstC x j ws).x.ln≠99∧x.ln=4∧QB n H ks P2 x∧QB n H ks P2 (qstC x j ws).x∧(qstC x j ws).x.i=x.i∧∀ m,QL n ks nx x (m+1)→QL n ks nx' (qstC x j ws).x m)∨
    ((qstC x j ws).x.ln=99∧(qstC x j ws).x.err=0∧x.ln=5∧QB n H ks P2 x∧(qstC x j ws).x.ga=x.i∧(qstC x j ws).x.gk=keyF ks x.i)):=by
 obtain ⟨g1,g2,g3,g4⟩:=id N.g
 rcases S with S|S
 ·have hln:=S.ln
  have ec:qstC x j ws=firC x j ws:=by unfold qstC;rw [if_neg (show ¬ x.ln=4 by omega),if_neg (show ¬ x.ln=5 by omega)]
  rw [ec]
  obtain ⟨nx',C',a1,a2,a3,a4,h|⟨h1,h2⟩|⟨c1,c2,c3,c4,c5,c6,c7,c8,c9,c10,c11,c12,c13⟩⟩:=S.step (j:=j) N W V hP hF
  ·refine ⟨nx',C',a1,a2,a3,a4,.inl ⟨h.1,h.2.1,?_,h.2.2⟩⟩
   rcases hln with e|e|e
   ·exact e
   ·exfalso
    have:=h.1
    unfold firC at this
    rw [if_neg (show ¬ x.ln=1 by omega),if_pos e] at this
    have:(if _ then (3:Int) else 4)=99:=this
    split at this<;>omega
   ·exfalso
    have:=h.1
    unfold firC at this
    rw [if_neg (show ¬ x.ln=1 by omega),if_neg (show ¬ x.ln=2 by omega)] at this
    have:(1:Int)=99:=this
    omega
  ·have hl:=h1.ln
   exact ⟨nx',C',a1,a2,a3,a4,.inr (.inl ⟨by omega,S,h1,fun m hm=>⟨h2 _ _ hm.1,fun h=>by omega,fun h=>by omega⟩⟩)⟩
  ·exact ⟨nx',C',a1,a2,a3,a4,.inr (.inr (.inl ⟨by omega,c12,by rw [← c11];exact c9,fun Q hQ=>⟨c2,c3,c4,.inl c1,c5,c6,by rw [c11];exact hQ,fun h=>by omega⟩,fun m hm=>⟨SL.no (by omega),fun _=>c13 _ _ hm.1,fun h=>by omega⟩⟩))⟩
 ·have hln:=S.ln
  have ep0:(ptA x.t x.i 0).toNat=pd n H x.i 0:=by rw [S.t];rfl
  have ep1:(ptA x.t x.i 1).toNat=pd n H x.i 1:=by rw [S.t];rfl
  unfold qstC
  rcases S.ln with h|h
  ·rw [if_pos h,ep0,W.key _ S.i0 S.i1]
   exact ⟨nx,C,W,V,.refl,rfl,.inr (.inr (.inr (.inl ⟨by show (5:Int)≠99;decide,h,S,⟨S.t,S.made,S.err,.inr rfl,S.i0,S.i1,S.p,fun _=>rfl⟩,rfl,fun m hm=>⟨SL.no (show (5:Int)≠1∧(5:Int)≠2∧(5:Int)≠3 by decide),fun e=>absurd e (by decide:¬ (5:Int)=4),fun _=>by have:=hm.2.1 h;omega⟩⟩)))⟩
  ·have i0:=S.i0
   have i1:=S.i1
   rw [if_neg (show ¬ x.ln=4 by omega),if_pos h,ep1,W.job _ S.i0 S.i1,low_eq i0 (by omega)]
   exact ⟨nx,C,W,V,.refl,rfl,.inr (.inr (.inr (.inr ⟨rfl,S.err,h,S,rfl,S.gk h⟩)))⟩
end
end Go.Sx
