/- The plain law of a crew over a tower: the loops come to an end. Printed by gen_U17.py. -/
import Derived.Test.YtpnpmkdijmeddaaGreatScU15
import Derived.Test.YtpnpmkdijmeddaaGreatScT5
import Derived.Test.YtpnpmkdijmeddaaGreatScD4
set_option maxRecDepth 100000
namespace Go.Sx
open Go.Ql (SInv FInv fstep updF XX XW lkd RW liv insK Ent XT)
def bN (n H:Nat):Nat:=6*(H*Ql.Bd n)+40
section
variable {n H m:Nat} {σ:CS} {g:GhC}
theorem Bd_ge (hg:Geo n H):1+2*n≤H*Ql.Bd n∧H*Ql.Bd n≤52:=by
 have h:Ql.Bd (n:Int)=1+2*n:=by unfold Ql.Bd;rw [Int.toNat_natCast]
 obtain ⟨g1,g2,g3,g4⟩:=id hg
 rw [h]
 rcases hg.h with rfl|rfl|rfl|rfl<;>omega
theorem bnd_eq (I:CI n H m σ g):bndC σ=(bN n H:Int):=by
 have hg:=I.N.g
 have h:Ql.Bd (n:Int)=1+2*n:=by unfold Ql.Bd;rw [Int.toNat_natCast]
 have hh:σ.t.height=(H:Int):=by rw [I.t];rfl
 have hk:=I.N.kl
 unfold bndC bN
 rw [hh,hk,h]
 obtain ⟨g1,g2,g3,g4⟩:=id hg
 rcases hg.h with rfl|rfl|rfl|rfl<;>(rw [XM (x:=2*(n:Int)) (by omega) (by omega),XM (x:=2*(n:Int)+1) (by omega) (by omega),XM (x:=6*_) (by omega) (by omega),XM (x:=6*_*_) (by omega) (by omega),XM (by omega) (by omega)];omega)
theorem FL_any {k:Int} {nx:Nat→Int→Int} {mk:Nat→Int→Bool} {lev:Int→Nat} {fd:Ql.Fd} {ks:List Int} (F:FInv H n (keyF ks) k nx mk lev fd) {b q l:Nat} (h:H*Ql.Bd n+q≤l):Ql.FL H n (keyF ks) nx mk fd b q l:=
 .inr (by have:=Ql.tm_le (N:=(n:Int)) (key:=keyF ks) F.lt;omega)
theorem lf0 (I:CI n H m σ g):LfI n H σ g (bN n H):=by
 have hb:=Bd_ge I.N.g
 obtain ⟨g1,g2,g3,g4⟩:=id I.N.g
 unfold LfI bN
 have S:=I.i
 cases hio:σ.io with
 |none=>trivial
 |over k=>trivial
 |r k x f rs q=>show 4≤_;omega
 |p k x f rs q u=>exact ⟨fun _=>by omega,fun _=>.inr (by omega),fun _=>.inr (by omega)⟩
 |a k x f rs=>
  rw [hio] at S
  obtain ⟨c,f0,e,p,h1,h2,R⟩:=S
  have hh:=I.N.hi R.B.i0 R.B.i1
  have F:1≤x.ln∧x.ln≤8∨x.ln=10→FInv H n (keyF σ.ks) (keyF σ.ks k) g.X g.M g.E g.d0:=fun h=>R.I.fi (by show 1≤x.ln.toNat∧x.ln.toNat≤8∨x.ln.toNat=10;omega)
  exact ⟨fun h=>FL_any (F (by omega)) (by omega),fun _=>.inr (by omega),fun _=>.inr (by omega),fun _=>.inr (by omega),fun _=>.inr (by omega),fun _=>.inr (by omega),fun h=>FL_any (F (by omega)) (by omega),fun _=>.inr (by omega),fun _=>by omega,fun h=>FL_any (F (by omega)) (by omega),fun _=>by omega⟩
theorem FL_pos {nx:Nat→Int→Int} {mk:Nat→Int→Bool} {fd:Ql.Fd} {ks:List Int} {b q:Nat} (h:Ql.FL H n (keyF ks) nx mk fd b q 0) (hb:0<b) (hq:0<q):False:=by
 rcases h with ⟨a,_,h⟩|h<;>omega
theorem pl0 {ws:List Int} {u:PuC} (h:PL ws u 0) (hu:u.f=f1∨u.f=f2∨u.f=f3):False:=by
 rcases hu with e|e|e
 ·have:=h.1 e;omega
 ·rcases h.2.1 e with h|h<;>omega
 ·rcases h.2.2 e with h|h<;>omega
theorem lp0 (I:CI n H m σ g) (ho:σ.o0≥0) (h:LfI n H σ g 0):False:=by
 have S:=I.i
 unfold LfI at h
 cases hio:σ.io with
 |none=>rw [hio] at S;have S:σ.o0=-1:=S;omega
 |over k=>rw [hio] at S;have S:σ.o0=-1:=S;omega
 |r k x f rs q=>rw [hio] at h;have h:4≤0:=h;omega
 |p k x f rs q u=>
  rw [hio] at h S
  obtain ⟨c,f0,e,p,h1,h2,R,hx,P⟩:=S
  exact pl0 h P.f
 |a k x f rs=>
  rw [hio] at h S
  obtain ⟨c,f0,e,p,h1,h2,R⟩:=S
  have h:IL n H σ.ks g.X g.M (hiF n σ.hs k) x g.d0 0:=h
  have hln:=R.ln
  have hc:x.ln=1∨x.ln=2∨x.ln=3∨x.ln=4∨x.ln=5∨x.ln=6∨x.ln=7∨x.ln=8∨x.ln=9∨x.ln=10∨x.ln=11:=by omega
  rcases hc with e|e|e|e|e|e|e|e|e|e|e
  ·exact FL_pos (h.l1 e) (by omega) (by omega)
  ·have:=h.l2 e;omega
  ·have:=h.l3 e;omega
  ·have:=h.l4 e;omega
  ·have:=h.l5 e;omega
  ·have:=h.l6 e;omega
  ·exact FL_pos (h.l7 e) (by omega) (by omega)
  ·have:=h.l8 e;omega
  ·have:=h.l9 e;omega
  ·exact FL_pos (h.l10 e) (by omega) (by omega)
  ·have:=h.l11 e;omega
theorem ZL_pos {mk:Nat→Int→Bool} {i:Int} {Z:Nat} (h:ZL n H mk i Z):10≤Z:=by
 rcases h with ⟨_,h⟩|h<;>omega
theorem lf1 (I:CI n H m σ g):LfK1 n H σ g (bN n H):=by
 have hb:=Bd_ge I.N.g
 obtain ⟨g1,g2,g3,g4⟩:=id I.N.g
 have hq:=hrk_le (n:=n) (ks:=σ.ks) (nx:=g.X)
 unfold LfK1 bN
 have S:=I.k1
 cases hk:σ.c0 with
 |none=>trivial
 |over=>trivial
 |r y f rs q=>show 4≤_;omega
 |p y f rs q u=>exact ⟨fun _=>by omega,fun _=>.inr (by omega),fun _=>.inr (by omega)⟩
 |b y f rs=>
  rw [hk] at S
  obtain ⟨c,f0,e,p,h1,h2,R⟩:=S
  exact ⟨fun h=>FL_any (R.F h).2.1 (by omega),fun _=>by omega⟩
 |a y=>
  rw [hk] at S
  obtain ⟨c,f0,e,p,h1,h2,R⟩:=S
  have hz:ZL n H g.M y.i (3*n+2*H+H*Ql.Bd n+16):=.inr (Nat.le_refl _)
  have hlv:y.ln=5∨y.ln=6→y.lv.toNat≤4:=fun h=>by
   rcases R with R|R
   ·have:=R.ln;omega
   ·have:=(R.lv h).2.1
    have hh:=I.N.hi R.i0 R.i1
    omega
  exact ⟨⟨fun _=>by omega,fun _=>.inr (by omega),fun _=>.inr (by omega)⟩,⟨fun _=>⟨_,hz,by omega⟩,fun h=>⟨_,hz,by have:=hlv (.inl h);omega⟩,fun h=>⟨_,hz,.inr (by have:=hlv (.inr h);omega)⟩,fun _=>.inr (by omega),fun _=>.inr ⟨_,hz,by omega⟩,fun _=>by omega,fun _=>by omega⟩⟩
theorem lp1 (I:CI n H m σ g) (ho:σ.o1≥0) (h:LfK1 n H σ g 0):False:=by
 have S:=I.k1
 unfold LfK1 at h
 cases hk:σ.c0 with
 |none=>rw [hk] at S;have S:σ.o1=-1:=S;omega
 |over=>rw [hk] at S;have S:σ.o1=-1:=S;omega
 |r y f rs q=>rw [hk] at h;have h:4≤0:=h;omega
 |p y f rs q u=>
  rw [hk] at h S
  obtain ⟨c,f0,e,p,h1,h2,R,hx,P⟩:=S
  exact pl0 h P.f
 |b y f rs=>
  rw [hk] at h S
  obtain ⟨c,f0,e,p,h1,h2,R⟩:=S
  have h:DL n H σ.ks g.X g.M y g.d1 0:=h
  rcases R.ln with e|e
  ·exact FL_pos (h.l10 e) (by omega) (by omega)
  ·have:=h.l11 e;omega
 |a y=>
  rw [hk] at h S
  obtain ⟨c,f0,e,p,h1,h2,R⟩:=S
  have h:CLf n H σ.ks σ.ws g.X g.M y 0:=h
  rcases R with R|R
  ·rcases R.ln with e|e|e
   ·have:=h.1.l1 e;omega
   ·have:=h.1.l2 e;omega
   ·have:=h.1.l3 e;omega
  ·rcases R.ln with e|e|e|e|e|e|e
   ·obtain ⟨Z,h1,h2⟩:=h.2.l4 e;have:=ZL_pos h1;omega
   ·obtain ⟨Z,h1,h2⟩:=h.2.l5 e;have:=ZL_pos h1;omega
   ·obtain ⟨Z,h1,h2⟩:=h.2.l6 e;have:=ZL_pos h1;omega
   ·have:=ZL_pos (h.2.l7 e);omega
   ·rcases h.2.l8 e with h|⟨Z,h1,h2⟩
    ·omega
    ·have:=ZL_pos h1;omega
   ·have:=h.2.l9 e;omega
   ·have:=h.2.l91 e;omega
theorem lf2 (I:CI n H m σ g):LfK2 n H σ g (bN n H):=by
 have hb:=Bd_ge I.N.g
 obtain ⟨g1,g2,g3,g4⟩:=id I.N.g
 have hq:=hrk_le (n:=n) (ks:=σ.ks) (nx:=g.X)
 unfold LfK2 bN
 have S:=I.k2
 cases hk:σ.c1 with
 |none=>trivial
 |over=>trivial
 |r y f rs q=>show 4≤_;omega
 |p y f rs q u=>exact ⟨fun _=>by omega,fun _=>.inr (by omega),fun _=>.inr (by omega)⟩
 |b y f rs=>
  rw [hk] at S
  obtain ⟨c,f0,e,p,h1,h2,R⟩:=S
  exact ⟨fun h=>FL_any (R.F h).2.1 (by omega),fun _=>by omega⟩
 |a y=>
  rw [hk] at S
  obtain ⟨c,f0,e,p,h1,h2,R⟩:=S
  have hz:ZL n H g.M y.i (3*n+2*H+H*Ql.Bd n+16):=.inr (Nat.le_refl _)
  have hlv:y.ln=5∨y.ln=6→y.lv.toNat≤4:=fun h=>by
   rcases R with R|R
   ·have:=R.ln;omega
   ·have:=(R.lv h).2.1
    have hh:=I.N.hi R.i0 R.i1
    omega
  exact ⟨⟨fun _=>by omega,fun _=>.inr (by omega),fun _=>.inr (by omega)⟩,⟨fun _=>⟨_,hz,by omega⟩,fun h=>⟨_,hz,by have:=hlv (.inl h);omega⟩,fun h=>⟨_,hz,.inr (by have:=hlv (.inr h);omega)⟩,fun _=>.inr (by omega),fun _=>.inr ⟨_,hz,by omega⟩,fun _=>by omega,fun _=>by omega⟩⟩
theorem lp2 (I:CI n H m σ g) (ho:σ.o2≥0) (h:LfK2 n H σ g 0):False:=by
 have S:=I.k2
 unfold LfK2 at h
 cases hk:σ.c1 with
 |none=>rw [hk] at S;have S:σ.o2=-1:=S;omega
 |over=>rw [hk] at S;have S:σ.o2=-1:=S;omega
 |r y f rs q=>rw [hk] at h;have h:4≤0:=h;omega
 |p y f rs q u=>
  rw [hk] at h S
  obtain ⟨c,f0,e,p,h1,h2,R,hx,P⟩:=S
  exact pl0 h P.f
 |b y f rs=>
  rw [hk] at h S
  obtain ⟨c,f0,e,p,h1,h2,R⟩:=S
  have h:DL n H σ.ks g.X g.M y g.d2 0:=h
  rcases R.ln with e|e
  ·exact FL_pos (h.l10 e) (by omega) (by omega)
  ·have:=h.l11 e;omega
 |a y=>
  rw [hk] at h S
  obtain ⟨c,f0,e,p,h1,h2,R⟩:=S
  have h:CLf n H σ.ks σ.ws g.X g.M y 0:=h
  rcases R with R|R
  ·rcases R.ln with e|e|e
   ·have:=h.1.l1 e;omega
   ·have:=h.1.l2 e;omega
   ·have:=h.1.l3 e;omega
  ·rcases R.ln with e|e|e|e|e|e|e
   ·obtain ⟨Z,h1,h2⟩:=h.2.l4 e;have:=ZL_pos h1;omega
   ·obtain ⟨Z,h1,h2⟩:=h.2.l5 e;have:=ZL_pos h1;omega
   ·obtain ⟨Z,h1,h2⟩:=h.2.l6 e;have:=ZL_pos h1;omega
   ·have:=ZL_pos (h.2.l7 e);omega
   ·rcases h.2.l8 e with h|⟨Z,h1,h2⟩
    ·omega
    ·have:=ZL_pos h1;omega
   ·have:=h.2.l9 e;omega
   ·have:=h.2.l91 e;omega
theorem lf3 (I:CI n H m σ g):LfP n σ g (bN n H):=by
 have hb:=Bd_ge I.N.g
 have hq:=hrk_le (n:=n) (ks:=σ.ks) (nx:=g.X)
 unfold LfP bN
 cases hpk:σ.pk with
 |none=>trivial
 |over=>trivial
 |a y=>exact ⟨⟨fun _=>by omega,fun _=>.inr (by omega),fun _=>.inr (by omega)⟩,fun _=>by omega,fun _=>by omega⟩
theorem lp3 (I:CI n H m σ g) (ho:σ.o3≥0) (h:LfP n σ g 0):False:=by
 have S:=I.p
 unfold LfP at h
 cases hpk:σ.pk with
 |none=>rw [hpk] at S;have S:σ.o3=-1:=S;omega
 |over=>rw [hpk] at S;have S:σ.o3=-1:=S;omega
 |a y=>
  rw [hpk] at h S
  obtain ⟨c,f0,e,p,R,_⟩:=S
  have h:QL n σ.ks g.X y 0:=h
  rcases R with R|R
  ·rcases R.ln with e|e|e
   ·have:=h.1.l1 e;omega
   ·have:=h.1.l2 e;omega
   ·have:=h.1.l3 e;omega
  ·rcases R.ln with e|e
   ·have:=h.2.1 e;omega
   ·have:=h.2.2 e;omega
theorem CI.le {m':Nat} (I:CI n H m σ g) (h:m≤m'):CI n H m' σ g:=
 ⟨I.N,I.t,I.sz,I.W,I.V,I.h,I.opn,I.i,I.k1,I.k2,I.p,I.df,I.fut,I.cn,I.gt,I.g1,I.g2,I.tl,⟨Nat.le_trans I.b.cl h,by have:=I.b.ck;omega,Nat.le_trans I.b.f0 h,Nat.le_trans I.b.f1 h,Nat.le_trans I.b.f2 h,Nat.le_trans I.b.f3 h,Nat.le_trans I.b.gt h⟩⟩
theorem bN_le (hg:Geo n H):bN n H≤352:=by
 have:=Bd_ge hg
 unfold bN
 omega
theorem Chain_nxt {key:Int→Int} {y z:Ent} {r:List Ent} {Sf:List Int}:∀ {p:List Ent},Ql.Chain key (p++y::z::r) Sf→Ql.after key y.S y.e=z.S
 |[],h=>h.1
 |_::p,h=>Chain_nxt (p:=p) (Ql.Chain.cons h).2
theorem good_unl {key:Int→Int} {op:Nat→Ql.Op} {fr to:Nat→Int} {tr:List Ent} {Sf:List Int} (G:Ql.Good key op fr to tr Sf) {c d:Nat} {i:Int} (hc:c∈XT tr) (hd:d∈XT tr) (e:op c=.put i) (e':op d=.put i):c=d:=by
 have ev:∀ {c:Nat},c∈XT tr→op c=.put i→∃ x∈tr,x.e=.ins c i:=fun {c} hc e=>by
  unfold XT at hc
  obtain ⟨x,hx,hcx⟩:=List.mem_flatMap.1 hc
  refine ⟨x,hx,?_⟩
  cases hxe:x.e with
  |tau=>rw [hxe] at hcx;cases hcx
  |ins c' k=>
   rw [hxe] at hcx
   obtain rfl:=List.mem_singleton.1 hcx
   have:=(G.ins x hx c k hxe).1
   rw [e] at this
   cases this;rfl
  |read c'=>
   rw [hxe] at hcx
   obtain rfl:=List.mem_singleton.1 hcx
   rcases (G.read x hx c hxe).1 with h|⟨h,_⟩<;>(rw [e] at h;cases h)
  |mark c' k=>
   rw [hxe] at hcx
   obtain rfl:=List.mem_singleton.1 hcx
   obtain ⟨pre,suf,ht⟩:=List.append_of_mem hx
   have:=(G.mark pre x suf ht c k hxe).1
   rw [e] at this;cases this
 have two:∀ {p q r:List Ent} {x y:Ent} {c d:Nat},tr=p++y::(q++x::r)→y.e=.ins d i→x.e=.ins c i→False:=fun {p q r x y c d} ht hy hx=>by
  have hch:=G.chain
  have ht2:tr=(p++y::q)++x::r:=by rw [ht];simp
  have hxm:x∈tr:=by rw [ht2];simp
  cases q with
  |nil=>
   rw [ht] at hch
   have:=Chain_nxt hch
   rw [hy] at this
   exact (G.ins x hxm c i hx).2.1 (this ▸ Ql.mem_insK.2 (.inl rfl))
  |cons z q=>
   rw [ht] at hch
   have:=Chain_nxt hch
   rw [hy] at this
   exact G.fresh (p++y::z::q) x r ht2 c i hx z (by simp) (this ▸ Ql.mem_insK.2 (.inl rfl))
 obtain ⟨x,hx,ex⟩:=ev hc e
 obtain ⟨y,hy,ey⟩:=ev hd e'
 obtain ⟨pre,suf,ht⟩:=List.append_of_mem hx
 rw [ht] at hy
 rcases List.mem_append.1 hy with hy|hy
 ·obtain ⟨p,q,rfl⟩:=List.append_of_mem hy
  exact (two (p:=p) (q:=q) (r:=suf) (by rw [ht];simp) ey ex).elim
 ·rcases List.mem_cons.1 hy with rfl|hy
  ·rw [ex] at ey;cases ey;rfl
  ·obtain ⟨p,q,rfl⟩:=List.append_of_mem hy
   exact (two (p:=pre) (q:=p) (r:=q) (by rw [ht]) ex ey).elim
theorem loop0 {zs:List Int}:∀ (d k m:Nat) (σ:CS) (g:GhC),CI n H m σ g→m+d<5000→k+d=bN n H→σ.o0≥0→LfI n H σ g d→∃ (σ':CS) (g':GhC) (k':Int),PW zs plG (slG 0 k) plG (slG 0 k') σ σ'∧CI n H (m+d) σ' g'∧σ'.o0=-1∧σ'.o1=σ.o1∧σ'.o2=σ.o2∧σ'.o3=σ.o3∧σ'.cl.length=σ.cl.length
 |0,k,m,σ,g,I,_,_,ho,hL=>(lp0 I ho hL).elim
 |d+1,k,m,σ,g,I,hm,hk,ho,hL=>by
  obtain ⟨σ1,g1,hst,I1,hc,hks,e1,e2,e3,hcl⟩:=act0 I ho (by omega)
  have hb:=bnd_eq I
  have h400:=bN_le I.N.g
  have hs:PW zs plG (slG 0 k) plG (slG 0 ((k+1:Nat):Int)) σ σ1:=
   hst.2.pw (k:=k) (by omega) (by rw [hb];omega) (by rw [XM (x:=(k:Int)+1) (by omega) (by omega)];omega)
  rcases hc with h|⟨h,h'⟩
  ·exact ⟨σ1,g1,((k+1:Nat):Int),hs,I1.le (by omega),h,e1,e2,e3,hcl⟩
  ·obtain ⟨σ',g',k',h1,h2,h3,q1,q2,q3,h4⟩:=loop0 d (k+1) (m+1) σ1 g1 I1 (by omega) (by omega) (by omega) (h d hL)
   exact ⟨σ',g',k',hs.trans h1,h2.le (by omega),h3,q1.trans e1,q2.trans e2,q3.trans e3,h4.trans hcl⟩
theorem solo0 {zs:List Int} (I:CI n H m σ g) (hm:m+bN n H<5000):∃ σ' g' m',PW zs plK (slK 0) plK (slK (-1)) σ σ'∧CI n H m' σ' g'∧m'≤m+bN n H∧σ'.o0=-1∧σ'.o1=σ.o1∧σ'.o2=σ.o2∧σ'.o3=σ.o3∧σ'.cl.length=σ.cl.length:=by
 have p1:PW zs plK (slK 0) plG (slG 0 0) σ σ:=wKG (by decide)
 by_cases ho:σ.o0≥0
 ·obtain ⟨σ',g',k',h1,h2,h3,q1,q2,q3,h4⟩:=loop0 (zs:=zs) (bN n H) 0 m σ g I hm (by omega) ho (lf0 I)
  exact ⟨σ',g',_,p1.trans (h1.trans (wGK0 (by omega))),h2,Nat.le_refl _,h3,q1,q2,q3,h4⟩
 ·have h:σ.o0=-1:=by
   have S:=I.i
   cases hio:σ.io with
   |none=>rw [hio] at S;exact S
   |over k=>rw [hio] at S;exact S
   |a k x f rs=>rw [hio] at S;obtain ⟨c,f0,e,_⟩:=S;omega
   |r k x f rs q=>rw [hio] at S;obtain ⟨c,f0,e,_⟩:=S;omega
   |p k x f rs q u=>rw [hio] at S;obtain ⟨c,f0,e,_⟩:=S;omega
  exact ⟨σ,g,m,p1.trans (wGK0 (by omega)),I,by omega,h,rfl,rfl,rfl,rfl⟩
theorem loop1 {zs:List Int}:∀ (d k m:Nat) (σ:CS) (g:GhC),CI n H m σ g→m+d<5000→k+d=bN n H→σ.o1≥0→LfK1 n H σ g d→∃ (σ':CS) (g':GhC) (k':Int),PW zs plG (slG 1 k) plG (slG 1 k') σ σ'∧CI n H (m+d) σ' g'∧σ'.o1=-1∧σ'.o0=σ.o0∧σ'.o2=σ.o2∧σ'.o3=σ.o3∧σ'.cl.length=σ.cl.length
 |0,k,m,σ,g,I,_,_,ho,hL=>(lp1 I ho hL).elim
 |d+1,k,m,σ,g,I,hm,hk,ho,hL=>by
  obtain ⟨σ1,g1,hst,I1,hc,hks,e0,e2,e3,hcl⟩:=act1 I ho (by omega)
  have hb:=bnd_eq I
  have h400:=bN_le I.N.g
  have hs:PW zs plG (slG 1 k) plG (slG 1 ((k+1:Nat):Int)) σ σ1:=
   hst.2.pw (k:=k) (by omega) (by rw [hb];omega) (by rw [XM (x:=(k:Int)+1) (by omega) (by omega)];omega)
  rcases hc with h|⟨h,h'⟩
  ·exact ⟨σ1,g1,((k+1:Nat):Int),hs,I1.le (by omega),h,e0,e2,e3,hcl⟩
  ·obtain ⟨σ',g',k',h1,h2,h3,q0,q2,q3,h4⟩:=loop1 d (k+1) (m+1) σ1 g1 I1 (by omega) (by omega) (by omega) (h d hL)
   exact ⟨σ',g',k',hs.trans h1,h2.le (by omega),h3,q0.trans e0,q2.trans e2,q3.trans e3,h4.trans hcl⟩
theorem solo1 {zs:List Int} (I:CI n H m σ g) (hm:m+bN n H<5000):∃ σ' g' m',PW zs plK (slK 1) plK (slK (0)) σ σ'∧CI n H m' σ' g'∧m'≤m+bN n H∧σ'.o1=-1∧σ'.o0=σ.o0∧σ'.o2=σ.o2∧σ'.o3=σ.o3∧σ'.cl.length=σ.cl.length:=by
 have p1:PW zs plK (slK 1) plG (slG 1 0) σ σ:=wKG (by decide)
 by_cases ho:σ.o1≥0
 ·obtain ⟨σ',g',k',h1,h2,h3,q0,q2,q3,h4⟩:=loop1 (zs:=zs) (bN n H) 0 m σ g I hm (by omega) ho (lf1 I)
  exact ⟨σ',g',_,p1.trans (h1.trans (wGK1 (by omega))),h2,Nat.le_refl _,h3,q0,q2,q3,h4⟩
 ·have h:σ.o1=-1:=by
   rcases I.k1.call with e|⟨c,f,e,p⟩<;>omega
  exact ⟨σ,g,m,p1.trans (wGK1 (by omega)),I,by omega,h,rfl,rfl,rfl,rfl⟩
theorem loop2 {zs:List Int}:∀ (d k m:Nat) (σ:CS) (g:GhC),CI n H m σ g→m+d<5000→k+d=bN n H→σ.o2≥0→LfK2 n H σ g d→∃ (σ':CS) (g':GhC) (k':Int),PW zs plG (slG 2 k) plG (slG 2 k') σ σ'∧CI n H (m+d) σ' g'∧σ'.o2=-1∧σ'.o0=σ.o0∧σ'.o1=σ.o1∧σ'.o3=σ.o3∧σ'.cl.length=σ.cl.length
 |0,k,m,σ,g,I,_,_,ho,hL=>(lp2 I ho hL).elim
 |d+1,k,m,σ,g,I,hm,hk,ho,hL=>by
  obtain ⟨σ1,g1,hst,I1,hc,hks,e0,e1,e3,hcl⟩:=act2 I ho (by omega)
  have hb:=bnd_eq I
  have h400:=bN_le I.N.g
  have hs:PW zs plG (slG 2 k) plG (slG 2 ((k+1:Nat):Int)) σ σ1:=
   hst.2.pw (k:=k) (by omega) (by rw [hb];omega) (by rw [XM (x:=(k:Int)+1) (by omega) (by omega)];omega)
  rcases hc with h|⟨h,h'⟩
  ·exact ⟨σ1,g1,((k+1:Nat):Int),hs,I1.le (by omega),h,e0,e1,e3,hcl⟩
  ·obtain ⟨σ',g',k',h1,h2,h3,q0,q1,q3,h4⟩:=loop2 d (k+1) (m+1) σ1 g1 I1 (by omega) (by omega) (by omega) (h d hL)
   exact ⟨σ',g',k',hs.trans h1,h2.le (by omega),h3,q0.trans e0,q1.trans e1,q3.trans e3,h4.trans hcl⟩
theorem solo2 {zs:List Int} (I:CI n H m σ g) (hm:m+bN n H<5000):∃ σ' g' m',PW zs plK (slK 2) plK (slK (1)) σ σ'∧CI n H m' σ' g'∧m'≤m+bN n H∧σ'.o2=-1∧σ'.o0=σ.o0∧σ'.o1=σ.o1∧σ'.o3=σ.o3∧σ'.cl.length=σ.cl.length:=by
 have p1:PW zs plK (slK 2) plG (slG 2 0) σ σ:=wKG (by decide)
 by_cases ho:σ.o2≥0
 ·obtain ⟨σ',g',k',h1,h2,h3,q0,q1,q3,h4⟩:=loop2 (zs:=zs) (bN n H) 0 m σ g I hm (by omega) ho (lf2 I)
  exact ⟨σ',g',_,p1.trans (h1.trans (wGK2 (by omega))),h2,Nat.le_refl _,h3,q0,q1,q3,h4⟩
 ·have h:σ.o2=-1:=by
   rcases I.k2.call with e|⟨c,f,e,p⟩<;>omega
  exact ⟨σ,g,m,p1.trans (wGK2 (by omega)),I,by omega,h,rfl,rfl,rfl,rfl⟩
theorem loop3 {zs:List Int}:∀ (d k m:Nat) (σ:CS) (g:GhC),CI n H m σ g→m+d<5000→k+d=bN n H→σ.o3≥0→LfP n σ g d→∃ (σ':CS) (g':GhC) (k':Int),PW zs plG (slG 3 k) plG (slG 3 k') σ σ'∧CI n H (m+d) σ' g'∧σ'.o3=-1∧σ'.o0=σ.o0∧σ'.o1=σ.o1∧σ'.o2=σ.o2∧σ'.cl.length=σ.cl.length
 |0,k,m,σ,g,I,_,_,ho,hL=>(lp3 I ho hL).elim
 |d+1,k,m,σ,g,I,hm,hk,ho,hL=>by
  obtain ⟨σ1,g1,hst,I1,hc,hks,e0,e1,e2,hcl⟩:=act3 I ho (by omega)
  have hb:=bnd_eq I
  have h400:=bN_le I.N.g
  have hs:PW zs plG (slG 3 k) plG (slG 3 ((k+1:Nat):Int)) σ σ1:=
   hst.2.pw (k:=k) (by omega) (by rw [hb];omega) (by rw [XM (x:=(k:Int)+1) (by omega) (by omega)];omega)
  rcases hc with h|⟨h,h'⟩
  ·exact ⟨σ1,g1,((k+1:Nat):Int),hs,I1.le (by omega),h,e0,e1,e2,hcl⟩
  ·obtain ⟨σ',g',k',h1,h2,h3,q0,q1,q2,h4⟩:=loop3 d (k+1) (m+1) σ1 g1 I1 (by omega) (by omega) (by omega) (h d hL)
   exact ⟨σ',g',k',hs.trans h1,h2.le (by omega),h3,q0.trans e0,q1.trans e1,q2.trans e2,h4.trans hcl⟩
theorem solo3 {zs:List Int} (I:CI n H m σ g) (hm:m+bN n H<5000):∃ σ' g' m',PW zs plK (slK 3) plK (slK (2)) σ σ'∧CI n H m' σ' g'∧m'≤m+bN n H∧σ'.o3=-1∧σ'.o0=σ.o0∧σ'.o1=σ.o1∧σ'.o2=σ.o2∧σ'.cl.length=σ.cl.length:=by
 have p1:PW zs plK (slK 3) plG (slG 3 0) σ σ:=wKG (by decide)
 by_cases ho:σ.o3≥0
 ·obtain ⟨σ',g',k',h1,h2,h3,q0,q1,q2,h4⟩:=loop3 (zs:=zs) (bN n H) 0 m σ g I hm (by omega) ho (lf3 I)
  exact ⟨σ',g',_,p1.trans (h1.trans (wGK3 (by omega))),h2,Nat.le_refl _,h3,q0,q1,q2,h4⟩
 ·have h:σ.o3=-1:=by
   rcases I.p.call with e|⟨c,f,e,p⟩<;>omega
  exact ⟨σ,g,m,p1.trans (wGK3 (by omega)),I,by omega,h,rfl,rfl,rfl,rfl⟩
theorem loopH {zs:List Int} {len cap:Nat} (hl:len=zs.length) (h400:len≤400):∀ (d i:Nat) (σ:CS) (g:GhC),i+d=len→CI n H i σ g→∃ σ' g',PW zs plH (slH len cap i) plH (slH len cap len) σ σ'∧CI n H len σ' g'
 |0,i,σ,g,hi,I=>by
  have:i=len:=by omega
  subst this
  exact ⟨σ,g,.refl,I⟩
 |d+1,i,σ,g,hi,I=>by
  have hw:IntKind.i64.wrap ((i:Int)+1)=((i+1:Nat):Int):=by rw [XM (by omega) (by omega)];omega
  have go:∀ c σ1 g1,XR (zs.getD i 0) 4=c→StH c σ σ1→CI n H (i+1) σ1 g1→∃ σ' g',PW zs plH (slH len cap i) plH (slH len cap len) σ σ'∧CI n H len σ' g':=fun c σ1 g1 hc hst I1=>by
   obtain ⟨σ',g',h1,h2⟩:=loopH hl h400 d (i+1) σ1 g1 (by omega) I1
   have hs:PW zs plH (slH len cap i) plH (slH len cap ((i+1:Nat):Int)) σ σ1:=hst.pw (by rw [Int.toNat_natCast];exact hc) (by omega) (by omega) hl hw.symm
   exact ⟨σ',g',hs.trans h1,h2⟩
  have hr:=pick_rg (zs.getD i 0)
  have hc:XR (zs.getD i 0) 4=0∨XR (zs.getD i 0) 4=1∨XR (zs.getD i 0) 4=2∨XR (zs.getD i 0) 4=3:=by omega
  rcases hc with e|e|e|e
  ·by_cases ho:σ.o0≥0
   ·obtain ⟨σ1,g1,hst,I1,_⟩:=act0 I ho (by omega)
    exact go 0 σ1 g1 e hst.1 I1
   ·obtain ⟨σ1,g1,hst,I1,_⟩:=begs I (by omega) 0 (.inl ⟨rfl,by omega⟩)
    exact go 0 σ1 g1 e hst I1
  ·by_cases ho:σ.o1≥0
   ·obtain ⟨σ1,g1,hst,I1,_⟩:=act1 I ho (by omega)
    exact go 1 σ1 g1 e hst.1 I1
   ·obtain ⟨σ1,g1,hst,I1,_⟩:=begs I (by omega) 1 (.inr (.inl ⟨rfl,by omega⟩))
    exact go 1 σ1 g1 e hst I1
  ·by_cases ho:σ.o2≥0
   ·obtain ⟨σ1,g1,hst,I1,_⟩:=act2 I ho (by omega)
    exact go 2 σ1 g1 e hst.1 I1
   ·obtain ⟨σ1,g1,hst,I1,_⟩:=begs I (by omega) 2 (.inr (.inr (.inl ⟨rfl,by omega⟩)))
    exact go 2 σ1 g1 e hst I1
  ·by_cases ho:σ.o3≥0
   ·obtain ⟨σ1,g1,hst,I1,_⟩:=act3 I ho (by omega)
    exact go 3 σ1 g1 e hst.1 I1
   ·obtain ⟨σ1,g1,hst,I1,_⟩:=begs I (by omega) 3 (.inr (.inr (.inr ⟨rfl,by omega⟩)))
    exact go 3 σ1 g1 e hst I1
def FinC (n:Nat) (ks:List Int) (cl:List (List Int)):Prop:=∃ (op:Nat→Ql.Op) (lin:List Nat) (Sf:List Int),lin.Nodup∧(∀ c,c∈lin↔c<cl.length)∧Ql.runQ (keyF ks) op [] lin Sf∧(lin.Pairwise fun a b=>(cl.getD a []).getD 1 0≤(cl.getD b []).getD 2 0)∧
 (∀ c,c<cl.length→∃ f t k a w e m v,cl.getD c []=rowQ c f t k a w e m v∧0≤f∧0≤t∧AnsOK n ks (op c) k a w e m v)∧∀ c d i,c<cl.length→d<cl.length→op c=.put i→op d=.put i→c=d
theorem CI.fin (I:CI n H m σ g) (h0:σ.o0=-1) (h1:σ.o1=-1) (h2:σ.o2=-1) (h3:σ.o3=-1):FinC n σ.ks σ.cl:=by
 have hend:∀ c,c<σ.cl.length→(σ.cl.getD c []).getD 2 0≠-1:=fun c hc h=>by
  have:=I.opn c hc h
  omega
 have hrow:∀ c,c<σ.cl.length→∃ f t k a w e m v,σ.cl.getD c []=rowQ c f t k a w e m v∧0≤f∧0≤t∧c∈XT g.T∧AnsOK n σ.ks (g.O c) k a w e m v:=fun c hc=>by
  obtain ⟨f,t,k,a,w,e,m,v,e1,e2,e3,e4,e5⟩:=I.h.rows c hc
  rcases e5 with e5|⟨e5,e6,e7,e8⟩
  ·exact absurd (by rw [e1,e5];rfl) (hend c hc)
  ·exact ⟨f,t,k,a,w,e,m,v,e1,e2,e6,e5,e8⟩
 obtain ⟨lin,l1,l2,l3,l4⟩:=I.h.G.lin
 refine ⟨g.O,lin,_,l1,fun c=>⟨fun h=>I.h.lt c ((l2 c).1 h),fun h=>(l2 c).2 ?_⟩,l3,?_,fun c hc=>?_,fun c d i hc hd e e'=>?_⟩
 ·obtain ⟨_,_,_,_,_,_,_,_,_,_,_,h5,_⟩:=hrow c h
  exact h5
 ·refine List.Pairwise.imp_of_mem (fun {a b} ha hb h=>?_) l4
  have hb':=I.h.lt b ((l2 b).1 hb)
  unfold frL toL at h
  rw [if_neg (hend b hb')] at h
  exact h
 ·obtain ⟨f,t,k,a,w,e,m,v,e1,e2,e3,e4,e5⟩:=hrow c hc
  exact ⟨f,t,k,a,w,e,m,v,e1,e2,e3,e5⟩
 ·obtain ⟨_,_,_,_,_,_,_,_,_,_,_,h5,_⟩:=hrow c hc
  obtain ⟨_,_,_,_,_,_,_,_,_,_,_,h6,_⟩:=hrow d hd
  exact good_unl I.h.G h5 h6 e e'
theorem rest_way {zs:List Int} {m:Nat} (hm:m≤400) (I:CI n H m σ g):∃ σ',PW zs plK (slK 3) [.code .ret] slE σ σ'∧FinC n σ'.ks σ'.cl∧Nums n H σ'.ks σ'.hs∧σ'.cl.length≤400:=by
 have hb:=bN_le I.N.g
 obtain ⟨s2,g2,m2,w2,I2,b2,o23,_,_,_,c2⟩:=solo3 (zs:=zs) I (by omega)
 obtain ⟨s3,g3,m3,w3,I3,b3,o32,_,_,o33,c3⟩:=solo2 (zs:=zs) I2 (by omega)
 obtain ⟨s4,g4,m4,w4,I4,b4,o41,_,o42,o43,c4⟩:=solo1 (zs:=zs) I3 (by omega)
 obtain ⟨s5,g5,m5,w5,I5,b5,o50,o51,o52,o53,c5⟩:=solo0 (zs:=zs) I4 (by omega)
 have bcl:=I.b.cl
 exact ⟨s5,w2.trans (w3.trans (w4.trans (w5.trans wKE))),I5.fin (by omega) (by omega) (by omega) (by omega),I5.N,by omega⟩
theorem plays_way {zs:List Int} {len cap:Nat} (hl:len=zs.length) (h400:len≤400) (I:CI n H 0 σ g):∃ σ',PW zs plH (slH len cap 0) [.code .ret] slE σ σ'∧FinC n σ'.ks σ'.cl∧Nums n H σ'.ks σ'.hs∧σ'.cl.length≤400:=by
 obtain ⟨s1,g1,w1,I1⟩:=loopH (zs:=zs) (cap:=cap) hl h400 len 0 σ g (by omega) I
 have p1:PW zs plH (slH len cap len) plK (slK 3) s1 s1:=wHK (by omega)
 obtain ⟨s2,w2,h2,h3⟩:=rest_way (zs:=zs) h400 I1
 exact ⟨s2,w1.trans (p1.trans w2),h2,h3⟩
end
end Go.Sx
namespace Go.Sx
open Go.Ql (SInv FInv fstep updF XX XW lkd RW liv insK Ent XT)
theorem stW_ne {q:Nat}:∀ {l:List (Int×Int)} {ws:List Int},(∀ p∈l,p.1.toNat≠q)→(stW l ws).getD q 0=ws.getD q 0
 |[],_,_=>rfl
 |(a,v)::l,ws,h=>by
  rw [stW,stW_ne fun p hp=>h p (by simp [hp]),XU (h (a,v) (by simp))]
theorem stW_zero {q:Nat}:∀ {l:List (Int×Int)} {ws:List Int},ws.getD q 0=0→(∀ p∈l,p.1.toNat=q→p.2=0)→(stW l ws).getD q 0=0
 |[],_,h,_=>h
 |(a,v)::l,ws,h,h1=>by
  rw [stW]
  refine stW_zero ?_ fun p hp=>h1 p (by simp [hp])
  by_cases e:a.toNat=q
  ·have hv:v=0:=h1 (a,v) (by simp) e
   subst e;subst hv
   by_cases hl:a.toNat<ws.length
   ·exact XV hl
   ·rw [List.getD_eq_getElem?_getD,List.getElem?_eq_none (by rw [List.length_set];omega)];rfl
  ·rw [XU e];exact h
section
variable {n H:Nat} {x:V} {zs:List Int}
theorem fill_ad (g:Geo n H) {l:Nat} {k:Int} (h:dm n H l k):(fillW n H (List.replicate 4096 0)).getD (ad n H l k) 0=0:=by
 have h2:=(ad_lt g h).2
 refine stW_zero (by rw [List.getD_eq_getElem?_getD,List.getElem?_replicate];split<;>rfl) fun p hp e=>?_
 unfold fillL at hp
 simp only [List.mem_append,List.mem_map,List.mem_range,List.mem_singleton] at hp
 rcases hp with ((((hp|⟨i,hi,rfl⟩)|hp)|⟨i,hi,rfl⟩)|hp)|⟨i,hi,rfl⟩
 ·subst hp;simp only [] at e;omega
 ·simp only [] at e;omega
 ·subst hp;rfl
 ·simp only [] at e;omega
 ·subst hp;rfl
 ·rfl
theorem pd_inj2 (g:Geo n H) {i k:Nat} {p q:Int} (hi:i<n) (hk:k<n) (h2:0≤p) (h3:p<4) (q0:0≤q) (q1:q<4) (e:pd n H i p=pd n H k q):p=q∧i=k:=by
 have h:=pd_inj g (i:=i) (k:=k) (by omega) (by omega) h2 h3 (by omega) (by omega) q0 q1 e
 subst h
 refine ⟨rfl,?_⟩
 rw [pd_val,pd_val] at e
 rcases g.h with rfl|rfl|rfl|rfl<;>omega
structure WZ (n H i:Nat) (ks hs ws:List Int):Prop where
 z:∀ l k,dm n H l k→ws.getD (ad n H l k) 0=0
 k:∀ q:Nat,q<i→ws.getD (pd n H q 0) 0=ks.getD q 0
 j:∀ q:Nat,q<i→ws.getD (pd n H q 1) 0=q
 h:∀ q:Nat,q<i→ws.getD (pd n H q 2) 0=hs.getD q 0
theorem wz_ok (g:Geo n H):∀ i,i≤n→WZ n H i (kz x zs n i) (hz x zs H i) (wz x zs n H i)
 |0,_=>⟨fun l k h=>fill_ad g h,fun q h=>absurd h (Nat.not_lt_zero _),fun q h=>absurd h (Nat.not_lt_zero _),fun q h=>absurd h (Nat.not_lt_zero _)⟩
 |i+1,hi=>by
  have W:=wz_ok g i (by omega)
  have lw:=wz_len x zs n H i
  obtain ⟨g1,g2,g3,g4⟩:=id g
  have hh:=hB_rg (v:=vN x zs i) g3 g4
  have hm:∀ p∈bgL n H i (kz x zs n (i+1)) (hz x zs H (i+1)),∃ r:Int,0≤r∧r<4∧p.1.toNat=pd n H i r:=fun p hp=>by
   unfold bgL at hp
   simp only [List.mem_cons,List.not_mem_nil,or_false] at hp
   rcases hp with rfl|rfl|rfl|rfl
   ·exact ⟨0,by decide,by decide,rfl⟩
   ·exact ⟨1,by decide,by decide,rfl⟩
   ·exact ⟨2,by decide,by decide,rfl⟩
   ·exact ⟨3,by decide,by decide,rfl⟩
  have hold:∀ (q:Nat) (r:Int),q<i→0≤r→r<4→(wz x zs n H (i+1)).getD (pd n H q r) 0=(wz x zs n H i).getD (pd n H q r) 0:=fun q r hq r0 r1=>by
   rw [wz]
   refine stW_ne fun p hp e=>?_
   obtain ⟨s,s0,s1,e2⟩:=hm p hp
   have:=(pd_inj2 g (by omega) (by omega) s0 s1 r0 r1 (e2.symm.trans e)).2
   omega
  have hne:∀ a b:Int,0≤a→a<4→0≤b→b<4→a≠b→pd n H i a≠pd n H i b:=fun a b a0 a1 b0 b1 hab e=>hab (pd_inj2 g (by omega) (by omega) a0 a1 b0 b1 e).1
  have hlt:∀ a:Int,0≤a→a<4→pd n H i a<4096:=fun a a0 a1=>pd_lt g (by omega) (by omega) a0 a1
  have new:(wz x zs n H (i+1))=((((wz x zs n H i).set (pd n H i 0) ((kz x zs n (i+1)).getD i 0)).set (pd n H i 1) (i:Int)).set (pd n H i 2) (IntKind.u64.wrap ((hz x zs H (i+1)).getD i 0))).set (pd n H i 3) 2:=rfl
  refine ⟨fun l k h=>?_,fun q hq=>?_,fun q hq=>?_,fun q hq=>?_⟩
  ·rw [wz,stW_ne fun p hp e=>?_]
   ·exact W.z l k h
   ·obtain ⟨s,s0,s1,e2⟩:=hm p hp
    exact pd_ne g h (by omega) (by omega) s0 s1 (e2.symm.trans e)
  ·by_cases e:q<i
   ·rw [hold q 0 e (by decide) (by decide),W.k q e,kz_get e,kz_get hq]
   ·have:q=i:=by omega
    subst this
    rw [new,XU (hne 3 0 (by decide) (by decide) (by decide) (by decide) (by decide)),XU (hne 2 0 (by decide) (by decide) (by decide) (by decide) (by decide)),XU (hne 1 0 (by decide) (by decide) (by decide) (by decide) (by decide)),XV (by rw [lw];exact hlt 0 (by decide) (by decide))]
  ·by_cases e:q<i
   ·rw [hold q 1 e (by decide) (by decide),W.j q e]
   ·have:q=i:=by omega
    subst this
    rw [new,XU (hne 3 1 (by decide) (by decide) (by decide) (by decide) (by decide)),XU (hne 2 1 (by decide) (by decide) (by decide) (by decide) (by decide)),XV (by rw [List.length_set,lw];exact hlt 1 (by decide) (by decide))]
  ·by_cases e:q<i
   ·rw [hold q 2 e (by decide) (by decide),W.h q e,hz_get e,hz_get hq]
   ·have:q=i:=by omega
    subst this
    rw [new,XU (hne 3 2 (by decide) (by decide) (by decide) (by decide) (by decide)),XV (by rw [List.length_set,List.length_set,lw];exact hlt 2 (by decide) (by decide)),hz_get hq,XY (by omega) (by omega)]
theorem nums_ok (g:Geo n H):Nums n H (kz x zs n n) (hz x zs H n):=by
 obtain ⟨g1,g2,g3,g4⟩:=id g
 have hk:∀ i:Int,0≤i→i<n→keyF (kz x zs n n) i=1+vN x zs i.toNat % 50*n+i:=fun i h0 h1=>by
  unfold keyF
  rw [kz_get (by omega),kB_eq (vN_rg x zs _).1 g2 (by omega)]
  omega
 have hn:n=1∨n=2∨n=3∨n=4∨n=5∨n=6:=by omega
 refine ⟨g,kz_len,hz_len,fun i h0 h1=>?_,fun i k h0 h1 k0 k1 e=>?_,fun i h0 h1=>?_⟩
 ·rw [hk i h0 h1]
  generalize vN x zs i.toNat=v
  rcases hn with rfl|rfl|rfl|rfl|rfl|rfl<;>omega
 ·rw [hk i h0 h1,hk k k0 k1] at e
  revert e
  generalize vN x zs i.toNat=v
  generalize vN x zs k.toNat=w
  intro e
  rcases hn with rfl|rfl|rfl|rfl|rfl|rfl<;>omega
 ·rw [hz_get (by omega)]
  exact hB_rg g3 g4
def σS (n H:Nat) (j:MJ) (ws ks hs:List Int):CS:=⟨tw n H,szW n H,ks,hs,j,ws,[],[],[],[],[],[],-1,-1,-1,-1,0,.none,.none,.none,.none⟩
def fd0:Ql.Fd:=⟨0,0,0,0,0,fun _=>(0,0)⟩
def gS:GhC:=⟨fun _ _=>-1,fun _ _=>false,fun _=>0,fun _=>[],fun _=>.put 0,[],fd0,fd0,fd0⟩
theorem ci_begin (g:Geo n H) {j:MJ}:CI n H 0 (σS n H j (wz x zs n H n) (kz x zs n n) (hz x zs H n)) gS:=by
 have N:=nums_ok g (x:=x) (zs:=zs)
 have W:=wz_ok g (x:=x) (zs:=zs) n (Nat.le_refl _)
 refine {N:=N,t:=rfl,sz:=rfl,W:=⟨wz_len x zs n H n,fun l i h=>W.z l i h,fun l i h=>⟨by show -1≤(-1:Int);decide,by show (-1:Int)<n;omega⟩,fun i h0 h1=>?_,fun i h0 h1=>?_,fun i h0 h1=>?_⟩,V:=?_,h:=?_,opn:=fun c hc=>absurd hc (Nat.not_lt_zero _),i:=rfl,k1:=rfl,k2:=rfl,p:=rfl,df:=fun _=>rfl,fut:=fun i _=>⟨rfl,fun _=>rfl⟩,cn:=Nat.zero_le _,gt:=fun i hi=>(by cases hi),g1:=fun i hi=>hi.elim,g2:=fun i hi=>hi.elim,tl:=fun y hy=>(by cases hy),b:=⟨Nat.le_refl _,Int.le_refl 0,Nat.le_refl _,Nat.le_refl _,Nat.le_refl _,Nat.le_refl _,Nat.le_refl _⟩}
 ·have:=W.k i.toNat (by omega)
  rw [show ((i.toNat:Nat):Int)=i by omega] at this
  exact this
 ·have:=W.j i.toNat (by omega)
  rw [show ((i.toNat:Nat):Int)=i by omega] at this
  exact this
 ·have:=W.h i.toNat (by omega)
  rw [show ((i.toNat:Nat):Int)=i by omega] at this
  exact this
 ·refine ⟨fun l hl=>⟨rfl,List.Pairwise.nil,fun i hi=>(by cases hi),fun i hi=>?_,fun i _=>.inl rfl,fun i hi=>hi.1⟩,fun i=>Nat.zero_le _,fun i=>?_,fun l=>rfl,fun i l _ h=>(by cases h)⟩
  ·exact absurd hi.2.2 (Nat.not_lt_zero _)
  ·unfold hiF
   split
   ·rename_i h
    have:=N.h1 i h.1 h.2
    show ((hz x zs H n).getD i.toNat 0).toNat≤H
    omega
   ·exact Nat.zero_le _
 ·refine ⟨⟨trivial,rfl,fun x hx=>(by cases hx),List.Pairwise.nil,List.nodup_nil,fun x hx=>(by cases hx),fun x hx=>(by cases hx),fun pre x suf e=>(by cases pre<;>cases e),fun pre x suf e=>(by cases pre<;>cases e)⟩,Int.le_refl 0,fun x hx=>(by cases hx),fun c hc=>(by cases hc),fun c hc=>absurd hc (Nat.not_lt_zero _)⟩
end
end Go.Sx
