/- An Insert's step: its other lines. -/
import Derived.Test.YtpnpmkdijmeddaaGreatScD4
set_option maxRecDepth 100000
namespace Go.Sx
open Go.Ql (SInv FInv IInv fstep updF XX XW lkd RW TG liv insK)
theorem up2_self {α:Type} {f:Nat→Int→α} {l:Nat} {i:Int}:up2 f l i (f l i)=f:=by
 funext a b
 by_cases h:a=l∧b=i
 ·obtain ⟨rfl,rfl⟩:=h;exact up2_eq
 ·exact up2_ne h
section
variable {n H:Nat} {ks hs ws:List Int} {nx:Nat→Int→Int} {mk:Nat→Int→Bool} {lev:Int→Nat} {C:Nat→List Int} {i:Int} {x:InsC} {f:FdC} {rs:List (List Int)} {fd:Ql.Fd} {j:MJ}
theorem pOK_rg {k p:Int} {l:Nat} (h:Ql.pOK n (keyF ks) k lev l p):-1≤p∧p<n:=by
 rcases h with h|h
 ·omega
 ·have:=h.1.1;have:=h.1.2.1;omega
theorem sOK_rg {k p:Int} {l:Nat} (h:Ql.sOK n (keyF ks) k lev l p):-1≤p∧p<n:=by
 rcases h with h|h
 ·omega
 ·have:=h.1.1;have:=h.1.2.1;omega
theorem RW.ownW {l:Nat} {v:Int} (hl:lev i≤l):RW n i nx mk lev (up2 nx l i v) mk lev:=
 ⟨fun _=>Nat.le_refl _,fun _ _=>rfl,fun _ _ h=>h,fun m k hk _=>up2_ne fun e=>by
  obtain ⟨rfl,rfl⟩:=e
  have:=hk.2.2
  omega,fun k _ hk m _=>up2_ne fun e=>hk e.2,fun _ _ _=>rfl⟩
theorem IR.own (R:IR n H ks hs nx mk lev i x f rs fd) (N:Nums n H ks hs) (W:WI n H ks hs nx mk ws) (V:SInv H n (keyF ks) (hiF n hs) nx mk lev C) (h9:fd.ln=9) (F:FR n H (keyF ks i) f rs fd) (I:FInv H n (keyF ks) (keyF ks i) nx mk lev fd)
  {l:Nat} (hl:x.lv=l) (hh:l<hiF n hs i) (hlev:lev i≤l) (hm:mk l i=false):
  WI n H ks hs (up2 nx l i (fd.told l).2) mk (ws.set (nxA x.t x.i x.lv).toNat (tsu rs x.lv))∧SInv H n (keyF ks) (hiF n hs) (up2 nx l i (fd.told l).2) mk lev C∧RW n i nx mk lev (up2 nx l i (fd.told l).2) mk lev∧FInv H n (keyF ks) (keyF ks i) (up2 nx l i (fd.told l).2) mk lev fd:=by
 have hd:=R.dm N hh
 have hr:=sOK_rg (I.tld l hd.2 (.inr h9)).2
 rw [R.ad hl,(F.told hd.2 h9 (by omega:x.lv.toNat=l)).2]
 have hW:=W.set (b:=false) N.g hd hr.1 hr.2
 rw [← hm,up2_self,hm] at hW
 have hR:RW n i nx mk lev (up2 nx l i (fd.told l).2) mk lev:=RW.ownW hlev
 exact ⟨hW,V.own R.B.i0 hlev,hR,hR.fi I⟩
theorem i_l2 (R:IR n H ks hs nx mk lev i x f rs fd) (N:Nums n H ks hs) (W:WI n H ks hs nx mk ws) (V:SInv H n (keyF ks) (hiF n hs) nx mk lev C) (hx:x.ln=2):
  IOut n H ks hs nx mk lev C i x fd (istC x f rs j ws).x (istC x f rs j ws).f (istC x f rs j ws).rs (istC x f rs j ws).ws:=by
 have et:x.ln.toNat=2:=by omega
 obtain ⟨l,hl⟩:∃ l:Nat,x.lv=l:=⟨x.lv.toNat,by have:=R.lv;omega⟩
 have elt:x.lv.toNat=l:=by omega
 have I:=R.I.fi (by show 1≤x.ln.toNat∧x.ln.toNat≤8∨_;omega)
 have h9:fd.ln=9:=R.I.fe (by show 2≤x.ln.toNat∧x.ln.toNat≤6∨_;omega)
 obtain ⟨z1,z2⟩:=R.I.l0 (by show 1≤x.ln.toNat∧x.ln.toNat≤3;omega)
 obtain ⟨s1,s2⟩:=R.I.st et
 have s1:x.lv.toNat<hiF n hs i:=s1
 have s2:∀ m,m<x.lv.toNat→nx m i=(fd.told m).2:=s2
 rw [elt] at s1 s2
 have F:=R.F (by omega)
 obtain ⟨a1,a2,a3,a4⟩:=R.own N W V h9 F I hl s1 (by omega) (z2 l)
 have hnew:∀ m,m<l+1→up2 nx l i (fd.told l).2 m i=(fd.told m).2:=fun m hm=>by
  by_cases e:m=l
  ·subst e;exact up2_eq
  ·rw [up2_ne (fun h=>e h.1)];exact s2 m (by omega)
 have B':=R.B.ki (KI_ist x f rs j ws)
 unfold istC at B' ⊢
 rw [if_neg (show ¬ x.ln=1 by omega),if_pos hx] at B' ⊢
 have hhi:=R.B.hi
 by_cases e:x.lv+1<x.high
 ·have e1:(if x.lv+1<x.high then x.lv+1 else 0)=((l+1:Nat):Int):=by rw [if_pos e];omega
  refine ⟨_,_,_,C,fd,a1,a2,a3,IR.of B' R.fb 2 (l+1) (if_pos e) e1 (by omega) (by omega) (fun _=>⟨F,a4⟩) (fun _=>h9) (by omega) (fun _=>⟨z1,z2⟩) (fun _=>⟨by omega,hnew⟩) (by omega) (by omega) (by omega) (by omega) (by omega),.inl ⟨rfl,Iff.rfl⟩,fun m hm=>?_⟩
  have h1:=hm.l2 hx
  refine IL.of 2 (if_pos e) (by omega) (fun _=>?_) (by omega) (by omega) (by omega) (by omega) (by omega) (by omega) (by omega) (by omega) (by omega)
  show (_∧_+(hiF n hs i - (if x.lv+1<x.high then x.lv+1 else 0).toNat)≤m)∨_+(hiF n hs i - (if x.lv+1<x.high then x.lv+1 else 0).toNat)≤m
  rw [e1]
  rcases h1 with ⟨h,h'⟩|h
  ·exact .inl ⟨h.own I R.B.i0 (by omega),by omega⟩
  ·exact .inr (by omega)
 ·refine ⟨_,_,_,C,fd,a1,a2,a3,IR.of B' R.fb 3 0 (if_neg e) (if_neg e) (by omega) (by omega) (fun _=>⟨F,a4⟩) (fun _=>h9) (by omega) (fun _=>⟨z1,z2⟩) (by omega) (fun _=>⟨rfl,fun m hm=>hnew m (by omega)⟩) (by omega) (by omega) (by omega) (by omega),.inl ⟨rfl,Iff.rfl⟩,fun m hm=>?_⟩
  have h1:=hm.l2 hx
  refine IL.of 3 (if_neg e) (by omega) (by omega) (fun _=>?_) (by omega) (by omega) (by omega) (by omega) (by omega) (by omega) (by omega) (by omega)
  rcases h1 with ⟨h,h'⟩|h
  ·exact .inl ⟨h.own I R.B.i0 (by omega),by omega⟩
  ·exact .inr (by omega)
theorem IR.hang (R:IR n H ks hs nx mk lev i x f rs fd) (N:Nums n H ks hs) (W:WI n H ks hs nx mk ws) (V:SInv H n (keyF ks) (hiF n hs) nx mk lev C) (h9:fd.ln=9) (F:FR n H (keyF ks i) f rs fd) (I:FInv H n (keyF ks) (keyF ks i) nx mk lev fd)
  {l:Nat} (hl:x.lv=l) (hh:l<hiF n hs i) (hlev:lev i=l) (hf:nx l i=(fd.told l).2):
  (hgOK x rs ws↔nx l (fd.told l).1=(fd.told l).2∧mk l (fd.told l).1=false)∧(¬ hgOK x rs ws→hgW x rs ws=ws)∧(hgOK x rs ws→WI n H ks hs (up2 nx l (fd.told l).1 i) mk (hgW x rs ws)∧
   SInv H n (keyF ks) (hiF n hs) (up2 nx l (fd.told l).1 i) mk (updF lev i (l+1)) (fun m=>if m=l then insK (keyF ks) i (C m) else C m)∧RW n i nx mk lev (up2 nx l (fd.told l).1 i) mk (updF lev i (l+1))∧FInv H n (keyF ks) (keyF ks i) (up2 nx l (fd.told l).1 i) mk (updF lev i (l+1)) fd):=by
 have hd:=R.dm N hh
 obtain ⟨p1,p2⟩:=I.tld l hd.2 (.inr h9)
 have hp:=pOK_rg p1
 have hs':=sOK_rg p2
 have hdp:Sx.dm n H l (fd.told l).1:=⟨by have:=hp;omega,hd.2⟩
 obtain ⟨t1,t2⟩:=F.told hd.2 h9 (by omega:x.lv.toNat=l)
 have ea:(hgA x rs).toNat=Sx.ad n H l (fd.told l).1:=by unfold hgA;rw [R.B.t,t1,hl];rfl
 have hr:=W.rg _ _ hdp
 have hiff:hgOK x rs ws↔nx l (fd.told l).1=(fd.told l).2∧mk l (fd.told l).1=false:=by
  unfold hgOK
  rw [ea,W.lk _ _ hdp,t2]
  exact lk_inj N.g hr.1 hr.2 hs'.1 hs'.2
 refine ⟨hiff,fun h=>?_,fun h=>?_⟩
 ·unfold hgW casW
  unfold hgOK at h
  rw [if_neg h]
 ·obtain ⟨c1,c2⟩:=hiff.1 h
  have hW:=W.set (v:=i) (b:=false) N.g hdp (by have:=R.B.i0;omega) R.B.i1
  rw [← c2,up2_self,c2] at hW
  have hR:RW n i nx mk lev (up2 nx l (fd.told l).1 i) mk (updF lev i (l+1)):=by
   refine ⟨fun k=>?_,fun k hk=>XW hk,fun _ _ h=>h,fun m k hk hmk=>up2_ne fun e=>?_,fun k k0 hk m hm=>up2_ne fun e=>?_,fun _ _ _=>rfl⟩
   ·by_cases e:k=i
    ·subst e;rw [XX];omega
    ·rw [XW e];exact Nat.le_refl _
   ·obtain ⟨rfl,rfl⟩:=e
    rw [c2] at hmk;cases hmk
   ·obtain ⟨rfl,rfl⟩:=e
    rcases p1 with h|h
    ·omega
    ·have:=h.1.2.2;omega
  refine ⟨?_,Ql.hang V (fun a b a0 a1 b0 b1 e=>N.ki a b a0 a1 b0 b1 e) I h9 R.B.i0 R.B.i1 hlev hh hf c1 c2,hR,hR.fi I⟩
  unfold hgW casW
  unfold hgOK at h
  rw [if_pos h,ea,R.B.ref]
  exact hW
theorem IR.new (R:IR n H ks hs nx mk lev i x f rs fd) (N:Nums n H ks hs):FR n H (keyF ks i) (newF x.t x.key) (newR x.t) (Ql.Fd.anew H fd)∧FInv H n (keyF ks) (keyF ks i) nx mk lev (Ql.Fd.anew H fd):=by
 rw [R.B.t,R.B.key]
 obtain ⟨g1,g2,g3,g4⟩:=N.g
 exact ⟨FR.new N.g (p:=fd.p) (c:=fd.c) (w:=fd.w) (td:=fd.told),Ql.FInv.anew (by omega)⟩
theorem i_l3 (R:IR n H ks hs nx mk lev i x f rs fd) (N:Nums n H ks hs) (W:WI n H ks hs nx mk ws) (V:SInv H n (keyF ks) (hiF n hs) nx mk lev C) (hx:x.ln=3):
  (hgOK x rs ws→IOut n H ks hs nx mk lev C i x fd (istC x f rs j ws).x (istC x f rs j ws).f (istC x f rs j ws).rs (istC x f rs j ws).ws)∧
  (¬ hgOK x rs ws→IOut n H ks hs nx mk lev C i x fd (istC x f rs j ws).x (newF x.t x.key) (newR x.t) (istC x f rs j ws).ws):=by
 have hl:=R.l3 hx
 have I:=R.I.fi (by show 1≤x.ln.toNat∧x.ln.toNat≤8∨_;omega)
 have h9:fd.ln=9:=R.I.fe (by show 2≤x.ln.toNat∧x.ln.toNat≤6∨_;omega)
 obtain ⟨z1,z2⟩:=R.I.l0 (by show 1≤x.ln.toNat∧x.ln.toNat≤3;omega)
 have en:∀ l,l<hiF n hs i→nx l i=(fd.told l).2:=R.I.en (by show x.ln.toNat=3;omega)
 have hh:=N.hi R.B.i0 R.B.i1
 have F:=R.F (by omega)
 obtain ⟨c1,c2,c3⟩:=R.hang N W V h9 F I (l:=0) hl (by omega) z1 (en 0 (by omega))
 have B':=R.B.ki (KI_ist x f rs j ws)
 have hhi:=R.B.hi
 obtain ⟨g1,g2,g3,g4⟩:=id N.g
 unfold istC at B' ⊢
 rw [if_neg (show ¬ x.ln=1 by omega),if_neg (show ¬ x.ln=2 by omega),if_pos hx] at B' ⊢
 refine ⟨fun hg=>?_,fun hg=>?_⟩
 ·rw [if_pos hg] at B' ⊢
  obtain ⟨d1,d2,d3,d4⟩:=c3 hg
  have hlv:liv (mk 0) ((fun m=>if m=0 then insK (keyF ks) i (C m) else C m) 0)=insK (keyF ks) i (liv (mk 0) (C 0)):=by
   simp only [if_true]
   exact Ql.liv_link (V.lv 0 (by omega)) (z2 0)
  have hup:updF lev i (0+1) i=1:=XX
  by_cases e:(1:Int)≥x.high
  ·have eu:upL x.high 1=((9:Nat):Int):=if_pos e
   refine ⟨_,_,_,_,fd,d1,d2,d3,IR.of B' R.fb 9 1 eu rfl (by omega) (by omega) (by omega) (by omega) (by omega) (by omega) (by omega) (by omega) (by omega) (by omega) (fun _=>by omega) (by omega),.inr ⟨hlv,z1,z2 0,by omega⟩,fun m hm=>?_⟩
   have h1:=hm.l3 hx
   refine IL.of 9 eu (by omega) (by omega) (by omega) (by omega) (by omega) (by omega) (by omega) (by omega) (fun _=>?_) (by omega) (by omega)
   rcases h1 with ⟨h,h'⟩|h<;>omega
  ·have eu:upL x.high 1=((4:Nat):Int):=if_neg e
   refine ⟨_,_,_,_,fd,d1,d2,d3,IR.of B' R.fb 4 1 eu rfl (by omega) (by omega) (fun _=>⟨F,d4⟩) (fun _=>h9) (by omega) (by omega) (by omega) (by omega) (fun _=>⟨by omega,by omega,hup⟩) (by omega) (fun _=>by omega) (by omega),.inr ⟨hlv,z1,z2 0,by omega⟩,fun m hm=>?_⟩
   have h1:=hm.l3 hx
   refine IL.of 4 eu (by omega) (by omega) (by omega) (fun _=>?_) (by omega) (by omega) (by omega) (by omega) (by omega) (by omega) (by omega)
   show (TG H 1 _ _ _∧_+3*(hiF n hs i - 1)≤m)∨_+3*(hiF n hs i - 1)≤m
   rcases h1 with ⟨h,h'⟩|h
   ·exact .inl ⟨(h.mono (Nat.zero_le 1)).up (by omega),by omega⟩
   ·exact .inr (by omega)
 ·rw [if_neg hg] at B' ⊢
  obtain ⟨n1,n2⟩:=R.new N
  have hW:WI n H ks hs nx mk (hgW x rs ws):=by rw [c2 hg];exact W
  obtain ⟨l,hl'⟩:∃ l:Nat,x.lv=l:=⟨x.lv.toNat,by have:=R.lv;omega⟩
  refine ⟨_,_,_,C,_,hW,V,.refl,IR.of B' n1.fb 1 l rfl hl' (by omega) (by omega) (fun _=>⟨n1,n2⟩) (by omega) (fun _ h=>by cases h) (fun _=>⟨z1,z2⟩) (by omega) (by omega) (by omega) (by omega) (by omega) (by omega),.inl ⟨rfl,Iff.rfl⟩,fun m hm=>?_⟩
  have h1:=hm.l3 hx
  refine IL.of 1 rfl (fun _=>?_) (by omega) (by omega) (by omega) (by omega) (by omega) (by omega) (by omega) (by omega) (by omega) (by omega)
  rcases h1 with ⟨h,h'⟩|h
  ·exact absurd (c1.2 (h 0 (Nat.zero_le _) (by omega) (.inr h9))) hg
  ·exact Ql.FL_new V (by omega) (by omega)
theorem IR.mid (R:IR n H ks hs nx mk lev i x f rs fd) (hx:x.ln=4∨x.ln=5∨x.ln=6∨x.ln=8):∃ l:Nat,x.lv=l∧x.lv.toNat=l∧1≤l∧l<hiF n hs i∧lev i=l∧fd.ln=9∧FR n H (keyF ks i) f rs fd∧FInv H n (keyF ks) (keyF ks i) nx mk lev fd:=by
 have hlv:=R.lv
 obtain ⟨u1,u2,u3⟩:=R.I.up (by show 4≤x.ln.toNat∧x.ln.toNat≤8;omega)
 exact ⟨x.lv.toNat,by omega,rfl,u1,u2,u3,R.I.fe (by show 2≤x.ln.toNat∧x.ln.toNat≤6∨x.ln.toNat=8;omega),R.F (by omega),R.I.fi (by show 1≤x.ln.toNat∧x.ln.toNat≤8∨_;omega)⟩
theorem i_l4 (R:IR n H ks hs nx mk lev i x f rs fd) (N:Nums n H ks hs) (W:WI n H ks hs nx mk ws) (V:SInv H n (keyF ks) (hiF n hs) nx mk lev C) (hx:x.ln=4):
  IOut n H ks hs nx mk lev C i x fd (istC x f rs j ws).x (istC x f rs j ws).f (istC x f rs j ws).rs (istC x f rs j ws).ws:=by
 obtain ⟨l,hl,elt,u1,u2,u3,h9,F,I⟩:=R.mid (.inl hx)
 have hd:=R.dm N u2
 have hr:=W.rg _ _ hd
 have hsg:=sOK_rg (I.tld l hd.2 (.inr h9)).2
 have B':=R.B.ki (KI_ist x f rs j ws)
 unfold istC at B' ⊢
 rw [if_neg (show ¬ x.ln=1 by omega),if_neg (show ¬ x.ln=2 by omega),if_neg (show ¬ x.ln=3 by omega),if_pos hx] at B' ⊢
 rw [R.ad hl,W.lk _ _ hd,rM N.g hr.1 hr.2,(F.told hd.2 h9 elt).2] at B' ⊢
 have hiff:=lk_inj (b:=mk l i) (d:=false) N.g hr.1 hr.2 hsg.1 hsg.2
 have go:∀ (x':InsC) (c:Nat),IB n H ks hs i x'→x'.ln=c→x'.lv=x.lv→(c=5∨c=6∨c=9)→(c=5→isLk n x'.w)→(c=6→nx l i=(fd.told l).2)→
   IOut n H ks hs nx mk lev C i x fd x' f rs ws:=fun x' c B' hc hl' h3 h5 h6=>by
  refine ⟨_,_,_,C,fd,W,V,.refl,IR.of B' R.fb c l hc (hl'.trans hl) (by omega) (by omega) (fun _=>⟨F,I⟩) (fun _=>h9) (by omega) (by omega) (by omega) (by omega) (fun _=>⟨u1,u2,u3⟩) h6 (fun _=>by omega) h5,.inl ⟨rfl,Iff.rfl⟩,fun m hm=>?_⟩
  have h1:=hm.l4 hx
  have e2:x'.lv.toNat=x.lv.toNat:=by rw [hl']
  refine IL.of c hc (by omega) (by omega) (by omega) (by omega) (fun _=>?_) (fun _=>?_) (by omega) (by omega) (fun _=>?_) (by omega) (by omega)
  ·rw [e2];exact h1.imp (fun h=>⟨h.1,by omega⟩) fun h=>by omega
  ·rw [e2];exact h1.imp (fun h=>⟨h.1,by omega⟩) fun h=>by omega
  ·rcases h1 with ⟨h,h'⟩|h<;>omega
 cases hm:mk l i with
 |true=>
  rw [hm] at B'
  exact go _ 9 B' rfl rfl (by omega) (by omega) (by omega)
 |false=>
  rw [hm] at B' hiff
  by_cases e:lnkW (nx l i) false=lnkW (fd.told l).2 false
  ·exact go _ 6 B' (by show (if (false:Bool)=true then (9:Int) else if _ then 6 else 5)=_;rw [if_neg (by decide),if_pos e];rfl) rfl (by omega) (by omega) (fun _=>(hiff.1 e).1)
  ·exact go _ 5 B' (by show (if (false:Bool)=true then (9:Int) else if _ then 6 else 5)=_;rw [if_neg (by decide),if_neg e];rfl) rfl (by omega) (fun _=>⟨_,rfl,hr.1,hr.2⟩) (by omega)
theorem i_l5 (R:IR n H ks hs nx mk lev i x f rs fd) (N:Nums n H ks hs) (W:WI n H ks hs nx mk ws) (V:SInv H n (keyF ks) (hiF n hs) nx mk lev C) (hx:x.ln=5):
  IOut n H ks hs nx mk lev C i x fd (istC x f rs j ws).x (istC x f rs j ws).f (istC x f rs j ws).rs (istC x f rs j ws).ws:=by
 obtain ⟨l,hl,elt,u1,u2,u3,h9,F,I⟩:=R.mid (.inr (.inl hx))
 have hd:=R.dm N u2
 have hr:=W.rg _ _ hd
 have B':=R.B.ki (KI_ist x f rs j ws)
 unfold istC at B' ⊢
 rw [if_neg (show ¬ x.ln=1 by omega),if_neg (show ¬ x.ln=2 by omega),if_neg (show ¬ x.ln=3 by omega),if_neg (show ¬ x.ln=4 by omega),if_pos hx] at B' ⊢
 by_cases e:ws.getD (nxA x.t x.i x.lv).toNat 0=x.w
 ·obtain ⟨v,w1,w2,w3⟩:=R.w5 hx
  have hm:mk l i=false:=by
   have e:=e
   rw [R.ad hl,W.lk _ _ hd,w1] at e
   exact ((lk_inj N.g hr.1 hr.2 w2 w3).1 e).2
  obtain ⟨a1,a2,a3,a4⟩:=R.own N W V h9 F I hl u2 (by omega) hm
  have ew:casW ws (nxA x.t x.i x.lv).toNat x.w (tsu rs x.lv)=ws.set (nxA x.t x.i x.lv).toNat (tsu rs x.lv):=if_pos e
  rw [ew]
  refine ⟨_,_,_,C,fd,a1,a2,a3,IR.of B' R.fb 6 l (if_pos e) hl (by omega) (by omega) (fun _=>⟨F,a4⟩) (fun _=>h9) (by omega) (by omega) (by omega) (by omega) (fun _=>⟨u1,u2,u3⟩) (fun _=>up2_eq) (fun _=>by omega) (by omega),.inl ⟨rfl,Iff.rfl⟩,fun m hm=>?_⟩
  have h1:=hm.l5 hx
  refine IL.of 6 (if_pos e) (by omega) (by omega) (by omega) (by omega) (by omega) (fun _=>?_) (by omega) (by omega) (by omega) (by omega) (by omega)
  exact h1.imp (fun h=>⟨h.1.own I R.B.i0 (by omega),by show _+3*(hiF n hs i - x.lv.toNat)≤m;omega⟩) fun h=>by show _+3*(hiF n hs i - x.lv.toNat)≤m;omega
 ·have ew:casW ws (nxA x.t x.i x.lv).toNat x.w (tsu rs x.lv)=ws:=if_neg e
  rw [ew]
  refine ⟨_,_,_,C,fd,W,V,.refl,IR.of B' R.fb 9 l (if_neg e) hl (by omega) (by omega) (by omega) (by omega) (by omega) (by omega) (by omega) (by omega) (by omega) (by omega) (fun _=>by omega) (by omega),.inl ⟨rfl,Iff.rfl⟩,fun m hm=>?_⟩
  have h1:=hm.l5 hx
  refine IL.of 9 (if_neg e) (by omega) (by omega) (by omega) (by omega) (by omega) (by omega) (by omega) (by omega) (fun _=>?_) (by omega) (by omega)
  rcases h1 with ⟨h,h'⟩|h<;>omega
theorem i_l6 (R:IR n H ks hs nx mk lev i x f rs fd) (N:Nums n H ks hs) (W:WI n H ks hs nx mk ws) (V:SInv H n (keyF ks) (hiF n hs) nx mk lev C) (hx:x.ln=6):
  (hgOK x rs ws→IOut n H ks hs nx mk lev C i x fd (istC x f rs j ws).x (istC x f rs j ws).f (istC x f rs j ws).rs (istC x f rs j ws).ws)∧
  (¬ hgOK x rs ws→IOut n H ks hs nx mk lev C i x fd (istC x f rs j ws).x (newF x.t x.key) (newR x.t) (istC x f rs j ws).ws):=by
 obtain ⟨l,hl,elt,u1,u2,u3,h9,F,I⟩:=R.mid (.inr (.inr (.inl hx)))
 have li:nx x.lv.toNat i=(fd.told x.lv.toNat).2:=R.I.li (by show x.ln.toNat=6;omega)
 rw [elt] at li
 have hd:=R.dm N u2
 obtain ⟨c1,c2,c3⟩:=R.hang N W V h9 F I hl u2 u3 li
 have B':=R.B.ki (KI_ist x f rs j ws)
 have hhi:=R.B.hi
 obtain ⟨g1,g2,g3,g4⟩:=id N.g
 unfold istC at B' ⊢
 rw [if_neg (show ¬ x.ln=1 by omega),if_neg (show ¬ x.ln=2 by omega),if_neg (show ¬ x.ln=3 by omega),if_neg (show ¬ x.ln=4 by omega),if_neg (show ¬ x.ln=5 by omega),if_pos hx] at B' ⊢
 refine ⟨fun hg=>?_,fun hg=>?_⟩
 ·rw [if_pos hg] at B' ⊢
  obtain ⟨d1,d2,d3,d4⟩:=c3 hg
  have hlv:liv (mk 0) ((fun m=>if m=l then insK (keyF ks) i (C m) else C m) 0)=liv (mk 0) (C 0):=by
   simp only [if_neg (show ¬ 0=l by omega)]
  have hup:updF lev i (l+1) i=l+1:=XX
  have hle:x.lv+1=((l+1:Nat):Int):=by omega
  by_cases e:x.lv+1≥x.high
  ·have eu:upL x.high (x.lv+1)=((9:Nat):Int):=if_pos e
   refine ⟨_,_,_,_,fd,d1,d2,d3,IR.of B' R.fb 9 (l+1) eu hle (by omega) (by omega) (by omega) (by omega) (by omega) (by omega) (by omega) (by omega) (by omega) (by omega) (fun _=>by omega) (by omega),.inl ⟨hlv,by omega⟩,fun m hm=>?_⟩
   have h1:=hm.l6 hx
   refine IL.of 9 eu (by omega) (by omega) (by omega) (by omega) (by omega) (by omega) (by omega) (by omega) (fun _=>?_) (by omega) (by omega)
   rcases h1 with ⟨h,h'⟩|h<;>omega
  ·have eu:upL x.high (x.lv+1)=((4:Nat):Int):=if_neg e
   refine ⟨_,_,_,_,fd,d1,d2,d3,IR.of B' R.fb 4 (l+1) eu hle (by omega) (by omega) (fun _=>⟨F,d4⟩) (fun _=>h9) (by omega) (by omega) (by omega) (by omega) (fun _=>⟨by omega,by omega,hup⟩) (by omega) (fun _=>by omega) (by omega),.inl ⟨hlv,by omega⟩,fun m hm=>?_⟩
   have h1:=hm.l6 hx
   refine IL.of 4 eu (by omega) (by omega) (by omega) (fun _=>?_) (by omega) (by omega) (by omega) (by omega) (by omega) (by omega) (by omega)
   show (TG H (x.lv+1).toNat _ _ _∧_+3*(hiF n hs i - (x.lv+1).toNat)≤m)∨_+3*(hiF n hs i - (x.lv+1).toNat)≤m
   rcases h1 with ⟨h,h'⟩|h
   ·exact .inl ⟨(h.mono (by omega)).up (by omega),by omega⟩
   ·exact .inr (by omega)
 ·rw [if_neg hg] at B' ⊢
  obtain ⟨n1,n2⟩:=R.new N
  have hW:WI n H ks hs nx mk (hgW x rs ws):=by rw [c2 hg];exact W
  refine ⟨_,_,_,C,_,hW,V,.refl,IR.of B' n1.fb 7 l rfl hl (by omega) (by omega) (fun _=>⟨n1,n2⟩) (by omega) (fun _ h=>by cases h) (by omega) (by omega) (by omega) (fun _=>⟨u1,u2,u3⟩) (by omega) (fun _=>by omega) (by omega),.inl ⟨rfl,Iff.rfl⟩,fun m hm=>?_⟩
  have h1:=hm.l6 hx
  refine IL.of 7 rfl (by omega) (by omega) (by omega) (by omega) (by omega) (by omega) (fun _=>?_) (by omega) (by omega) (by omega) (by omega)
  show Ql.FL H n (keyF ks) nx mk _ (_+3*(hiF n hs i - x.lv.toNat)) (_+3*(hiF n hs i - x.lv.toNat)) m
  rcases h1 with ⟨h,h'⟩|h
  ·exact absurd (c1.2 (h l (by omega) hd.2 (.inr h9))) hg
  ·exact Ql.FL_new V (by omega) (by omega)
theorem i_l7 (R:IR n H ks hs nx mk lev i x f rs fd) (N:Nums n H ks hs) (W:WI n H ks hs nx mk ws) (V:SInv H n (keyF ks) (hiF n hs) nx mk lev C) (hx:x.ln=7):
  IOut n H ks hs nx mk lev C i x fd (istC x f rs j ws).x (istC x f rs j ws).f (istC x f rs j ws).rs (istC x f rs j ws).ws:=by
 obtain ⟨C',a1,a2,a3,a4,a5,a6,a7⟩:=R.seek (j:=j) N W V (.inr (.inl hx))
 have h9:=R.f9 (.inr (.inl hx))
 obtain ⟨u1,u2,u3⟩:=R.I.up (by show 4≤x.ln.toNat∧x.ln.toNat≤8;omega)
 have u1:1≤x.lv.toNat:=u1
 have u2:x.lv.toNat<hiF n hs i:=u2
 have u3:lev i=x.lv.toNat:=u3
 have hl:x.lv=(x.lv.toNat:Nat):=by have:=R.lv;omega
 have eln:=a1.ln
 have B':=R.B.ki (KI_ist x f rs j ws)
 unfold istC at B' ⊢
 rw [if_neg (show ¬ x.ln=1 by omega),if_neg (show ¬ x.ln=2 by omega),if_neg (show ¬ x.ln=3 by omega),if_neg (show ¬ x.ln=4 by omega),if_neg (show ¬ x.ln=5 by omega),if_neg (show ¬ x.ln=6 by omega),if_pos hx] at B' ⊢
 by_cases e:(fstC f rs j ws).x.ln=9
 ·have e':(fstep H (keyF ks) (keyF ks i) nx mk fd).2.ln=9:=by omega
  refine ⟨_,_,_,C',_,a2,a3,a5,IR.of B' a1.fb 8 x.lv.toNat (if_pos e) hl (by omega) (by omega) (fun _=>⟨a1,a6⟩) (fun _=>e') (by omega) (by omega) (by omega) (by omega) (fun _=>⟨u1,u2,u3⟩) (by omega) (fun _=>by omega) (by omega),.inl ⟨a4,Iff.rfl⟩,fun m hm=>?_⟩
  have h1:=Ql.FL_step V a7 h9 (by omega) (hm.l7 hx)
  refine IL.of 8 (if_pos e) (by omega) (by omega) (by omega) (by omega) (by omega) (by omega) (by omega) (fun _=>?_) (by omega) (by omega) (by omega)
  exact (Ql.FL_end h1).imp (fun h=>⟨h.1.mono (Nat.zero_le _),h.2⟩) id
 ·have e':(fstep H (keyF ks) (keyF ks i) nx mk fd).2.ln≠9:=by omega
  refine ⟨_,_,_,C',_,a2,a3,a5,IR.of B' a1.fb 7 x.lv.toNat (if_neg e) hl (by omega) (by omega) (fun _=>⟨a1,a6⟩) (by omega) (fun _=>e') (by omega) (by omega) (by omega) (fun _=>⟨u1,u2,u3⟩) (by omega) (fun _=>by omega) (by omega),.inl ⟨a4,Iff.rfl⟩,fun m hm=>?_⟩
  have h1:=Ql.FL_step V a7 h9 (by omega) (hm.l7 hx)
  exact IL.of 7 (if_neg e) (by omega) (by omega) (by omega) (by omega) (by omega) (by omega) (fun _=>h1) (by omega) (by omega) (by omega) (by omega)
theorem i_l10 (R:IR n H ks hs nx mk lev i x f rs fd) (N:Nums n H ks hs) (W:WI n H ks hs nx mk ws) (V:SInv H n (keyF ks) (hiF n hs) nx mk lev C) (hx:x.ln=10):
  IOut n H ks hs nx mk lev C i x fd (istC x f rs j ws).x (istC x f rs j ws).f (istC x f rs j ws).rs (istC x f rs j ws).ws:=by
 obtain ⟨C',a1,a2,a3,a4,a5,a6,a7⟩:=R.seek (j:=j) N W V (.inr (.inr hx))
 have h9:=R.f9 (.inr (.inr hx))
 have haf:=R.I.af (by show 4≤x.ln.toNat;omega)
 have hl:x.lv=(x.lv.toNat:Nat):=by have:=R.lv;omega
 have eln:=a1.ln
 have B':=R.B.ki (KI_ist x f rs j ws)
 unfold istC at B' ⊢
 rw [if_neg (show ¬ x.ln=1 by omega),if_neg (show ¬ x.ln=2 by omega),if_neg (show ¬ x.ln=3 by omega),if_neg (show ¬ x.ln=4 by omega),if_neg (show ¬ x.ln=5 by omega),if_neg (show ¬ x.ln=6 by omega),if_neg (show ¬ x.ln=7 by omega),if_neg (show ¬ x.ln=8 by omega),if_neg (show ¬ x.ln=9 by omega),if_pos hx] at B' ⊢
 by_cases e:(fstC f rs j ws).x.ln=9
 ·have e':(fstep H (keyF ks) (keyF ks i) nx mk fd).2.ln=9:=by omega
  refine ⟨_,_,_,C',(fstep H (keyF ks) (keyF ks i) nx mk fd).2,a2,a3,a5,IR.of B' a1.fb 11 x.lv.toNat (if_pos e) hl (by omega) (by omega) (by omega) (by omega) (by omega) (by omega) (by omega) (by omega) (by omega) (by omega) (fun _=>haf) (by omega),.inl ⟨a4,Iff.rfl⟩,fun m hm=>?_⟩
  have h1:=Ql.FL_step V a7 h9 (by omega) (hm.l10 hx)
  refine IL.of 11 (if_pos e) (by omega) (by omega) (by omega) (by omega) (by omega) (by omega) (by omega) (by omega) (by omega) (by omega) (fun _=>?_)
  rcases Ql.FL_end h1 with h|h<;>omega
 ·have e':(fstep H (keyF ks) (keyF ks i) nx mk fd).2.ln≠9:=by omega
  refine ⟨_,_,_,C',_,a2,a3,a5,IR.of B' a1.fb 10 x.lv.toNat (if_neg e) hl (by omega) (by omega) (fun _=>⟨a1,a6⟩) (by omega) (fun _=>e') (by omega) (by omega) (by omega) (by omega) (by omega) (fun _=>haf) (by omega),.inl ⟨a4,Iff.rfl⟩,fun m hm=>?_⟩
  have h1:=Ql.FL_step V a7 h9 (by omega) (hm.l10 hx)
  exact IL.of 10 (if_neg e) (by omega) (by omega) (by omega) (by omega) (by omega) (by omega) (by omega) (by omega) (by omega) (fun _=>h1) (by omega)
theorem i_l8 (R:IR n H ks hs nx mk lev i x f rs fd) (N:Nums n H ks hs) (W:WI n H ks hs nx mk ws) (V:SInv H n (keyF ks) (hiF n hs) nx mk lev C) (hx:x.ln=8∨x.ln=9):
  (¬ rawM (ws.getD (nxA x.t x.i 0).toNat 0)=true→IOut n H ks hs nx mk lev C i x fd (istC x f rs j ws).x (istC x f rs j ws).f (istC x f rs j ws).rs (istC x f rs j ws).ws)∧
  (rawM (ws.getD (nxA x.t x.i 0).toNat 0)=true→IOut n H ks hs nx mk lev C i x fd (istC x f rs j ws).x (newF x.t x.key) (newR x.t) (istC x f rs j ws).ws):=by
 have haf:=R.I.af (by show 4≤x.ln.toNat;omega)
 have hl:x.lv=(x.lv.toNat:Nat):=by have:=R.lv;omega
 have B':=R.B.ki (KI_ist x f rs j ws)
 obtain ⟨g1,g2,g3,g4⟩:=id N.g
 unfold istC at B' ⊢
 rw [if_neg (show ¬ x.ln=1 by omega),if_neg (show ¬ x.ln=2 by omega),if_neg (show ¬ x.ln=3 by omega),if_neg (show ¬ x.ln=4 by omega),if_neg (show ¬ x.ln=5 by omega),if_neg (show ¬ x.ln=6 by omega),if_neg (show ¬ x.ln=7 by omega)] at B' ⊢
 rcases hx with hx|hx
 ·obtain ⟨l,hl',elt,u1,u2,u3,h9,F,I⟩:=R.mid (.inr (.inr (.inr hx)))
  rw [if_pos hx] at B' ⊢
  refine ⟨fun hm=>?_,fun hm=>?_⟩
  ·refine ⟨_,_,_,C,fd,W,V,.refl,IR.of B' R.fb 4 l (if_neg hm) hl' (by omega) (by omega) (fun _=>⟨F,I⟩) (fun _=>h9) (by omega) (by omega) (by omega) (by omega) (fun _=>⟨u1,u2,u3⟩) (by omega) (fun _=>haf) (by omega),.inl ⟨rfl,Iff.rfl⟩,fun m h=>?_⟩
   have h1:=h.l8 hx
   refine IL.of 4 (if_neg hm) (by omega) (by omega) (by omega) (fun _=>?_) (by omega) (by omega) (by omega) (by omega) (by omega) (by omega) (by omega)
   exact h1.imp (fun h=>⟨h.1,by show _+3*(hiF n hs i - x.lv.toNat)≤m;omega⟩) fun h=>by show _+3*(hiF n hs i - x.lv.toNat)≤m;omega
  ·obtain ⟨n1,n2⟩:=R.new N
   refine ⟨_,_,_,C,_,W,V,.refl,IR.of B' n1.fb 10 l (if_pos hm) hl' (by omega) (by omega) (fun _=>⟨n1,n2⟩) (by omega) (fun _ h=>by cases h) (by omega) (by omega) (by omega) (by omega) (by omega) (fun _=>haf) (by omega),.inl ⟨rfl,Iff.rfl⟩,fun m h=>?_⟩
   have h1:=h.l8 hx
   refine IL.of 10 (if_pos hm) (by omega) (by omega) (by omega) (by omega) (by omega) (by omega) (by omega) (by omega) (by omega) (fun _=>Ql.FL_new V (by omega) ?_) (by omega)
   rcases h1 with ⟨h,h'⟩|h<;>omega
 ·rw [if_neg (show ¬ x.ln=8 by omega),if_pos hx] at B' ⊢
  refine ⟨fun hm=>?_,fun hm=>?_⟩
  ·refine ⟨_,_,_,C,fd,W,V,.refl,IR.of B' R.fb 11 x.lv.toNat (if_neg hm) hl (by omega) (by omega) (by omega) (by omega) (by omega) (by omega) (by omega) (by omega) (by omega) (by omega) (fun _=>haf) (by omega),.inl ⟨rfl,Iff.rfl⟩,fun m h=>?_⟩
   have h1:=h.l9 hx
   exact IL.of 11 (if_neg hm) (by omega) (by omega) (by omega) (by omega) (by omega) (by omega) (by omega) (by omega) (by omega) (by omega) (fun _=>by omega)
  ·obtain ⟨n1,n2⟩:=R.new N
   refine ⟨_,_,_,C,_,W,V,.refl,IR.of B' n1.fb 10 x.lv.toNat (if_pos hm) hl (by omega) (by omega) (fun _=>⟨n1,n2⟩) (by omega) (fun _ h=>by cases h) (by omega) (by omega) (by omega) (by omega) (by omega) (fun _=>haf) (by omega),.inl ⟨rfl,Iff.rfl⟩,fun m h=>?_⟩
   have h1:=h.l9 hx
   exact IL.of 10 (if_pos hm) (by omega) (by omega) (by omega) (by omega) (by omega) (by omega) (by omega) (by omega) (by omega) (fun _=>Ql.FL_new V (by omega) (by omega)) (by omega)
end
end Go.Sx
namespace Go.Sx
open Go.Ql (SInv FInv IInv fstep updF XX XW lkd RW TG liv insK)
section
variable {n H:Nat} {ks hs ws:List Int} {nx:Nat→Int→Int} {mk:Nat→Int→Bool} {lev:Int→Nat} {C:Nat→List Int} {i:Int} {x:InsC} {f:FdC} {rs:List (List Int)} {fd:Ql.Fd} {j:MJ}
theorem FR.ended (F:FR n H (keyF ks i) f rs fd) (g:Geo n H) (h9:fd.ln=9):ended f rs:=⟨F.ok g,by rw [F.ln,h9];rfl,F.made,F.err⟩
theorem IR.pre (R:IR n H ks hs nx mk lev i x f rs fd) (N:Nums n H ks hs) (W:WI n H ks hs nx mk ws):iPre x f rs (szW n H) ws:=by
 have hh:=N.hi R.B.i0 R.B.i1
 have hhi:=R.B.hi
 have e4:x.t.height=(H:Int):=by rw [R.B.t];rfl
 have e5:x.t.size=(n:Int):=by rw [R.B.t];rfl
 refine ⟨by rw [R.fb.1,R.B.t],by rw [R.fb.2.1,R.B.key],R.fb.2.2,by rw [R.B.t];exact tw_fit N.g W.len,by rw [R.B.xi];exact R.B.i0,by rw [R.B.xi,e5];exact R.B.i1,by omega,by omega,?_⟩
 have hl:=R.lv
 have hln:=R.ln
 have hend:x.ln=2∨x.ln=3∨x.ln=4∨x.ln=5∨x.ln=6→fd.ln=9∧ended f rs∧FInv H n (keyF ks) (keyF ks i) nx mk lev fd:=fun h=>by
  have h9:fd.ln=9:=R.I.fe (by show 2≤x.ln.toNat∧x.ln.toNat≤6∨_;omega)
  exact ⟨h9,(R.F (by omega)).ended N.g h9,R.I.fi (by show 1≤x.ln.toNat∧x.ln.toNat≤8∨_;omega)⟩
 have hup:x.ln=4∨x.ln=5∨x.ln=6→x.lv<x.high:=fun h=>by
  obtain ⟨u1,u2,u3⟩:=R.I.up (by show 4≤x.ln.toNat∧x.ln.toNat≤8;omega)
  have u2:x.lv.toNat<hiF n hs i:=u2
  omega
 have hst:x.ln=2→x.lv<x.high:=fun h=>by
  obtain ⟨u1,u2⟩:=R.I.st (by show x.ln.toNat=2;omega)
  have u1:x.lv.toNat<hiF n hs i:=u1
  omega
 have htp:x.lv<x.high→(x.ln=3∨x.ln=6)→tp rs x.lv=-1∨(0≤tp rs x.lv∧tp rs x.lv<x.t.size):=fun h1 h2=>by
  obtain ⟨h9,_,I⟩:=hend (by omega)
  rw [((R.F (by omega)).told (l:=x.lv.toNat) (by omega) h9 rfl).1,e5]
  have:=pOK_rg (I.tld x.lv.toNat (by omega) (.inr h9)).1
  omega
 have hF:x.ln=1∨x.ln=7∨x.ln=10→fPre f rs (szW n H) ws∧f.ln≠9:=fun h=>by
  have F:=R.F (by omega)
  exact ⟨F.pre N.g W.len (R.I.fi (by show 1≤x.ln.toNat∧x.ln.toNat≤8∨x.ln.toNat=10;omega)),fun e=>R.f9 h (by have:=F.ln;omega)⟩
 have hc:(x.ln=1∨x.ln=7∨x.ln=10)∨x.ln=2∨(x.ln=3∨x.ln=6)∨(x.ln=4∨x.ln=5)∨x.ln=8∨x.ln=9∨x.ln=11:=by omega
 rcases hc with h|h|h|h|h|h|h
 ·exact .inl ⟨h,hF h⟩
 ·exact .inr (.inl ⟨h,(hend (by omega)).2.1,hl,hst h⟩)
 ·have hlt:x.lv<x.high:=by
   rcases h with h|h
   ·have:=R.l3 h;omega
   ·exact hup (by omega)
  exact .inr (.inr (.inl ⟨h,(hend (by omega)).2.1,hl,hlt,htp hlt h⟩))
 ·exact .inr (.inr (.inr (.inl ⟨h,(hend (by omega)).2.1,hl,hup (by omega)⟩)))
 ·exact .inr (.inr (.inr (.inr (.inl h))))
 ·exact .inr (.inr (.inr (.inr (.inr (.inl h)))))
 ·exact .inr (.inr (.inr (.inr (.inr (.inr h)))))
theorem IR.act (R:IR n H ks hs nx mk lev i x f rs fd) (N:Nums n H ks hs) (W:WI n H ks hs nx mk ws) (V:SInv H n (keyF ks) (hiF n hs) nx mk lev C) (hx:x.ln≠11):
  (iNF x rs ws→IOut n H ks hs nx mk lev C i x fd (istC x f rs j ws).x (newF x.t x.key) (newR x.t) (istC x f rs j ws).ws)∧(¬ iNF x rs ws→IOut n H ks hs nx mk lev C i x fd (istC x f rs j ws).x (istC x f rs j ws).f (istC x f rs j ws).rs (istC x f rs j ws).ws)∧¬ iNR x ws:=by
 have hln:=R.ln
 refine ⟨fun h=>?_,fun h=>?_,fun h=>hx h.1⟩
 ·rcases h with ⟨h1|h1,h2⟩|⟨h1,h2⟩
  ·exact (i_l3 R N W V h1).2 h2
  ·exact (i_l6 R N W V h1).2 h2
  ·exact (i_l8 R N W V h1).2 h2
 ·have hc:x.ln=1∨x.ln=2∨x.ln=3∨x.ln=4∨x.ln=5∨x.ln=6∨x.ln=7∨(x.ln=8∨x.ln=9)∨x.ln=10:=by omega
  rcases hc with h1|h1|h1|h1|h1|h1|h1|h1|h1
  ·exact i_l1 R N W V h1
  ·exact i_l2 R N W V h1
  ·exact (i_l3 R N W V h1).1 (Classical.byContradiction fun g=>h (.inl ⟨.inl h1,g⟩))
  ·exact i_l4 R N W V h1
  ·exact i_l5 R N W V h1
  ·exact (i_l6 R N W V h1).1 (Classical.byContradiction fun g=>h (.inl ⟨.inr h1,g⟩))
  ·exact i_l7 R N W V h1
  ·exact (i_l8 R N W V h1).1 fun g=>h (.inr ⟨h1,g⟩)
  ·exact i_l10 R N W V h1
theorem let_ws (N:Nums n H ks hs) (W:WI n H ks hs nx mk ws) {v:Int} (h0:0≤i) (h1:i<n):WI n H ks hs nx mk (ws.set (ptA (tw n H) i 3).toNat v):=W.oth N.g (.inr ⟨i,h0,h1,rfl⟩)
theorem ist_11 (hx:x.ln=11):istC x f rs j ws=⟨{x with by':=x.ref,ln:=if addW ws (ptA x.t x.i 3).toNat 18446744073709551615=0 then 12 else 0},f,rs,jAdd ws (ptA x.t x.i 3) 18446744073709551615 j,ws.set (ptA x.t x.i 3).toNat (addW ws (ptA x.t x.i 3).toNat 18446744073709551615)⟩:=by
 unfold istC
 rw [if_neg (show ¬ x.ln=1 by omega),if_neg (show ¬ x.ln=2 by omega),if_neg (show ¬ x.ln=3 by omega),if_neg (show ¬ x.ln=4 by omega),if_neg (show ¬ x.ln=5 by omega),if_neg (show ¬ x.ln=6 by omega),if_neg (show ¬ x.ln=7 by omega),if_neg (show ¬ x.ln=8 by omega),if_neg (show ¬ x.ln=9 by omega),if_neg (show ¬ x.ln=10 by omega)]
structure PI (n H:Nat) (i:Int) (u:PuC):Prop where
 made:u.made=true
 dn:u.dn=false
 err:u.err=0
 t0:7+2*(n:Int)≤u.top
 t1:u.top≤9+2*(n:Int)
 links:u.links=1
 size:u.size=n
 i:u.i=i
 j0:-1≤u.j
 j1:u.j≤65534
 f:u.f=f1∨u.f=f2∨u.f=f3
def PL (ws:List Int) (u:PuC) (m:Nat):Prop:=(u.f=f1→3≤m)∧(u.f=f2→(ws.getD u.top.toNat 0=u.w∧2≤m)∨5≤m)∧(u.f=f3→(ws.getD u.top.toNat 0=u.w∧1≤m)∨4≤m)
theorem f_ne:¬ f1=f2∧¬ f1=f3∧¬ f2=f3:=by decide
theorem and_le (w:Int) (m:Nat) (_hm:m<2 ^ 64):(BitVec.ofInt 64 w &&& BitVec.ofInt 64 (m:Int)).toNat≤m:=by
 rw [BitVec.toNat_and]
 refine Nat.le_trans Nat.and_le_right ?_
 have:(BitVec.ofInt 64 (m:Int)).toNat=m % 2 ^ 64:=by simp
 rw [this]
 exact Nat.mod_le _ _
theorem turn_rg (w:Int) (g:Geo n H):7+2*(n:Int)≤turnT (tw n H) w∧turnT (tw n H) w≤9+2*(n:Int):=by
 obtain ⟨g1,g2,g3,g4⟩:=g
 unfold turnT
 have h:=and_le w 4294967295 (by decide)
 have e:((4294967295:Nat):Int)=4294967295:=rfl
 rw [e] at h
 generalize (BitVec.ofInt 64 w &&& BitVec.ofInt 64 4294967295).toNat=q at *
 rw [XY (x:=(q:Int)) (by omega) (by omega)]
 have e2:(q:Int).tmod 3=(q:Int) % 3:=Int.tmod_eq_emod_of_nonneg (by omega)
 rw [e2,XM (x:=(q:Int) % 3) (by omega) (by omega)]
 show 7+2*(n:Int)≤IntKind.i64.wrap (7+2*(n:Int)+(q:Int) % 3)∧IntKind.i64.wrap (7+2*(n:Int)+(q:Int) % 3)≤9+2*(n:Int)
 rw [XM (by omega) (by omega)]
 omega
theorem rawA_rg (w:Int):-1≤rawA w∧rawA w≤65534:=by
 unfold rawA
 have h:=and_le (w.fdiv 1) 65535 (by decide)
 have e:((65535:Nat):Int)=65535:=rfl
 rw [e] at h
 generalize (BitVec.ofInt 64 (w.fdiv 1) &&& BitVec.ofInt 64 65535).toNat=q at *
 rw [XY (x:=(q:Int)) (by omega) (by omega),XM (x:=(q:Int)) (by omega) (by omega),XM (by omega) (by omega)]
 omega
theorem PI.new (g:Geo n H) (w:Int):PI n H i (newP (tw n H) i w):=by
 have:=turn_rg w g
 exact ⟨rfl,rfl,rfl,this.1,this.2,rfl,rfl,rfl,show (-1:Int)≤0 by decide,show (0:Int)≤65534 by decide,.inl rfl⟩
theorem PL.new {w:Int}:PL ws (newP (tw n H) i w) 3:=⟨fun _=>Nat.le_refl _,fun h=>absurd h f_ne.1,fun h=>absurd h f_ne.2.1⟩
theorem PL.any (u:PuC):PL ws u 5:=⟨fun _=>by decide,fun _=>.inr (Nat.le_refl _),fun _=>.inr (by decide)⟩
variable {u:PuC}
theorem PI.pre (P:PI n H i u) (N:Nums n H ks hs) (hw:ws.length=4096) (h0:0≤i) (h1:i<n):pPre u (szW n H) ws:=by
 obtain ⟨g1,g2,g3,g4⟩:=id N.g
 have t0:=P.t0
 have t1:=P.t1
 have hs1:szW n H≤4096∧10+2*(n:Int)≤szW n H:=by
  unfold szW
  rcases N.g.h with rfl|rfl|rfl|rfl<;>omega
 exact ⟨P.made,P.dn,P.err,⟨by omega,by omega,hs1.1,hw⟩,⟨by rw [P.links,P.i];omega,by rw [P.links,P.i];omega,hs1.1,hw⟩,by rw [P.i];exact h0,by rw [P.i];omega,P.j0,P.j1,P.f⟩
theorem PI.step (P:PI n H i u) (N:Nums n H ks hs) (W:WI n H ks hs nx mk ws) (h0:0≤i) (h1:i<n):WI n H ks hs nx mk (pstC u j ws).ws∧(¬ pOver u ws→PI n H i (pstC u j ws).x∧∀ m,PL ws u (m+1)→PL (pstC u j ws).ws (pstC u j ws).x m):=by
 obtain ⟨n1,n2,n3⟩:=f_ne
 have t0:=P.t0
 have t1:=P.t1
 unfold pstC
 rcases P.f with e|e|e
 ·rw [if_pos e]
  refine ⟨W,fun _=>⟨⟨P.made,P.dn,P.err,P.t0,P.t1,P.links,P.size,P.i,?_,?_,.inr (.inl rfl)⟩,fun m hm=>⟨fun h=>absurd h.symm n1,fun _=>.inl ⟨rfl,?_⟩,fun h=>absurd h n3⟩⟩⟩
  ·show -1≤indT _ _
   unfold indT
   have:=rawA_rg (ws.getD u.top.toNat 0)
   split<;>omega
  ·show indT _ _≤65534
   unfold indT
   have:=rawA_rg (ws.getD u.top.toNat 0)
   split<;>omega
  ·have:=hm.1 e;omega
 ·rw [if_neg (by rw [e];exact fun h=>n1 h.symm),if_pos e]
  have ea:(u.links+u.i).toNat<10+2*n:=by rw [P.links,P.i];omega
  have en:(u.links+u.i).toNat≠u.top.toNat:=by rw [P.links,P.i];omega
  refine ⟨W.oth N.g (.inl ea),fun _=>⟨⟨P.made,P.dn,P.err,P.t0,P.t1,P.links,P.size,P.i,P.j0,P.j1,.inr (.inr rfl)⟩,fun m hm=>⟨fun h=>absurd h.symm n2,fun h=>absurd h.symm n3,fun _=>?_⟩⟩⟩
  rcases hm.2.1 e with ⟨h,h'⟩|h
  ·exact .inl ⟨(XU en).trans h,by omega⟩
  ·exact .inr (by omega)
 ·rw [if_neg (by rw [e];exact fun h=>n2 h.symm),if_neg (by rw [e];exact fun h=>n3 h.symm)]
  have ea:u.top.toNat<10+2*n:=by omega
  refine ⟨?_,fun ho=>?_⟩
  ·show WI n H ks hs nx mk (casW ws _ _ _)
   unfold casW
   split
   ·exact W.oth N.g (.inl ea)
   ·exact W
  ·have hne:¬ ws.getD u.top.toNat 0=u.w:=fun h=>ho ⟨e,h⟩
   refine ⟨⟨P.made,decide_eq_false hne,P.err,P.t0,P.t1,P.links,P.size,P.i,P.j0,P.j1,.inl rfl⟩,fun m hm=>⟨fun _=>?_,fun h=>absurd h n1,fun h=>absurd h n2⟩⟩
   rcases hm.2.2 e with ⟨h,_⟩|h
   ·exact absurd h hne
   ·omega
end
end Go.Sx
