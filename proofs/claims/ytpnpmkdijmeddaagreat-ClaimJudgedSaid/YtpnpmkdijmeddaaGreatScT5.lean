/- A Find alone ends in time. -/
import Derived.Test.YtpnpmkdijmeddaaGreatScT1
import Derived.Test.YtpnpmkdijmeddaaGreatScB2
import Derived.Test.YtpnpmkdijmeddaaGreatScA1
set_option maxRecDepth 100000
namespace Go.Ql
def rk (N:Int) (key:Int→Int) (c:Int):Nat:=(List.range N.toNat).countP fun (j:Nat)=>decide (key c≤key (j:Int))
def Bd (N:Int):Nat:=1+2*N.toNat
def tm (N:Int) (key:Int→Int) (x:Fd):Nat:=
 if x.ln=1 then x.lv*Bd N+Bd N else if x.ln=2 then x.lv*Bd N+2*rk N key x.c else if x.ln=9 then 0 else x.lv*Bd N+(2*rk N key x.c - 1)
def Fresh (nx:Nat→Int→Int) (mk:Nat→Int→Bool) (x:Fd):Prop:=
 x.ln=9∨(mk x.lv x.p=false∧(x.ln=2∨x.ln=3∨x.ln=4→nx x.lv x.p=x.c)∧(x.ln=4→mk x.lv x.c=false∧nx x.lv x.c=x.w))
section
variable {H:Nat} {N k:Int} {key:Int→Int} {high:Int→Nat} {nx:Nat→Int→Int} {mk:Nat→Int→Bool} {lev:Int→Nat} {C:Nat→List Int} {x:Fd}
theorem rk_le (c:Int):rk N key c≤N.toNat:=by
 unfold rk
 have:=List.countP_le_length (p:=fun (j:Nat)=>decide (key c≤key (j:Int))) (l:=List.range N.toNat)
 simpa using this
theorem rk_pos {c:Int} (h0:0≤c) (h1:c<N):1≤rk N key c:=by
 unfold rk
 refine List.countP_pos_iff.2 ⟨c.toNat,List.mem_range.2 (by omega),?_⟩
 rw [Int.toNat_of_nonneg h0];exact decide_eq_true (Int.le_refl _)
theorem countP_lt {α:Type} {p q:α→Bool}:∀ {l:List α} {a:α},(∀ x,p x=true→q x=true)→a∈l→p a=false→q a=true→l.countP p<l.countP q
 |[],a,_,ha,_,_=>by cases ha
 |b::l,a,h,ha,hp,hq=>by
  have hle:l.countP p≤l.countP q:=List.countP_mono_left fun x _ hx=>h x hx
  rcases List.mem_cons.1 ha with rfl|ha
  ·rw [List.countP_cons,List.countP_cons,hp,hq];simp;omega
  ·have ih:=countP_lt h ha hp hq
   rw [List.countP_cons,List.countP_cons]
   have:=h b
   cases hb:p b with
   |true=>rw [this hb];simp;omega
   |false=>simp;omega
theorem rk_lt {c w:Int} (h0:0≤c) (h1:c<N) (h:key c<key w):rk N key w+1≤rk N key c:=by
 unfold rk
 refine countP_lt (a:=c.toNat) (fun j hj=>?_) (List.mem_range.2 (by omega)) ?_ ?_
 ·have:=of_decide_eq_true hj
  exact decide_eq_true (by omega)
 ·rw [Int.toNat_of_nonneg h0];exact decide_eq_false (by omega)
 ·rw [Int.toNat_of_nonneg h0];exact decide_eq_true (Int.le_refl _)
theorem tm_down:tm N key x.down≤x.lv*Bd N:=by
 unfold tm Fd.down
 by_cases z:x.lv=0
 ·simp [z]
 ·simp only [if_neg z,if_true]
  obtain ⟨m,hm⟩:∃ m,x.lv=m+1:=⟨x.lv - 1,by omega⟩
  rw [hm,Nat.add_mul];simp
theorem tm_looks {r:Nat} (h:x.c=-1∨rk N key x.c≤r):tm N key x.looks≤x.lv*Bd N+2*r:=by
 unfold Fd.looks
 by_cases e:x.c=-1
 ·rw [if_pos e];have:=tm_down (N:=N) (key:=key) (x:=x);omega
 ·rw [if_neg e]
  have h:=h.resolve_left e
  unfold tm
  simp
  omega
theorem tm_le (hlt:x.lv<H):tm N key x≤H*Bd N:=by
 have h1:=rk_le (N:=N) (key:=key) x.c
 obtain ⟨m,hm⟩:∃ m,H=x.lv+1+m:=⟨H - x.lv - 1,by omega⟩
 have h2:H*Bd N=x.lv*Bd N+Bd N+m*Bd N:=by rw [hm,Nat.add_mul,Nat.add_mul,Nat.one_mul]
 have h3:Bd N=1+2*N.toNat:=rfl
 unfold tm
 generalize x.lv*Bd N=a at *
 generalize m*Bd N=b at *
 split
 ·omega
 ·split
  ·omega
  ·split<;>omega
theorem tm_anew (h:0<H):tm N key (x.anew H)=H*Bd N:=by
 unfold tm Fd.anew
 simp only [if_true]
 obtain ⟨m,hm⟩:∃ m,H=m+1:=⟨H - 1,by omega⟩
 rw [hm,Nat.add_sub_cancel,Nat.add_mul,Nat.one_mul]
theorem fresh_anew (V:SInv H N key high nx mk lev C) {nx':Nat→Int→Int}:Fresh nx' mk (x.anew H):=
 .inr ⟨V.hd _,fun h=>(by rcases h with h|h|h<;>cases h),fun h=>(by cases h)⟩
theorem fresh_down (V:SInv H N key high nx mk lev C) (hp:x.p=-1∨lkd N lev x.lv x.p) (hm:mk x.lv x.p=false) {nx':Nat→Int→Int}:Fresh nx' mk x.down:=by
 by_cases z:x.lv=0
 ·exact .inl (if_pos z)
 ·have e:x.down.ln=1:=if_neg z
  refine .inr ⟨?_,fun h=>by rw [e] at h;omega,fun h=>by rw [e] at h;omega⟩
  show mk (x.lv - 1) x.p=false
  rcases hp with hp|hp
  ·rw [hp];exact V.hd _
  ·cases hb:mk (x.lv - 1) x.p with
   |false=>rfl
   |true=>
    have h1:=V.lh x.p
    have h2:=hp.2.2
    have:=V.dn x.p (x.lv - 1) (by omega) hb
    rw [show x.lv - 1+1=x.lv by omega,hm] at this
    cases this
theorem fresh_looks (V:SInv H N key high nx mk lev C) (hp:x.p=-1∨lkd N lev x.lv x.p) (hm:mk x.lv x.p=false) {nx':Nat→Int→Int} (hc:nx' x.lv x.p=x.c):Fresh nx' mk x.looks:=by
 unfold Fd.looks
 by_cases e:x.c=-1
 ·rw [if_pos e];exact fresh_down V hp hm
 ·rw [if_neg e]
  exact .inr ⟨hm,fun _=>hc,fun h=>by cases h⟩
theorem fstep_time (V:SInv H N key high nx mk lev C) (I:FInv H N key k nx mk lev x) (h9:x.ln≠9):
  (tm N key (fstep H key k nx mk x).2<tm N key x∨((fstep H key k nx mk x).2=x.anew H∧(fstep H key k nx mk x).1=nx))∧
  (Fresh nx mk x→tm N key (fstep H key k nx mk x).2<tm N key x∧Fresh (fstep H key k nx mk x).1 mk (fstep H key k nx mk x).2):=by
 have hlt:=I.lt
 have hV:=V.lv x.lv hlt
 have hB:Bd N=1+2*N.toNat:=rfl
 have hpl:x.p=-1∨lkd N lev x.lv x.p:=(I.pl h9).imp id And.left
 rcases I.ln with e|e|e|e|e
 ·
  have ht:tm N key x=x.lv*Bd N+Bd N:=if_pos e
  cases hm:mk x.lv x.p with
  |true=>
   have es:fstep H key k nx mk x=(nx,x.anew H):=by unfold fstep;rw [if_pos e,hm];rfl
   rw [es]
   refine ⟨.inr ⟨rfl,rfl⟩,fun hf=>?_⟩
   rcases hf with hf|⟨hf,_⟩
   ·exact absurd hf h9
   ·rw [hm] at hf;cases hf
  |false=>
   have es:fstep H key k nx mk x=(nx,{x with c:=nx x.lv x.p}.looks):=by unfold fstep;rw [if_pos e,hm];rfl
   rw [es,ht]
   have h1:tm N key ({x with c:=nx x.lv x.p}:Fd).looks≤x.lv*Bd N+2*N.toNat:=tm_looks (x:={x with c:=nx x.lv x.p}) (.inr (rk_le _))
   exact ⟨.inl (Nat.lt_of_le_of_lt h1 (by omega)),fun _=>⟨Nat.lt_of_le_of_lt h1 (by omega),fresh_looks (x:={x with c:=nx x.lv x.p}) V hpl hm rfl⟩⟩
 ·
  obtain ⟨hc,hb⟩:=I.cl (.inl e)
  have hr:=rk_pos (N:=N) (key:=key) hc.1 hc.2.1
  have ht:tm N key x=x.lv*Bd N+2*rk N key x.c:=by unfold tm;rw [if_neg (by omega),if_pos e]
  have es:fstep H key k nx mk x=(nx,{x with w:=nx x.lv x.c,ln:=if mk x.lv x.c then 3 else 4}):=by unfold fstep;rw [if_neg (by omega),if_pos e]
  rw [es,ht]
  have h1:tm N key ({x with w:=nx x.lv x.c,ln:=if mk x.lv x.c then 3 else 4}:Fd)=x.lv*Bd N+(2*rk N key x.c - 1):=by
   unfold tm
   cases mk x.lv x.c<;>simp
  refine ⟨.inl (by rw [h1];omega),fun hf=>⟨by rw [h1];omega,?_⟩⟩
  rcases hf with hf|⟨f1,f2,f3⟩
  ·exact absurd hf h9
  ·refine .inr ⟨f1,fun _=>f2 (.inl e),fun h4=>?_⟩
   have h4:(if mk x.lv x.c=true then 3 else 4)=4:=h4
   show mk x.lv x.c=false∧nx x.lv x.c=nx x.lv x.c
   cases hm:mk x.lv x.c with
   |false=>exact ⟨rfl,rfl⟩
   |true=>rw [hm] at h4;cases h4
 ·
  obtain ⟨hc,hb⟩:=I.cl (.inr (.inl e))
  obtain ⟨hm,hw⟩:=I.l3 e
  have hr:=rk_pos (N:=N) (key:=key) hc.1 hc.2.1
  have ht:tm N key x=x.lv*Bd N+(2*rk N key x.c - 1):=by unfold tm;rw [if_neg (by omega),if_neg (by omega),if_neg (by omega)]
  by_cases g:nx x.lv x.p=x.c∧mk x.lv x.p=false
  ·have es:fstep H key k nx mk x=(fun l=>if l=x.lv then updF (nx l) x.p x.w else nx l,{x with c:=x.w}.looks):=by unfold fstep;rw [if_neg (by omega),if_neg (by omega),if_pos e,if_pos g]
   rw [es,ht]
   have hwr:x.w=-1∨rk N key x.w≤rk N key x.c - 1:=by
    rcases hV.nxt x.c (.inr hc) with h|⟨_,_,h⟩
    ·exact .inl (by rw [hw];exact h)
    ·rcases h with h|h
     ·have:=hc.1;omega
     ·have:=rk_lt (N:=N) hc.1 hc.2.1 h
      exact .inr (by rw [hw];omega)
   have h1:tm N key ({x with c:=x.w}:Fd).looks≤x.lv*Bd N+2*(rk N key x.c - 1):=tm_looks (x:={x with c:=x.w}) hwr
   have h2:tm N key ({x with c:=x.w}:Fd).looks<x.lv*Bd N+(2*rk N key x.c - 1):=by omega
   exact ⟨.inl h2,fun _=>⟨h2,fresh_looks (x:={x with c:=x.w}) V hpl g.2 (by show (if x.lv=x.lv then updF (nx x.lv) x.p x.w else nx x.lv) x.p=x.w;rw [if_pos rfl,XX])⟩⟩
  ·have es:fstep H key k nx mk x=(nx,x.anew H):=by unfold fstep;rw [if_neg (by omega),if_neg (by omega),if_pos e,if_neg g]
   rw [es]
   refine ⟨.inr ⟨rfl,rfl⟩,fun hf=>?_⟩
   rcases hf with hf|⟨f1,f2,_⟩
   ·exact absurd hf h9
   ·exact absurd ⟨f2 (.inr (.inl e)),f1⟩ g
 ·
  obtain ⟨hc,hb⟩:=I.cl (.inr (.inr e))
  have hr:=rk_pos (N:=N) (key:=key) hc.1 hc.2.1
  have ht:tm N key x=x.lv*Bd N+(2*rk N key x.c - 1):=by unfold tm;rw [if_neg (by omega),if_neg (by omega),if_neg (by omega)]
  by_cases g:key x.c≥k
  ·have es:fstep H key k nx mk x=(nx,x.down):=by unfold fstep;rw [if_neg (by omega),if_neg (by omega),if_neg (by omega),if_pos e,if_pos g]
   rw [es,ht]
   have h1:=tm_down (N:=N) (key:=key) (x:=x)
   refine ⟨.inl (by show tm N key x.down<_;omega),fun hf=>⟨by show tm N key x.down<_;omega,?_⟩⟩
   rcases hf with hf|⟨f1,_,_⟩
   ·exact absurd hf h9
   ·exact fresh_down V hpl f1
  ·have es:fstep H key k nx mk x=(nx,{x with p:=x.c,c:=x.w}.looks):=by unfold fstep;rw [if_neg (by omega),if_neg (by omega),if_neg (by omega),if_pos e,if_neg g]
   rw [es,ht]
   have hwr:x.w=-1∨rk N key x.w≤rk N key x.c - 1:=by
    rcases I.l4 e with h|⟨_,h⟩
    ·exact .inl h
    ·have:=rk_lt (N:=N) hc.1 hc.2.1 h
     exact .inr (by omega)
   have h1:tm N key ({x with p:=x.c,c:=x.w}:Fd).looks≤x.lv*Bd N+2*(rk N key x.c - 1):=tm_looks (x:={x with p:=x.c,c:=x.w}) hwr
   have h2:tm N key ({x with p:=x.c,c:=x.w}:Fd).looks<x.lv*Bd N+(2*rk N key x.c - 1):=by omega
   refine ⟨.inl h2,fun hf=>⟨h2,?_⟩⟩
   rcases hf with hf|⟨_,_,f3⟩
   ·exact absurd hf h9
   ·exact fresh_looks (x:={x with p:=x.c,c:=x.w}) V (.inr hc) (f3 e).1 (f3 e).2
 ·exact absurd e h9
def TG (H lo:Nat) (nx:Nat→Int→Int) (mk:Nat→Int→Bool) (x:Fd):Prop:=∀ l,lo≤l→l<H→(x.lv<l∨x.ln=9)→nx l (x.told l).1=(x.told l).2∧mk l (x.told l).1=false
theorem TG_down {nx:Nat→Int→Int} (_hn:x.ln≠9) (T:TG H 0 nx mk x) (hc:nx x.lv x.p=x.c) (hm:mk x.lv x.p=false):TG H 0 nx mk x.down:=fun l _ hl h=>by
 show nx l (if l=x.lv then (x.p,x.c) else x.told l).1=(if l=x.lv then (x.p,x.c) else x.told l).2∧mk l (if l=x.lv then (x.p,x.c) else x.told l).1=false
 by_cases e:l=x.lv
 ·rw [if_pos e,e];exact ⟨hc,hm⟩
 ·rw [if_neg e]
  refine T l (Nat.zero_le _) hl (.inl ?_)
  rcases h with h|h
  ·have h:x.lv - 1<l:=h
   omega
  ·have h:(if x.lv=0 then 9 else 1)=9:=h
   split at h
   ·omega
   ·cases h
theorem TG_looks {nx:Nat→Int→Int} (hn:x.ln≠9) (T:TG H 0 nx mk x) (hc:nx x.lv x.p=x.c) (hm:mk x.lv x.p=false):TG H 0 nx mk x.looks:=by
 unfold Fd.looks
 by_cases e:x.c=-1
 ·rw [if_pos e];exact TG_down hn T hc hm
 ·rw [if_neg e]
  intro l h0 hl h
  rcases h with h|h
  ·exact T l h0 hl (.inl h)
  ·cases h
theorem TG_anew {lo:Nat}:TG H lo nx mk (x.anew H):=fun l _ hl h=>by
 rcases h with h|h
 ·have h:H - 1<l:=h
  omega
 ·cases h
theorem TG_step (_V:SInv H N key high nx mk lev C) (I:FInv H N key k nx mk lev x) (h9:x.ln≠9) (hf:Fresh nx mk x) (T:TG H 0 nx mk x):TG H 0 (fstep H key k nx mk x).1 mk (fstep H key k nx mk x).2:=by
 obtain ⟨f1,f2,f3⟩:=hf.resolve_left h9
 rcases I.ln with e|e|e|e|e
 ·have es:fstep H key k nx mk x=(nx,{x with c:=nx x.lv x.p}.looks):=by unfold fstep;rw [if_pos e,f1];rfl
  rw [es]
  exact TG_looks (x:={x with c:=nx x.lv x.p}) h9 T rfl f1
 ·have es:fstep H key k nx mk x=(nx,{x with w:=nx x.lv x.c,ln:=if mk x.lv x.c then 3 else 4}):=by unfold fstep;rw [if_neg (by omega),if_pos e]
  rw [es]
  intro l h0 hl h
  rcases h with h|h
  ·exact T l h0 hl (.inl h)
  ·have h:(if mk x.lv x.c=true then 3 else 4)=9:=h
   split at h<;>cases h
 ·have es:fstep H key k nx mk x=(fun l=>if l=x.lv then updF (nx l) x.p x.w else nx l,{x with c:=x.w}.looks):=by unfold fstep;rw [if_neg (by omega),if_neg (by omega),if_pos e,if_pos ⟨f2 (.inr (.inl e)),f1⟩]
  rw [es]
  refine TG_looks (x:={x with c:=x.w}) h9 (fun l h0 hl h=>?_) ?_ f1
  ·have h:x.lv<l∨x.ln=9:=h
   have h:=h.resolve_right h9
   show (if l=x.lv then updF (nx l) x.p x.w else nx l) (x.told l).1=(x.told l).2∧_
   rw [if_neg (by omega)]
   exact T l h0 hl (.inl h)
  ·show (if x.lv=x.lv then updF (nx x.lv) x.p x.w else nx x.lv) x.p=x.w
   rw [if_pos rfl,XX]
 ·by_cases g:key x.c≥k
  ·have es:fstep H key k nx mk x=(nx,x.down):=by unfold fstep;rw [if_neg (by omega),if_neg (by omega),if_neg (by omega),if_pos e,if_pos g]
   rw [es]
   exact TG_down h9 T (f2 (.inr (.inr e))) f1
  ·have es:fstep H key k nx mk x=(nx,{x with p:=x.c,c:=x.w}.looks):=by unfold fstep;rw [if_neg (by omega),if_neg (by omega),if_neg (by omega),if_pos e,if_neg g]
   rw [es]
   exact TG_looks (x:={x with p:=x.c,c:=x.w}) h9 T (f3 e).2 (f3 e).1
 ·exact absurd e h9
def FG (H:Nat) (N:Int) (key:Int→Int) (nx:Nat→Int→Int) (mk:Nat→Int→Bool) (x:Fd) (m:Nat):Prop:=Fresh nx mk x∧TG H 0 nx mk x∧tm N key x≤m
theorem FG_step {m:Nat} (V:SInv H N key high nx mk lev C) (I:FInv H N key k nx mk lev x) (h9:x.ln≠9) (F:FG H N key nx mk x (m+1)):FG H N key (fstep H key k nx mk x).1 mk (fstep H key k nx mk x).2 m:=by
 obtain ⟨f1,f2,f3⟩:=F
 have h:=(fstep_time V I h9).2 f1
 exact ⟨h.2,TG_step V I h9 f1 f2,by omega⟩
theorem FG_anew (V:SInv H N key high nx mk lev C) (h:0<H) {m:Nat} (hm:H*Bd N≤m):FG H N key nx mk (x.anew H) m:=⟨fresh_anew V,TG_anew,by rw [tm_anew h];exact hm⟩
theorem FB_step {m:Nat} (V:SInv H N key high nx mk lev C) (I:FInv H N key k nx mk lev x) (h9:x.ln≠9) (hm:tm N key x≤m+1):tm N key (fstep H key k nx mk x).2≤m∨FG H N key (fstep H key k nx mk x).1 mk (fstep H key k nx mk x).2 (H*Bd N):=by
 have hl:=I.lt
 rcases (fstep_time V I h9).1 with h|⟨h1,h2⟩
 ·exact .inl (by omega)
 ·rw [h1,h2];exact .inr (FG_anew V (by omega) (Nat.le_refl _))
end
end Go.Ql
namespace Go.Ql
section
variable {H:Nat} {N k:Int} {key:Int→Int} {high:Int→Nat} {nx nx':Nat→Int→Int} {mk mk':Nat→Int→Bool} {lev lev':Int→Nat} {C:Nat→List Int} {x:Fd}
theorem lkd.mono {l:Nat} {i:Int} (h:lkd N lev l i) (hl:∀ i,lev i≤lev' i):lkd N lev' l i:=⟨h.1,h.2.1,Nat.lt_of_lt_of_le h.2.2 (hl i)⟩
theorem pOK.mono {l:Nat} {p:Int} (h:pOK N key k lev l p) (hl:∀ i,lev i≤lev' i):pOK N key k lev' l p:=h.imp id fun h=>⟨h.1.mono hl,h.2⟩
theorem sOK.mono {l:Nat} {c:Int} (h:sOK N key k lev l c) (hl:∀ i,lev i≤lev' i):sOK N key k lev' l c:=h.imp id fun h=>⟨h.1.mono hl,h.2⟩
theorem FInv.mono (I:FInv H N key k nx mk lev x) (hl:∀ i,lev i≤lev' i) (hm:∀ l i,mk l i=true→mk' l i=true) (hn:∀ l i,lkd N lev l i→mk l i=true→nx' l i=nx l i):FInv H N key k nx' mk' lev' x:=
 ⟨fun l h h'=>⟨(I.tld l h h').1.mono hl,(I.tld l h h').2.mono hl⟩,I.lt,fun h=>(I.pl h).mono hl,fun h=>⟨(I.cl h).1.mono hl,(I.cl h).2⟩,
  fun h=>⟨hm _ _ (I.l3 h).1,by rw [hn _ _ (I.cl (.inr (.inl h))).1 (I.l3 h).1];exact (I.l3 h).2⟩,fun h=>(I.l4 h).imp id fun g=>⟨g.1.mono hl,g.2⟩,I.ln⟩
theorem fstep_keeps (_V:SInv H N key high nx mk lev C) (_I:FInv H N key k nx mk lev x):∀ l i,lkd N lev l i→mk l i=true→(fstep H key k nx mk x).1 l i=nx l i:=by
 intro l i hi hm
 unfold fstep
 split
 ·rfl
 ·split
  ·rfl
  ·split
   ·split
    ·rename_i g
     by_cases e:l=x.lv
     ·subst e
      show (if x.lv=x.lv then updF (nx x.lv) x.p x.w else nx x.lv) i=nx x.lv i
      rw [if_pos rfl,XW]
      intro e2
      rw [e2,g.2] at hm;cases hm
     ·show (if l=x.lv then updF (nx l) x.p x.w else nx l) i=nx l i
      rw [if_neg e]
    ·rfl
   ·split<;>rfl
theorem SInv.link (V:SInv H N key high nx mk lev C) {l:Nat} {p i:Int} (hl:l<H) (h0:0≤i) (hN:i<N) (hlev:lev i=l) (hhi:l<high i) (hp:p=-1∨(lkd N lev l p∧mk l p=false)) (hf:nx l i=nx l p) (h1:p=-1∨key p<key i) (h2:nx l p=-1∨key i<key (nx l p)):
  SInv H N key high (fun m=>if m=l then updF (nx m) p i else nx m) mk (updF lev i (l+1)) (fun m=>if m=l then insK key i (C m) else C m):=by
 have hx:∀ m j,m≠l→((0≤j∧j<N∧m<updF lev i (l+1) j)↔(0≤j∧j<N∧m<lev j)):=fun m j hm=>by
  by_cases e:j=i
  ·subst e;rw [XX,hlev];omega
  ·rw [XW e]
 refine ⟨fun m hm=>?_,fun j=>?_,V.hh,V.hd,V.dn⟩
 ·have W:=V.lv m hm
  by_cases e:m=l
  ·subst e
   simp only [if_true]
   have:=W.link (p:=p) (x:=i) hp (fun h=>by omega) h0 hf h1 h2
   refine ⟨this.ch,this.srt,fun j hj=>?_,fun j hj hm2=>this.all j ?_ hm2,fun j hj=>?_,fun j hj=>hj.1⟩
   ·have g:=this.lnk j hj
    refine ⟨g.1,?_⟩
    rcases g.2 with g|g
    ·subst g;exact ⟨h0,hN,by rw [XX];omega⟩
    ·by_cases e:j=i
     ·subst e;exact ⟨h0,hN,by rw [XX];omega⟩
     ·exact ⟨g.1,g.2.1,by rw [XW e];exact g.2.2⟩
   ·by_cases e:j=i
    ·exact .inl e
    ·exact .inr ⟨hj.1,hj.2.1,by have:=hj.2.2;rw [XW e] at this;exact this⟩
   ·have hj':j=-1∨(j=i∨(0≤j∧j<N∧m<lev j)):=by
     rcases hj with hj|hj
     ·exact .inl hj
     ·by_cases e:j=i
      ·exact .inr (.inl e)
      ·exact .inr (.inr ⟨hj.1,hj.2.1,by have:=hj.2.2;rw [XW e] at this;exact this⟩)
    rcases this.nxt j hj' with g|⟨g1,g2,g3⟩
    ·exact .inl g
    ·refine .inr ⟨g1,?_,g3⟩
     generalize updF (nx m) p i j=z at *
     by_cases e:z=i
     ·subst e;exact ⟨h0,hN,by rw [XX];omega⟩
     ·rcases g2 with g2|g2
      ·exact absurd g2 e
      ·exact ⟨g2.1,g2.2.1,by rw [XW e];exact g2.2.2⟩
  ·simp only [if_neg e]
   exact ⟨W.ch,W.srt,fun j hj=>⟨(W.lnk j hj).1,(hx m j e).2 (W.lnk j hj).2⟩,fun j hj h=>W.all j ((hx m j e).1 hj) h,fun j hj=>(W.nxt j (hj.imp id (hx m j e).1)).imp id fun g=>⟨g.1,(hx m _ e).2 g.2.1,g.2.2⟩,fun j hj=>hj.1⟩
 ·by_cases e:j=i
  ·subst e;rw [XX];omega
  ·rw [XW e];exact V.lh j
theorem SInv.mark (V:SInv H N key high nx mk lev C) {l:Nat} {i:Int} (h0:0≤i) (hup:l+1<high i→mk (l+1) i=true):
  SInv H N key high nx (fun m=>if m=l then updF (mk m) i true else mk m) lev C:=by
 refine ⟨fun m hm=>?_,V.lh,V.hh,fun m=>?_,fun j m hj hm=>?_⟩
 ·by_cases e:m=l
  ·subst e;simp only [if_true];exact ((V.lv m hm).mark i).1
  ·simp only [if_neg e];exact V.lv m hm
 ·by_cases e:m=l
  ·subst e;simp only [if_true];rw [XW (by omega)];exact V.hd m
  ·simp only [if_neg e];exact V.hd m
 ·have hold:mk m j=true∨(m=l∧j=i):=by
   by_cases e:m=l
   ·subst e
    simp only [if_true] at hm
    by_cases e2:j=i
    ·exact .inr ⟨rfl,e2⟩
    ·rw [XW e2] at hm;exact .inl hm
   ·simp only [if_neg e] at hm;exact .inl hm
  have hnew:mk (m+1) j=true:=by
   rcases hold with h|⟨rfl,rfl⟩
   ·exact V.dn j m hj h
   ·exact hup hj
  by_cases e:m+1=l
  ·simp only [if_pos e]
   unfold updF
   split
   ·rfl
   ·exact hnew
  ·simp only [if_neg e];exact hnew
end
end Go.Ql
namespace Go.Ql
structure Ins where
 ln:Nat
 lv:Nat
 w:Int
 fd:Fd
section
variable {H:Nat} {N:Int} {key:Int→Int} {high:Int→Nat} {nx nx':Nat→Int→Int} {mk mk':Nat→Int→Bool} {lev lev':Int→Nat} {C:Nat→List Int} {i:Int} {x:Ins}
structure IInv (H:Nat) (N:Int) (key:Int→Int) (high:Int→Nat) (nx:Nat→Int→Int) (mk:Nat→Int→Bool) (lev:Int→Nat) (i:Int) (x:Ins):Prop where
 fi:1≤x.ln∧x.ln≤8∨x.ln=10→FInv H N key (key i) nx mk lev x.fd
 fe:2≤x.ln∧x.ln≤6∨x.ln=8→x.fd.ln=9
 l0:1≤x.ln∧x.ln≤3→lev i=0∧∀ l,mk l i=false
 st:x.ln=2→x.lv<high i∧∀ l,l<x.lv→nx l i=(x.fd.told l).2
 en:x.ln=3→∀ l,l<high i→nx l i=(x.fd.told l).2
 up:4≤x.ln∧x.ln≤8→1≤x.lv∧x.lv<high i∧lev i=x.lv
 li:x.ln=6→nx x.lv i=(x.fd.told x.lv).2
 af:4≤x.ln→1≤lev i
theorem hang (V:SInv H N key high nx mk lev C) (hk:∀ a b,0≤a→a<N→0≤b→b<N→key a=key b→a=b) {fd:Fd} (F:FInv H N key (key i) nx mk lev fd) (h9:fd.ln=9) {l:Nat} (h0:0≤i) (hN:i<N) (hlev:lev i=l) (hhi:l<high i) (hf:nx l i=(fd.told l).2)
  (hc:nx l (fd.told l).1=(fd.told l).2) (hm:mk l (fd.told l).1=false):
  SInv H N key high (fun m=>if m=l then updF (nx m) (fd.told l).1 i else nx m) mk (updF lev i (l+1)) (fun m=>if m=l then insK key i (C m) else C m):=by
 have hl:l<H:=Nat.lt_of_lt_of_le hhi (V.hh i)
 obtain ⟨g1,g2⟩:=F.tld l hl (.inr h9)
 refine V.link hl h0 hN hlev hhi (g1.imp id fun h=>⟨h.1,hm⟩) (by rw [hf,hc]) (g1.imp id And.right) ?_
 rw [hc]
 rcases g2 with g2|⟨g3,g4⟩
 ·exact .inl g2
 ·refine .inr ?_
  have hne:key i≠key (fd.told l).2:=fun e=>by
   have:=hk _ _ h0 hN g3.1 g3.2.1 e
   have h3:=g3.2.2
   rw [← this,hlev] at h3
   omega
  omega
theorem IInv.mono (I:IInv H N key high nx mk lev i x) (hi:lev' i=lev i) (hl:∀ j,lev j≤lev' j) (hm:∀ l j,mk l j=true→mk' l j=true) (hn:∀ l j,lkd N lev l j→mk l j=true→nx' l j=nx l j)
  (hown:∀ l,lev i≤l→nx' l i=nx l i) (hun:lev i=0→∀ l,mk' l i=mk l i):IInv H N key high nx' mk' lev' i x:=by
 refine ⟨fun h=>(I.fi h).mono hl hm hn,I.fe,fun h=>?_,fun h=>⟨(I.st h).1,fun l hl=>?_⟩,fun h l hl=>?_,fun h=>?_,fun h=>?_,fun h=>by rw [hi];exact I.af h⟩
 ·obtain ⟨g1,g2⟩:=I.l0 h
  exact ⟨by rw [hi];exact g1,fun l=>by rw [hun g1];exact g2 l⟩
 ·rw [hown l (by rw [(I.l0 (by omega)).1];omega)];exact (I.st h).2 l hl
 ·rw [hown l (by rw [(I.l0 (by omega)).1];omega)];exact I.en h l hl
 ·rw [hi];exact I.up h
 ·have:=I.up (by omega)
  rw [hown _ (by omega)];exact I.li h
end
end Go.Ql
namespace Go.Ql
section
variable {key f:Int→Int} {m:Int→Bool} {L:Int→Prop} {C:List Int}
theorem Lv.none (V:Lv key f m L C) (h:f (-1)=-1):C=[]∧liv m C=[]:=by
 have:C=[]:=by
  cases hC:C with
  |nil=>rfl
  |cons y B=>
   have hc:=V.ch
   rw [hC] at hc
   have:=(V.lnk y (by rw [hC];simp)).1
   have:=hc.1
   omega
 subst this
 exact ⟨rfl,rfl⟩
theorem Lv.first (V:Lv key f m L C) {c:Int} (h:f (-1)=c) (hc:c≠-1):∃ B,C=c::B∧0≤c∧L c∧(m c=false→(liv m C).head?=some c):=by
 cases hC:C with
 |nil=>
  have:=V.ch
  rw [hC] at this
  exact absurd (h.symm.trans this) hc
 |cons y B=>
  have hch:=V.ch
  rw [hC] at hch
  have e:y=c:=hch.1.symm.trans h
  subst e
  have hl:=V.lnk y (by rw [hC];simp)
  refine ⟨B,rfl,hl.1,hl.2,fun hm=>?_⟩
  unfold liv
  rw [List.filter_cons,hm];rfl
theorem Lv.lives (V:Lv key f m L C) {i:Int}:i∈liv m C↔L i∧m i=false:=by
 unfold liv
 rw [List.mem_filter]
 constructor
 ·rintro ⟨h1,h2⟩
  exact ⟨(V.lnk i h1).2,by simpa using h2⟩
 ·rintro ⟨h1,h2⟩
  exact ⟨V.all i h1 h2,by simp [h2]⟩
theorem Lv.livs (V:Lv key f m L C):(liv m C).Pairwise fun a b=>key a<key b:=V.srt.sublist (List.filter_sublist)
end
end Go.Ql
namespace Go.Sx
open Go.Ql (SInv FInv fstep updF XX XW lkd)
def tw (n H:Nat):Tw:=⟨10+2*n+H,10+2*n,H,0,1,n,1+n,1+2*n,9,2+2*n,3+2*n,4,7+2*n⟩
def szW (n H:Nat):Int:=10+2*n+H+n*(4+H)
def Geo (n H:Nat):Prop:=1≤n∧n≤6∧1≤H∧H≤4
def dm (n H:Nat) (l:Nat) (i:Int):Prop:=(i=-1∨(0≤i∧i<n))∧l<H
def ad (n H:Nat) (l:Nat) (i:Int):Nat:=(nxA (tw n H) i l).toNat
def pd (n H:Nat) (i p:Int):Nat:=(ptA (tw n H) i p).toNat
section
variable {n H:Nat}
theorem Geo.h (g:Geo n H):H=1∨H=2∨H=3∨H=4:=by obtain ⟨_,_,_,_⟩:=g;omega
theorem ad_val {l:Nat} {i:Int}:ad n H l i=(if i=-1 then 10+2*(n:Int)+l else 10+2*(n:Int)+H+i*(4+H)+(4+l)).toNat:=rfl
theorem pd_val {i p:Int}:pd n H i p=(10+2*(n:Int)+H+i*(4+H)+p).toNat:=rfl
theorem ad_lt (g:Geo n H) {l:Nat} {i:Int} (h:dm n H l i):ad n H l i<4096∧10+2*n≤ad n H l i:=by
 rw [ad_val]
 obtain ⟨g1,g2,g3,g4⟩:=id g
 obtain ⟨h1,h2⟩:=h
 by_cases e:i=-1
 ·rw [if_pos e];omega
 ·rw [if_neg e]
  have h1:=h1.resolve_left e
  rcases g.h with rfl|rfl|rfl|rfl<;>omega
theorem ad_inj (g:Geo n H) {l m:Nat} {i k:Int} (h:dm n H l i) (h':dm n H m k) (e:ad n H l i=ad n H m k):l=m∧i=k:=by
 rw [ad_val,ad_val] at e
 obtain ⟨g1,g2,g3,g4⟩:=id g
 obtain ⟨h1,h2⟩:=h
 obtain ⟨h3,h4⟩:=h'
 by_cases e1:i=-1
 ·by_cases e2:k=-1
  ·rw [if_pos e1,if_pos e2] at e;omega
  ·rw [if_pos e1,if_neg e2] at e
   have h3:=h3.resolve_left e2
   rcases g.h with rfl|rfl|rfl|rfl<;>omega
 ·by_cases e2:k=-1
  ·rw [if_neg e1,if_pos e2] at e
   have h1:=h1.resolve_left e1
   rcases g.h with rfl|rfl|rfl|rfl<;>omega
  ·rw [if_neg e1,if_neg e2] at e
   have h1:=h1.resolve_left e1
   have h3:=h3.resolve_left e2
   rcases g.h with rfl|rfl|rfl|rfl<;>omega
theorem pd_lt (g:Geo n H) {i p:Int} (_h0:0≤i) (h1:i<n) (h2:0≤p) (h3:p<4):pd n H i p<4096:=by
 rw [pd_val]
 obtain ⟨g1,g2,g3,g4⟩:=id g
 rcases g.h with rfl|rfl|rfl|rfl<;>omega
theorem pd_ne (g:Geo n H) {l:Nat} {i k p:Int} (h:dm n H l i) (_h0:0≤k) (_h1:k<n) (h2:0≤p) (h3:p<4):pd n H k p≠ad n H l i:=by
 rw [pd_val,ad_val]
 obtain ⟨g1,g2,g3,g4⟩:=id g
 obtain ⟨h4,h5⟩:=h
 by_cases e:i=-1
 ·rw [if_pos e];rcases g.h with rfl|rfl|rfl|rfl<;>omega
 ·rw [if_neg e]
  have h4:=h4.resolve_left e
  rcases g.h with rfl|rfl|rfl|rfl<;>omega
theorem pd_inj (g:Geo n H) {i k p q:Int} (_h0:0≤i) (_h1:i<n) (h2:0≤p) (h3:p<4) (k0:0≤k) (k1:k<n) (q0:0≤q) (q1:q<4) (e:pd n H i p=pd n H k q):p=q:=by
 rw [pd_val,pd_val] at e
 obtain ⟨g1,g2,g3,g4⟩:=id g
 rcases g.h with rfl|rfl|rfl|rfl<;>omega
theorem pt4 (_g:Geo n H) {l:Nat} {i:Int} (h0:0≤i):ptA (tw n H) i (4+l)=nxA (tw n H) i l:=by
 unfold ptA nxA
 rw [if_neg (by omega)]
theorem tw_ok (g:Geo n H):(tw n H).ok:=by
 obtain ⟨g1,g2,g3,g4⟩:=g
 refine ⟨?_,?_,?_,?_,?_,?_,?_,?_⟩<;>simp only [tw]<;>omega
theorem tw_fit (g:Geo n H) {ws:List Int} (hl:ws.length=4096):(tw n H).fit (szW n H) ws:=by
 refine ⟨tw_ok g,?_,?_,?_,hl⟩<;>simp only [tw,szW]<;>obtain ⟨g1,g2,g3,g4⟩:=id g<;>rcases g.h with rfl|rfl|rfl|rfl<;>omega
theorem tw_has (g:Geo n H) {l:Nat} {i:Int} (h:dm n H l i):(tw n H).has i l:=by
 obtain ⟨h1,h2⟩:=h
 exact ⟨tw_ok g,by omega,by simp only [tw];omega,h1⟩
end
def keyF (ks:List Int) (i:Int):Int:=ks.getD i.toNat 0
def hiF (n:Nat) (hs:List Int) (i:Int):Nat:=if 0≤i∧i<n then (hs.getD i.toNat 0).toNat else 0
def up2 {α:Type} (f:Nat→Int→α) (l:Nat) (i:Int) (v:α):Nat→Int→α:=fun m=>if m=l then updF (f m) i v else f m
theorem up2_eq {α:Type} {f:Nat→Int→α} {l:Nat} {i:Int} {v:α}:up2 f l i v l i=v:=by
 show (if l=l then updF (f l) i v else f l) i=v
 rw [if_pos rfl,XX]
theorem up2_ne {α:Type} {f:Nat→Int→α} {l m:Nat} {i k:Int} {v:α} (h:¬ (m=l∧k=i)):up2 f l i v m k=f m k:=by
 show (if m=l then updF (f m) i v else f m) k=f m k
 by_cases e:m=l
 ·rw [if_pos e];exact XW fun e2=>h ⟨e,e2⟩
 ·rw [if_neg e]
structure Nums (n H:Nat) (ks hs:List Int):Prop where
 g:Geo n H
 kl:ks.length=n
 hl:hs.length=n
 k0:∀ i:Int,0≤i→i<n→0≤keyF ks i∧keyF ks i<18446744073709551616
 ki:∀ i k:Int,0≤i→i<n→0≤k→k<n→keyF ks i=keyF ks k→i=k
 h1:∀ i:Int,0≤i→i<n→1≤hs.getD i.toNat 0∧hs.getD i.toNat 0≤H
structure WI (n H:Nat) (ks hs:List Int) (nx:Nat→Int→Int) (mk:Nat→Int→Bool) (ws:List Int):Prop where
 len:ws.length=4096
 lk:∀ l i,dm n H l i→ws.getD (ad n H l i) 0=lnkW (nx l i) (mk l i)
 rg:∀ l i,dm n H l i→-1≤nx l i∧nx l i<n
 key:∀ i:Int,0≤i→i<n→ws.getD (pd n H i 0) 0=keyF ks i
 job:∀ i:Int,0≤i→i<n→ws.getD (pd n H i 1) 0=i
 hig:∀ i:Int,0≤i→i<n→ws.getD (pd n H i 2) 0=hs.getD i.toNat 0
section
variable {n H:Nat} {ks hs ws:List Int} {nx:Nat→Int→Int} {mk:Nat→Int→Bool}
theorem WI.set (W:WI n H ks hs nx mk ws) (g:Geo n H) {l:Nat} {i v:Int} {b:Bool} (h:dm n H l i) (v0:-1≤v) (v1:v<n):WI n H ks hs (up2 nx l i v) (up2 mk l i b) (ws.set (ad n H l i) (lnkW v b)):=by
 have hlt:=(ad_lt g h).1
 refine ⟨by rw [List.length_set];exact W.len,fun m k hk=>?_,fun m k hk=>?_,fun k k0 k1=>?_,fun k k0 k1=>?_,fun k k0 k1=>?_⟩
 ·by_cases e:m=l∧k=i
  ·obtain ⟨rfl,rfl⟩:=e
   rw [XV (by rw [W.len];exact hlt),up2_eq,up2_eq]
  ·rw [XU (fun e2=>e ((ad_inj g hk h e2.symm))),up2_ne e,up2_ne e];exact W.lk m k hk
 ·by_cases e:m=l∧k=i
  ·obtain ⟨rfl,rfl⟩:=e
   rw [up2_eq];exact ⟨v0,v1⟩
  ·rw [up2_ne e];exact W.rg m k hk
 ·rw [XU (fun e=>pd_ne g h k0 k1 (by decide) (by decide) e.symm)];exact W.key k k0 k1
 ·rw [XU (fun e=>pd_ne g h k0 k1 (by decide) (by decide) e.symm)];exact W.job k k0 k1
 ·rw [XU (fun e=>pd_ne g h k0 k1 (by decide) (by decide) e.symm)];exact W.hig k k0 k1
theorem WI.oth (W:WI n H ks hs nx mk ws) (g:Geo n H) {a:Nat} {v:Int} (h:a<10+2*n∨∃ i:Int,0≤i∧i<n∧a=pd n H i 3):WI n H ks hs nx mk (ws.set a v):=by
 have hl:∀ l i,dm n H l i→a≠ad n H l i:=fun l i hd e=>by
  have:=ad_lt g hd
  rcases h with h|⟨k,k0,k1,h⟩
  ·omega
  ·exact pd_ne g hd k0 k1 (by decide) (by decide) (h.symm.trans e)
 have hp:∀ (i p:Int),0≤i→i<n→0≤p→p<3→a≠pd n H i p:=fun i p i0 i1 p0 p1 e=>by
  rcases h with h|⟨k,k0,k1,h⟩
  ·rw [e,pd_val] at h
   rcases g.h with rfl|rfl|rfl|rfl<;>omega
  ·have:=pd_inj g i0 i1 p0 (by omega) k0 k1 (by decide) (by decide) (e.symm.trans h)
   omega
 refine ⟨by rw [List.length_set];exact W.len,fun m k hk=>?_,W.rg,fun k k0 k1=>?_,fun k k0 k1=>?_,fun k k0 k1=>?_⟩
 ·rw [XU (hl m k hk)];exact W.lk m k hk
 ·rw [XU (hp k 0 k0 k1 (by decide) (by decide))];exact W.key k k0 k1
 ·rw [XU (hp k 1 k0 k1 (by decide) (by decide))];exact W.job k k0 k1
 ·rw [XU (hp k 2 k0 k1 (by decide) (by decide))];exact W.hig k k0 k1
theorem lk_rg {v:Int} {b:Bool} (g:Geo n H) (v0:-1≤v) (v1:v<n):v≤65534∧0≤lnkW v b∧lnkW v b<18446744073709551616:=by
 obtain ⟨g1,g2,g3,g4⟩:=g
 have:=lnkW_lt (m:=b) v0 (by omega)
 omega
theorem rM (g:Geo n H) {v:Int} {b:Bool} (v0:-1≤v) (v1:v<n):rawM (lnkW v b)=b:=by
 obtain ⟨h1,h2,h3⟩:=lk_rg (b:=b) g v0 v1
 rw [rawM_mkd h2 h3,mkdB_lnk v0 h1]
theorem rC (g:Geo n H) {v:Int} {b:Bool} (v0:-1≤v) (v1:v<n):rawC (lnkW v b)=lnkW v false:=by
 obtain ⟨h1,h2,h3⟩:=lk_rg (b:=b) g v0 v1
 rw [rawC_off h2 h3,offW_lnk v0 h1]
theorem rOn (g:Geo n H) {v:Int} {b:Bool} (v0:-1≤v) (v1:v<n):rawOn (lnkW v b)=lnkW v true:=by
 obtain ⟨h1,h2,h3⟩:=lk_rg (b:=b) g v0 v1
 rw [rawOn_on h2 h3,onW_lnk v0 h1]
theorem rA (g:Geo n H) {v:Int} {b:Bool} (v0:-1≤v) (v1:v<n):rawA (lnkW v b)=v:=by
 obtain ⟨h1,h2,h3⟩:=lk_rg (b:=b) g v0 v1
 rw [rawA_eq h2 h3]
 exact ixW_lnk v0 h1
theorem rI (g:Geo n H) {v:Int} {b:Bool} (v0:-1≤v) (v1:v<n):indT (n:Int) (lnkW v b)=v:=by
 unfold indT
 rw [rA g v0 v1,if_neg (by omega)]
theorem lk_inj (g:Geo n H) {v u:Int} {b d:Bool} (v0:-1≤v) (v1:v<n) (u0:-1≤u) (u1:u<n):lnkW v b=lnkW u d↔v=u∧b=d:=by
 have h1:=(lk_rg (b:=b) g v0 v1).1
 have h2:=(lk_rg (b:=d) g u0 u1).1
 exact ⟨fun h=>lnkW_inj v0 h1 u0 h2 h,fun h=>by rw [h.1,h.2]⟩
end
end Go.Sx
namespace Go.Sx
open Go.Proofs
theorem Geo.all {P:Nat→Nat→Prop} {n H:Nat} (g:Geo n H) (h:P 1 1∧P 1 2∧P 1 3∧P 1 4∧P 2 1∧P 2 2∧P 2 3∧P 2 4∧P 3 1∧P 3 2∧P 3 3∧P 3 4∧P 4 1∧P 4 2∧P 4 3∧P 4 4∧P 5 1∧P 5 2∧P 5 3∧P 5 4∧P 6 1∧P 6 2∧P 6 3∧P 6 4):P n H:=by
 obtain ⟨g1,g2,g3,g4⟩:=g
 have hn:n=1∨n=2∨n=3∨n=4∨n=5∨n=6:=by omega
 have hH:H=1∨H=2∨H=3∨H=4:=by omega
 rcases hn with rfl|rfl|rfl|rfl|rfl|rfl<;>rcases hH with rfl|rfl|rfl|rfl<;>simp only [h]
theorem plc_call {n H:Nat} (g:Geo n H):YD PR 22 [.int .i64 n,.int .i64 4,.int .i64 H,.int .i64 9] 0 (hO []) (.tup [.agg (tw n H).vs,.int .i64 (szW n H)]) 0 (hO []):=by
 refine g.all (P:=fun n H=>YD PR 22 [.int .i64 n,.int .i64 4,.int .i64 H,.int .i64 9] 0 (hO []) (.tup [.agg (tw n H).vs,.int .i64 (szW n H)]) 0 (hO [])) ?_
 and_intros<;>exact evX (B:=true) F0_ok S0_ok rfl 4 [] [] (by kernel_rfl) (by kernel_rfl)
def stW:List (Int×Int)→List Int→List Int
 |[],ws=>ws
 |(a,v)::l,ws=>stW l (ws.set a.toNat v)
def stJ:List (Int×Int)→List Int→MJ→MJ
 |[],_,j=>j
 |(a,v)::l,ws,j=>stJ l (ws.set a.toNat v) (jSt ws a v j)
def stB (sz:Int):List (Int×Int)→List Int→List Bool→List Bool
 |[],_,acc=>acc
 |(a,v)::l,ws,acc=>stB sz l (ws.set a.toNat v) (decide (XS a sz ws)::acc)
theorem stB_ok {sz:Int} (hs:sz≤4096):∀ (l:List (Int×Int)) (ws:List Int) (acc:List Bool),(∀ p∈l,0≤p.1∧p.1<sz)→ws.length=4096→allB acc=true→allB (stB sz l ws acc)=true
 |[],_,_,_,_,h=>h
 |(a,v)::l,ws,acc,h1,h2,h3=>by
  have ha:=h1 (a,v) (by simp)
  refine stB_ok hs l _ _ (fun p hp=>h1 p (by simp [hp])) (by rw [List.length_set];exact h2) ?_
  rw [XD] at h3 ⊢
  intro b hb
  rcases List.mem_cons.1 hb with rfl|hb
  ·exact decide_eq_true ⟨ha.1,ha.2,hs,h2⟩
  ·exact h3 b hb
def fillL (n H:Nat):List (Int×Int):=
 [(0,1)]++((List.range n).map fun (i:Nat)=>((1+(i:Int),if i+1=n then 0 else (i:Int)+2):Int×Int))++[((1+2*(n:Int),0):Int×Int)]++((List.range n).map fun (i:Nat)=>((1+(n:Int)+i,1):Int×Int))++
 [((2+2*(n:Int),0):Int×Int)]++((List.range (7+H)).map fun (i:Nat)=>((3+2*(n:Int)+i,0):Int×Int))
def fillW (n H:Nat) (ws:List Int):List Int:=stW (fillL n H) ws
def fillJ (n H:Nat) (ws:List Int) (j:MJ):MJ:=stJ (fillL n H) ws j
def FillTo (n H:Nat):Prop:=∀ (ws:List Int) (j:MJ),ws.length=4096→YD PR 24 [.agg (tw n H).vs,.ptr 0 0 0 0] 2 (hO [some (memM 1 (szW n H) j),some (XL ws)]) XJ 2 (hO [some (memM 1 (szW n H) (fillJ n H ws j)),some (XL (fillW n H ws))])
theorem fillC {n H:Nat} (orc:List (Nat×Bool)) (hs:szW n H≤4096) (hL:(fillL n H).all (fun p=>decide (0≤p.1∧p.1<szW n H))=true) (hl:Nat.blt 2 big=true)
  (hr:∀ (ws:List Int) (j:MJ),(callX (exec FA 400) FA 24 [.agg (tw n H).vs,.ptr 0 0 0 0] ⟨trO [some (memM 1 (szW n H) j),some (XL ws)],2,orc,[],[]⟩).map (fun r=>(r.1,r.2.nx,[0,1].map r.2.H.get,allB r.2.obl))=
   some (XJ,21,[some (memM 1 (szW n H) (fillJ n H ws j)),some (XL (fillW n H ws))],allB (stB (szW n H) (fillL n H) ws []))):FillTo n H:=fun ws j hlen=>
 XH (n:=400) (l:=[some (memM 1 (szW n H) j),some (XL ws)]) (l':=[some (memM 1 (szW n H) (fillJ n H ws j)),some (XL (fillW n H ws))]) (orc:=orc) (πl:=[0,1]) (nx':=21) (B:=allB (stB (szW n H) (fillL n H) ws [])) FA_ok SA_ok
  (hr ws j) (stB_ok hs _ _ _ (fun p hp=>of_decide_eq_true (List.all_eq_true.1 hL p hp)) hlen rfl) hl (by kernel_rfl) (by kernel_rfl) (by kernel_rfl) (by kernel_rfl)
theorem fill11:FillTo 1 1:=fillC (bits 68 0b11111111111111111110111101110111111011101110111011011011001111110110) (by decide) (by kernel_rfl) rfl (fun ws j=>by kernel_rfl)
theorem fill12:FillTo 1 2:=fillC (bits 70 0b1111111111111111111011110111011111101110111011101101101100111111011110) (by decide) (by kernel_rfl) rfl (fun ws j=>by kernel_rfl)
theorem fill13:FillTo 1 3:=fillC (bits 72 0b111111111111111111101111011101111110111011101110110110110011111101111110) (by decide) (by kernel_rfl) rfl (fun ws j=>by kernel_rfl)
theorem fill14:FillTo 1 4:=fillC (bits 74 0b11111111111111111110111101110111111011101110111011011011001111110111111110) (by decide) (by kernel_rfl) rfl (fun ws j=>by kernel_rfl)
theorem fill21:FillTo 2 1:=fillC (bits 74 0b11111111111111111110111101110111011111101111101110111011011011001111110110) (by decide) (by kernel_rfl) rfl (fun ws j=>by kernel_rfl)
theorem fill22:FillTo 2 2:=fillC (bits 76 0b1111111111111111111011110111011101111110111110111011101101101100111111011110) (by decide) (by kernel_rfl) rfl (fun ws j=>by kernel_rfl)
theorem fill23:FillTo 2 3:=fillC (bits 78 0b111111111111111111101111011101110111111011111011101110110110110011111101111110) (by decide) (by kernel_rfl) rfl (fun ws j=>by kernel_rfl)
theorem fill24:FillTo 2 4:=fillC (bits 80 0b11111111111111111110111101110111011111101111101110111011011011001111110111111110) (by decide) (by kernel_rfl) rfl (fun ws j=>by kernel_rfl)
theorem fill31:FillTo 3 1:=fillC (bits 80 0b11111111111111111110111101110111011101111110111111101110111011011011001111110110) (by decide) (by kernel_rfl) rfl (fun ws j=>by kernel_rfl)
theorem fill32:FillTo 3 2:=fillC (bits 82 0b1111111111111111111011110111011101110111111011111110111011101101101100111111011110) (by decide) (by kernel_rfl) rfl (fun ws j=>by kernel_rfl)
theorem fill33:FillTo 3 3:=fillC (bits 84 0b111111111111111111101111011101110111011111101111111011101110110110110011111101111110) (by decide) (by kernel_rfl) rfl (fun ws j=>by kernel_rfl)
theorem fill34:FillTo 3 4:=fillC (bits 86 0b11111111111111111110111101110111011101111110111111101110111011011011001111110111111110) (by decide) (by kernel_rfl) rfl (fun ws j=>by kernel_rfl)
theorem fill41:FillTo 4 1:=fillC (bits 86 0b11111111111111111110111101110111011101110111111011111111101110111011011011001111110110) (by decide) (by kernel_rfl) rfl (fun ws j=>by kernel_rfl)
theorem fill42:FillTo 4 2:=fillC (bits 88 0b1111111111111111111011110111011101110111011111101111111110111011101101101100111111011110) (by decide) (by kernel_rfl) rfl (fun ws j=>by kernel_rfl)
theorem fill43:FillTo 4 3:=fillC (bits 90 0b111111111111111111101111011101110111011101111110111111111011101110110110110011111101111110) (by decide) (by kernel_rfl) rfl (fun ws j=>by kernel_rfl)
theorem fill44:FillTo 4 4:=fillC (bits 92 0b11111111111111111110111101110111011101110111111011111111101110111011011011001111110111111110) (by decide) (by kernel_rfl) rfl (fun ws j=>by kernel_rfl)
theorem fill51:FillTo 5 1:=fillC (bits 92 0b11111111111111111110111101110111011101110111011111101111111111101110111011011011001111110110) (by decide) (by kernel_rfl) rfl (fun ws j=>by kernel_rfl)
theorem fill52:FillTo 5 2:=fillC (bits 94 0b1111111111111111111011110111011101110111011101111110111111111110111011101101101100111111011110) (by decide) (by kernel_rfl) rfl (fun ws j=>by kernel_rfl)
theorem fill53:FillTo 5 3:=fillC (bits 96 0b111111111111111111101111011101110111011101110111111011111111111011101110110110110011111101111110) (by decide) (by kernel_rfl) rfl (fun ws j=>by kernel_rfl)
theorem fill54:FillTo 5 4:=fillC (bits 98 0b11111111111111111110111101110111011101110111011111101111111111101110111011011011001111110111111110) (by decide) (by kernel_rfl) rfl (fun ws j=>by kernel_rfl)
theorem fill61:FillTo 6 1:=fillC (bits 98 0b11111111111111111110111101110111011101110111011101111110111111111111101110111011011011001111110110) (by decide) (by kernel_rfl) rfl (fun ws j=>by kernel_rfl)
theorem fill62:FillTo 6 2:=fillC (bits 100 0b1111111111111111111011110111011101110111011101110111111011111111111110111011101101101100111111011110) (by decide) (by kernel_rfl) rfl (fun ws j=>by kernel_rfl)
theorem fill63:FillTo 6 3:=fillC (bits 102 0b111111111111111111101111011101110111011101110111011111101111111111111011101110110110110011111101111110) (by decide) (by kernel_rfl) rfl (fun ws j=>by kernel_rfl)
theorem fill64:FillTo 6 4:=fillC (bits 104 0b11111111111111111110111101110111011101110111011101111110111111111111101110111011011011001111110111111110) (by decide) (by kernel_rfl) rfl (fun ws j=>by kernel_rfl)
theorem fill_to {n H:Nat} (g:Geo n H):FillTo n H:=g.all ⟨fill11,fill12,fill13,fill14,fill21,fill22,fill23,fill24,fill31,fill32,fill33,fill34,fill41,fill42,fill43,fill44,fill51,fill52,fill53,fill54,fill61,fill62,fill63,fill64⟩
end Go.Sx
namespace Go.Sx
def slE:List (Option V):=List.replicate 4 none++[some (.bool true)]++List.replicate 41 none
structure PW (zs:List Int) (t:List Item) (s:List (Option V)) (t1:List Item) (s1:List (Option V)) (σ σ':CS):Prop where
 w:PlPz zs t s t1 s1 σ σ'
theorem PW.trans {zs:List Int} {t t1 t2:List Item} {s s1 s2:List (Option V)} {σ σ' σ'':CS} (h:PW zs t s t1 s1 σ σ') (h':PW zs t1 s1 t2 s2 σ' σ''):PW zs t s t2 s2 σ σ'':=⟨PlPz.trans h.w h'.w⟩
theorem PW.refl {zs:List Int} {t:List Item} {s:List (Option V)} {σ:CS}:PW zs t s t s σ σ:=⟨PlPz.refl⟩
theorem StG.pw {c k k':Int} {σ σ':CS} {zs:List Int} (h:StG c σ σ') (h0:0≤k) (h1:k<bndC σ) (e:k'=IntKind.i64.wrap (k+1)):PW zs plG (slG c k) plG (slG c k') σ σ':=by
 subst e
 exact ⟨fun hβ hA=>h k h0 h1 hβ hA⟩
theorem StH.pw {c i i':Int} {σ σ':CS} {zs:List Int} {len cap:Nat} (h:StH c σ σ') (hp:XR (zs.getD i.toNat 0) 4=c) (h0:0≤i) (h1:i<(len:Int)) (h2:len=zs.length) (e:i'=IntKind.i64.wrap (i+1)):PW zs plH (slH len cap i) plH (slH len cap i') σ σ':=by
 subst e
 exact ⟨fun hβ hA=>h zs len cap i hp h0 h1 h2 hβ hA⟩
section
variable {zs:List Int} {σ:CS} {len cap:Nat} {i c k:Int}
theorem wHK (h:¬ i<(len:Int)):PW zs plH (slH len cap i) plK (slK 3) σ σ:=
 ⟨pcA 0 [] id38 38 10 (bits 1 0b0) (XB (nT h) nilB) (fun J=>by kernel_rfl) (by kernel_rfl)⟩
theorem wKG (h:c≥0):PW zs plK (slK c) plG (slG c 0) σ σ:=
 ⟨pcA 0 [] id38 38 11 (bits 1 0b1) (XB (decide_eq_true h) nilB) (fun J=>by kernel_rfl) (by kernel_rfl)⟩
theorem wGK0 (h:¬ σ.o0≥0):PW zs plG (slG 0 k) plK (slK (-1)) σ σ:=
 ⟨pcA 0 [] id38 38 8 (bits 3 0b110) (XB (nT h) nilB) (fun J=>by kernel_rfl) (by kernel_rfl)⟩
theorem wGK1 (h:¬ σ.o1≥0):PW zs plG (slG 1 k) plK (slK 0) σ σ:=
 ⟨pcA 0 [] id38 38 8 (bits 3 0b110) (XB (nT h) nilB) (fun J=>by kernel_rfl) (by kernel_rfl)⟩
theorem wGK2 (h:¬ σ.o2≥0):PW zs plG (slG 2 k) plK (slK 1) σ σ:=
 ⟨pcA 0 [] id38 38 8 (bits 3 0b110) (XB (nT h) nilB) (fun J=>by kernel_rfl) (by kernel_rfl)⟩
theorem wGK3 (h:¬ σ.o3≥0):PW zs plG (slG 3 k) plK (slK 2) σ σ:=
 ⟨pcA 0 [] id38 38 8 (bits 3 0b110) (XB (nT h) nilB) (fun J=>by kernel_rfl) (by kernel_rfl)⟩
theorem wKE:PW zs plK (slK (-1)) [.code .ret] slE σ σ:=
 ⟨pcA 0 [] id38 38 7 (bits 1 0b0) nilB (fun J=>by kernel_rfl) (by kernel_rfl)⟩
end
end Go.Sx
