/- How memory moves: new blocks, stores. -/
import Derived.Test.YtpnpmkdijmeddaaGreatSxEa
import Derived.Laws.MakeOwn
import Derived.Laws.CopyRow
set_option maxRecDepth 100000
namespace Go.Sx
def Agree (D:Nat→Prop) (L L':LM):Prop:=∀ n,D n→L n=L' n
theorem Agree.refl (D:Nat→Prop) (L:LM):Agree D L L:=fun _ _=>rfl
theorem Agree.trans {D:Nat→Prop} {A B C:LM} (h:Agree D A B) (k:Agree D B C):Agree D A C:=fun n hn=>(h n hn).trans (k n hn)
theorem Agree.mono {D D':Nat→Prop} {A B:LM} (h:Agree D' A B) (hd:∀ n,D n→D' n):Agree D A B:=fun n hn=>h n (hd n hn)
def Grow (D:Nat→Prop) (lo hi:Nat):Nat→Prop:=fun n=>D n∨(lo≤n∧n<hi)
def SR (D:Nat→Prop) (L:LM) (H:Nat→Option Ob) (w:World):Prop:=∀ L',Agree D L L'→HR L' H w
structure Mv (D:Nat→Prop) (L:LM) (H:Nat→Option Ob) (w:World) (L':LM) (H':Nat→Option Ob) (w':World):Prop where
 agree:Agree D L L'
 size:w.heap.size≤w'.heap.size
 frame:∀ b,b<w.heap.size→(∀ n o,H n=some o→o.isRo=false→(L n).blk≠some b)→w'.heap[b]?=w.heap[b]?
 sub:∀ n o b,H' n=some o→o.isRo=false→(L' n).blk=some b→w.heap.size≤b∨∃ m om,H m=some om∧om.isRo=false∧(L m).blk=some b
 os:w'.os=w.os
 tape:w'.tape=w.tape
 output:w'.output=w.output
 ro:∀ n o,H' n=some o→o.isRo=true→H n=some o
theorem Mv.refl (D:Nat→Prop) (L:LM) (H:Nat→Option Ob) (w:World):Mv D L H w L H w:=
 ⟨.refl _ _,Nat.le_refl _,fun _ _ _=>rfl,fun n o _b h hr hb=>.inr ⟨n,o,h,hr,hb⟩,rfl,rfl,rfl,fun _ _ h _=>h⟩
theorem Mv.trans {D D':Nat→Prop} {L L' L'':LM} {H H' H'':Nat→Option Ob} {w w' w'':World} (hd:∀ n,D n→D' n) (h:Mv D L H w L' H' w') (k:Mv D' L' H' w' L'' H'' w''):Mv D L H w L'' H'' w'' where
 agree:=h.agree.trans (k.agree.mono hd)
 size:=Nat.le_trans h.size k.size
 frame:=fun b hb hn=>by
  rw [k.frame b (by have:=h.size;omega) ?_,h.frame b hb hn]
  intro n o ho hr hbl
  rcases h.sub n o b ho hr hbl with h1|⟨m,om,h1,h2,h3⟩
  ·omega
  ·exact hn m om h1 h2 h3
 sub:=fun n o b ho hr hbl=>by
  rcases k.sub n o b ho hr hbl with h1|⟨m,om,h1,h2,h3⟩
  ·exact .inl (Nat.le_trans h.size h1)
  ·exact h.sub m om b h1 h2 h3
 os:=k.os.trans h.os
 tape:=k.tape.trans h.tape
 output:=k.output.trans h.output
 ro:=fun n o ho hr=>h.ro n o (k.ro n o ho hr) hr
theorem SR.live {D:Nat→Prop} {L:LM} {H:Nat→Option Ob} {w:World} (h:SR D L H w) {n:Nat} {o:Ob} (ho:H n=some o):D n:=by
 refine Classical.byContradiction fun hn=>?_
 have:=(h (fun m=>if m=n then ⟨none,1,0,0⟩ else L m) (fun m hm=>by have:m≠n:=fun e=>hn (e ▸ hm);simp [this])).ob n o ho
 cases o with
 |mem b t op=>
  cases op with
  |none=>obtain ⟨k,h1,_⟩:=this;simp at h1
  |some es=>obtain ⟨h1,_⟩:=this;simp at h1
 |ro k ws=>obtain ⟨k,h1,_⟩:=this;simp at h1
 |loop=>obtain ⟨k,arr,h1,_⟩:=this;simp at h1
 |deferred ds=>obtain ⟨k,h1,_⟩:=this;simp at h1
theorem ObR.blk_lt {L:LM} {w:World} {n:Nat} {o:Ob} (h:ObR L w n o) {b:Nat} (hb:(L n).blk=some b):b<w.heap.size:=by
 have key:∀ x,w.heap[b]?=some x→b<w.heap.size:=fun x hx=>(Array.getElem?_eq_some_iff.1 hx).1
 cases o with
 |mem bd t op=>
  cases op with
  |none=>obtain ⟨k,h1,_,h2⟩:=h;rw [hb] at h1;cases h1;exact key _ h2
  |some es=>
   obtain ⟨_,_,_,h⟩:=h
   rcases h with ⟨h1,_⟩|⟨k,cur,h1,h2,_⟩
   ·rw [hb] at h1;cases h1
   ·rw [hb] at h1;cases h1;exact key _ h2
 |ro k ws=>obtain ⟨k,h1,h2,_⟩:=h;rw [hb] at h1;cases h1;exact h2
 |loop=>obtain ⟨k,arr,h1,_,_,h2⟩:=h;rw [hb] at h1;cases h1;exact key _ h2
 |deferred ds=>obtain ⟨k,h1,_,h2⟩:=h;rw [hb] at h1;cases h1;exact key _ h2
theorem ObR.keep {L:LM} {w w':World} {n:Nat} {o:Ob} (h:ObR L w n o) (hsz:w.heap.size≤w'.heap.size) (hk:∀ b,(L n).blk=some b→b<w.heap.size→w'.heap[b]?=w.heap[b]?):ObR L w' n o:=by
 have key:∀ b x,(L n).blk=some b→w.heap[b]?=some x→w'.heap[b]?=some x:=fun b x hb hx=>(hk b hb (Array.getElem?_eq_some_iff.1 hx).1).trans hx
 cases o with
 |mem bd t op=>
  cases op with
  |none=>obtain ⟨k,h1,h3,h2⟩:=h;exact ⟨k,h1,h3,key _ _ h1 h2⟩
  |some es=>
   obtain ⟨a,b,c,h⟩:=h
   refine ⟨a,b,c,?_⟩
   rcases h with h|⟨k,cur,h1,h2,h3⟩
   ·exact .inl h
   ·exact .inr ⟨k,cur,h1,key _ _ h1 h2,h3⟩
 |ro k ws=>
  obtain ⟨b,h1,hlt,h2⟩:=h
  refine ⟨b,h1,Nat.lt_of_lt_of_le hlt hsz,fun i hi=>?_⟩
  have h3:=h2 i hi
  rw [← h3]
  exact World.cell?_of_block (hk b h1 hlt)
 |loop=>obtain ⟨k,arr,h1,h3,h4,h2⟩:=h;exact ⟨k,arr,h1,h3,h4,key _ _ h1 h2⟩
 |deferred ds=>obtain ⟨k,h1,h3,h2⟩:=h;exact ⟨k,h1,h3,key _ _ h1 h2⟩
theorem new_ok {s s':St} {o:Ob} {n:Nat} (h:s.new o=some (n,s')):n=s.nx∧s'.nx=s.nx+1∧s'.wr=s.wr∧s'.obl=s.obl∧∀ m,s'.H.get m=if m=s.nx then some o else s.H.get m:=by
 unfold St.new at h
 obtain ⟨_,h0,h⟩:=XA h
 cases h
 have hlt:s.nx<big:=Nat.blt_eq.mp (XC h0)
 exact ⟨rfl,rfl,rfl,rfl,fun m=>Tr.get_put _ _ _ _ hlt⟩
theorem upd_ok {s s':St} {o:Option Ob} {n:Nat} (h:s.upd n o=some s'):s'.nx=s.nx∧s'.wr=n::s.wr∧s'.obl=s.obl∧∀ m,s'.H.get m=if m=n then o else s.H.get m:=by
 unfold St.upd at h
 obtain ⟨_,h0,h⟩:=XA h
 cases h
 have hlt:n<big:=Nat.blt_eq.mp (XC h0)
 exact ⟨rfl,rfl,rfl,fun m=>Tr.get_put _ _ _ _ hlt⟩
structure Lg (s s':St):Prop where
 le:s.nx≤s'.nx
 log:∃ l,s'.wr=l++s.wr∧∀ n,n ∉ l→¬ (s.nx≤n∧n<s'.nx)→s'.H.get n=s.H.get n
theorem Lg.refl (s:St):Lg s s:=⟨Nat.le_refl _,[],rfl,fun _ _ _=>rfl⟩
theorem Lg.of_same {s s':St} (h:Same s s'):Lg s s':=⟨by rw [h.nx];exact Nat.le_refl _,[],by rw [h.wr];rfl,fun n _ _=>by rw [h.H]⟩
theorem Lg.trans {a b c:St} (h:Lg a b) (k:Lg b c):Lg a c:=by
 obtain ⟨h1,l,h2,h3⟩:=h
 obtain ⟨k1,m,k2,k3⟩:=k
 refine ⟨Nat.le_trans h1 k1,m++l,by rw [k2,h2,List.append_assoc],fun n hn hr=>?_⟩
 rw [k3 n (fun hh=>hn (by simp [hh])) (fun hh=>hr ⟨by omega,hh.2⟩),h3 n (fun hh=>hn (by simp [hh])) (fun hh=>hr ⟨hh.1,by omega⟩)]
theorem Lg.new {s s':St} {o:Ob} {n:Nat} (h:s.new o=some (n,s')):Lg s s':=by
 obtain ⟨_,h1,h2,_,h3⟩:=new_ok h
 exact ⟨by omega,[],by rw [h2];rfl,fun m _ hm=>by rw [h3,if_neg (fun e=>hm (by omega))]⟩
theorem Lg.upd {s s':St} {o:Option Ob} {n:Nat} (h:s.upd n o=some s'):Lg s s':=by
 obtain ⟨h1,h2,_,h3⟩:=upd_ok h
 exact ⟨by omega,[n],by rw [h2];rfl,fun m hm _=>by rw [h3,if_neg (fun e=>hm (by simp [e]))]⟩
theorem alloc_mv {D:Nat→Prop} {L:LM} {H H':Nat→Option Ob} {w w0:World} {nx:Nat} {o:Ob} {x:Obj} {li:LI} (hro:o.isRo=false) (hSR:SR D L H w) (hD:¬ D nx)
  (hH:∀ m,H' m=if m=nx then some o else H m) (hw0:w0.heap=w.heap∧w0.os=w.os∧w0.tape=w.tape∧w0.output=w.output) (hb:li.blk=some w.heap.size)
  (ho:∀ L',Agree (Grow D nx (nx+1)) (fun m=>if m=nx then li else L m) L'→ObR L' (w0.alloc x) nx o):
  Mv D L H w (fun m=>if m=nx then li else L m) H' (w0.alloc x)∧SR (Grow D nx (nx+1)) (fun m=>if m=nx then li else L m) H' (w0.alloc x):=by
 have hsz:(w0.alloc x).heap.size=w.heap.size+1:=by simp [hw0.1]
 have hold:∀ b,b<w.heap.size→(w0.alloc x).heap[b]?=w.heap[b]?:=by
  intro b hb
  rw [← hw0.1]
  exact heap_alloc_old w0 x b (by rw [hw0.1];exact hb)
 refine ⟨⟨fun n hn=>by have:n≠nx:=fun e=>hD (e ▸ hn);simp [this],by omega,fun b hb _=>hold b hb,?_,hw0.2.1,hw0.2.2.1,hw0.2.2.2,fun n o' ho' hr'=>by
  rw [hH] at ho'
  split at ho'
  ·cases ho';rw [hro] at hr';cases hr'
  ·exact ho'⟩,?_⟩
 ·intro n o' b ho' hr' hbl
  by_cases hn:n=nx
  ·subst hn
   simp only [if_true,hb] at hbl
   cases hbl
   exact .inl (Nat.le_refl _)
  ·rw [hH,if_neg hn] at ho'
   simp only [if_neg hn] at hbl
   exact .inr ⟨n,o',ho',hr',hbl⟩
 ·intro L' hL'
  have hag:Agree D L L':=fun n hn=>by
   have:=hL' n (.inl hn)
   have hne:n≠nx:=fun e=>hD (e ▸ hn)
   simpa [hne] using this
  have hnx:L' nx=li:=by have:=hL' nx (.inr ⟨Nat.le_refl _,Nat.lt_succ_self _⟩);simpa using this.symm
  have h0:=hSR L' hag
  refine ⟨fun n o' ho'=>?_,fun n m on om hn hm hne hr hbl=>?_⟩
  ·by_cases hn:n=nx
   ·subst hn
    rw [hH,if_pos rfl] at ho'
    cases ho'
    exact ho L' hL'
   ·rw [hH,if_neg hn] at ho'
    exact (h0.ob n o' ho').keep (by omega) fun b _ hb=>hold b hb
  ·have hlt:∀ m om,m≠nx→H' m=some om→∀ b,(L' m).blk=some b→b<w.heap.size:=by
    intro m om hm ho' b hb'
    rw [hH,if_neg hm] at ho'
    exact (h0.ob m om ho').blk_lt hb'
   by_cases h1:n=nx
   ·subst h1
    rw [hnx,hb]
    intro h2
    have:=hlt m om (fun e=>hne e.symm) hm _ h2.symm
    omega
   ·by_cases h2:m=nx
    ·subst h2
     rw [hnx,hb]
     intro h3
     have:=hlt n on h1 hn _ h3
     omega
    ·rw [hH,if_neg h1] at hn
     rw [hH,if_neg h2] at hm
     exact h0.inj n m on om hn hm hne hr hbl
theorem SR.sub {D:Nat→Prop} {L:LM} {H H':Nat→Option Ob} {w:World} (h:SR D L H w) (hs:∀ n o,H' n=some o→H n=some o):SR D L H' w:=
 fun L' hL'=>let h0:=h L' hL';⟨fun n o ho=>h0.ob n o (hs n o ho),fun n m on om hn hm=>h0.inj n m on om (hs _ _ hn) (hs _ _ hm)⟩
theorem write_mv {D:Nat→Prop} {L:LM} {H H':Nat→Option Ob} {w w':World} {n:Nat} {o o':Ob} {k:Nat} (hSR:SR D L H w) (hn:H n=some o) (hro:o.isRo=false) (hro':o'.isRo=false)
  (hk:(L n).blk=some k) (hH:∀ m,H' m=if m=n then some o' else H m) (hsz:w'.heap.size=w.heap.size) (hoth:∀ b,b≠k→w'.heap[b]?=w.heap[b]?)
  (hos:w'.os=w.os∧w'.tape=w.tape∧w'.output=w.output) (ho:∀ L',Agree D L L'→HR L' H w→ObR L' w' n o'):
  Mv D L H w L H' w'∧SR D L H' w':=by
 refine ⟨⟨.refl _ _,by omega,fun b hb hnn=>hoth b (fun e=>hnn n o hn hro (by rw [hk,e])),?_,hos.1,hos.2.1,hos.2.2,fun m om hm hr=>by
  rw [hH] at hm
  split at hm
  ·cases hm;rw [hro'] at hr;cases hr
  ·exact hm⟩,?_⟩
 ·intro m om b hm hr hbl
  by_cases h1:m=n
  ·subst h1;exact .inr ⟨m,o,hn,hro,hbl⟩
  ·rw [hH,if_neg h1] at hm;exact .inr ⟨m,om,hm,hr,hbl⟩
 ·intro L' hL'
  have h0:=hSR L' hL'
  have hk':(L' n).blk=some k:=by rw [← hL' n (hSR.live hn)];exact hk
  refine ⟨fun m om hm=>?_,fun m p om op hm hp hne hr hbl=>?_⟩
  ·by_cases h1:m=n
   ·subst h1;rw [hH,if_pos rfl] at hm;cases hm;exact ho L' hL' h0
   ·rw [hH,if_neg h1] at hm
    refine (h0.ob m om hm).keep (by omega) fun b hb _=>hoth b ?_
    intro e
    subst e
    exact h0.inj n m o om hn hm (fun e=>h1 e.symm) hro (by rw [hk'];simp) (by rw [hk',hb])
  ·by_cases h1:m=n
   ·subst h1
    rw [hH,if_neg (fun e=>hne e.symm)] at hp
    exact h0.inj m p o op hn hp hne hro hbl
   ·rw [hH,if_neg h1] at hm
    by_cases h2:p=n
    ·subst h2
     exact h0.inj m p om o hm hn hne hr hbl
    ·rw [hH,if_neg h2] at hp
     exact h0.inj m p om op hm hp hne hr hbl
end Go.Sx
namespace Go.Sx
section
variable {P:Program} {E:Env}
theorem single_one {v:V} (h:v.single=true) (L:LM):(v.den L).oneCell'=true:=by
 cases v<;>first|(simp [V.single] at h;done)|rfl|skip
 ·rename_i n es;simp only [V.den];cases (L n).blk<;>rfl
 ·rename_i n es bs st l;simp only [V.den];cases (L n).blk<;>rfl
theorem splice_list {α:Type} (l:List α) (p:Nat) (v:α) (vs:List α) (h:p<l.length):
  (l.take p++v::l.drop (p+1)).take (p+1)++vs++(l.take p++v::l.drop (p+1)).drop (p+1+vs.length)=l.take p++(v::vs)++l.drop (p+(v::vs).length):=by
 have hl:(l.take p).length=p:=List.length_take_of_le (by omega)
 have e1:(l.take p++v::l.drop (p+1)).take (p+1)=l.take p++[v]:=by
  rw [List.take_append,hl,List.take_of_length_le (by omega),show p+1 - p=1 by omega];rfl
 have e2:(l.take p++v::l.drop (p+1)).drop (p+1+vs.length)=l.drop (p+(v::vs).length):=by
  rw [List.drop_append,hl,List.drop_of_length_le (by omega),show p+1+vs.length - p=vs.length+1 by omega,List.nil_append,List.drop_succ_cons,List.drop_drop]
  simp only [List.length_cons];congr 1;omega
 rw [e1,e2];simp
theorem Body.wrtN_ok {idx size:Nat}:∀ (vs:List V) (b b':Body) (off:Nat) (s s':St),Body.wrtN idx size b vs off s=some (b',s')→Obl s'→
  (∀ v∈vs,v.single=true)∧(vs=[]∨idx*size+off+vs.length≤b.flat.length)∧b'.flat=(if vs=[] then b.flat else b.flat.take (idx*size+off)++vs++b.flat.drop (idx*size+off+vs.length))∧(∀ es,b'.count es=b.count es)∧Quiet s s':=by
 intro vs
 induction vs with
 |nil=>intro b b' off s s' h ho;simp only [Body.wrtN] at h;cases h;exact ⟨by simp,.inl rfl,by simp,fun _=>rfl,.refl ho⟩
 |cons v vs ih=>
  intro b b' off s s' h ho
  simp only [Body.wrtN] at h
  obtain ⟨⟨b1,s1⟩,h1,h2⟩:=XA h
  obtain ⟨g1,g2,g3,g4,g5⟩:=ih b1 b' _ s1 s' h2 ho
  obtain ⟨f1,f2,f3,f4,f5⟩:=Body.wrt_ok h1 g5.2
  refine ⟨by intro x hx;simp at hx;rcases hx with rfl|hx;exact f3;exact g1 x hx,.inr ?_,?_,fun es=>(g4 es).trans (f4 es),f5.trans g5.1⟩
  ·rcases g2 with rfl|g2
   ·simp;omega
   ·rw [f1,List.length_set] at g2;simp only [List.length_cons];simp only [Nat.succ_eq_add_one] at g2;omega
  ·rw [if_neg (by simp),g3]
   generalize hp:idx*size+off=p at *
   have hp1:idx*size+Nat.succ off=p+1:=by rw [← hp];rfl
   rw [hp1] at g2
   rw [hp1]
   have hset:b.flat.set p v=b.flat.take p++v::b.flat.drop (p+1):=List.set_eq_take_append_cons_drop.trans (by rw [if_pos f2])
   split
   ·rename_i he;subst he;rw [f1,hset];simp
   ·rename_i he
    rw [f1,hset]
    exact splice_list _ _ _ _ f2
theorem mem_at {L:LM} {w:World} {n:Nat} {b:Body} {t:TypeId} {op:Option Nat} (h:ObR L w n (.mem b t op)) (hne:0<b.flat.length):
  ∃ k cur,(L n).blk=some k∧(L n).off=0∧w.heap[k]?=some (.cells cur t (0,0))∧cur.toList.take b.flat.length=XE L b∧b.flat.length≤cur.size∧(op=none→cur.size=b.flat.length):=by
 cases op with
 |none=>
  obtain ⟨k,h1,h2,h3⟩:=h
  exact ⟨k,_,h1,h2,h3,List.take_of_length_le (by simp [XE]),by simp [XE],fun _=>by simp [XE]⟩
 |some es=>
  obtain ⟨h1,h2,h3,h⟩:=h
  rcases h with ⟨_,h4,_⟩|⟨k,cur,h4,h5,h6,h7,h8,h9⟩
  ·rw [h3,h4] at hne;omega
  ·refine ⟨k,cur,h4,h1,h5,by rw [h3];exact h9,?_,fun h=>by cases h⟩
   rw [h3,h8];exact Nat.mul_le_mul_right _ h6
theorem storeX_ok (hE:EnvOK P E) {t:TypeId} {a v:V} {s s':St} (h:storeX E t a v s=some s') (ho:Obl s'):
  Lg s s'∧Obl s∧s'.nx=s.nx∧∀ (D:Nat→Prop) (L:LM) (w:World) (av vv:Value),(∀ L',Agree D L L'→av=a.den L'∧vv=v.den L')→SR D L s.H.get w→
   ∃ w',Mv D L s.H.get w L s'.H.get w'∧SR D L s'.H.get w'∧(Instr.storeAt t av vv).run P w=.ok () w':=by
 unfold storeX at h
 split at h
 ·rename_i n idx size off
  obtain ⟨ti,hti,h⟩:=XA h
  split at h
  ·rename_i b bt op hg
   obtain ⟨_,h0,h1⟩:=XA h
   obtain ⟨_,h0',h1'⟩:=XA h1
   obtain ⟨⟨b',s1⟩,h2,h3⟩:=XA h1'
   clear h h1 h1'
   obtain ⟨u1,u2,u3,u4⟩:=upd_ok h3
   have ho1:Obl s1:=fun x hx=>ho x (by rw [u3];exact hx)
   obtain ⟨g1,g2,g3,g4,g5⟩:=Body.wrtN_ok _ _ _ _ _ _ h2 ho1
   have hlen:v.cells.length=ti.size:=Nat.beq_eq.mp (XC h0)
   have hpos:0<v.cells.length:=by have:=Nat.blt_eq.mp (XC h0');omega
   have hne:v.cells≠[]:=fun e=>by rw [e] at hpos;simp at hpos
   have hfit:idx*size+off+v.cells.length≤b.flat.length:=g2.resolve_left hne
   rw [if_neg hne] at g3
   have hlg:Lg s s':=(Lg.of_same g5.1).trans (.upd h3)
   refine ⟨hlg,g5.2,by rw [u1,g5.1.nx],fun D L w av vv hav hSR=>?_⟩
   have hT:=hE.ty _ _ hti
   obtain ⟨i,zv,d,hi,hs,hb,hzv,hzz,hu,hag,hk⟩:=hT.info
   obtain ⟨ea,evv⟩:=hav L (.refl _ _)
   have hR:=(hSR L (.refl _ _)).ob n _ hg
   obtain ⟨k,cur,e1,e2,e3,e4,e5,e6⟩:=mem_at hR (by omega)
   generalize hp:idx*size+off=p at *
   have hvc:vv.cells.toList=v.cells.map (V.den L):=by rw [evv,cells_den]
   have hvl:vv.cells.toList.length=v.cells.length:=by rw [hvc,List.length_map]
   have hone:∀ x∈vv.cells.toList,x.oneCell'=true:=by
    rw [hvc];intro x hx;obtain ⟨y,hy,rfl⟩:=List.mem_map.1 hx;exact single_one (g1 y hy) L
   have hst:=run_storeCells_at P k p bt vv.cells.toList 0 cur w e3 (by rw [hvl];omega) hone
   simp only [Nat.add_zero] at hst
   have hrun:(Instr.storeAt t av vv).run P w=.ok () (w.setRow k (cur.toList.take p++vv.cells.toList++cur.toList.drop (p+vv.cells.toList.length)).toArray):=by
    rw [ea]
    have hsz:vv.cells.size=i.size:=by rw [hs,← hlen,← hvl,Array.length_toList]
    simp only [Instr.storeAt,V.den,Instr.sureAddr,Sem.run_bind,Sem.run_pure,Result.andThen_ok,storeVar,run_sizeOf' hi,hsz,ne_eq,not_true_eq_false,if_false,e1,e2,Option.getD_some,Nat.zero_add,hp,hst]
   have hH:∀ m,s'.H.get m=if m=n then some (.mem b' bt op) else s.H.get m:=by intro m;rw [u4 m,g5.1.H]
   have hmv:=write_mv (w':=w.setRow k (cur.toList.take p++vv.cells.toList++cur.toList.drop (p+vv.cells.toList.length)).toArray) hSR hg rfl (o':=.mem b' bt op) rfl e1 hH (setRow_size _ _ _) (fun b hb=>setRow_other _ _ _ _ hb) ⟨rfl,rfl,rfl⟩ (by
    intro L' hL' hHR
    have hR':=hHR.ob n _ hg
    have hln:L n=L' n:=hL' n (hSR.live hg)
    obtain ⟨k',cur',f1,f2,f3,f4,f5,f6⟩:=mem_at hR' (by omega)
    rw [← hln,e1] at f1
    cases f1
    rw [e3] at f3
    cases f3
    obtain ⟨_,evv'⟩:=hav L' hL'
    have hvc':vv.cells.toList=v.cells.map (V.den L'):=by rw [evv',cells_den]
    have hfl:b'.flat.length=b.flat.length:=by rw [g3];simp;omega
    have htk:(cur.toList.take p++vv.cells.toList++cur.toList.drop (p+vv.cells.toList.length)).take b.flat.length=XE L' b':=by
     have hl1:(cur.toList.take p).length=p:=List.length_take_of_le (by simp;omega)
     rw [List.take_append,List.length_append,hl1,hvl]
     rw [List.take_of_length_le (l:=cur.toList.take p++vv.cells.toList) (by rw [List.length_append,hl1,hvl];omega)]
     unfold XE
     rw [g3]
     simp only [List.map_append,hvc']
     have h7:List.map (V.den L') b.flat=cur.toList.take b.flat.length:=f4.symm
     rw [List.map_take,List.map_drop,h7,List.take_take,List.drop_take]
     congr 2
     ·congr 1;congr 1;omega
    have hh:=setRow_heap w k cur (cur.toList.take p++vv.cells.toList++cur.toList.drop (p+vv.cells.toList.length)).toArray bt (0,0) e3
    have hsz:(cur.toList.take p++vv.cells.toList++cur.toList.drop (p+vv.cells.toList.length)).length=cur.size:=by
     rw [List.length_append,List.length_append,List.length_take,List.length_drop,hvl,Array.length_toList];omega
    cases op with
    |none=>
     refine ⟨k,by rw [← hln];exact e1,by rw [← hln];exact e2,?_⟩
     have h9:=htk
     rw [List.take_of_length_le (Nat.le_of_eq (hsz.trans (e6 rfl)))] at h9
     rw [hh,h9]
    |some es=>
     obtain ⟨q1,q2,q3,q4⟩:=hR'
     refine ⟨q1,by rw [g4];exact q2,by rw [hfl];exact q3,.inr ⟨k,_,by rw [← hln];exact e1,hh,?_⟩⟩
     rcases q4 with ⟨q5,_⟩|⟨k2,cur2,q5,q6,q7,q8,q9,q10⟩
     ·rw [← hln,e1] at q5;cases q5
     ·rw [← hln,e1] at q5
      cases q5
      rw [e3] at q6
      cases q6
      refine ⟨q7,q8,?_,?_⟩
      ·rw [List.size_toArray,hsz];exact q9
      ·rw [← q3,← hfl] at *
       simpa [hfl] using htk)
   exact ⟨_,hmv.1,hmv.2,hrun⟩
  ·cases h
 ·cases h
end
end Go.Sx
namespace Go.Sx
section
variable {P:Program} {E:Env}
theorem ints_ok {k:IntKind}:∀ {vs:List V} {l:List Int},ints k vs=some l→vs=l.map (V.int k):=by
 intro vs
 induction vs with
 |nil=>intro l h;simp only [ints] at h;cases h;rfl
 |cons v vs ih=>
  intro l h
  simp only [ints] at h
  split at h
  ·rename_i k' n
   obtain ⟨_,h0,h1⟩:=XA h
   obtain ⟨r,hr,h2⟩:=XA h1
   cases h2
   have hk:k=k':=by simpa using XC h0
   subst hk
   simp [ih hr]
  ·cases h
theorem rowOf_ok:∀ {sh:List Sh} {vs rest:List V} {l:List Int},rowOf sh vs=some (l,rest)→vs=shRow sh l++rest:=by
 intro sh
 induction sh with
 |nil=>intro vs rest l h;simp only [rowOf] at h;cases h;rfl
 |cons s ss ih=>
  intro vs rest l h
  cases vs with
  |nil=>simp [rowOf] at h
  |cons v vs=>
   simp only [rowOf] at h
   obtain ⟨n,hn,h1⟩:=XA h
   obtain ⟨⟨l',r'⟩,hr,h2⟩:=XA h1
   cases h2
   rw [ih hr]
   simp [shRow,Sh.of_mk hn]
theorem rowsOf_ok:∀ {n:Nat} {sh:List Sh} {vs:List V} {l:List (List Int)},rowsOf sh n vs=some l→vs=l.flatMap (shRow sh)∧l.length=n:=by
 intro n
 induction n with
 |zero=>
  intro sh vs l h
  cases vs with
  |nil=>simp only [rowsOf] at h;cases h;exact ⟨rfl,rfl⟩
  |cons v vs=>simp [rowsOf] at h
 |succ n ih=>
  intro sh vs l h
  simp only [rowsOf] at h
  obtain ⟨⟨r,rest⟩,hr,h1⟩:=XA h
  obtain ⟨l',hl,h2⟩:=XA h1
  cases h2
  obtain ⟨g1,g2⟩:=ih hl
  simp only at g1
  rw [rowOf_ok hr,g1]
  exact ⟨by simp,by simp [g2]⟩
theorem mkBody_ok {r:RowK} {n es:Nat} {cs:List V} {b:Body} (h:mkBody r n cs=some b) (hl:cs.length=n*es) (hes:0<es)
  (hr:∀ k,r=.words k→es=1):b.flat=cs∧b.count es=n:=by
 unfold mkBody at h
 split at h
 ·obtain ⟨l,h1,h2⟩:=XA h
  cases h2
  have:=ints_ok h1
  have hr:=hr _ rfl
  subst hr
  refine ⟨this.symm,?_⟩
  simp only [Body.count]
  rw [this] at hl;simpa using hl
 ·obtain ⟨l,h1,h2⟩:=XA h
  cases h2
  obtain ⟨g1,g2⟩:=rowsOf_ok h1
  exact ⟨g1.symm,g2⟩
 ·cases h
  refine ⟨rfl,?_⟩
  simp only [Body.count]
  by_cases h1:es=1
  ·subst h1;simp [hl]
  ·rw [XG h1,cond_false,hl];exact Nat.mul_div_cancel _ hes
theorem repeatV_length (z:List V):∀ n,(repeatV z n).length=n*z.length:=by
 intro n
 induction n with
 |zero=>simp [repeatV]
 |succ n ih=>simp only [repeatV,List.length_append,ih,Nat.succ_mul];omega
theorem repeatV_get (z:List V) (_hz:0<z.length):∀ n i,i<n*z.length→(repeatV z n)[i]?=z[i % z.length]?:=by
 intro n
 induction n with
 |zero=>intro i hi;simp at hi
 |succ n ih=>
  intro i hi
  simp only [repeatV]
  rw [Nat.succ_mul] at hi
  by_cases h:i<z.length
  ·rw [List.getElem?_append_left h,Nat.mod_eq_of_lt h]
  ·rw [List.getElem?_append_right (by omega),ih _ (by omega)]
   rw [show i % z.length=(i - z.length) % z.length from by rw [← Nat.mod_eq_sub_mod (by omega)]]
theorem madeCells_eq (L:LM) (z:List V) (zc:Array Value) (hzc:zc.toList=z.map (V.den L)) (n:Nat) (hz:0<z.length):
  (madeCells zc (n*z.length)).toList=(repeatV z n).map (V.den L):=by
 have hs:zc.size=z.length:=by rw [← Array.length_toList,hzc,List.length_map]
 apply List.ext_getElem?
 intro i
 simp only [madeCells,Array.toList_map,List.getElem?_map,Array.toList_range]
 by_cases hi:i<n*z.length
 ·rw [List.getElem?_range hi,repeatV_get z hz n i hi]
  have hm:i % z.length<z.length:=Nat.mod_lt _ hz
  simp only [Option.map_some,hs]
  rw [List.getElem?_eq_getElem hm]
  simp only [Option.map_some]
  congr 1
  rw [getElem!_pos zc _ (by rw [hs];exact hm)]
  have h1:zc.toList[i % z.length]?=some (zc[i % z.length]'(by rw [hs];exact hm)):=by simp
  rw [hzc,List.getElem?_map,List.getElem?_eq_getElem hm] at h1
  simpa using h1.symm
 ·rw [List.getElem?_eq_none (by simp;omega),List.getElem?_eq_none (by rw [repeatV_length];omega)];rfl
theorem made_ok {D:Nat→Prop} {L:LM} {s s':St} {w w0:World} {b:Body} {elem:TypeId} {es n c m:Nat} {arr:Array Value} (hnew:s.new (.mem b elem (some es))=some (m,s')) (hSR:SR D L s.H.get w)
  (hD:∀ n,D n→n<s.nx∨s'.nx≤n) (hw0:w0.heap=w.heap∧w0.os=w.os∧w0.tape=w.tape∧w0.output=w.output) (hcount:b.count es=n) (hflen:b.flat.length=n*es) (hnc:n≤c) (hc:c≤maxLen)
  (hsz:arr.size=c*es) (hcells:∀ L',Agree D L L'→arr.toList.take (n*es)=XE L' b):
  ∃ L',Mv D L s.H.get w L' s'.H.get (w0.alloc (.cells arr elem))∧SR (Grow D s.nx s'.nx) L' s'.H.get (w0.alloc (.cells arr elem))∧
   (∀ L'',Agree (Grow D s.nx s'.nx) L' L''→.slice (some ⟨w.heap.size,0,none⟩) n c=(V.osl m es).den L''):=by
 obtain ⟨n1,n2,n3,n4,n5⟩:=new_ok hnew
 subst n1
 have hD':¬ D s.nx:=fun hh=>by rcases hD _ hh with h|h<;>omega
 have hnx:∀ L'',Agree (Grow D s.nx (s.nx+1)) (fun m=>if m=s.nx then (⟨some w.heap.size,0,n,c⟩:LI) else L m) L''→L'' s.nx=⟨some w.heap.size,0,n,c⟩:=by
  intro L'' h
  have:=h s.nx (.inr ⟨Nat.le_refl _,Nat.lt_succ_self _⟩)
  simpa using this.symm
 have h1:=alloc_mv (D:=D) (L:=L) (w:=w) (w0:=w0) (nx:=s.nx) (o:=.mem b elem (some es)) (x:=.cells arr elem) (li:=⟨some w.heap.size,0,n,c⟩) rfl hSR hD' n5 hw0 rfl (by
  intro L' hL'
  have hag:Agree D L L':=fun k hk=>by
   have:=hL' k (.inl hk)
   have hne:k≠s.nx:=fun e=>hD' (e ▸ hk)
   simpa [hne] using this
  have hl:=hnx L' hL'
  refine ⟨by rw [hl],by rw [hl];exact hcount,by rw [hl];exact hflen,.inr ⟨w.heap.size,arr,by rw [hl],?_,by rw [hl];exact hnc,by rw [hl];exact hc,by rw [hl];exact hsz,by rw [hl];exact hcells L' hag⟩⟩
  rw [← hw0.1]
  exact heap_alloc_new w0 _)
 rw [n2]
 exact ⟨_,h1.1,h1.2,fun L'' hL''=>by simp [V.den,hnx L'' hL'']⟩
theorem boxed_ok {D:Nat→Prop} {L:LM} {s s':St} {w:World} {b:Body} {t:TypeId} {m:Nat} {arr:Array Value} (hnew:s.new (.mem b t none)=some (m,s')) (hSR:SR D L s.H.get w)
  (hD:∀ n,D n→n<s.nx∨s'.nx≤n) (hcells:∀ L',Agree D L L'→arr.toList=XE L' b):
  ∃ L',Mv D L s.H.get w L' s'.H.get (w.alloc (.cells arr t))∧SR (Grow D s.nx s'.nx) L' s'.H.get (w.alloc (.cells arr t))∧
   (∀ L'',Agree (Grow D s.nx s'.nx) L' L''→.pointer (some ⟨w.heap.size,0,none⟩)=(V.ptr m 0 0 0).den L''):=by
 obtain ⟨n1,n2,n3,n4,n5⟩:=new_ok hnew
 subst n1
 have hD':¬ D s.nx:=fun hh=>by rcases hD _ hh with h|h<;>omega
 have hnx:∀ L'',Agree (Grow D s.nx (s.nx+1)) (fun m=>if m=s.nx then (⟨some w.heap.size,0,0,0⟩:LI) else L m) L''→L'' s.nx=⟨some w.heap.size,0,0,0⟩:=by
  intro L'' h
  have:=h s.nx (.inr ⟨Nat.le_refl _,Nat.lt_succ_self _⟩)
  simpa using this.symm
 have h1:=alloc_mv (D:=D) (L:=L) (w:=w) (w0:=w) (nx:=s.nx) (o:=.mem b t none) (x:=.cells arr t) (li:=⟨some w.heap.size,0,0,0⟩) rfl hSR hD' n5 ⟨rfl,rfl,rfl,rfl⟩ rfl (by
  intro L' hL'
  have hag:Agree D L L':=fun k hk=>by
   have:=hL' k (.inl hk)
   have hne:k≠s.nx:=fun e=>hD' (e ▸ hk)
   simpa [hne] using this
  have hl:=hnx L' hL'
  refine ⟨w.heap.size,by rw [hl],by rw [hl],?_⟩
  rw [← hcells L' hag]
  exact heap_alloc_new w _)
 rw [n2]
 exact ⟨_,h1.1,h1.2,fun L'' hL''=>by simp [V.den,hnx L'' hL'']⟩
theorem fill_size (place:Nat→Option (Nat×Nat)):∀ (ps:List (Nat×V)) (cs cs':List V),fillX place cs ps=some cs'→cs'.length=cs.length:=
 fun ps cs cs' h=>(fillX_ok (fun _=>⟨none,0,0,0⟩) place place (fun _ _ h=>h) ps cs cs' h).1
theorem buildSliceX_ok (hE:EnvOK P E) {t:TypeId} {len:Nat} {ps:List (Nat×V)} {v:V} {s s':St} (h:buildSliceX E t len ps s=some (v,s')) (ho:Obl s'):
  Lg s s'∧Obl s∧∀ (D:Nat→Prop) (L:LM) (w:World) (pv:Array (Nat×Value)),(∀ L',Agree D L L'→pv.toList=ps.map fun p=>(p.1,p.2.den L'))→SR D L s.H.get w→(∀ n,D n→n<s.nx∨s'.nx≤n)→
   ∃ L' w' val,Mv D L s.H.get w L' s'.H.get w'∧SR (Grow D s.nx s'.nx) L' s'.H.get w'∧(∀ L'',Agree (Grow D s.nx s'.nx) L' L''→val=v.den L'')∧(Instr.buildSlice t len pv).run P w=.ok val w':=by
 unfold buildSliceX at h
 obtain ⟨ti,hti,h1⟩:=XA h
 clear h
 obtain ⟨i,zv,d,hi,hs,hb,hzv,hzz,hu,hag,hk⟩:=(hE.ty _ _ hti).info
 split at h1
 ·rename_i elem hkd
  rw [hkd] at hk
  cases hk
  obtain ⟨ei,hei,h2⟩:=XA h1
  obtain ⟨_,c1,h3⟩:=XA h2
  obtain ⟨_,c2,h4⟩:=XA h3
  obtain ⟨z,hz,h5⟩:=XA h4
  obtain ⟨_,c3,h6⟩:=XA h5
  obtain ⟨cs,hcs,h7⟩:=XA h6
  obtain ⟨b,hbd,h8⟩:=XA h7
  obtain ⟨⟨m,s1⟩,hnew,h9⟩:=XA h8
  cases h9
  clear h1 h2 h3 h4 h5 h6 h7 h8
  have hTe:=hE.ty _ _ hei
  obtain ⟨ie,ze,de,hie,hse,hbe,hze,hzze,hue,hage,hke⟩:=hTe.info
  have hle:len*ei.size≤16777216:=Nat.ble_eq.mp (XC c1)
  have hes:0<ei.size:=Nat.blt_eq.mp (XC c2)
  have hzl:z.length=ei.size:=Nat.beq_eq.mp (XC c3)
  obtain ⟨n1,n2,n3,n4,n5⟩:=new_ok hnew
  have hcl:cs.length=len*ei.size:=by rw [fill_size _ _ _ _ hcs,repeatV_length,hzl]
  obtain ⟨hf,hc⟩:=mkBody_ok hbd hcl hes (fun k hk=>by
   have:=hTe.row
   rw [hk] at this
   exact this.1)
  refine ⟨Lg.new hnew,fun x hx=>ho x (by rw [n4];exact hx),fun D L w pv hpv hSR hD=>?_⟩
  have hD':¬ D s.nx:=fun hh=>by rcases hD _ hh with h|h<;>omega
  have hzc:∀ L,ze.cells.toList=z.map (V.den L):=fun L=>by rw [hzze L,XE,zeros_eq hz]
  have hcells:∀ L',Agree D L L'→(Instr.fill (fun i=>some (i*ie.size,ie.size)) (madeCells ze.cells (len*ie.size)) pv.toList)=some (cs.map (V.den L')).toArray:=by
   intro L' hL'
   rw [hpv L' hL']
   have h10:=(fillX_ok L' _ (fun i=>some (i*ie.size,ie.size)) (fun i x hx=>by cases hx;rw [hse];rfl) ps _ cs hcs).2
   rw [← h10]
   congr 1
   apply Array.ext'
   rw [hse,← hzl,madeCells_eq L' z _ (hzc L') len (by omega)]
  have hrun:(Instr.buildSlice t len pv).run P w=.ok (.slice (some ⟨w.heap.size,0,none⟩) len len) (w.alloc (.cells (cs.map (V.den L)).toArray elem)):=by
   have h11:=hcells L (.refl _ _)
   have h12:¬ (len*ie.size > 2 ^ 24):=by rw [hse];simp;omega
   have h13:(Instr.fill (fun i=>some (i*ie.size,ie.size)) ((Array.range (len*ie.size)).map (fun x=>(if len*ie.size=0 then #[] else ze.cells)[x % (if len*ie.size=0 then #[] else ze.cells).size]!)) pv.toList)=some (cs.map (V.den L)).toArray:=by
    rw [← h11]
    by_cases h0:len*ie.size=0
    ·rw [if_pos h0];unfold madeCells;rw [h0];simp only [show Array.range 0=#[] from rfl,Array.map_empty]
    ·rw [if_neg h0];rfl
   by_cases h0:len*ie.size=0
   ·simp only [if_pos h0] at h13
    simp only [Instr.buildSlice,Sem.run_bind,run_und hu,Result.andThen_ok,run_sizeOf' hie,if_neg h12,if_pos h0,h13,newRow,run_newObj,Sem.run_pure,World.alloc_eq,Sem.run_ite]
   ·simp only [if_neg h0] at h13
    simp only [Instr.buildSlice,Sem.run_bind,run_und hu,Result.andThen_ok,run_sizeOf' hie,if_neg h12,if_neg h0,run_zero' hie hze,h13,newRow,run_newObj,Sem.run_pure,World.alloc_eq,Sem.run_ite]
  have hfl:b.flat.length=len*ei.size:=by rw [hf,hcl]
  have hlm:len≤maxLen:=by
   have:len*1≤len*ei.size:=Nat.mul_le_mul_left _ hes
   unfold maxLen;omega
  obtain ⟨L',g1,g2,g3⟩:=made_ok (w0:=w) (arr:=(cs.map (V.den L)).toArray) hnew hSR hD ⟨rfl,rfl,rfl,rfl⟩ hc hfl (Nat.le_refl _) hlm (by simp [hcl]) (by
   intro L' hL'
   have e:=hcells L' hL'
   rw [hcells L (.refl _ _)] at e
   have e2:cs.map (V.den L)=cs.map (V.den L'):=by simpa using e
   rw [e2]
   unfold XE
   rw [hf,List.take_of_length_le (by simp [hcl])])
  exact ⟨L',_,_,g1,g2,g3,hrun⟩
 ·cases h1
theorem repeatV_map {β:Type} (f:V→β) (z:List V):∀ n,(repeatV z n).map f=(List.replicate n (z.map f)).flatten:=by
 intro n
 induction n with
 |zero=>rfl
 |succ n ih=>simp [repeatV,ih,List.replicate_succ]
theorem repeatV_take (z:List V):∀ l c,l≤c→(repeatV z c).take (l*z.length)=repeatV z l:=by
 intro l
 induction l with
 |zero=>intro c _;simp [repeatV]
 |succ l ih=>
  intro c h
  cases c with
  |zero=>omega
  |succ c=>
   simp only [repeatV]
   rw [Nat.succ_mul,Nat.add_comm,List.take_length_add_append,ih c (by omega)]
theorem shRow_zeros:∀ (sh:List Sh),shRow sh (List.replicate sh.length 0)=shRow sh []:=by
 intro sh
 induction sh with
 |nil=>rfl
 |cons s ss ih=>simp [List.replicate_succ,shRow,ih]
theorem makeSliceX_ok (hE:EnvOK P E) {t:TypeId} {l c v:V} {s s':St} (h:makeSliceX E t l c s=some (v,s')) (ho:Obl s'):
  Lg s s'∧Obl s∧∀ (D:Nat→Prop) (L:LM) (w:World) (lv cv:Value),(∀ L',Agree D L L'→lv=l.den L'∧cv=c.den L')→SR D L s.H.get w→(∀ n,D n→n<s.nx∨s'.nx≤n)→
   ∃ L' w' val,Mv D L s.H.get w L' s'.H.get w'∧SR (Grow D s.nx s'.nx) L' s'.H.get w'∧(∀ L'',Agree (Grow D s.nx s'.nx) L' L''→val=v.den L'')∧(Instr.makeSlice t lv cv).run P w=.ok val w':=by
 unfold makeSliceX at h
 obtain ⟨ti,hti,h1⟩:=XA h
 clear h
 obtain ⟨i,zv,d,hi,hs,hb,hzv,hzz,hu,hag,hk⟩:=(hE.ty _ _ hti).info
 split at h1
 ·rename_i elem hkd
  rw [hkd] at hk
  cases hk
  obtain ⟨ei,hei,h2⟩:=XA h1
  obtain ⟨lz,hlz,h3⟩:=XA h2
  obtain ⟨cz,hcz,h4⟩:=XA h3
  obtain ⟨_,c1,h5⟩:=XA h4
  obtain ⟨_,c2,h6⟩:=XA h5
  obtain ⟨s1,hnd,h7⟩:=XA h6
  clear h1 h2 h3 h4 h5 h6
  obtain ⟨kl,rfl⟩:=asInt_ok hlz
  obtain ⟨kc,rfl⟩:=asInt_ok hcz
  have hTe:=hE.ty _ _ hei
  obtain ⟨ie,ze,de,hie,hse,hbe,hze,hzze,hue,hage,hke⟩:=hTe.info
  have hes:0<ei.size:=Nat.blt_eq.mp (XC c1)
  have hby:ei.bytes≤1048576:=Nat.ble_eq.mp (XC c2)
  have key:∃ b m,s1.new (.mem b elem (some ei.size))=some (m,s')∧v=.osl m ei.size∧b.count ei.size=lz.toNat∧(∀ L,XE L b=(repeatV ei.zb.flat lz.toNat).map (V.den L)):=by
   split at h7
   ·rename_i k hrow
    obtain ⟨⟨m,s2⟩,hn,h8⟩:=XA h7
    cases h8
    have hr:=hTe.row
    rw [hrow] at hr
    refine ⟨_,m,hn,rfl,by simp [Body.count],fun L=>?_⟩
    rw [repeatV_map]
    have:=hr.2 L
    unfold XE at this
    rw [this]
    unfold XE
    simp [Body.flat,V.den,List.map_replicate]
   ·rename_i sh hrow
    obtain ⟨⟨m,s2⟩,hn,h8⟩:=XA h7
    cases h8
    have hr:=hTe.row
    rw [hrow] at hr
    refine ⟨_,m,hn,rfl,by simp [Body.count],fun L=>?_⟩
    rw [repeatV_map]
    have:=hr.2 L
    unfold XE at this
    rw [this]
    unfold XE
    simp only [Body.flat]
    generalize lz.toNat=n
    induction n with
    |zero=>rfl
    |succ n ih=>simp [List.replicate_succ,shRow_zeros,ih]
   ·rename_i hrow
    obtain ⟨z,hz,h8⟩:=XA h7
    obtain ⟨_,c3,h9⟩:=XA h8
    obtain ⟨⟨m,s2⟩,hn,h10⟩:=XA h9
    cases h10
    have hzl:z.length=ei.size:=Nat.beq_eq.mp (XC c3)
    refine ⟨_,m,hn,rfl,?_,fun L=>?_⟩
    ·simp only [Body.count]
     by_cases h1:ei.size=1
     ·rw [h1,Nat.beq_refl,cond_true,repeatV_length,hzl,h1,Nat.mul_one]
     ·rw [XG h1,cond_false,repeatV_length,hzl];exact Nat.mul_div_cancel _ hes
    ·rw [zeros_eq hz];rfl
  obtain ⟨b,m,hnew,rfl,hcnt,hcells⟩:=key
  obtain ⟨n1,n2,n3,n4,n5⟩:=new_ok hnew
  obtain ⟨hd,hq⟩:=XI hnd (fun x hx=>ho x (by rw [n4];exact hx))
  have hd':0≤lz∧lz≤cz∧cz≤1048576:=by simpa using hd
  refine ⟨(Lg.of_same hq.1).trans (Lg.new hnew),hq.2,fun D L w lv cv hlc hSR hD=>?_⟩
  obtain ⟨rfl,rfl⟩:=hlc L (.refl _ _)
  have hbb:(ie.bytes:Int)*cz≤281474976710656:=by
   rw [hbe]
   have h1:(ei.bytes:Int)≤1048576:=by omega
   have h2:(ei.bytes:Int)*cz≤1048576*1048576:=Int.mul_le_mul h1 hd'.2.2 (by omega) (by omega)
   omega
  have hrun:=run_make (P:=P) w t elem ie ze hu hie hze kl kc lz cz hd'.1 hd'.2.1 hbb (by omega)
  rw [← hq.1.H] at hSR
  have hfl:b.flat.length=lz.toNat*ei.size:=by
   have:=congrArg List.length (hcells L)
   simpa [XE,repeatV_length,hTe.zlen] using this
  obtain ⟨L',g1,g2,g3⟩:=made_ok (w0:=w) (c:=cz.toNat) (arr:=madeCells ze.cells (cz.toNat*ie.size)) hnew hSR (by rw [hq.1.nx];exact hD) ⟨rfl,rfl,rfl,rfl⟩ hcnt hfl (by omega) (by unfold maxLen;omega)
   (by rw [size_madeCells,hse]) (by
    intro L' _
    have:=madeCells_eq L' ei.zb.flat ze.cells (hzze L') cz.toNat (by rw [hTe.zlen];exact hes)
    rw [hTe.zlen] at this
    rw [hse,this,hcells L',← List.map_take]
    have h2:=repeatV_take ei.zb.flat lz.toNat cz.toNat (by omega)
    rw [hTe.zlen] at h2
    rw [h2])
  rw [hq.1.H] at g1
  rw [hq.1.nx] at g2 g3
  exact ⟨L',_,_,g1,g2,g3,hrun⟩
 ·cases h1
end
end Go.Sx
