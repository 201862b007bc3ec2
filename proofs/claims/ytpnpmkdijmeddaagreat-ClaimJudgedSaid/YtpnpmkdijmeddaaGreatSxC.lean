/- What the interpreter's data mean in the model's memory; reading. -/
import Derived.Test.YtpnpmkdijmeddaaGreatSxB
import Derived.Laws.AppendOwn
import Derived.Laws.Tables
set_option maxRecDepth 100000
namespace Go.Sx
theorem XC {b:Bool} {u:Unit} (h:chk b=some u):b=true:=by
 cases b<;>simp [chk] at h ⊢
theorem XA {α β:Type} {x:Option α} {f:α→Option β} {b:β} (h:x.bind f=some b):∃ a,x=some a∧f a=some b:=
 Option.bind_eq_some_iff.1 h
theorem nth_eq {α:Type}:∀ (l:List α) (n:Nat),nth l n=l[n]?:=by
 intro l
 induction l with
 |nil=>intro n;simp [nth]
 |cons x xs ih=>
  intro n
  simp only [nth]
  cases n with
  |zero=>simp
  |succ n=>simp [XG (a:=n+1) (b:=0) (by omega),ih]
theorem setNth_eq {α:Type}:∀ (l:List α) (n:Nat) (v:α),setNth l n v=l.set n v:=by
 intro l
 induction l with
 |nil=>intro n v;simp [setNth]
 |cons x xs ih=>
  intro n v
  simp only [setNth]
  cases n with
  |zero=>simp
  |succ n=>simp [XG (a:=n+1) (b:=0) (by omega),ih]
theorem takeN_eq {α:Type}:∀ (n:Nat) (l:List α),takeN n l=l.take n:=by
 intro n
 induction n with
 |zero=>intro l;simp [takeN]
 |succ n ih=>intro l;cases l<;>simp [takeN,ih]
theorem dropN_eq {α:Type}:∀ (n:Nat) (l:List α),dropN n l=l.drop n:=by
 intro n
 induction n with
 |zero=>intro l;simp [dropN]
 |succ n ih=>intro l;cases l<;>simp [dropN,ih]
theorem pos_eq (idx size off:Nat):pos idx size off=idx*size+off:=by
 unfold pos
 by_cases h0:size=0
 ·subst h0;simp
 ·rw [XG h0,cond_false]
  by_cases h1:size=1
  ·subst h1
   simp only [Nat.beq_refl,cond_true,Nat.mul_one]
   by_cases h2:off=0
   ·subst h2;simp
   ·rw [XG h2,cond_false];rfl
  ·rw [XG h1,cond_false];rfl
def Obl (s:St):Prop:=∀ b∈s.obl,b=true
structure Same (s s':St):Prop where
 H:s'.H=s.H
 nx:s'.nx=s.nx
 wr:s'.wr=s.wr
theorem Same.refl (s:St):Same s s:=⟨rfl,rfl,rfl⟩
theorem Same.trans {a b c:St} (h:Same a b) (k:Same b c):Same a c:=⟨k.H.trans h.H,k.nx.trans h.nx,k.wr.trans h.wr⟩
def Quiet (s s':St):Prop:=Same s s'∧Obl s
theorem Quiet.refl {s:St} (h:Obl s):Quiet s s:=⟨.refl s,h⟩
theorem Quiet.trans {a b c:St} (h:Quiet a b) (k:Same b c):Quiet a c:=⟨h.1.trans k,h.2⟩
theorem dec_ok {b c:Bool} {s s':St} (h:dec b s=(c,s')) (ho:Obl s'):c=b∧Quiet s s':=by
 unfold dec at h
 split at h
 ·cases h;exact ⟨rfl,.refl ho⟩
 ·rename_i n d r hr
  cases hb:Nat.beq n 0 with
  |true=>
   rw [hb,cond_true] at h
   cases h
   have h1:=ho (cond c b (!b)) (by simp)
   refine ⟨?_,⟨⟨rfl,rfl,rfl⟩,fun x hx=>ho x (by simp [hx])⟩⟩
   cases c<;>cases b<;>simp_all
  |false=>
   rw [hb,cond_false] at h
   cases h
   exact ⟨rfl,⟨⟨rfl,rfl,rfl⟩,fun x hx=>ho x hx⟩⟩
theorem XI {b:Bool} {s s':St} (h:need b s=some s') (ho:Obl s'):b=true∧Quiet s s':=by
 unfold need at h
 split at h
 ·rename_i s2 hd
  cases h
  obtain ⟨h1,h2⟩:=dec_ok hd ho
  exact ⟨h1.symm,h2⟩
 ·cases h
theorem ofScalar_den {x:Value} {v:V} (L:LM) (h:V.ofScalar x=some v):v.den L=x:=by
 unfold V.ofScalar at h
 split at h<;>cases h<;>rfl
theorem ofScalars_den (L:LM):∀ (l:List Value) (vs:List V),ofScalars l=some vs→vs.map (V.den L)=l:=by
 intro l
 induction l with
 |nil=>intro vs h;simp only [ofScalars] at h;cases h;rfl
 |cons x xs ih=>
  intro vs h
  simp only [ofScalars] at h
  obtain ⟨v,hv,h⟩:=XA h
  obtain ⟨r,hr,h⟩:=XA h
  cases h
  simp [ofScalar_den L hv,ih _ hr]
theorem ofVal_den {x:Value} {v:V} (L:LM) (h:V.ofVal x=some v):v.den L=x:=by
 unfold V.ofVal at h
 split at h
 ·cases h;rfl
 ·rename_i cs
  obtain ⟨l,hl,h⟩:=XA h
  cases h
  simp [V.den,denL_eq,ofScalars_den L _ _ hl]
 ·exact ofScalar_den L h
def TmpR (L:LM) (nt:Nat) (T:Tr V) (a:Array Value):Prop:=
 a.size=nt∧∀ t,a.getD t undef=((T.get t).getD XJ).den L
theorem den_undef (L:LM):XJ.den L=undef:=rfl
def evalA (a:Array Value):Operand→Value
 |.tmp t=>a.getD t undef
 |.const v=>v
 |.global g=>.pointer (some ⟨g,0,none⟩)
 |.func f=>.func (.func f) #[] #[]
theorem ev_ok {L:LM} {nt:Nat} {T:Tr V} {a:Array Value} (h:TmpR L nt T a) {x:Operand} {v:V} (hx:ev T x=some v):evalA a x=v.den L:=by
 cases x with
 |tmp t=>
  simp only [ev] at hx
  have:=h.2 t
  simp only [evalA]
  rw [this]
  split at hx
  ·rename_i hg;cases hx;rw [hg];rfl
  ·rename_i hg;cases hx;rw [hg];rfl
 |const c=>simp only [ev] at hx;simp only [evalA];exact (ofVal_den L hx).symm
 |global g=>simp [ev] at hx
 |func f=>simp only [ev] at hx;cases hx;rfl
theorem evs_ok {L:LM} {nt:Nat} {T:Tr V} {a:Array Value} (h:TmpR L nt T a):∀ {xs:List Operand} {vs:List V},evs T xs=some vs→xs.map (evalA a)=vs.map (V.den L):=by
 intro xs
 induction xs with
 |nil=>intro vs hx;simp only [evs] at hx;cases hx;rfl
 |cons x xs ih=>
  intro vs hx
  simp only [evs] at hx
  obtain ⟨v,hv,hx⟩:=XA hx
  obtain ⟨r,hr,hx⟩:=XA hx
  cases hx
  simp [ev_ok h hv,ih hr]
theorem shRow_length:∀ (sh:List Sh) (r:List Int),(shRow sh r).length=sh.length:=by
 intro sh
 induction sh with
 |nil=>intro r;rfl
 |cons s ss ih=>intro r;cases r<;>simp [shRow,ih]
theorem shRow_get:∀ (sh:List Sh) (r:List Int) (i:Nat) (h:Sh),sh[i]?=some h→(shRow sh r)[i]?=some (h.mk (r.getD i 0)):=by
 intro sh
 induction sh with
 |nil=>intro r i h hh;simp at hh
 |cons s ss ih=>
  intro r i h hh
  cases i with
  |zero=>simp at hh;subst hh;cases r<;>simp [shRow]
  |succ i=>simp at hh;cases r with
   |nil=>simp [shRow,ih _ _ _ hh]
   |cons x xs=>simp [shRow,ih _ _ _ hh]
theorem flatMap_get {α β:Type} (f:α→List β) (n:Nat) (hf:∀ x,(f x).length=n):∀ (l:List α) (i j:Nat),j<n→(l.flatMap f)[i*n+j]?=(l[i]?).bind fun x=>(f x)[j]?:=by
 intro l
 induction l with
 |nil=>intro i j h;simp
 |cons x xs ih=>
  intro i j h
  rw [List.flatMap_cons]
  cases i with
  |zero=>simp [List.getElem?_append_left (by rw [hf];exact h:j<(f x).length)]
  |succ i=>
   rw [List.getElem?_append_right (by rw [hf,Nat.succ_mul];omega)]
   rw [hf]
   have e:(i+1)*n+j - n=i*n+j:=by rw [Nat.succ_mul];omega
   rw [e,ih _ _ h]
   simp
theorem flatMap_length {α β:Type} (f:α→List β) (n:Nat) (hf:∀ x,(f x).length=n):∀ (l:List α),(l.flatMap f).length=l.length*n:=by
 intro l
 induction l with
 |nil=>simp
 |cons x xs ih=>rw [List.flatMap_cons,List.length_append,hf,ih,List.length_cons,Nat.succ_mul];omega
theorem Body.rd_ok {b:Body} {idx size off:Nat} {s s':St} {v:V} (h:b.rd idx size off s=some (v,s')) (ho:Obl s'):
  b.flat[idx*size+off]?=some v∧Quiet s s':=by
 unfold Body.rd at h
 split at h
 ·obtain ⟨w,hw,h⟩:=XA h
  cases h
  rw [nth_eq,pos_eq] at hw
  exact ⟨hw,.refl ho⟩
 ·rename_i k ws
  obtain ⟨s1,h1,h⟩:=XA h
  cases h
  obtain ⟨hd,hq⟩:=XI h1 ho
  rw [pos_eq] at hd ⊢
  have hlt:idx*size+off<ws.length:=by simpa using hd
  refine ⟨?_,hq⟩
  simp [Body.flat,List.getElem?_map,List.getElem?_eq_getElem hlt,List.getD_eq_getElem?_getD]
 ·rename_i sh rs
  obtain ⟨_,h0,h⟩:=XA h
  obtain ⟨hh,h1,h⟩:=XA h
  obtain ⟨s1,h2,h⟩:=XA h
  cases h
  obtain ⟨hd,hq⟩:=XI h2 ho
  have hlt:idx<rs.length:=by simpa using hd
  have hsz:size=sh.length:=Nat.beq_eq.mp (XC h0)
  rw [nth_eq] at h1
  have hoff:off<sh.length:=(List.getElem?_eq_some_iff.1 h1).1
  refine ⟨?_,hq⟩
  show ((rs.flatMap (shRow sh))[idx*size+off]?)=_
  rw [hsz,flatMap_get _ _ (shRow_length sh) _ _ _ hoff,List.getElem?_eq_getElem hlt]
  simp only [Option.bind_some]
  rw [shRow_get _ _ _ _ h1]
  simp [List.getD_eq_getElem?_getD,List.getElem?_eq_getElem hlt]
theorem Body.rdN_ok {b:Body} {idx size:Nat}:∀ (n off:Nat) {s s':St} {vs:List V},b.rdN idx size n off s=some (vs,s')→Obl s'→
  vs.length=n∧(∀ j,j<n→b.flat[idx*size+(off+j)]?=vs[j]?)∧Quiet s s':=by
 intro n
 induction n with
 |zero=>intro off s s' vs h ho;simp only [Body.rdN] at h;cases h;exact ⟨rfl,fun j hj=>absurd hj (by omega),.refl ho⟩
 |succ n ih=>
  intro off s s' vs h ho
  simp only [Body.rdN] at h
  obtain ⟨⟨v,s1⟩,h1,h⟩:=XA h
  obtain ⟨⟨vs',s2⟩,h2,h⟩:=XA h
  cases h
  obtain ⟨hl,hg,hq⟩:=ih _ h2 ho
  obtain ⟨hv,hq1⟩:=Body.rd_ok h1 hq.2
  refine ⟨by simp [hl],?_,hq1.trans hq.1⟩
  intro j hj
  cases j with
  |zero=>simpa using hv
  |succ j=>
   have:=hg j (by omega)
   simp only [Nat.succ_eq_add_one] at this
   rw [show off+(j+1)=off+1+j from by omega,this]
   simp
theorem shRow_nil_set:∀ (sh:List Sh) (n:Nat) (v:Int) (h:Sh),sh[n]?=some h→shRow sh (rowSet.rowSet0 n v)=(shRow sh []).set n (h.mk v):=by
 intro sh
 induction sh with
 |nil=>intro n v h hh;simp at hh
 |cons s ss ih=>
  intro n v h hh
  cases n with
  |zero=>simp at hh;subst hh;simp [rowSet.rowSet0,shRow]
  |succ n=>simp at hh;simp [rowSet.rowSet0,shRow,ih _ _ _ hh]
theorem rowSet_ok:∀ (sh:List Sh) (r:List Int) (n:Nat) (v:Int) (h:Sh),sh[n]?=some h→shRow sh (rowSet r n v)=(shRow sh r).set n (h.mk v):=by
 intro sh
 induction sh with
 |nil=>intro r n v h hh;simp at hh
 |cons s ss ih=>
  intro r n v h hh
  cases r with
  |nil=>
   simp only [rowSet]
   cases n with
   |zero=>simp at hh;subst hh;simp [shRow]
   |succ n=>
    simp at hh
    simp only [XG (a:=n+1) (b:=0) (by omega),cond_false,shRow,List.set_cons_succ]
    rw [show Nat.sub (n+1) 1=n from rfl,shRow_nil_set _ _ _ _ hh]
  |cons x xs=>
   simp only [rowSet]
   cases n with
   |zero=>simp at hh;subst hh;simp [shRow]
   |succ n=>
    simp at hh
    simp only [XG (a:=n+1) (b:=0) (by omega),cond_false,shRow,List.set_cons_succ]
    rw [show Nat.sub (n+1) 1=n from rfl,ih _ _ _ _ hh]
theorem Sh.of_mk {h:Sh} {v:V} {n:Int} (hh:h.of v=some n):h.mk n=v:=by
 unfold Sh.of at hh
 split at hh
 ·split at hh
  ·rename_i hk;cases hh;subst hk;rfl
  ·cases hh
 ·rename_i b;cases hh;cases b<;>simp [Sh.mk]
 ·cases hh
theorem Sh.of_single {h:Sh} {v:V} {n:Int} (hh:h.of v=some n):v.single=true:=by
 unfold Sh.of at hh
 split at hh
 ·rfl
 ·rfl
 ·cases hh
theorem flatMap_set {α β:Type} (f:α→List β) (n:Nat) (hf:∀ x,(f x).length=n):∀ (l:List α) (i j:Nat) (x y:α) (b:β),j<n→l[i]?=some x→f y=(f x).set j b→
  (l.set i y).flatMap f=(l.flatMap f).set (i*n+j) b:=by
 intro l
 induction l with
 |nil=>intro i j x y b _ hx;simp at hx
 |cons z zs ih=>
  intro i j x y b hj hx hy
  cases i with
  |zero=>
   simp at hx;subst hx
   simp only [List.set_cons_zero,List.flatMap_cons,Nat.zero_mul,Nat.zero_add]
   rw [List.set_append_left _ _ (by rw [hf];exact hj),hy]
  |succ i=>
   simp at hx
   simp only [List.set_cons_succ,List.flatMap_cons]
   rw [ih i j x y b hj hx hy,List.set_append_right _ _ (by rw [hf,Nat.succ_mul];omega),hf]
   congr 2
   rw [Nat.succ_mul];omega
theorem Body.wrt_ok {b b':Body} {idx size off:Nat} {v:V} {s s':St} (h:b.wrt idx size off v s=some (b',s')) (ho:Obl s'):
  b'.flat=b.flat.set (idx*size+off) v∧idx*size+off<b.flat.length∧v.single=true∧(∀ es,b'.count es=b.count es)∧Quiet s s':=by
 unfold Body.wrt at h
 split at h
 ·obtain ⟨_,h0,h⟩:=XA h
  obtain ⟨w,hw,h⟩:=XA h
  cases h
  rw [nth_eq,pos_eq] at hw
  rw [setNth_eq,pos_eq]
  exact ⟨rfl,(List.getElem?_eq_some_iff.1 hw).1,XC h0,fun es=>by simp [Body.count],.refl ho⟩
 ·rename_i k ws
  split at h
  ·rename_i k' n
   obtain ⟨_,h0,h⟩:=XA h
   obtain ⟨s1,h1,h⟩:=XA h
   cases h
   obtain ⟨hd,hq⟩:=XI h1 ho
   have hk:k=k':=by simpa using XC h0
   subst hk
   rw [pos_eq] at hd ⊢
   have hlt:idx*size+off<ws.length:=by simpa using hd
   exact ⟨by simp [Body.flat,List.map_set],by simpa [Body.flat] using hlt,rfl,fun es=>by simp [Body.count],hq⟩
  ·cases h
 ·rename_i sh rs
  obtain ⟨_,h0,h⟩:=XA h
  obtain ⟨hh,h1,h⟩:=XA h
  obtain ⟨n,h2,h⟩:=XA h
  obtain ⟨s1,h3,h⟩:=XA h
  cases h
  obtain ⟨hd,hq⟩:=XI h3 ho
  have hlt:idx<rs.length:=by simpa using hd
  have hsz:size=sh.length:=Nat.beq_eq.mp (XC h0)
  rw [nth_eq] at h1
  have hoff:off<sh.length:=(List.getElem?_eq_some_iff.1 h1).1
  have hg:rs[idx]?=some (rs.getD idx []):=by simp [List.getD_eq_getElem?_getD,List.getElem?_eq_getElem hlt]
  refine ⟨?_,?_,Sh.of_single h2,fun es=>by simp [Body.count],hq⟩
  ·show (rs.set idx _).flatMap (shRow sh)=(rs.flatMap (shRow sh)).set _ _
   rw [hsz]
   exact flatMap_set _ _ (shRow_length sh) _ _ _ _ _ _ hoff hg (by rw [rowSet_ok _ _ _ _ _ h1,Sh.of_mk h2])
  ·show _<(rs.flatMap (shRow sh)).length
   rw [flatMap_length _ _ (shRow_length sh),hsz]
   have h5:(idx+1)*sh.length≤rs.length*sh.length:=Nat.mul_le_mul_right _ hlt
   rw [Nat.succ_mul] at h5
   omega
end Go.Sx
namespace Go.Sx
def Dfr.den (L:LM):Dfr→Deferred
 |.collected l=>{target:=.collected ((L l).blk.getD 0),args:=#[]}
 |.call f args caps=>{target:=.fn (.func f) (caps.map (V.den L)).toArray,args:=(args.map (V.den L)).toArray}
def XE (L:LM) (b:Body):List Value:=b.flat.map (V.den L)
def ObR (L:LM) (w:World) (n:Nat):Ob→Prop
 |.mem b t none=>∃ k,(L n).blk=some k∧(L n).off=0∧w.heap[k]?=some (.cells (XE L b).toArray t (0,0))
 |.mem b t (some es)=>(L n).off=0∧b.count es=(L n).len∧b.flat.length=(L n).len*es∧
   (((L n).blk=none∧(L n).len=0∧(L n).cap=0)∨∃ k cur,(L n).blk=some k∧w.heap[k]?=some (.cells cur t (0,0))∧(L n).len≤(L n).cap∧(L n).cap≤maxLen∧
    cur.size=(L n).cap*es∧cur.toList.take ((L n).len*es)=XE L b)
 |.ro k ws=>∃ b,(L n).blk=some b∧b<w.heap.size∧∀ i (h:i<ws.length),w.cell? ⟨b,(L n).off+i,none⟩=some (.int k ws[i])
 |.loop st pe fn tmps nt params assign body dl=>∃ k arr,(L n).blk=some k∧(L n).off=0∧TmpR L nt tmps arr∧
   w.heap[k]?=some (.loop {state:=st,pending:=pe,fn,tmps:=arr,params:=params.toArray,assign,body,defers:=(L dl).blk.getD 0})
 |.deferred ds=>∃ k,(L n).blk=some k∧(L n).off=0∧w.heap[k]?=some (.deferred (ds.map fun l=>l.map (Dfr.den L)))
def Ob.isRo:Ob→Bool
 |.ro ..=>true
 |_=>false
structure HR (L:LM) (H:Nat→Option Ob) (w:World):Prop where
 ob:∀ n o,H n=some o→ObR L w n o
 inj:∀ n m on om,H n=some on→H m=some om→n≠m→on.isRo=false→(L n).blk≠none→(L n).blk≠(L m).blk
def Ob.flat:Ob→List V
 |.mem b _ _=>b.flat
 |.ro k ws=>ws.map (V.int k)
 |_=>[]
theorem cell_of {L:LM} {w:World} {n:Nat} {o:Ob} (h:ObR L w n o) {p:Nat} {v:V} (hp:o.flat[p]?=some v):
  w.cell? ⟨(L n).blk.getD 0,(L n).off+p,none⟩=some (v.den L):=by
 cases o with
 |mem b t op=>
  cases op with
  |none=>
   obtain ⟨k,h1,h2,h3⟩:=h
   simp only [Ob.flat] at hp
   simp [World.cell?,h1,h2,h3,XE,hp]
  |some es=>
   obtain ⟨h2,hc,hl,h⟩:=h
   simp only [Ob.flat] at hp
   have hlt:=(List.getElem?_eq_some_iff.1 hp).1
   rcases h with ⟨_,h0,_⟩|⟨k,cur,h1,h3,_,_,_,h4⟩
   ·rw [hl,h0] at hlt;omega
   ·have h5:(XE L b)[p]?=some (v.den L):=by simp [XE,hp]
    rw [← h4,List.getElem?_take_of_lt (by rw [← hl];exact hlt)] at h5
    simp [World.cell?,h1,h2,h3]
    simpa using h5
 |ro k ws=>
  obtain ⟨b,h1,_,h2⟩:=h
  simp only [Ob.flat] at hp
  have hlt:p<ws.length:=by simpa using (List.getElem?_eq_some_iff.1 hp).1
  have:=h2 p hlt
  simp [List.getElem?_eq_getElem hlt] at hp
  subst hp
  simp [h1,this,V.den]
 |loop=>simp [Ob.flat] at hp
 |deferred=>simp [Ob.flat] at hp
def isAggD:TypeDesc→Bool
 |.struct _=>true
 |.array _ _=>true
 |_=>false
def Szd (P:Program) (t:TypeId) (size:Nat) (ag:Bool):Prop:=
 ∃ i d,P.info? t=some i∧i.size=size∧P.underlying t=some d∧isAggD d=ag
def KdR (P:Program) (d:TypeDesc):Kd→Prop
 |.struct fs=>∃ fields:Array Field,d=.struct fields∧fields.size=fs.length∧∀ (i o sz:Nat) (ag:Bool),fs[i]?=some (o,sz,ag)→∃ f:Field,fields[i]?=some f∧f.offset=o∧Szd P f.type sz ag
 |.arr n es ag=>∃ e,d=.array n e∧Szd P e es ag
 |.slice e=>d=.slice e
 |.intk k=>d=.int k
 |.bool=>d=.bool
 |.ptr=>∃ e i,d=.pointer e∧P.info? e=some i∧i.size≠0
 |.func=>∃ a b c,d=.func a b c
 |.iface=>∃ ms,d=.interface ms
 |.other=>True
structure TIok (P:Program) (t:TypeId) (ti:TI):Prop where
 info:∃ i z d,P.info? t=some i∧i.size=ti.size∧i.bytes=ti.bytes∧i.zero=some z∧(∀ L,z.cells.toList=XE L ti.zb)∧
  P.underlying t=some d∧isAggD d=ti.agg∧KdR P d ti.kind
 zlen:ti.zb.flat.length=ti.size
 row:match ti.row with
  |.words k=>ti.size=1∧∀ L,XE L ti.zb=[.int k 0]
  |.rows sh=>ti.size=sh.length∧∀ L,XE L ti.zb=(shRow sh []).map (V.den L)
  |.cells=>True
def intVals (ks:List IntKind) (ns:List Int):List Value:=(ks.zip ns).map fun x=>Value.int x.1 x.2
def SEok (P:Program) (t:TypeId) (ks:List IntKind):Prop:=∀ (xs ys:List Int) (w:World),xs.length=ks.length→ys.length=ks.length→
 (Op.equal t (.agg (intVals ks xs).toArray) (.agg (intVals ks ys).toArray)).run P w=.ok (eqL xs ys) w∧∀ op (x y:Operand),(eqGuard op t x y (.agg (intVals ks xs).toArray) (.agg (intVals ks ys).toArray)).run P w=.ok () w
def IMok (P:Program) (t:TypeId) (n:String) (f:FuncId):Prop:=∀ (v:Value) (w:World),(method (P.types.size+Made.depth) t v n).run P w=.ok (f,v) w
def PZok (P:Program) (t:TypeId):Prop:=(∃ e,P.underlying t=some (.pointer e))∧∀ w,(zeroValue t).run P w=.ok (.pointer none) w
structure EnvOK (P:Program) (E:Env):Prop where
 mixed:P.follows .mixedOrders=true
 ty:∀ t ti,E.TT t=some ti→TIok P t ti
 fn:∀ f fn,E.FT f=some fn→P.funcs[f]?=some fn∧∀ args w,(callFunc f args).run P w=.ok (.enter f args) w
 se:∀ t ks,E.SE t=some ks→SEok P t ks
 im:∀ t n f,E.IM t n=some f→IMok P t n f
 pz:∀ t,E.PZ t=true→PZok P t
section
variable {P:Program} {E:Env}
theorem run_sizeOf' {t:TypeId} {i:TypeInfo} (h:P.info? t=some i) (w:World):(sizeOf t).run P w=.ok i.size w:=by simp [sizeOf,typeInfo,h]
theorem run_und {t:TypeId} {d:TypeDesc} (h:P.underlying t=some d) (w:World):(underlying t).run P w=.ok d w:=by simp [underlying,h]
theorem run_isAgg' {t:TypeId} {d:TypeDesc} (h:P.underlying t=some d) (w:World):(isAgg t).run P w=.ok (isAggD d) w:=by
 simp only [isAgg,Sem.run_bind,run_und h,Result.andThen_ok]
 cases d<;>rfl
theorem run_zero' {t:TypeId} {i:TypeInfo} {z:Value} (h:P.info? t=some i) (hz:i.zero=some z) (w:World):(zeroValue t).run P w=.ok z w:=by simp [zeroValue,typeInfo,h,hz]
theorem addr_add (b o p:Nat):(⟨b,o,none⟩:Addr).add p=⟨b,o+p,none⟩:=by
 unfold Addr.add
 split
 ·rename_i h;subst h;rfl
 ·rfl
theorem loadX_ok (hE:EnvOK P E) {t:TypeId} {a v:V} {s s':St} (h:loadX E t a s=some (v,s')) (ho:Obl s'):
  Quiet s s'∧∀ (L:LM) (w:World),(∀ n idx size off o,a=.ptr n idx size off→s.H.get n=some o→ObR L w n o)→
   (Instr.loadAt t (a.den L)).run P w=.ok (v.den L) w:=by
 unfold loadX at h
 split at h
 ·rename_i n idx size off
  obtain ⟨ti,hti,h⟩:=XA h
  have hT:=hE.ty _ _ hti
  obtain ⟨i,z,d,hi,hs,hb,hz,hzz,hu,hag,hk⟩:=hT.info
  have hload:∀ (o:Ob),s.H.get n=some o→(∀ (v:V) (s':St),ti.agg=false→(o.flat[idx*size+off]?=some v)→∀ L w,ObR L w n o→(Instr.loadAt t ((V.ptr n idx size off).den L)).run P w=.ok (v.den L) w)∧
    (∀ (vs:List V),ti.agg=true→vs.length=ti.size→(∀ j,j<ti.size→o.flat[idx*size+(off+j)]?=vs[j]?)→∀ L w,ObR L w n o→(Instr.loadAt t ((V.ptr n idx size off).den L)).run P w=.ok ((V.agg vs).den L) w):=by
   intro o _
   constructor
   ·intro v _ hagf hg L w hR
    have hc:=cell_of hR hg
    simp only [Instr.loadAt,Instr.sureAddr,V.den,Sem.run_bind,Sem.run_pure,Result.andThen_ok,loadVar,run_isAgg' hu,hag,hagf]
    simp [hc]
   ·intro vs hagt hvl hg L w hR
    have hc:∀ j u,(vs.map (V.den L))[j]?=some u→w.cell? ((⟨(L n).blk.getD 0,(L n).off+(idx*size+off),none⟩:Addr).add j)=some u:=by
     intro j u hu'
     have hj:j<vs.length:=by have:=(List.getElem?_eq_some_iff.1 hu').1;simpa using this
     have h1:vs[j]?=some vs[j]:=List.getElem?_eq_getElem hj
     have h2:=cell_of hR ((hg j (by omega)).trans h1)
     rw [addr_add]
     simp [List.getElem?_eq_getElem hj] at hu'
     subst hu'
     rw [show (L n).off+(idx*size+off)+j=(L n).off+(idx*size+(off+j)) from by omega]
     exact h2
    have hrun:=run_loadCells_list (P:=P) w (⟨(L n).blk.getD 0,(L n).off+(idx*size+off),none⟩:Addr) (vs.map (V.den L)) hc
    simp only [List.length_map,hvl] at hrun
    simp only [Instr.loadAt,Instr.sureAddr,V.den,Sem.run_bind,Sem.run_pure,Result.andThen_ok,loadVar,run_isAgg' hu,hag,hagt,if_true,run_sizeOf' hi,hs,hrun,denL_eq]
  split at h
  ·rename_i b bt op hg
   split at h
   ·rename_i hagt
    obtain ⟨⟨vs,s1⟩,h1,h⟩:=XA h
    cases h
    obtain ⟨hl,hc,hq⟩:=Body.rdN_ok _ _ h1 ho
    exact ⟨hq,fun L w hR=>(hload _ hg).2 vs hagt hl (fun j hj=>hc j hj) L w (hR _ _ _ _ _ rfl hg)⟩
   ·rename_i hagf
    obtain ⟨_,h0,h⟩:=XA h
    obtain ⟨hv,hq⟩:=Body.rd_ok h ho
    exact ⟨hq,fun L w hR=>(hload _ hg).1 v s' hagf hv L w (hR _ _ _ _ _ rfl hg)⟩
  ·rename_i k ws hg
   split at h
   ·cases h
   ·rename_i hagf
    obtain ⟨_,h0,h⟩:=XA h
    obtain ⟨hv,hq⟩:=Body.rd_ok h ho
    exact ⟨hq,fun L w hR=>(hload _ hg).1 v s' hagf hv L w (hR _ _ _ _ _ rfl hg)⟩
  ·cases h
 ·cases h
theorem lenX_ok {v:V} {s:St} {k:Nat} (h:lenX v s=some k) (L:LM) (w:World)
  (hR:∀ n es o,v=.osl n es→s.H.get n=some o→ObR L w n o):∃ a c,v.den L=.slice a k c:=by
 unfold lenX at h
 split at h
 ·cases h;exact ⟨_,_,rfl⟩
 ·rename_i n es
  split at h
  ·rename_i b t e hg
   obtain ⟨_,h0,h⟩:=XA h
   cases h
   have he:e=es:=Nat.beq_eq.mp (XC h0)
   subst he
   obtain ⟨_,hc,_,hh⟩:=hR _ _ _ rfl hg
   simp only [V.den]
   rcases hh with ⟨h1,h2,_⟩|⟨k,cur,h1,_⟩
   ·rw [h1];simp only [];exact ⟨none,0,by rw [hc,h2]⟩
   ·rw [h1];simp only [];exact ⟨_,_,by rw [hc]⟩
  ·cases h
 ·rename_i n es start len
  cases h
  simp only [V.den]
  split<;>exact ⟨_,_,rfl⟩
 ·cases h;exact ⟨_,_,rfl⟩
 ·cases h
end
end Go.Sx
namespace Go.Sx
section
variable {P:Program} {E:Env}
theorem cells_den (L:LM) (v:V):(v.den L).cells=(v.cells.map (V.den L)).toArray:=by
 cases v<;>simp [V.den,Value.cells,V.cells,denL_eq]
 ·rename_i n es;cases (L n).blk<;>rfl
 ·rename_i n es base start len;cases (L n).blk<;>rfl
theorem layAt_ok (L:LM):∀ (vs:List V) (off:Nat) (cs cs':List V) (k:Nat),layAt cs (off+k) vs=some cs'→
  cs'.length=cs.length∧
  (((vs.map (V.den L)).zipIdx k).foldl (fun (cs:Array Value) (p:Value×Nat)=>cs.setIfInBounds (off+p.2) p.1) (cs.map (V.den L)).toArray)=(cs'.map (V.den L)).toArray:=by
 intro vs
 induction vs with
 |nil=>intro off cs cs' k h;simp only [layAt] at h;cases h;simp
 |cons v vs ih=>
  intro off cs cs' k h
  simp only [layAt] at h
  obtain ⟨x,hx,h⟩:=XA h
  rw [setNth_eq] at h
  obtain ⟨h2,h3⟩:=ih off _ _ (k+1) h
  simp only [List.length_set] at h2
  refine ⟨h2,?_⟩
  simp only [List.map_cons,List.zipIdx_cons,List.foldl_cons]
  rw [← h3]
  congr 1
  apply Array.ext'
  simp [List.map_set]
theorem fillX_ok (L:LM) (place:Nat→Option (Nat×Nat)) (place':Nat→Option (Nat×Nat)) (hp:∀ i x,place i=some x→place' i=some x):
  ∀ (ps:List (Nat×V)) (cs cs':List V),fillX place cs ps=some cs'→
   cs'.length=cs.length∧Instr.fill place' (cs.map (V.den L)).toArray (ps.map fun p=>(p.1,p.2.den L))=some (cs'.map (V.den L)).toArray:=by
 intro ps
 induction ps with
 |nil=>intro cs cs' h;simp only [fillX] at h;cases h;exact ⟨rfl,rfl⟩
 |cons p ps ih=>
  obtain ⟨i,v⟩:=p
  intro cs cs' h
  simp only [fillX] at h
  obtain ⟨⟨off,size⟩,h0,h⟩:=XA h
  obtain ⟨_,h1,h⟩:=XA h
  obtain ⟨_,h1',h⟩:=XA h
  obtain ⟨cs1,h2,h⟩:=XA h
  have hl:v.cells.length=size:=Nat.beq_eq.mp (XC h1)
  have hb:off+size≤cs.length:=Nat.ble_eq.mp (XC h1')
  obtain ⟨g2,g3⟩:=layAt_ok L v.cells off cs cs1 0 h2
  obtain ⟨i1,i2⟩:=ih _ _ h
  refine ⟨i1.trans g2,?_⟩
  simp only [List.map_cons,Instr.fill,hp _ _ h0]
  have hsz:(v.den L).cells.size=size:=by rw [cells_den];simp [hl]
  rw [if_neg (by rw [hsz];simp;omega)]
  rw [← i2]
  congr 1
  rw [cells_den,← g3]
  simp
theorem szd_size {t:TypeId} {n:Nat} {ag:Bool} (h:Szd P t n ag) (w:World):(sizeOf t).run P w=.ok n w:=by
 obtain ⟨i,d,hi,hs,_,_⟩:=h
 rw [run_sizeOf' hi,hs]
theorem szd_agg {t:TypeId} {n:Nat} {ag:Bool} (h:Szd P t n ag) (w:World):(isAgg t).run P w=.ok ag w:=by
 obtain ⟨i,d,_,_,hu,ha⟩:=h
 rw [run_isAgg' hu,ha]
theorem zeros_eq {b:Body} {z:List V} (h:zeros b=some z):b.flat=z:=by
 unfold zeros at h
 split at h
 ·cases h;rfl
 ·cases h
theorem buildX_ok (hE:EnvOK P E) {t:TypeId} {ps:List (Nat×V)} {v:V} (h:buildX E t ps=some v) (L:LM) (w:World):
  (Instr.build t (ps.map fun p=>(p.1,p.2.den L)).toArray).run P w=.ok (v.den L) w:=by
 unfold buildX at h
 obtain ⟨ti,hti,h⟩:=XA h
 obtain ⟨z,hz,h⟩:=XA h
 have hT:=hE.ty _ _ hti
 obtain ⟨i,zv,d,hi,hs,hb,hzv,hzz,hu,hag,hk⟩:=hT.info
 have hzc:zv.cells=(z.map (V.den L)).toArray:=by
  apply Array.ext'
  rw [hzz L,XE,zeros_eq hz]
 split at h
 ·rename_i fs hkd
  rw [hkd] at hk
  obtain ⟨fields,rfl,hfl,hf⟩:=hk
  obtain ⟨cs,hc,h⟩:=XA h
  cases h
  have hpl:∃ places,fields.toList.mapM (fun f=>(P.info? f.type).map fun i=>(f.offset,i.size))=some places∧∀ (i o sz:Nat) (ag:Bool),fs[i]?=some (o,sz,ag)→places[i]?=some (o,sz):=by
   clear hc hT
   have key:∀ (fl:List Field) (fs:List (Nat×Nat×Bool)),fl.length=fs.length→(∀ (i o sz:Nat) (ag:Bool),fs[i]?=some (o,sz,ag)→∃ f:Field,fl[i]?=some f∧f.offset=o∧Szd P f.type sz ag)→
     ∃ places,fl.mapM (fun f=>(P.info? f.type).map fun i=>(f.offset,i.size))=some places∧∀ (i o sz:Nat) (ag:Bool),fs[i]?=some (o,sz,ag)→places[i]?=some (o,sz):=by
    intro fl
    induction fl with
    |nil=>intro fs hl hf;cases fs with
     |nil=>exact ⟨[],rfl,fun i o sz ag h=>by simp at h⟩
     |cons _ _=>simp at hl
    |cons f fl ih=>
     intro fs hl hf
     cases fs with
     |nil=>simp at hl
     |cons x fs=>
      obtain ⟨o,sz,ag⟩:=x
      obtain ⟨f',h1,h2,i,d,h3,h4,_⟩:=hf 0 o sz ag rfl
      simp at h1;subst h1
      obtain ⟨pl,h5,h6⟩:=ih fs (by simpa using hl) (fun i o sz ag hh=>by have:=hf (i+1) o sz ag (by simpa using hh);simpa using this)
      refine ⟨(o,sz)::pl,?_,?_⟩
      ·simp [List.mapM_cons,h3,h5,h2,h4]
      ·intro i o' sz' ag' hh
       cases i with
       |zero=>simp at hh;obtain ⟨rfl,rfl,rfl⟩:=hh;rfl
       |succ i=>simp at hh;simpa using h6 i o' sz' ag' hh
   exact key fields.toList fs (by simpa using hfl) (fun i o sz ag hh=>by simpa using hf i o sz ag hh)
  obtain ⟨places,hp1,hp2⟩:=hpl
  have:=(fillX_ok L _ (fun x=>places.toArray[x]?) (fun i x hx=>by
   obtain ⟨⟨o,sz,ag⟩,h1,h2⟩:=XA hx
   rw [nth_eq] at h1
   cases h2
   simpa using hp2 _ _ _ _ h1) ps z cs hc).2
  have hb:=run_build (P:=P) w t (ps.map fun p=>(p.1,p.2.den L)).toArray (cs.map (V.den L)).toArray (by
   unfold Program.built
   simp only [hi,hu,hzv,hp1,hzc]
   simpa using this)
  rw [hb];simp [V.den,denL_eq]
 ·rename_i n es ag hkd
  rw [hkd] at hk
  obtain ⟨e,rfl,ie,de,hie,hes,_⟩:=hk
  obtain ⟨cs,hc,h⟩:=XA h
  cases h
  have:=(fillX_ok L _ (fun i=>some (i*ie.size,ie.size)) (fun i x hx=>by cases hx;rw [hes];rfl) ps z cs hc).2
  have hb:=run_build (P:=P) w t (ps.map fun p=>(p.1,p.2.den L)).toArray (cs.map (V.den L)).toArray (by
   unfold Program.built
   simp only [hi,hu,hzv,hie,hzc]
   simpa using this)
  rw [hb];simp [V.den,denL_eq]
 ·cases h
theorem pickX_ok {c a b v:V} {s s':St} (h:pickX c a b s=some (v,s')) (ho:Obl s'):
  Quiet s s'∧∀ L,∃ t,c=.bool t∧v.den L=if t then a.den L else b.den L:=by
 unfold pickX at h
 split at h
 ·rename_i t
  split at h
  ·rename_i x y
   cases h
   exact ⟨.refl ho,fun L=>⟨t,rfl,by cases t<;>rfl⟩⟩
  ·split at h
   ·rename_i s1 hd
    cases h
    obtain ⟨h1,h2⟩:=dec_ok hd ho
    exact ⟨h2,fun L=>⟨t,rfl,by rw [← h1];rfl⟩⟩
   ·rename_i s1 hd
    cases h
    obtain ⟨h1,h2⟩:=dec_ok hd ho
    exact ⟨h2,fun L=>⟨t,rfl,by rw [← h1];rfl⟩⟩
 ·cases h
theorem asInt_ok {v:V} {z:Int} (h:asInt v=some z):∃ k,v=.int k z:=by
 unfold asInt at h
 split at h
 ·cases h;exact ⟨_,rfl⟩
 ·cases h
theorem binX_ok {op:BinOp} {t:TypeId} {x y:Operand} {a b v:V} {s s':St} (h:binX op a b s=some (v,s')) (ho:Obl s'):
  Quiet s s'∧∀ L (w:World),((do eqGuard op t x y (a.den L) (b.den L);binOp op t (a.den L) (b.den L)):Sem Value).run P w=.ok (v.den L) w:=by
 unfold binX at h
 split at h
 ·rename_i k p k' q
  have hg:∀ L (w:World),(eqGuard op t x y ((V.int k p).den L) ((V.int k' q).den L)).run P w=.ok () w:=by
   intro L w
   simp only [eqGuard,V.den]
   split<;>rfl
  split at h
  ·obtain ⟨s1,h1,h⟩:=XA h
   cases h
   obtain ⟨hd,hq⟩:=XI h1 ho
   have hd':¬ q<0:=by simpa using hd
   refine ⟨hq,fun L w=>?_⟩
   rw [Sem.run_bind,hg]
   simp [V.den,binOp,Op.shift,hd']
  ·obtain ⟨s1,h1,h⟩:=XA h
   cases h
   obtain ⟨hd,hq⟩:=XI h1 ho
   have hd':¬ q<0:=by simpa using hd
   refine ⟨hq,fun L w=>?_⟩
   rw [Sem.run_bind,hg]
   simp [V.den,binOp,Op.shift,hd']
  ·rename_i hns hnr
   obtain ⟨_,h0,h2⟩:=XA h
   clear h
   have hk:k=k':=by simpa using XC h0
   subst hk
   have hb:∀ L,binOp op t ((V.int k p).den L) ((V.int k q).den L)=match op with
     |.add|.sub|.mul=>Op.intArith op k p q
     |.quo|.rem=>Op.intDiv op k p q
     |.and|.or|.xor|.andNot=>Op.intBits op k p q
     |_=>Op.intCmp op p q:=by
    intro L
    cases op<;>first|exact absurd rfl hns|exact absurd rfl hnr|simp [binOp,V.den]
   split at h2
   all_goals first
    |(cases h2;refine ⟨.refl ho,fun L w=>?_⟩;rw [Sem.run_bind,hg,Result.andThen_ok,hb];simp [V.den,Op.intArith,Op.intBits,Op.intCmp])
    |(obtain ⟨s1,h1,h3⟩:=XA h2
      cases h3
      obtain ⟨hd,hq⟩:=XI h1 ho
      have hd':¬ q=0:=by simpa using hd
      refine ⟨hq,fun L w=>?_⟩
      rw [Sem.run_bind,hg,Result.andThen_ok,hb]
      simp [V.den,Op.intDiv,hd'])
    |cases h2
 ·cases h
theorem unX_ok {op:UnOp} {a v:V} (h:unX op a=some v) (L:LM) (w:World):(Op.unary op (a.den L)).run P w=.ok (v.den L) w:=by
 unfold unX at h
 split at h<;>cases h
 ·simp [Op.unary,V.den,Op.intArith]
 ·simp [Op.unary,V.den]
 ·simp [Op.unary,V.den,Op.intBits]
structure On (L:LM) (H:Nat→Option Ob) (w:World) (rd:List Nat):Prop where
 ob:∀ n∈rd,∀ o,H n=some o→ObR L w n o
 inj:∀ n∈rd,∀ m∈rd,∀ on om,H n=some on→H m=some om→n≠m→on.isRo=false→(L n).blk≠none→(L n).blk≠(L m).blk
theorem eqX_ok {k:Kd} {t:TypeId} {d:TypeDesc} (hu:P.underlying t=some d) (hk:KdR P d k) {cst:Bool} {a b:V} {r:Bool} (h:eqX k cst a b=some r) (L:LM) (w:World):
  (Op.equal t (a.den L) (b.den L)).run P w=.ok r w∧(∀ op (x y:Operand),(isCst x||isCst y)=cst→(eqGuard op t x y (a.den L) (b.den L)).run P w=.ok () w)∧
  (∀ k n k' m,¬ (a.den L=.int k n∧b.den L=.int k' m))∧(∀ k n k' m,¬ (a.den L=.float k n∧b.den L=.float k' m))∧(∀ k n i k' m j,¬ (a.den L=.complex k n i∧b.den L=.complex k' m j))∧(∀ k n,¬ (a.den L=.string k∧b.den L=.string n)):=by
 obtain ⟨depth,hrun⟩:∃ depth,∀ (v:Value) (u:Value),(Op.equal t v u)=(Op.equalIn (depth+1) t v u):=⟨9999,fun _ _=>rfl⟩
 unfold eqX at h
 split at h
 ·cases hk
  split at h<;>cases h
  refine ⟨?_,?_,?_,?_,?_,?_⟩
  ·rw [hrun];simp [Op.equalIn,run_und hu,V.den]
  ·intro op x y _;simp only [eqGuard,V.den];split<;>rfl
  all_goals (intros;simp [V.den])
 ·obtain ⟨e,i,rfl,_,_⟩:=hk
  split at h<;>cases h
  all_goals
   refine ⟨?_,?_,?_,?_,?_,?_⟩
   ·rw [hrun];simp [Op.equalIn,run_und hu,V.den]
   ·intro op x y _;simp only [eqGuard,V.den];split<;>rfl
   all_goals (intros;simp [V.den])
 ·obtain ⟨_,_,_,rfl⟩:=hk
  split at h<;>cases h
  all_goals
   refine ⟨?_,?_,?_,?_,?_,?_⟩
   ·rw [hrun];simp [Op.equalIn,run_und hu,V.den]
   ·intro op x y _;simp only [eqGuard,V.den];split<;>rfl
   all_goals (intros;simp [V.den])
 ·cases hk
  split at h<;>cases h
  all_goals
   refine ⟨?_,?_,?_,?_,?_,?_⟩
   ·rw [hrun];simp [Op.equalIn,run_und hu,V.den]
   ·intro op x y _;simp only [eqGuard,V.den];split<;>rfl
   all_goals (intros;simp [V.den])
 ·obtain ⟨ms,rfl⟩:=hk
  split at h
  ·obtain ⟨_,h0,h2⟩:=XA h
   cases h2
   refine ⟨?_,?_,?_,?_,?_,?_⟩
   ·rw [hrun];simp [Op.equalIn,run_und hu,V.den]
   ·intro op x y hc
    have hc':=XC h0
    have hxy:isCst x=true∨isCst y=true:=by rw [hc'] at hc;simpa using hc
    simp only [eqGuard,V.den]
    rcases hxy with hx|hy
    ·cases x<;>simp [isCst] at hx
     simp
    ·cases y<;>simp [isCst] at hy
     simp
   all_goals (intros;simp [V.den])
  ·cases h
   refine ⟨?_,?_,?_,?_,?_,?_⟩
   ·rw [hrun];simp [Op.equalIn,run_und hu,V.den]
   ·intro op x y _;simp only [eqGuard,V.den];split<;>rfl
   all_goals (intros;simp [V.den])
  ·cases h
   refine ⟨?_,?_,?_,?_,?_,?_⟩
   ·rw [hrun];simp [Op.equalIn,run_und hu,V.den]
   ·intro op x y _;simp only [eqGuard,V.den];split<;>rfl
   all_goals (intros;simp [V.den])
  ·cases h
 ·cases h
theorem binOp_eql {t:TypeId} {v u:Value} (hi:∀ k n k' m,¬ (v=.int k n∧u=.int k' m)) (hf:∀ k n k' m,¬ (v=.float k n∧u=.float k' m))
  (hc:∀ k n i k' m j,¬ (v=.complex k n i∧u=.complex k' m j)) (hs:∀ k n,¬ (v=.string k∧u=.string n)):
  binOp .eql t v u=(do pure (.bool (← Op.equal t v u)))∧binOp .neq t v u=(do pure (.bool (!(← Op.equal t v u)))):=by
 cases v<;>cases u<;>first
  |exact absurd ⟨rfl,rfl⟩ (hi _ _ _ _)
  |exact absurd ⟨rfl,rfl⟩ (hf _ _ _ _)
  |exact absurd ⟨rfl,rfl⟩ (hc _ _ _ _ _ _)
  |exact absurd ⟨rfl,rfl⟩ (hs _ _)
  |exact ⟨rfl,rfl⟩
theorem intsK_ok:∀ {ks:List IntKind} {cs:List V} {ns:List Int},intsK ks cs=some ns→ns.length=ks.length∧∀ L,cs.map (V.den L)=intVals ks ns:=by
 intro ks
 induction ks with
 |nil=>
  intro cs ns h
  cases cs with
  |nil=>simp only [intsK] at h;cases h;exact ⟨rfl,fun L=>rfl⟩
  |cons v vs=>simp only [intsK] at h;cases h
 |cons k ks ih=>
  intro cs ns h
  cases cs with
  |nil=>simp only [intsK] at h;cases h
  |cons v vs=>
   simp only [intsK] at h
   split at h
   ·rename_i k' n
    obtain ⟨_,h1,h2⟩:=XA h
    obtain ⟨l,h3,h4⟩:=XA h2
    cases h4
    have hk:k=k':=of_decide_eq_true (XC h1)
    subst hk
    obtain ⟨g1,g2⟩:=ih h3
    refine ⟨by simp [g1],fun L=>?_⟩
    simp only [List.map_cons,g2 L]
    rfl
   ·cases h
theorem eqAgg_ok (hE:EnvOK P E) {t:TypeId} {ca cb:List V} {r:Bool} (h:eqAgg E t ca cb=some r) (L:LM) (w:World):
  (Op.equal t ((V.agg ca).den L) ((V.agg cb).den L)).run P w=.ok r w∧∀ op (x y:Operand),(eqGuard op t x y ((V.agg ca).den L) ((V.agg cb).den L)).run P w=.ok () w:=by
 unfold eqAgg at h
 obtain ⟨ks,h1,h2⟩:=XA h
 obtain ⟨xs,h3,h4⟩:=XA h2
 obtain ⟨ys,h5,h6⟩:=XA h4
 cases h6
 obtain ⟨g1,g2⟩:=intsK_ok h3
 obtain ⟨g3,g4⟩:=intsK_ok h5
 have:=hE.se t ks h1 xs ys w g1 g3
 simp only [V.den,denL_eq,g2 L,g4 L]
 exact this
theorem eqV_ok (hE:EnvOK P E) {op:BinOp} {t:TypeId} {x y:Operand} {a b v:V} {rd:List Nat} {s s':St} (h:eqV E op t (isCst x||isCst y) a b s=some (v,rd,s')):
  s'=s∧∀ L (w:World),On L s.H.get w rd→((do eqGuard op t x y (a.den L) (b.den L);binOp op t (a.den L) (b.den L)):Sem Value).run P w=.ok (v.den L) w:=by
 unfold eqV at h
 obtain ⟨ti,hti,h2⟩:=XA h
 clear h
 have hT:=hE.ty _ _ hti
 obtain ⟨i,zv,d,hi,hs,hb,hzv,hzz,hu,hag,hk⟩:=hT.info
 have hptr:∀ r n i1 z1 o1 m i2 z2 o2,eqPtr ti.kind (.ptr n i1 z1 o1) (.ptr m i2 z2 o2) s=some r→∀ L (w:World),On L s.H.get w [n,m]→
   (Op.equal t ((V.ptr n i1 z1 o1).den L) ((V.ptr m i2 z2 o2).den L)).run P w=.ok r w:=by
  intro r n i1 z1 o1 m i2 z2 o2 hh L w hO
  unfold eqPtr at hh
  split at hh
  ·rename_i hkd
   rw [hkd] at hk
   obtain ⟨e,ie,rfl,hie,hne⟩:=hk
   simp only at hh
   split at hh
   ·rename_i b1 t1 b2 t2 hn hm
    obtain ⟨k1,e1,f1,g1⟩:=hO.ob n (by simp) _ hn
    obtain ⟨k2,e2,f2,g2⟩:=hO.ob m (by simp) _ hm
    obtain ⟨depth,hrun⟩:∃ depth,∀ (v:Value) (u:Value),(Op.equal t v u)=(Op.equalIn (depth+1) t v u):=⟨9999,fun _ _=>rfl⟩
    rw [hrun]
    have hsz:(sizeOf e).run P w=.ok ie.size w:=run_sizeOf' hie w
    by_cases hnm:n=m
    ·subst hnm
     rw [Nat.beq_refl,cond_true] at hh
     cases hh
     simp [Op.equalIn,run_und hu,V.den,hsz,hne,sameAddr,e1,pos_eq]
     rw [Bool.eq_iff_iff]
     simp
    ·rw [XG hnm,cond_false] at hh
     cases hh
     have hb:=hO.inj n (by simp) m (by simp) _ _ hn hm hnm rfl (by rw [e1];simp)
     rw [e1,e2] at hb
     have hb':¬ k1=k2:=fun hh=>hb (by rw [hh])
     have sh1:w.shape? k1=some (t1,(XE L b1).length):=by simp [World.shape?,g1]
     have sh2:w.shape? k2=some (t2,(XE L b2).length):=by simp [World.shape?,g2]
     have fz:∀ k t c p,w.heap[k]?=some (.cells c t (0,0))→w.frozen? ⟨k,p,none⟩=false:=by intro k t c p hk;simp [World.frozen?,hk]
     simp [Op.equalIn,run_und hu,V.den,hsz,hne,sameAddr,e1,e2,hb',noView,viewAt,sh1,sh2,mayBeOne,stringish,fz _ _ _ _ g1,fz _ _ _ _ g2]
   ·cases hh
  ·cases hh
 have hosl:∀ r n es,eqOsl ti.kind n es s=some r→∀ L (w:World),On L s.H.get w [n]→
   (Op.equal t ((V.osl n es).den L) (V.nils.den L)).run P w=.ok r w∧∃ a l c,(V.osl n es).den L=.slice (some a) l c:=by
  intro r n es hh L w hO
  unfold eqOsl at hh
  split at hh
  ·rename_i el hkd
   rw [hkd] at hk
   cases hk
   split at hh
   ·rename_i b bt e hn
    obtain ⟨_,c1,c2⟩:=XA hh
    cases c2
    have hpos:0<b.count e:=Nat.blt_eq.mp (XC c1)
    obtain ⟨_,f1,_,f3⟩:=hO.ob n (by simp) _ hn
    rcases f3 with ⟨_,f4,_⟩|⟨k,cur,f4,_⟩
    ·omega
    ·obtain ⟨depth,hrun⟩:∃ depth,∀ (v:Value) (u:Value),(Op.equal t v u)=(Op.equalIn (depth+1) t v u):=⟨9999,fun _ _=>rfl⟩
     refine ⟨?_,⟨k,0,none⟩,(L n).len,(L n).cap,by simp [V.den,f4]⟩
     rw [hrun];simp [Op.equalIn,run_und hu,V.den,f4]
   ·cases hh
  ·cases hh
 split at h2
 ·split at h2
  ·rename_i n i1 z1 o1 m i2 z2 o2
   obtain ⟨r,hr,h3⟩:=XA h2
   cases h3
   refine ⟨rfl,fun L w hO=>?_⟩
   have:=hptr r _ _ _ _ _ _ _ _ hr L w hO
   simp [eqGuard,V.den,binOp]
   simp only [V.den] at this
   rw [this];rfl
  ·rename_i ca cb
   obtain ⟨r,hr,h3⟩:=XA h2
   cases h3
   refine ⟨rfl,fun L w _=>?_⟩
   obtain ⟨g1,g2⟩:=eqAgg_ok hE hr L w
   rw [Sem.run_bind,g2 _ x y,Result.andThen_ok,(binOp_eql (by simp [V.den]) (by simp [V.den]) (by simp [V.den]) (by simp [V.den])).1]
   simp only [Sem.run_bind,g1,Result.andThen_ok,Sem.run_pure]
   rfl
  ·rename_i n es
   obtain ⟨r,hr,h3⟩:=XA h2
   cases h3
   refine ⟨rfl,fun L w hO=>?_⟩
   obtain ⟨g1,a,l,c,g2⟩:=hosl _ _ _ hr L w hO
   rw [g2] at g1 ⊢
   have hg:∀ op,(eqGuard op t x y (.slice (some a) l c) (V.nils.den L)).run P w=.ok () w:=fun op=>by simp only [eqGuard];split<;>rfl
   rw [Sem.run_bind,hg,Result.andThen_ok,(binOp_eql (by simp) (by simp) (by simp) (by simp)).1]
   simp only [Sem.run_bind,g1,Result.andThen_ok,Sem.run_pure]
   rfl
  ·obtain ⟨r,hr,h3⟩:=XA h2
   cases h3
   refine ⟨rfl,fun L w _=>?_⟩
   obtain ⟨g1,g2,g3,g4,g5,g6⟩:=eqX_ok hu hk hr L w
   rw [Sem.run_bind,g2 _ x y rfl,Result.andThen_ok,(binOp_eql g3 g4 g5 g6).1]
   simp [g1,V.den]
 ·split at h2
  ·rename_i n i1 z1 o1 m i2 z2 o2
   obtain ⟨r,hr,h3⟩:=XA h2
   cases h3
   refine ⟨rfl,fun L w hO=>?_⟩
   have:=hptr r _ _ _ _ _ _ _ _ hr L w hO
   simp [eqGuard,V.den,binOp]
   simp only [V.den] at this
   rw [this];rfl
  ·rename_i ca cb
   obtain ⟨r,hr,h3⟩:=XA h2
   cases h3
   refine ⟨rfl,fun L w _=>?_⟩
   obtain ⟨g1,g2⟩:=eqAgg_ok hE hr L w
   rw [Sem.run_bind,g2 _ x y,Result.andThen_ok,(binOp_eql (by simp [V.den]) (by simp [V.den]) (by simp [V.den]) (by simp [V.den])).2]
   simp only [Sem.run_bind,g1,Result.andThen_ok,Sem.run_pure]
   rfl
  ·rename_i n es
   obtain ⟨r,hr,h3⟩:=XA h2
   cases h3
   refine ⟨rfl,fun L w hO=>?_⟩
   obtain ⟨g1,a,l,c,g2⟩:=hosl _ _ _ hr L w hO
   rw [g2] at g1 ⊢
   have hg:∀ op,(eqGuard op t x y (.slice (some a) l c) (V.nils.den L)).run P w=.ok () w:=fun op=>by simp only [eqGuard];split<;>rfl
   rw [Sem.run_bind,hg,Result.andThen_ok,(binOp_eql (by simp) (by simp) (by simp) (by simp)).2]
   simp only [Sem.run_bind,g1,Result.andThen_ok,Sem.run_pure]
   rfl
  ·obtain ⟨r,hr,h3⟩:=XA h2
   cases h3
   refine ⟨rfl,fun L w _=>?_⟩
   obtain ⟨g1,g2,g3,g4,g5,g6⟩:=eqX_ok hu hk hr L w
   rw [Sem.run_bind,g2 _ x y rfl,Result.andThen_ok,(binOp_eql g3 g4 g5 g6).2]
   simp [g1,V.den]
 ·cases h2
end
end Go.Sx
