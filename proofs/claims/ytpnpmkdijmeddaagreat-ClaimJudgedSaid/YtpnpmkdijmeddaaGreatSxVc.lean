/- A contract over a small memory as a summary: shapes are read off, what it writes is laid back. -/
import Derived.Test.YtpnpmkdijmeddaaGreatSxVb
import Derived.Test.YtpnpmkdijmeddaaGreatSxY
import Derived.Test.YtpnpmkdijmeddaaGreatSxTabC
set_option maxRecDepth 100000
namespace Go.Sx
def putAt:List Nat→List (Option Ob)→Tr Ob→Tr Ob
 |p::ps,o::os,H=>putAt ps os (H.put p o)
 |_,_,H=>H
def upN (nx:Nat):Nat→List Nat
 |0=>[]
 |k+1=>nx::upN (Nat.succ nx) k
theorem upN_length:∀ (k nx:Nat),(upN nx k).length=k
 |0,_=>rfl
 |k+1,nx=>by simp only [upN,List.length_cons,upN_length k]
theorem upN_get:∀ (k nx i:Nat),i<k→(upN nx k)[i]?=some (nx+i)
 |0,_,_,h=>absurd h (Nat.not_lt_zero _)
 |k+1,nx,0,_=>rfl
 |k+1,nx,i+1,h=>by
  simp only [upN,List.getElem?_cons_succ]
  rw [upN_get k _ i (by omega)];simp only [Nat.succ_eq_add_one];congr 1;omega
theorem upN_mem {k nx x:Nat} (h:x∈upN nx k):nx≤x∧x<nx+k:=by
 obtain ⟨i,hi⟩:=List.getElem?_of_mem h
 have hlt:i<k:=by
  have:=(List.getElem?_eq_some_iff.1 hi).1
  rwa [upN_length] at this
 rw [upN_get _ _ _ hlt] at hi
 cases hi;omega
theorem putAt_miss:∀ (ps:List Nat) (os:List (Option Ob)) (H:Tr Ob) (n:Nat),(∀ p∈ps,p<big)→¬ n∈ps→(putAt ps os H).get n=H.get n
 |[],_,_,_,_,_=>rfl
 |_::_,[],_,_,_,_=>rfl
 |p::ps,o::os,H,n,hb,hn=>by
  simp only [putAt]
  rw [putAt_miss ps os _ n (fun q hq=>hb q (by simp [hq])) (fun h=>hn (by simp [h])),Tr.get_put _ _ _ _ (hb p (by simp)),if_neg (fun e=>hn (by simp [e]))]
theorem putAt_hit:∀ (ps:List Nat) (os:List (Option Ob)) (H:Tr Ob) (i:Nat) (p:Nat),(∀ p∈ps,p<big)→ps.Nodup→ps.length=os.length→ps[i]?=some p→(putAt ps os H).get p=(os[i]?).join
 |[],_,_,_,_,_,_,_,h=>by simp at h
 |_::_,[],_,_,_,_,_,h,_=>by simp at h
 |q::ps,o::os,H,0,p,hb,hd,_,h=>by
  simp only [List.getElem?_cons_zero,Option.some.injEq] at h
  subst h
  simp only [putAt]
  rw [putAt_miss ps os _ q (fun x hx=>hb x (by simp [hx])) (List.nodup_cons.1 hd).1,Tr.get_put _ _ _ _ (hb q (by simp)),if_pos rfl];rfl
 |q::ps,o::os,H,i+1,p,hb,hd,hl,h=>by
  simp only [putAt]
  exact putAt_hit ps os _ i p (fun x hx=>hb x (by simp [hx])) (List.nodup_cons.1 hd).2 (by simpa using hl) (by simpa using h)
def memS (π:List Nat) (l':List (Option Ob)) (s:St):Option St:=
 (chk (Nat.ble π.length l'.length)).bind fun _=>(chk (distinct π)).bind fun _=>(chk (below s.nx π)).bind fun _=>
 (chk (Nat.ble (s.nx+(Nat.sub l'.length π.length)) big)).bind fun _=>
 some {s with H:=putAt (π++upN s.nx (Nat.sub l'.length π.length)) (l'.map (Option.map (Ob.ren (ext (πf π) π.length s.nx)))) s.H,nx:=s.nx+Nat.sub l'.length π.length,wr:=π++s.wr}
theorem XO {P:Program} {f:FuncId} {ac:List V} {l l':List (Option Ob)} {vc:V} (h:YD P f ac l.length (hO l) vc l'.length (hO l')) (hall:allSome l=true)
  (hob:obsOK (fun m=>Nat.blt m l.length) 0 l=true) (hob':obsOK (fun m=>Nat.blt m l'.length) 0 l'=true) (hac:XQ (fun m=>Nat.blt m l.length) (ac.map some)=true)
  {s s1 s':St} {args:List V} {v:V} {π:List Nat} (hs:Quiet s s1) (hm:memS π l' s1=some s') (hπ:π.map s.H.get=l.map (Option.map (Ob.ren (πf π)))) (hargs:args=ac.map (V.ren (πf π)))
  (hv:v=vc.ren (ext (πf π) l.length s.nx)):Lg s s'∧Obl s∧YB P f args s v s':=by
 have hlen:π.length=l.length:=by simpa using congrArg List.length hπ
 unfold memS at hm
 obtain ⟨_,h1,hm⟩:=XA hm
 obtain ⟨_,h2,hm⟩:=XA hm
 obtain ⟨_,h3,hm⟩:=XA hm
 obtain ⟨_,h4,hm⟩:=XA hm
 cases hm
 have h1:π.length≤l'.length:=Nat.ble_eq.mp (XC h1)
 have hd:=distinct_ok (XC h2)
 have hbl:=below_ok (XC h3)
 have h4:s1.nx+(l'.length - π.length)≤big:=Nat.ble_eq.mp (XC h4)
 have esub:Nat.sub l'.length π.length=l'.length - π.length:=rfl
 have hnx:s1.nx=s.nx:=hs.1.nx
 rw [blt_fun] at hob hob' hac
 have hlt:∀ (m:Nat) (o:Ob),hO l m=some o→m<l.length:=fun m o ho=>Nat.lt_of_not_le fun hle=>by simp only [hO,List.getElem?_eq_none hle] at ho;cases ho
 have hπ':=map_get hlen hπ
 have hall':=allSome_ok hall
 generalize hq:π++upN s1.nx (Nat.sub l'.length π.length)=ρ
 have hρl:ρ.length=l'.length:=by rw [← hq,List.length_append,upN_length,esub];omega
 have hρb:∀ p∈ρ,p<big:=fun p hp=>by
  rw [← hq] at hp
  rcases List.mem_append.1 hp with hp|hp
  ·have:=hbl p hp;omega
  ·have:=upN_mem hp;omega
 have hρd:ρ.Nodup:=by
  rw [← hq]
  refine List.nodup_append.2 ⟨hd,?_,fun a ha b hb e=>?_⟩
  ·have:∀ k nx,(upN nx k).Nodup:=fun k=>by
    induction k with
    |zero=>intro nx;exact List.nodup_nil
    |succ k ih=>
     intro nx
     refine List.nodup_cons.2 ⟨fun hm=>?_,ih _⟩
     have:=upN_mem hm
     simp only [Nat.succ_eq_add_one] at this
     omega
   exact this _ _
  ·have g1:=hbl a ha
   have g2:=upN_mem hb
   omega
 have hρo:∀ m,m<π.length→ρ[m]?=some (πf π m):=fun m hm=>by
  rw [← hq,List.getElem?_append_left hm];simp [πf,List.getD_eq_getElem?_getD,List.getElem?_eq_getElem hm]
 have hρn:∀ m,m<l'.length - π.length→ρ[π.length+m]?=some (s1.nx+m):=fun m hm=>by
  rw [← hq,List.getElem?_append_right (by omega),show π.length+m - π.length=m by omega,esub,upN_get _ _ _ hm]
 have hmap:∀ m,((l'.map (Option.map (Ob.ren (ext (πf π) π.length s1.nx))))[m]?).join=(hO l' m).map (Ob.ren (ext (πf π) l.length s.nx)):=fun m=>by
  rw [hlen,hnx]
  simp only [hO,List.getElem?_map]
  cases l'[m]? with
  |none=>rfl
  |some o=>cases o<;>rfl
 refine ⟨⟨?_,π,?_,fun n hn hr=>?_⟩,hs.2,embedW h (by omega) (fun m hm=>?_) (fun m o ho=>?_) (fun m o ho=>?_) (fun v hv=>?_) (πf π) (fun m hm=>?_) hπ' (fun m n om on ho1 ho2 hne=>?_) hargs hv ?_ (fun n hn1 hn2=>?_) (fun m o ho=>?_) (fun n hn1 hn2=>?_)⟩
 ·show s.nx≤s1.nx+_;omega
 ·show π++s1.wr=π++s.wr;rw [hs.1.wr]
 ·show (putAt ρ _ s1.H).get n=_
  rw [putAt_miss _ _ _ _ hρb (fun hm=>?_),hs.1.H]
  rw [← hq] at hm
  rcases List.mem_append.1 hm with hm|hm
  ·exact hn hm
  ·have:=upN_mem hm
   exact hr ⟨by omega,by show n<s1.nx+_;omega⟩
 ·simp only [hO,List.getElem?_eq_none hm];rfl
 ·have:=XP l 0 hob m o ho
  exact ⟨this.1,this.2.2⟩
 ·have:=XP l' 0 hob' m o ho
  exact ⟨this.1,by simpa using this.2.1⟩
 ·obtain ⟨i,hi⟩:=List.getElem?_of_mem hv
  exact liveNames_ok _ hac i v (by simp [hi])
 ·obtain ⟨o,ho⟩:=hall' m hm
  exact ⟨_,hπ' m o ho⟩
 ·have hm':m<π.length:=by have:=hlt m om ho1;omega
  have hn':n<π.length:=by have:=hlt n on ho2;omega
  simp only [πf,List.getD_eq_getElem?_getD,List.getElem?_eq_getElem hm',List.getElem?_eq_getElem hn',Option.getD_some]
  intro he
  exact hne ((List.getElem_inj hd).1 he)
 ·show s1.nx+_=_
  rw [hnx,esub,hlen]
 ·have hn2:n<s1.nx+Nat.sub l'.length π.length:=hn2
  rw [esub] at hn2
  show (putAt ρ _ s1.H).get n=_
  rw [putAt_hit ρ _ _ (π.length+(n - s.nx)) n hρb hρd (by simp [hρl]) (by rw [hρn _ (by omega)];congr 1;omega),hmap,hlen]
  congr 2;omega
 ·have hm':=hlt m o ho
  show (putAt ρ _ s1.H).get (πf π m)=_
  rw [putAt_hit ρ _ _ m (πf π m) hρb hρd (by simp [hρl]) (hρo m (by omega)),hmap]
 ·show (putAt ρ _ s1.H).get n=_
  rw [putAt_miss _ _ _ _ hρb (fun hm=>?_),hs.1.H]
  rw [← hq] at hm
  rcases List.mem_append.1 hm with hm|hm
  ·obtain ⟨i,hi,e⟩:=List.getElem_of_mem hm
   obtain ⟨o,ho⟩:=hall' i (by omega)
   refine hn2 i o ho ?_
   rw [← e];simp [πf,List.getD_eq_getElem?_getD,List.getElem?_eq_getElem hi]
  ·have:=upN_mem hm
   exact hn1 ⟨by omega,by show n<s1.nx+_;omega⟩
theorem XN {π:List Nat} {l':List (Option Ob)} {s s':St} (h:memS π l' s=some s') (ho:Obl s'):Obl s:=by
 unfold memS at h
 simp only [Option.bind_eq_some_iff] at h
 obtain ⟨_,_,_,_,_,_,_,_,e⟩:=h
 cases e
 exact ho
def rs (cl:List (List Int)) (k f:Nat) (x:Int):List (List Int):=cl.set k (rowSet (cl.getD k []) f x)
def rs4 (cl:List (List Int)) (k:Nat) (a b c d:Int):List (List Int):=rs (rs (rs (rs cl k 0 a) k 1 b) k 2 c) k 3 d
theorem rs4_eq {cl:List (List Int)} {k:Nat} {a b c d:Int} (hk:k<cl.length) (hr:∀ r∈cl,r.length=4):rs4 cl k a b c d=cl.set k [a,b,c,d]:=by
 have h1:=hr (cl.getD k []) (by rw [List.getD_eq_getElem?_getD,List.getElem?_eq_getElem hk];exact List.getElem_mem hk)
 have g:∀ (l:List (List Int)) (x:List Int),k<l.length→(l.set k x).getD k []=x:=fun l x h=>by
  rw [List.getD_eq_getElem?_getD,List.getElem?_set_self h];rfl
 unfold rs4 rs
 match hc:cl.getD k [],h1 with
 |[e0,e1,e2,e3],_=>
  rw [show rowSet [e0,e1,e2,e3] 0 a=[a,e1,e2,e3] from rfl,g _ _ hk,show rowSet [a,e1,e2,e3] 1 b=[a,b,e2,e3] from rfl,g _ _ (by simpa using hk),show rowSet [a,b,e2,e3] 2 c=[a,b,c,e3] from rfl,g _ _ (by simpa using hk)]
  simp only [List.set_set]
  rfl
inductive Pt where
 |i (k:IntKind)
 |b
 |p
 |o (es:Nat)
 |np
 |ns
 |f (f:FuncId)
 |g
 |fb
 |nf
def buildC:List Pt→List Int→List Bool→List Nat→List V
 |[],_,_,_=>[]
 |.i k::ps,is,bs,ns=>.int k (is.headD 0)::buildC ps is.tail bs ns
 |.b::ps,is,bs,ns=>.bool (bs.headD false)::buildC ps is bs.tail ns
 |.p::ps,is,bs,ns=>.ptr (ns.headD 0) 0 0 0::buildC ps is bs ns.tail
 |.o es::ps,is,bs,ns=>.osl (ns.headD 0) es::buildC ps is bs ns.tail
 |.np::ps,is,bs,ns=>.nilp::buildC ps is bs ns
 |.ns::ps,is,bs,ns=>.nils::buildC ps is bs ns
 |.f f::ps,is,bs,ns=>.fn f [.ptr (ns.headD 0) 0 0 0] []::buildC ps is bs ns.tail
 |.g::ps,is,bs,ns=>.fn (ns.headD 0) [] []::buildC ps is bs ns.tail
 |.fb::ps,is,bs,ns=>.fn (ns.headD 0) [.ptr (ns.tail.headD 0) 0 0 0] []::buildC ps is bs ns.tail.tail
 |.nf::ps,is,bs,ns=>.nilf::buildC ps is bs ns
def isZ (a b c:Nat):Bool:=cond (Nat.beq a 0) (cond (Nat.beq b 0) (Nat.beq c 0) false) false
theorem isZ_ok {a b c:Nat} (h:isZ a b c=true):a=0∧b=0∧c=0:=by
 unfold isZ at h
 cases ha:Nat.beq a 0 with
 |false=>rw [ha] at h;cases h
 |true=>
  cases hb:Nat.beq b 0 with
  |false=>rw [ha,hb] at h;cases h
  |true=>rw [ha,hb] at h;exact ⟨Nat.beq_eq.mp ha,Nat.beq_eq.mp hb,Nat.beq_eq.mp h⟩
def matchC:List Pt→List V→Option (List Int×List Bool×List Nat)
 |[],[]=>some ([],[],[])
 |.i k::ps,.int k' n::vs=>(chk (decide (k=k'))).bind fun _=>(matchC ps vs).bind fun (is,bs,ns)=>some (n::is,bs,ns)
 |.b::ps,.bool x::vs=>(matchC ps vs).bind fun (is,bs,ns)=>some (is,x::bs,ns)
 |.p::ps,.ptr n a b c::vs=>(chk (isZ a b c)).bind fun _=>(matchC ps vs).bind fun (is,bs,ns)=>some (is,bs,n::ns)
 |.o es::ps,.osl n es'::vs=>(chk (Nat.beq es es')).bind fun _=>(matchC ps vs).bind fun (is,bs,ns)=>some (is,bs,n::ns)
 |.np::ps,.nilp::vs=>matchC ps vs
 |.ns::ps,.nils::vs=>matchC ps vs
 |.f f::ps,.fn g [.ptr n a b c] []::vs=>(chk (Nat.beq f g)).bind fun _=>(chk (isZ a b c)).bind fun _=>(matchC ps vs).bind fun (is,bs,ns)=>some (is,bs,n::ns)
 |.g::ps,.fn g [] []::vs=>(matchC ps vs).bind fun (is,bs,ns)=>some (is,bs,g::ns)
 |.fb::ps,.fn g [.ptr n a b c] []::vs=>(chk (isZ a b c)).bind fun _=>(matchC ps vs).bind fun (is,bs,ns)=>some (is,bs,g::n::ns)
 |.nf::ps,.nilf::vs=>matchC ps vs
 |_,_=>none
theorem matchC_ok:∀ {ps:List Pt} {vs:List V} {is:List Int} {bs:List Bool} {ns:List Nat},matchC ps vs=some (is,bs,ns)→vs=buildC ps is bs ns:=by
 intro ps vs
 fun_induction matchC ps vs with
 |case1=>intro is bs ns h;rfl
 |case2 k ps k' n vs ih=>
  intro is bs ns h
  obtain ⟨_,h1,h⟩:=XA h
  obtain ⟨⟨is',bs',ns'⟩,h2,h⟩:=XA h
  cases h
  have:=of_decide_eq_true (XC h1)
  subst this
  rw [ih h2];rfl
 |case3 ps x vs ih=>
  intro is bs ns h
  obtain ⟨⟨is',bs',ns'⟩,h2,h⟩:=XA h
  cases h
  rw [ih h2];rfl
 |case4 ps n a b c vs ih=>
  intro is bs ns h
  obtain ⟨_,h1,h⟩:=XA h
  obtain ⟨⟨is',bs',ns'⟩,h2,h⟩:=XA h
  cases h
  obtain ⟨rfl,rfl,rfl⟩:=isZ_ok (XC h1)
  rw [ih h2];rfl
 |case5 es ps n es' vs ih=>
  intro is bs ns h
  obtain ⟨_,h1,h⟩:=XA h
  obtain ⟨⟨is',bs',ns'⟩,h2,h⟩:=XA h
  cases h
  have:=Nat.beq_eq.mp (XC h1)
  subst this
  rw [ih h2];rfl
 |case6 ps vs ih=>
  intro is bs ns h
  rw [ih h];rfl
 |case7 ps vs ih=>
  intro is bs ns h
  rw [ih h];rfl
 |case8 f ps g n a b c vs ih=>
  intro is bs ns h
  obtain ⟨_,h0,h⟩:=XA h
  obtain ⟨_,h1,h⟩:=XA h
  obtain ⟨⟨is',bs',ns'⟩,h2,h⟩:=XA h
  cases h
  have:=Nat.beq_eq.mp (XC h0)
  subst this
  obtain ⟨rfl,rfl,rfl⟩:=isZ_ok (XC h1)
  rw [ih h2];rfl
 |case9 ps g vs ih=>
  intro is bs ns h
  obtain ⟨⟨is',bs',ns'⟩,h2,h⟩:=XA h
  cases h
  rw [ih h2];rfl
 |case10 ps g n a b c vs ih=>
  intro is bs ns h
  obtain ⟨_,h1,h⟩:=XA h
  obtain ⟨⟨is',bs',ns'⟩,h2,h⟩:=XA h
  cases h
  obtain ⟨rfl,rfl,rfl⟩:=isZ_ok (XC h1)
  rw [ih h2];rfl
 |case11 ps vs ih=>
  intro is bs ns h
  rw [ih h];rfl
 |case12=>intro is bs ns h;cases h
def gCells (t:TypeId) (ps:List Pt) (x:Option Ob):Option (List Int×List Bool×List Nat):=
 match x with
 |some (.mem (.cells cs) t' none)=>(chk (Nat.beq t t')).bind fun _=>matchC ps cs
 |_=>none
theorem gCells_ok {t:TypeId} {ps:List Pt} {x:Option Ob} {is:List Int} {bs:List Bool} {ns:List Nat} (h:gCells t ps x=some (is,bs,ns)):x=some (.mem (.cells (buildC ps is bs ns)) t none):=by
 unfold gCells at h
 split at h
 ·obtain ⟨_,h1,h2⟩:=XA h
  have:=Nat.beq_eq.mp (XC h1)
  subst this
  rw [matchC_ok h2]
 ·cases h
def gWords (k:IntKind) (t:TypeId) (op:Option Nat) (x:Option Ob):Option (List Int):=
 match x with
 |some (.mem (.words k' ws) t' op')=>(chk (decide (k=k'∧t=t'∧op=op'))).bind fun _=>some ws
 |_=>none
theorem gWords_ok {k:IntKind} {t:TypeId} {op:Option Nat} {x:Option Ob} {ws:List Int} (h:gWords k t op x=some ws):x=some (.mem (.words k ws) t op):=by
 unfold gWords at h
 split at h
 ·obtain ⟨_,h1,h2⟩:=XA h
  obtain ⟨rfl,rfl,rfl⟩:=chk_dec h1
  cases h2;rfl
 ·cases h
def eqSh:List Sh→List Sh→Bool
 |[],[]=>true
 |.int k::l,.int k'::l'=>cond (decide (k=k')) (eqSh l l') false
 |.bool::l,.bool::l'=>eqSh l l'
 |_,_=>false
theorem eqSh_ok:∀ {l l':List Sh},eqSh l l'=true→l=l'
 |[],[],_=>rfl
 |.int k::l,.int k'::l',h=>by
  simp only [eqSh] at h
  cases hd:decide (k=k') with
  |false=>rw [hd] at h;cases h
  |true=>rw [hd] at h;rw [of_decide_eq_true hd,eqSh_ok h]
 |.bool::l,.bool::l',h=>by rw [eqSh_ok (l:=l) (l':=l') h]
 |[],_::_,h=>by cases h
 |.int _::_,[],h=>by cases h
 |.bool::_,[],h=>by cases h
 |.int _::_,.bool::_,h=>by cases h
 |.bool::_,.int _::_,h=>by cases h
def gRows (sh:List Sh) (t:TypeId) (op:Option Nat) (x:Option Ob):Option (List (List Int)):=
 match x with
 |some (.mem (.rows sh' rs) t' op')=>(chk (eqSh sh sh')).bind fun _=>(chk (decide (t=t'∧op=op'))).bind fun _=>some rs
 |_=>none
theorem gRows_ok {sh:List Sh} {t:TypeId} {op:Option Nat} {x:Option Ob} {rs:List (List Int)} (h:gRows sh t op x=some rs):x=some (.mem (.rows sh rs) t op):=by
 unfold gRows at h
 split at h
 ·obtain ⟨_,h0,h5⟩:=XA h
  obtain ⟨_,h1,h2⟩:=XA h5
  have:=eqSh_ok (XC h0)
  subst this
  obtain ⟨rfl,rfl⟩:=chk_dec h1
  cases h2;rfl
 ·cases h
theorem evX {P:Program} {E:Env} (hE:EnvOK P E) (hS:SumOK P E) {f:FuncId} {args:List V} {l l':List (Option Ob)} {vc:V} {n0 n1:Nat} {B:Bool} (hB:B=true) (nx:Nat) (orc:List (Nat×Bool)) (πl:List Nat)
  (hrun:(callX (exec E 400) E f args ⟨trO l,n0,orc,[],[]⟩).map (fun r=>(r.1,r.2.nx,πl.map r.2.H.get,allB r.2.obl))=some (vc.ren (πf πl),nx,l'.map (Option.map (Ob.ren (πf πl))),B))
  (hck:(Nat.beq l.length n0&&(Nat.beq l'.length n1&&(Nat.blt n0 big&&(chkP n0 nx πl l'&&(obsOK (fun m=>Nat.blt m n1) 0 l'&&(noRo l'&&vc.names (fun m=>Nat.blt m n1)))))))=true):YD P f args n0 (hO l) vc n1 (hO l'):=by
 simp only [Bool.and_eq_true] at hck
 obtain ⟨c1,c2,c3,c4,c5,c6,c7⟩:=hck
 obtain rfl:=Nat.eq_of_beq_eq_true c1
 obtain rfl:=Nat.eq_of_beq_eq_true c2
 exact XH hE hS hrun hB c3 c4 c5 c6 c7
end Go.Sx
namespace Go.Sx
def markW:Int:=9223372036854775808
def lnkW (i:Int) (m:Bool):Int:=(if i=-1 then 0 else i+65537)+(if m then markW else 0)
def ixW (w:Int):Int:=w % 65536 - 1
def mkdB (w:Int):Bool:=decide (w≥markW)
def offW (w:Int):Int:=w % markW
def onW (w:Int):Int:=w % markW+markW
theorem lnkW_lt {i:Int} {m:Bool} (h1:-1≤i) (h2:i≤65534):0≤lnkW i m∧lnkW i m<18446744073709551616:=by
 unfold lnkW markW
 by_cases h:i=-1<;>cases m<;>simp [h]<;>omega
theorem ixW_lnk {i:Int} {m:Bool} (h1:-1≤i) (h2:i≤65534):ixW (lnkW i m)=i:=by
 unfold ixW lnkW markW
 by_cases h:i=-1
 ·subst h;cases m<;>rfl
 ·rw [if_neg h];cases m<;>simp<;>omega
theorem mkdB_lnk {i:Int} {m:Bool} (h1:-1≤i) (h2:i≤65534):mkdB (lnkW i m)=m:=by
 unfold mkdB lnkW markW
 by_cases h:i=-1
 ·subst h;cases m<;>rfl
 ·rw [if_neg h]
  cases m
  ·exact decide_eq_false (by simp;omega)
  ·exact decide_eq_true (by simp;omega)
theorem offW_lnk {i:Int} {m:Bool} (h1:-1≤i) (h2:i≤65534):offW (lnkW i m)=lnkW i false:=by
 unfold offW lnkW markW
 by_cases h:i=-1
 ·subst h;cases m<;>rfl
 ·rw [if_neg h];cases m<;>simp<;>omega
theorem onW_lnk {i:Int} {m:Bool} (h1:-1≤i) (h2:i≤65534):onW (lnkW i m)=lnkW i true:=by
 unfold onW
 have:=offW_lnk (m:=m) h1 h2
 unfold offW at this
 rw [this];unfold lnkW;simp
theorem lnkW_inj {i k:Int} {m b:Bool} (h1:-1≤i) (h2:i≤65534) (h3:-1≤k) (h4:k≤65534) (h:lnkW i m=lnkW k b):i=k∧m=b:=by
 refine ⟨?_,?_⟩
 ·have:=congrArg ixW h
  rwa [ixW_lnk h1 h2,ixW_lnk h3 h4] at this
 ·have:=congrArg mkdB h
  rwa [mkdB_lnk h1 h2,mkdB_lnk h3 h4] at this
theorem off_eq {x:Int} (h1:0≤x) (h2:x<18446744073709551616):IntKind.u64.wrap ((BitVec.ofInt 64 x &&& ~~~BitVec.ofInt 64 9223372036854775808).toNat:Int)=offW x:=by
 have e:(~~~BitVec.ofInt 64 9223372036854775808)=BitVec.ofInt 64 ((2:Int) ^ 63 - 1):=by decide
 rw [e,and_mask 63 x h1 h2 (by omega)]
 unfold offW markW
 have:x % 2 ^ 63=x % 9223372036854775808:=by rfl
 rw [this,XY (by omega) (by omega)]
theorem on_eq {x:Int} (h1:0≤x) (h2:x<18446744073709551616):IntKind.u64.wrap ((BitVec.ofInt 64 x ||| BitVec.ofInt 64 9223372036854775808).toNat:Int)=onW x:=by
 unfold onW markW
 have h3:(BitVec.ofInt 64 x ||| BitVec.ofInt 64 9223372036854775808)=(BitVec.ofInt 64 (x % 9223372036854775808) ||| BitVec.ofInt 64 9223372036854775808):=by
  apply BitVec.eq_of_getLsbD_eq
  intro i hi
  rw [BitVec.getLsbD_or,BitVec.getLsbD_or]
  by_cases c:i=63
  ·subst c
   have:(BitVec.ofInt 64 9223372036854775808).getLsbD 63=true:=by decide
   rw [this];simp
  ·have hk:i<63:=by omega
   congr 1
   obtain ⟨y,rfl⟩:=Int.eq_ofNat_of_zero_le h1
   have e2:((y:Int) % 9223372036854775808)=((y % 9223372036854775808:Nat):Int):=by simp
   have e3:∀ q:Nat,BitVec.ofInt 64 (q:Int)=BitVec.ofNat 64 q:=fun q=>by simp
   rw [e2,e3,e3,BitVec.getLsbD_ofNat,BitVec.getLsbD_ofNat]
   have e4:(9223372036854775808:Nat)=2 ^ 63:=by decide
   rw [e4,Nat.testBit_mod_two_pow]
   simp [hk]
 rw [h3]
 have h4:=or_add (x % 9223372036854775808) 1 63 (by omega) (by omega) (by decide) (by omega) (by omega)
 have e5:(1:Int)*2 ^ 63=9223372036854775808:=by decide
 rw [e5] at h4
 rw [h4,XY (by omega) (by omega)]
theorem mkd_eq {x:Int} (h1:0≤x) (h2:x<18446744073709551616):(x.fdiv (2 ^ min (Int.toNat 63) IntKind.u64.bits)==1)=mkdB x:=by
 have e:min (Int.toNat 63) IntKind.u64.bits=63:=rfl
 rw [e,Int.fdiv_eq_ediv_of_nonneg _ (by decide)]
 unfold mkdB markW
 by_cases h:x≥9223372036854775808
 ·rw [decide_eq_true h]
  exact beq_iff_eq.2 (by omega)
 ·rw [decide_eq_false h]
  exact beq_eq_false_iff_ne.2 (by omega)
end Go.Sx
namespace Go.Sx
open Go.Proofs
noncomputable def F0:Env:=envOf tabT tabF (fun _=>none) seT imT pzT
theorem F0_ok:EnvOK PR F0:=env_ok _
theorem S0_ok:SumOK PR F0:=fun f F h=>by cases h
def XR (x k:Int):Int:=if x.tmod k<0 then IntKind.i64.wrap (x.tmod k+k) else x.tmod k
theorem pick_call (x k:Int) (h:0<k):YD PR 6 [.int .i64 x,.int .i64 k] 0 (hO []) (.int .i64 (XR x k)) 0 (hO []):=by
 have h0:¬ k=0:=by omega
 have h1:¬ k≤0:=by omega
 by_cases h2:x.tmod k<0
 ·have e:XR x k=IntKind.i64.wrap (x.tmod k+k):=by simp only [XR,if_pos h2]
  rw [e]
  exact XH (n:=400) (l:=[]) (l':=[]) (orc:=bits 3 0b011) (πl:=[]) (nx':=0) (B:=allB [decide (x.tmod k<0),!(k==0),!(decide (k≤0))]) F0_ok S0_ok (by kernel_rfl) (by simp only [allB,decide_eq_true h2,decide_eq_false h1,beq_eq_false_iff_ne.2 h0];rfl) rfl (by kernel_rfl) (by kernel_rfl) (by kernel_rfl) (by kernel_rfl)
 ·have e:XR x k=x.tmod k:=by simp only [XR,if_neg h2]
  rw [e]
  exact XH (n:=400) (l:=[]) (l':=[]) (orc:=bits 3 0b010) (πl:=[]) (nx':=0) (B:=allB [!(decide (x.tmod k<0)),!(k==0),!(decide (k≤0))]) F0_ok S0_ok (by kernel_rfl) (by simp only [allB,decide_eq_false h2,decide_eq_false h1,beq_eq_false_iff_ne.2 h0];rfl) rfl (by kernel_rfl) (by kernel_rfl) (by kernel_rfl) (by kernel_rfl)
def smPick (args:List V) (s:St):Option (V×St):=
 match args with
 |[.int .i64 x,.int .i64 k]=>(need (decide (0<k)) s).bind fun s1=>some (.int .i64 (XR x k),s1)
 |_=>none
theorem smPick_sm:SmOK PR 6 smPick:=by
 refine ⟨fun args s v s' h ho=>?_,Tryz.call6⟩
 unfold smPick at h
 split at h
 ·rename_i x k
  simp only [Option.bind_eq_some_iff] at h
  obtain ⟨s1,h2,h3⟩:=h
  cases h3
  obtain ⟨hd,hq⟩:=XI h2 ho
  have hd:=of_decide_eq_true hd
  refine ⟨Lg.of_same hq.1,hq.2,?_⟩
  exact embed0 (l:=[]) (pick_call x k hd) (fun m hm=>absurd hm (Nat.not_lt_zero _)) (by kernel_rfl) (by kernel_rfl) [] rfl (fun m o ho=>by simp at ho) List.nodup_nil rfl hq.1 rfl
 ·cases h
def topW (i t:Int):Int:=i+1+t*65536
def idW (w:Int):Int:=w % 65536 - 1
def tgW (w:Int):Int:=w / 65536
def rawA (w:Int):Int:=IntKind.wrap .i64 (IntKind.wrap .i64 (IntKind.wrap .u64 ((BitVec.ofInt 64 (Int.fdiv w 1) &&& BitVec.ofInt 64 65535).toNat:Int)) - 1)
def rawB (w m:Int):Int:=IntKind.wrap .i64 (IntKind.wrap .u64 ((BitVec.ofInt 64 (Int.fdiv w 65536) &&& BitVec.ofInt 64 m).toNat:Int))
def rawO (i t:Int):Int:=IntKind.wrap .u64 ((BitVec.ofInt 64 (IntKind.wrap .u64 ((BitVec.ofInt 64 0 ||| BitVec.ofInt 64 (IntKind.wrap .u64 (IntKind.wrap .u64 (IntKind.wrap .i64 (i+1))*1))).toNat:Int)) ||| BitVec.ofInt 64 (IntKind.wrap .u64 (IntKind.wrap .u64 t*65536))).toNat:Int)
def rawC (x:Int):Int:=IntKind.wrap .u64 ((BitVec.ofInt 64 x &&& ~~~BitVec.ofInt 64 9223372036854775808).toNat:Int)
def genA (w:Int):Int:=IntKind.wrap .i64 (IntKind.wrap .u64 ((BitVec.ofInt 64 w &&& BitVec.ofInt 64 4294967295).toNat:Int))
def nxtT (w:Int):Int:=IntKind.wrap .i64 ((BitVec.ofInt 64 (IntKind.wrap .i64 (tgW w+1)) &&& BitVec.ofInt 64 281474976710655).toNat:Int)
theorem rawA_eq {w:Int} (h1:0≤w) (h2:w<18446744073709551616):rawA w=idW w:=by
 unfold rawA idW
 have e1:w.fdiv 1=w:=by rw [Int.fdiv_eq_ediv_of_nonneg _ (by decide)];omega
 have e2:=and_mask 16 w h1 h2 (by omega)
 have e3:(65535:Int)=2 ^ 16 - 1:=by decide
 rw [e1,e3,e2,XY (by omega) (by omega),XM (x:=w % 2 ^ 16) (by omega) (by omega),XM (x:=w % 2 ^ 16 - 1) (by omega) (by omega)]
 rfl
theorem rawO_eq {i t:Int} (h1:-1≤i) (h2:i≤65534) (h3:0≤t) (h4:t<281474976710656):rawO i t=topW i t:=by
 unfold rawO topW
 rw [XM (x:=i+1) (by omega) (by omega),XY (x:=i+1) (by omega) (by omega),XY (x:=t) h3 (by omega),XY (x:=(i+1)*1) (by omega) (by omega),XY (x:=t*65536) (by omega) (by omega),Int.mul_one]
 have k1:((BitVec.ofInt 64 0 ||| BitVec.ofInt 64 (i+1)).toNat:Int)=i+1:=by
  have:=or_add 0 (i+1) 0 (by omega) (by decide) (by omega) (by omega) (by omega)
  simpa using this
 rw [k1,XY (x:=i+1) (by omega) (by omega)]
 have k2:((BitVec.ofInt 64 (i+1) ||| BitVec.ofInt 64 (t*65536)).toNat:Int)=i+1+t*65536:=
  or_add (i+1) t 16 (by omega) (by omega) h3 (by omega) (by omega)
 rw [k2,XY (by omega) (by omega)]
structure MJ where
 a:Int
 b:Int
 c:Int
 d:Int
 e:Bool
 g:Int
def memM (blk:Nat) (n:Int) (j:MJ):Ob:=.mem (.cells [.ptr blk 0 0 0,.int .i64 n,.int .i64 j.a,.int .i64 j.b,.int .u64 j.c,.int .u64 j.d,.bool j.e,.int .i64 j.g]) 123 none
def XL (ws:List Int):Ob:=.mem (.words .u64 ws) 119 none
structure Tw where
 nodes:Int
 heads:Int
 height:Int
 top:Int
 links:Int
 size:Int
 gens:Int
 worn:Int
 limit:Int
 at':Int
 pins:Int
 cores:Int
 tops:Int
def Tw.vs (t:Tw):List V:=[.int .i64 t.nodes,.int .i64 t.heads,.int .i64 t.height,.int .i64 t.top,.int .i64 t.links,.int .i64 t.size,.int .i64 t.gens,.int .i64 t.worn,.int .i64 t.limit,.int .i64 t.at',.int .i64 t.pins,.int .i64 t.cores,.int .i64 t.tops]
end Go.Sx
