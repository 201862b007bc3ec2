/- Blocks are forgotten: that they are there is all that is kept. -/
import Derived.Test.YtpnpmkdijmeddaaGreatSxVb
import Derived.Test.YtpnpmkdijmeddaaGreatScA14
set_option maxRecDepth 100000
namespace Go.Sx
section
variable {P:Program} {E:Env}
def fgO:Option Ob→Option Ob
 |some (.mem _ _ none)=>some (.ro .i64 [])
 |some (.ro _ _)=>some (.ro .i64 [])
 |_=>none
theorem YC.forget {β:Base} {fr:Frs} {T:Tr V} {df:List Dfr} {H:Nat→Option Ob} {nx hi:Nat} {a:Cf} (hA:YC β fr T df H nx hi a) (F:Nat→Bool):YC β fr T df (fun n=>cond (F n) (fgO (H n)) (H n)) nx hi a:=by
 obtain ⟨D,L,hSR,hC,hD,hk,hf,h0⟩:=hA
 have hsome:∀ n o,cond (F n) (fgO (H n)) (H n)=some o→o.isRo=false→H n=some o:=fun n o h hr=>by
  cases hF:F n with
  |false=>rw [hF] at h;exact h
  |true=>
   rw [hF,cond_true] at h
   unfold fgO at h
   split at h<;>cases h<;>cases hr
 have hsome':∀ n o,cond (F n) (fgO (H n)) (H n)=some o→∃ o',H n=some o':=fun n o h=>by
  cases hn:H n with
  |some o'=>exact ⟨o',rfl⟩
  |none=>
   rw [hn] at h
   cases hF:F n<;>rw [hF] at h<;>cases h
 refine ⟨D,L,fun L' hL'=>⟨fun n o ho=>?_,fun n m on om hn hm hne hr=>?_⟩,hC,hD,hk,fun n o b ho hr hb=>hf n o b (hsome n o ho hr) hr hb,h0⟩
 ·have hh:=hSR L' hL'
  cases hF:F n with
  |false=>rw [hF] at ho;exact hh.ob n o ho
  |true=>
   rw [hF,cond_true] at ho
   unfold fgO at ho
   split at ho
   ·rename_i b t hm
    cases ho
    obtain ⟨k,h1,h2,h3⟩:=hh.ob n _ hm
    exact ⟨k,h1,(Array.getElem?_eq_some_iff.1 h3).1,fun i hi=>absurd hi (Nat.not_lt_zero _)⟩
   ·rename_i k ws hm
    cases ho
    obtain ⟨b,h1,h2,_⟩:=hh.ob n _ hm
    exact ⟨b,h1,h2,fun i hi=>absurd hi (Nat.not_lt_zero _)⟩
   ·cases ho
 ·obtain ⟨om',hm'⟩:=hsome' m om hm
  exact (hSR L' hL').inj n m on om' (hsome n on hn hr) hm' hne hr
def getX (H:Nat→Option Ob):List Nat→List Nat→List (Option Ob)
 |[],_=>[]
 |p::ps,[]=>H p::getX H ps []
 |p::ps,c::cs=>(match c with
  |0=>H p
  |1=>none
  |_=>fgO (H p))::getX H ps cs
theorem getX_get {H:Nat→Option Ob}:∀ (πl cs:List Nat) (m:Nat) (_h:m<πl.length),(getX H πl cs)[m]?=some (match cs.getD m 0 with
  |0=>H (πf πl m)
  |1=>none
  |_=>fgO (H (πf πl m)))
 |[],_,m,h=>absurd h (Nat.not_lt_zero _)
 |p::ps,[],0,_=>rfl
 |p::ps,[],m+1,h=>getX_get ps [] m (by simpa using h)
 |p::ps,c::cs,0,_=>rfl
 |p::ps,c::cs,m+1,h=>getX_get ps cs m (by simpa using h)
theorem getX_len {H:Nat→Option Ob}:∀ (πl cs:List Nat),(getX H πl cs).length=πl.length
 |[],_=>rfl
 |_::ps,[]=>by simp only [getX,List.length_cons,getX_len ps []]
 |_::ps,_::cs=>by simp only [getX,List.length_cons,getX_len ps cs]
def fgN (πl cs:List Nat) (n:Nat):Bool:=(List.range πl.length).any fun m=>Nat.ble 2 (cs.getD m 0)&&Nat.beq (πf πl m) n
theorem YC.evalX (hE:EnvOK P E) (hS:SumOK P E) {n m:Nat} (kind:CallKind) (cs:List Frame) {β:Base} {fr:Frs} {sl':List (Option V)} {l l' lr:List (Option Ob)} {mk:List Nat} {orc:List (Nat×Bool)} {todo todo':List Item} {πl:List Nat} {nx' hi far:Nat} {B:Bool} {T:Tr V} {a:Cf}
  (hA:YC β fr T [] (hO l) l.length hi a)
  (hrun:(ctlN E (exec E n) fr m todo T [] ⟨trO l,l.length,orc,[],[]⟩).map (fun r=>(r.1,look r.2.1 0 sl',r.2.2.1,r.2.2.2.nx,getX r.2.2.2.H.get πl mk,allB r.2.2.2.obl))=
   some (todo',sl'.map (Option.map (V.ren (πf πl))),[],nx',lr,B)) (hlr:l'.map (Option.map (Ob.ren (πf πl)))=lr) (hB:B=true)
  (hl0:Nat.blt l.length big=true) (hnt0:Nat.beq sl'.length fr.nt=true) (hnt1:Nat.blt fr.nt big=true) (hhi0:Nat.ble nx' hi=true) (hfar0:Nat.ble l'.length far=true) (p:Nat→Bool) (hp:∀ m,p m=true→m<l'.length∧(m<β.n0∨∃ o,(l'[m]?).join=some o)) (hold:∀ m,m<β.n0→p m=true)
  (hchk:chkP β.n0 nx' πl l'=true) (hobs:obsOK p 0 l'=true) (hsl:XQ p sl'=true):
  ∃ (J':Nat→V) (b:Cf),YC β fr (trO (slots J' 0 sl')) [] (hO l') l'.length far b∧Steps P (At fr none kind cs a todo) (At fr none kind cs b todo'):=by
 have hl:l.length<big:=Nat.blt_eq.mp hl0
 have hnt:sl'.length=fr.nt:=Nat.beq_eq.mp hnt0
 have hnt':fr.nt<big:=Nat.blt_eq.mp hnt1
 have hhi:nx'≤hi:=Nat.ble_eq.mp hhi0
 have hfar:l'.length≤far:=Nat.ble_eq.mp hfar0
 cases hr:ctlN E (exec E n) fr m todo T [] ⟨trO l,l.length,orc,[],[]⟩ with
 |none=>rw [hr] at hrun;cases hrun
 |some r=>
  obtain ⟨t',T',df',s'⟩:=r
  rw [hr] at hrun
  simp only [Option.map_some,Option.some.injEq,Prod.mk.injEq] at hrun
  obtain ⟨rfl,h1,rfl,rfl,h2,h3⟩:=hrun
  obtain ⟨c1,c2,c3,c4⟩:=chkP_ok hchk
  have hA':YC β fr T [] (⟨trO l,l.length,orc,[],[]⟩:St).H.get (⟨trO l,l.length,orc,[],[]⟩:St).nx hi a:=by
   have:(trO l).get=hO l:=funext fun m=>trO_get l hl m
   show YC β fr T [] (trO l).get l.length hi a
   rw [this];exact hA
  obtain ⟨b,g1,g2⟩:=hA'.run hE hS (exec_ok hE hS n) kind cs hr (allB_ok (by rw [h3];exact hB)) hhi
  have g3:=g1.forget (fgN πl mk)
  have hget:∀ m o,hO l' m=some o→(cond (fgN πl mk (πf πl m)) (fgO (s'.H.get (πf πl m))) (s'.H.get (πf πl m)))=some (o.ren (πf πl)):=by
   intro m o ho
   have hm:m<l'.length:=Nat.lt_of_not_le fun hle=>by
    simp only [hO,List.getElem?_eq_none hle] at ho;cases ho
   have e:=congrArg (fun l=>l[m]?) (h2.trans hlr.symm)
   simp only [getX_get πl mk m (by omega),List.getElem?_map] at e
   have ho2:l'[m]?=some (some o):=by
    simp only [hO] at ho
    rw [List.getElem?_eq_getElem hm] at ho ⊢
    simp only [Option.join_some] at ho
    rw [ho]
   rw [ho2] at e
   simp only [Option.map_some,Option.some.injEq] at e
   have hF:fgN πl mk (πf πl m)=Nat.ble 2 (mk.getD m 0):=by
    unfold fgN
    cases hb:Nat.ble 2 (mk.getD m 0) with
    |true=>exact List.any_eq_true.2 ⟨m,List.mem_range.2 (by omega),by rw [hb,Nat.beq_refl];rfl⟩
    |false=>
     refine List.any_eq_false.2 fun q hq=>?_
     by_cases e2:q=m
     ·rw [e2,hb];simp
     ·have:=c4 q m (by have:=List.mem_range.1 hq;omega) hm e2
      rw [XG this];simp
   rw [hF]
   match hc:mk.getD m 0 with
   |0=>rw [hc] at e;exact e
   |1=>rw [hc] at e;cases e
   |q+2=>
    rw [hc] at e
    have:Nat.ble 2 (q+2)=true:=Nat.ble_eq.mpr (by omega)
    rw [this];exact e
  refine ⟨fun t=>((T'.get t).getD XJ).ren (fun n=>far+n),b,?_,g2⟩
  refine g3.take (πf πl) p (fun m hm=>(hp m hm).1) hfar (fun m o ho=>?_) (fun m n om on hm hn _ hne=>?_) (fun m hm=>?_) (fun m hm=>⟨hold m hm,c2 m hm⟩) (fun t ht=>?_) (fun t ht=>?_)
  ·obtain ⟨d1,d2,d3⟩:=XP l' 0 hobs m o ho
   exact ⟨d1,by simpa using d2,d3,hget m o ho⟩
  ·have lt:∀ m o,hO l' m=some o→m<l'.length:=fun m o ho=>Nat.lt_of_not_le fun hle=>by
    simp only [hO,List.getElem?_eq_none hle] at ho;cases ho
   exact c4 m n (lt m _ hm) (lt n _ hn) hne
  ·rcases (hp m hm).2 with h|⟨o,ho⟩
   ·exact .inl h
   ·exact .inr ⟨_,hget m o ho⟩
  ·rw [trO_get _ (by rw [XZ];omega),slots_get,List.getElem?_eq_none (by omega)]
  ·rw [trO_get _ (by rw [XZ];omega),slots_get]
   have hts:t<sl'.length:=by omega
   rw [List.getElem?_eq_getElem hts]
   have h4:=congrArg (fun l=>l[t]?) h1
   simp only [look_get,List.getElem?_map,List.getElem?_eq_getElem hts,Nat.zero_add] at h4
   cases hv:sl'[t] with
   |none=>right;simp
   |some v=>
    left
    rw [hv] at h4
    simp only [Option.map_some,Option.some.injEq] at h4
    exact ⟨v,rfl,liveNames_ok sl' hsl t v (by rw [List.getElem?_eq_getElem hts,hv]),h4⟩
end
end Go.Sx
namespace Go.Sx
def shSpan:List Sh:=[.int .i64,.int .i64,.int .i64,.int .i64,.int .i64,.int .i64,.int .u64,.int .i64,.int .i64,.int .u64]
def callsOb (cl:List (List Int)):Ob:=.mem (.rows shSpan cl) 89 (some 10)
inductive IS where
 |none
 |over (k:Nat)
 |a (k:Nat) (x:InsC) (f:FdC) (rs:List (List Int))
 |r (k:Nat) (x:InsC) (f:FdC) (rs:List (List Int)) (q:ReC)
 |p (k:Nat) (x:InsC) (f:FdC) (rs:List (List Int)) (q:ReC) (u:PuC)
inductive KS where
 |none
 |over
 |a (x:ClC)
 |b (x:ClC) (f:FdC) (rs:List (List Int))
 |r (x:ClC) (f:FdC) (rs:List (List Int)) (q:ReC)
 |p (x:ClC) (f:FdC) (rs:List (List Int)) (q:ReC) (u:PuC)
inductive PS where
 |none
 |over
 |a (x:ClC)
structure CS where
 t:Tw
 sz:Int
 ks:List Int
 hs:List Int
 j:MJ
 ws:List Int
 f0:List Int
 f1:List Int
 f2:List Int
 f3:List Int
 gt:List Int
 cl:List (List Int)
 o0:Int
 o1:Int
 o2:Int
 o3:Int
 ck:Int
 io:IS
 c0:KS
 c1:KS
 pk:PS
def opq:Ob:=.ro .i64 []
def isV (f:Nat→Nat):IS→V
 |.none=>.nilp
 |_=>.ptr (f 22) 0 0 0
def ksV (k:Nat):KS→V
 |.none=>.nilp
 |_=>.ptr k 0 0 0
def psV (k:Nat):PS→V
 |.none=>.nilp
 |_=>.ptr k 0 0 0
def isK:IS→Nat
 |.none=>0
 |.over k=>k
 |.a k ..=>k
 |.r k ..=>k
 |.p k ..=>k
def isN:IS→Bool
 |.none=>true
 |_=>false
def oldV (f:Nat→Nat):List V:=[.ptr (f 16) 0 0 0,.ptr (f 17) 0 0 0,.ptr (f 18) 0 0 0,.ptr (f 19) 0 0 0,.ptr (f 20) 0 0 0,.ptr (f 21) 0 0 0]
def allV (f:Nat→Nat) (io:IS):List V:=cond (isN io) [] (takeN (isK io) (oldV f)++[.ptr (f 22) 0 0 0])
def oldO (io:IS) (i:Nat):Option Ob:=cond (Nat.blt i (isK io)) (some opq) none
def insO (f:Nat→Nat):IS→Option Ob
 |.none=>none
 |.over _=>some opq
 |.a _ x _ _=>some (insM (.ptr (f 23) 0 0 0) .nilp x)
 |.r _ x _ _ _=>some (insM (.ptr (f 23) 0 0 0) (.ptr (f 25) 0 0 0) x)
 |.p _ x _ _ _ _=>some (insM (.ptr (f 23) 0 0 0) (.ptr (f 25) 0 0 0) x)
def ifdO (td:Nat):IS→Option Ob
 |.none=>none
 |.over _=>none
 |.a _ _ y _=>some (findM td y)
 |.r _ _ y _ _=>some (findM td y)
 |.p _ _ y _ _ _=>some (findM td y)
def itdO:IS→Option Ob
 |.none=>none
 |.over _=>none
 |.a _ _ _ rs=>some (toldM rs)
 |.r _ _ _ rs _=>some (toldM rs)
 |.p _ _ _ rs _ _=>some (toldM rs)
def ireO (k p:Nat):IS→Option Ob
 |.r _ _ _ _ q=>some (reM (.fn fLook [.ptr k 0 0 0] []) .nilp q)
 |.p _ _ _ _ q _=>some (reM (.fn fPush [.ptr k 0 0 0] []) (.ptr p 0 0 0) q)
 |_=>none
def ipuO:IS→Option Ob
 |.p _ _ _ _ _ u=>some (puM u)
 |_=>none
def claO (fd re:Nat):KS→Option Ob
 |.none=>none
 |.over=>some opq
 |.a x=>some (claM .nilp .nilp x)
 |.b x _ _=>some (claM (.ptr fd 0 0 0) .nilp x)
 |.r x _ _ _=>some (claM (.ptr fd 0 0 0) (.ptr re 0 0 0) x)
 |.p x _ _ _ _=>some (claM (.ptr fd 0 0 0) (.ptr re 0 0 0) x)
def cfdO (td:Nat):KS→Option Ob
 |.b _ y _=>some (findM td y)
 |.r _ y _ _=>some (findM td y)
 |.p _ y _ _ _=>some (findM td y)
 |_=>none
def ctdO:KS→Option Ob
 |.b _ _ rs=>some (toldM rs)
 |.r _ _ rs _=>some (toldM rs)
 |.p _ _ rs _ _=>some (toldM rs)
 |_=>none
def creO (k p:Nat):KS→Option Ob
 |.r _ _ _ q=>some (reM (.fn fLook [.ptr k 0 0 0] []) .nilp q)
 |.p _ _ _ q _=>some (reM (.fn fPush [.ptr k 0 0 0] []) (.ptr p 0 0 0) q)
 |_=>none
def cpuO:KS→Option Ob
 |.p _ _ _ _ u=>some (puM u)
 |_=>none
def pekO:PS→Option Ob
 |.none=>none
 |.over=>some opq
 |.a x=>some (pekM x)
def crewM (f:Nat→Nat) (σ:CS):Ob:=.mem (.cells (σ.t.vs++[.ptr (f 2) 0 0 0,.osl (f 4) 1,.osl (f 5) 1,isV f σ.io,.osl (f 9) 1,.osl (f 6) 1,psV (f 37) σ.pk,.osl (f 7) 1,.osl (f 10) 1,.osl (f 11) 10,.osl (f 8) 1,.int .i64 σ.ck])) 47 none
def fsM (f:Nat→Nat):Ob:=.mem (.cells [.osl (f 12) 1,.osl (f 13) 1,.osl (f 14) 1,.osl (f 15) 1]) 22 (some 1)
def lrAt (zs:List Int) (σ:CS) (f:Nat→Nat):List (Option Ob):=[some (.ro .i64 zs),some (crewM f σ),some (memM (f 3) σ.sz σ.j),some (XL σ.ws),some (rowU σ.ks),some (rowI σ.hs),
 some (.mem (.cells [ksV (f 27) σ.c0,ksV (f 32) σ.c1]) 58 (some 1)),some (fsM f),some (rowI [σ.o0,σ.o1,σ.o2,σ.o3]),
 some (.mem (.cells (allV f σ.io)) 40 (some 1)),some (rowI σ.gt),some (callsOb σ.cl),some (rowI σ.f0),some (rowI σ.f1),some (rowI σ.f2),some (rowI σ.f3),
 oldO σ.io 0,oldO σ.io 1,oldO σ.io 2,oldO σ.io 3,oldO σ.io 4,oldO σ.io 5,
 insO f σ.io,ifdO (f 24) σ.io,itdO σ.io,ireO (f 25) (f 26) σ.io,ipuO σ.io,
 claO (f 28) (f 30) σ.c0,cfdO (f 29) σ.c0,ctdO σ.c0,creO (f 30) (f 31) σ.c0,cpuO σ.c0,
 claO (f 33) (f 35) σ.c1,cfdO (f 34) σ.c1,ctdO σ.c1,creO (f 35) (f 36) σ.c1,cpuO σ.c1,pekO σ.pk]
def lA (zs:List Int) (σ:CS):List (Option Ob):=lrAt zs σ fun m=>m
theorem renV_map (f:Nat→Nat):∀ (k:Nat) (l:List V),(takeN k l).map (V.ren f)=takeN k (l.map (V.ren f))
 |0,_=>rfl
 |k+1,[]=>rfl
 |k+1,x::l=>by simp only [takeN,List.map_cons,renV_map f k l]
theorem allV_ren (f:Nat→Nat) (io:IS):V.renL f (allV (fun m=>m) io)=allV f io:=by
 rw [renL_eq]
 unfold allV
 cases isN io with
 |true=>rfl
 |false=>
  simp only [cond_false,List.map_append,renV_map]
  rfl
theorem lr_at (zs:List Int) (σ:CS) (f:Nat→Nat):(lA zs σ).map (Option.map (Ob.ren f))=lrAt zs σ f:=by
 have hall:∀ io,Ob.ren f (.mem (.cells (allV (fun m=>m) io)) 40 (some 1))=.mem (.cells (allV f io)) 40 (some 1):=fun io=>by
  show Ob.mem (.cells (V.renL f (allV (fun m=>m) io))) _ _=_
  rw [allV_ren]
 have hold:∀ io i,(oldO io i).map (Ob.ren f)=oldO io i:=fun io i=>by unfold oldO;cases Nat.blt i (isK io)<;>rfl
 have h1:(insO (fun m=>m) σ.io).map (Ob.ren f)=insO f σ.io:=by cases σ.io<;>rfl
 have h2:(ifdO 24 σ.io).map (Ob.ren f)=ifdO (f 24) σ.io:=by cases σ.io<;>rfl
 have h3:(itdO σ.io).map (Ob.ren f)=itdO σ.io:=by cases σ.io<;>rfl
 have h4:(ireO 25 26 σ.io).map (Ob.ren f)=ireO (f 25) (f 26) σ.io:=by cases σ.io<;>rfl
 have h5:(ipuO σ.io).map (Ob.ren f)=ipuO σ.io:=by cases σ.io<;>rfl
 have c1:∀ (c:KS) a b,(claO a b c).map (Ob.ren f)=claO (f a) (f b) c:=fun c a b=>by cases c<;>rfl
 have c2:∀ (c:KS) a,(cfdO a c).map (Ob.ren f)=cfdO (f a) c:=fun c a=>by cases c<;>rfl
 have c3:∀ (c:KS),(ctdO c).map (Ob.ren f)=ctdO c:=fun c=>by cases c<;>rfl
 have c4:∀ (c:KS) a b,(creO a b c).map (Ob.ren f)=creO (f a) (f b) c:=fun c a b=>by cases c<;>rfl
 have c5:∀ (c:KS),(cpuO c).map (Ob.ren f)=cpuO c:=fun c=>by cases c<;>rfl
 have p1:(pekO σ.pk).map (Ob.ren f)=pekO σ.pk:=by cases σ.pk<;>rfl
 have hcrew:Ob.ren f (crewM (fun m=>m) σ)=crewM f σ:=by
  have e1:V.ren f (isV (fun m=>m) σ.io)=isV f σ.io:=by cases σ.io<;>rfl
  have e2:V.ren f (psV 37 σ.pk)=psV (f 37) σ.pk:=by cases σ.pk<;>rfl
  show Ob.mem (.cells (V.renL f (σ.t.vs++[.ptr 2 0 0 0,.osl 4 1,.osl 5 1,isV (fun m=>m) σ.io,.osl 9 1,.osl 6 1,psV 37 σ.pk,.osl 7 1,.osl 10 1,.osl 11 10,.osl 8 1,.int .i64 σ.ck]))) _ _=_
  rw [renL_eq]
  simp only [List.map_append,List.map_cons,List.map_nil,e1,e2]
  rfl
 have hcl:Ob.ren f (.mem (.cells [ksV 27 σ.c0,ksV 32 σ.c1]) 58 (some 1))=.mem (.cells [ksV (f 27) σ.c0,ksV (f 32) σ.c1]) 58 (some 1):=by
  have e:∀ (c:KS) a,V.ren f (ksV a c)=ksV (f a) c:=fun c a=>by cases c<;>rfl
  show Ob.mem (.cells [V.ren f (ksV 27 σ.c0),V.ren f (ksV 32 σ.c1)]) _ _=_
  rw [e,e]
 show [some _,some (Ob.ren f (crewM (fun m=>m) σ)),some _,some _,some _,some _,some (Ob.ren f (.mem (.cells [ksV 27 σ.c0,ksV 32 σ.c1]) 58 (some 1))),some _,some _,some (Ob.ren f (.mem (.cells (allV (fun m=>m) σ.io)) 40 (some 1))),some _,some _,some _,some _,some _,some _,
  (oldO σ.io 0).map (Ob.ren f),(oldO σ.io 1).map (Ob.ren f),(oldO σ.io 2).map (Ob.ren f),(oldO σ.io 3).map (Ob.ren f),(oldO σ.io 4).map (Ob.ren f),(oldO σ.io 5).map (Ob.ren f),
  (insO (fun m=>m) σ.io).map (Ob.ren f),(ifdO 24 σ.io).map (Ob.ren f),(itdO σ.io).map (Ob.ren f),(ireO 25 26 σ.io).map (Ob.ren f),(ipuO σ.io).map (Ob.ren f),
  (claO 28 30 σ.c0).map (Ob.ren f),(cfdO 29 σ.c0).map (Ob.ren f),(ctdO σ.c0).map (Ob.ren f),(creO 30 31 σ.c0).map (Ob.ren f),(cpuO σ.c0).map (Ob.ren f),
  (claO 33 35 σ.c1).map (Ob.ren f),(cfdO 34 σ.c1).map (Ob.ren f),(ctdO σ.c1).map (Ob.ren f),(creO 35 36 σ.c1).map (Ob.ren f),(cpuO σ.c1).map (Ob.ren f),(pekO σ.pk).map (Ob.ren f)]=_
 rw [hcrew,hcl,hall,hold,hold,hold,hold,hold,hold,h1,h2,h3,h4,h5,c1,c2,c3,c4,c5,c1,c2,c3,c4,c5,p1]
 rfl
def busyK:KS→Nat→Bool
 |.none,_=>false
 |.over,m=>Nat.beq m 0
 |.a _,m=>Nat.beq m 0
 |.b ..,m=>Nat.blt m 3
 |.r ..,m=>Nat.blt m 4
 |.p ..,m=>Nat.blt m 5
def busyI:IS→Nat→Bool
 |.none,_=>false
 |.over _,m=>Nat.beq m 0
 |.a ..,m=>Nat.blt m 3
 |.r ..,m=>Nat.blt m 4
 |.p ..,m=>Nat.blt m 5
def busyP:PS→Bool
 |.none=>false
 |_=>true
def pA (σ:CS) (m:Nat):Bool:=match m with
 |0|1|2|3|4|5|6|7|8|9|10|11|12|13|14|15=>true
 |16=>Nat.blt 0 (isK σ.io)
 |17=>Nat.blt 1 (isK σ.io)
 |18=>Nat.blt 2 (isK σ.io)
 |19=>Nat.blt 3 (isK σ.io)
 |20=>Nat.blt 4 (isK σ.io)
 |21=>Nat.blt 5 (isK σ.io)
 |22=>busyI σ.io 0
 |23=>busyI σ.io 1
 |24=>busyI σ.io 2
 |25=>busyI σ.io 3
 |26=>busyI σ.io 4
 |27=>busyK σ.c0 0
 |28=>busyK σ.c0 1
 |29=>busyK σ.c0 2
 |30=>busyK σ.c0 3
 |31=>busyK σ.c0 4
 |32=>busyK σ.c1 0
 |33=>busyK σ.c1 1
 |34=>busyK σ.c1 2
 |35=>busyK σ.c1 3
 |36=>busyK σ.c1 4
 |37=>busyP σ.pk
 |_=>false
theorem pA_live (zs:List Int) (σ:CS) (n0:Nat) (m:Nat) (h:pA σ m=true):m<(lA zs σ).length∧(m<n0∨∃ o,((lA zs σ)[m]?).join=some o):=by
 obtain ⟨t,sz,ks,hs,j,ws,f0,f1,f2,f3,gt,cl,o0,o1,o2,o3,ck,io,c0,c1,pk⟩:=σ
 have hold:∀ i,Nat.blt i (isK io)=true→oldO io i=some opq:=fun i h=>by unfold oldO;rw [h];rfl
 match m,h with
 |0,_|1,_|2,_|3,_|4,_|5,_|6,_|7,_|8,_|9,_|10,_|11,_|12,_|13,_|14,_|15,_=>exact ⟨by simp [lA,lrAt],.inr ⟨_,rfl⟩⟩
 |16,h=>exact ⟨by simp [lA,lrAt],.inr ⟨opq,hold 0 h⟩⟩
 |17,h=>exact ⟨by simp [lA,lrAt],.inr ⟨opq,hold 1 h⟩⟩
 |18,h=>exact ⟨by simp [lA,lrAt],.inr ⟨opq,hold 2 h⟩⟩
 |19,h=>exact ⟨by simp [lA,lrAt],.inr ⟨opq,hold 3 h⟩⟩
 |20,h=>exact ⟨by simp [lA,lrAt],.inr ⟨opq,hold 4 h⟩⟩
 |21,h=>exact ⟨by simp [lA,lrAt],.inr ⟨opq,hold 5 h⟩⟩
 |22,h|23,h|24,h|25,h|26,h=>cases io<;>first|exact ⟨by simp [lA,lrAt],.inr ⟨_,rfl⟩⟩|cases h
 |27,h|28,h|29,h|30,h|31,h=>cases c0<;>first|exact ⟨by simp [lA,lrAt],.inr ⟨_,rfl⟩⟩|cases h
 |32,h|33,h|34,h|35,h|36,h=>cases c1<;>first|exact ⟨by simp [lA,lrAt],.inr ⟨_,rfl⟩⟩|cases h
 |37,h=>cases pk<;>first|exact ⟨by simp [lA,lrAt],.inr ⟨_,rfl⟩⟩|cases h
 |m+38,h=>cases h
theorem pA_old {σ:CS} {n0:Nat} (h:n0=9) (m:Nat) (hm:m<n0):pA σ m=true:=by
 subst h
 match m,hm with
 |0,_|1,_|2,_|3,_|4,_|5,_|6,_|7,_|8,_=>rfl
theorem names_takeN (p:Nat→Bool):∀ (k:Nat) (l:List V),(∀ i v,i<k→l[i]?=some v→v.names p=true)→V.namesL p (takeN k l)=true
 |0,_,_=>rfl
 |k+1,[],_=>rfl
 |k+1,x::l,h=>by
  simp only [takeN,V.namesL,Bool.and_eq_true]
  exact ⟨h 0 x (by omega) rfl,names_takeN p k l fun i v hi hv=>h (i+1) v (by omega) hv⟩
theorem namesL_app (p:Nat→Bool):∀ (l m:List V),V.namesL p l=true→V.namesL p m=true→V.namesL p (l++m)=true
 |[],_,_,h=>h
 |x::l,m,h,k=>by
  simp only [V.namesL,Bool.and_eq_true,List.cons_append] at h ⊢
  exact ⟨h.1,namesL_app p l m h.2 k⟩
theorem obsOK_of {p:Nat→Bool}:∀ (l:List (Option Ob)) (i:Nat),(∀ m o,l[m]?=some (some o)→o.plain=true∧p (i+m)=true∧o.names p=true)→obsOK p i l=true
 |[],_,_=>rfl
 |none::l,i,h=>obsOK_of l (Nat.succ i) fun m o ho=>by
  have:=h (m+1) o (by simpa using ho)
  have e:Nat.succ i+m=i+(m+1):=by omega
  rw [e];exact this
 |some o::l,i,h=>by
  obtain ⟨h1,h2,h3⟩:=h 0 o rfl
  have h2:p i=true:=h2
  simp only [obsOK,h1,h2,h3,cond_true]
  exact obsOK_of l (Nat.succ i) fun m o ho=>by
   have:=h (m+1) o (by simpa using ho)
   have e:Nat.succ i+m=i+(m+1):=by omega
   rw [e];exact this
theorem obsA (zs:List Int) (σ:CS):obsOK (pA σ) 0 (lA zs σ)=true:=by
 obtain ⟨t,sz,ks,hs,j,ws,f0,f1,f2,f3,gt,cl,o0,o1,o2,o3,ck,io,c0,c1,pk⟩:=σ
 have hall:V.namesL (pA ⟨t,sz,ks,hs,j,ws,f0,f1,f2,f3,gt,cl,o0,o1,o2,o3,ck,io,c0,c1,pk⟩) (allV (fun m=>m) io)=true:=by
  unfold allV
  cases hn:isN io with
  |true=>rfl
  |false=>
   refine namesL_app _ _ _ (names_takeN _ _ _ fun i v hi hv=>?_) (by cases io<;>first|rfl|cases hn)
   match i,hv with
   |0,hv=>cases hv;exact Nat.blt_eq.mpr hi
   |1,hv=>cases hv;exact Nat.blt_eq.mpr hi
   |2,hv=>cases hv;exact Nat.blt_eq.mpr hi
   |3,hv=>cases hv;exact Nat.blt_eq.mpr hi
   |4,hv=>cases hv;exact Nat.blt_eq.mpr hi
   |5,hv=>cases hv;exact Nat.blt_eq.mpr hi
   |i+6,hv=>simp [oldV] at hv
 have hold:∀ i o,oldO io i=some o→o=opq∧Nat.blt i (isK io)=true:=fun i o h=>by
  unfold oldO at h
  cases hb:Nat.blt i (isK io) with
  |true=>rw [hb] at h;cases h;exact ⟨rfl,rfl⟩
  |false=>rw [hb] at h;cases h
 refine obsOK_of _ _ fun m o ho=>?_
 rw [Nat.zero_add]
 match m,ho with
 |0,ho|2,ho|3,ho|4,ho|5,ho|7,ho|8,ho|10,ho|11,ho|12,ho|13,ho|14,ho|15,ho=>cases ho;exact ⟨rfl,rfl,rfl⟩
 |1,ho=>cases ho;refine ⟨rfl,rfl,?_⟩;cases io<;>cases pk<;>rfl
 |6,ho=>cases ho;refine ⟨rfl,rfl,?_⟩;cases c0<;>cases c1<;>rfl
 |9,ho=>cases ho;exact ⟨rfl,rfl,hall⟩
 |16,ho=>obtain ⟨rfl,h⟩:=hold 0 o (by simpa [lA,lrAt] using ho);exact ⟨rfl,h,rfl⟩
 |17,ho=>obtain ⟨rfl,h⟩:=hold 1 o (by simpa [lA,lrAt] using ho);exact ⟨rfl,h,rfl⟩
 |18,ho=>obtain ⟨rfl,h⟩:=hold 2 o (by simpa [lA,lrAt] using ho);exact ⟨rfl,h,rfl⟩
 |19,ho=>obtain ⟨rfl,h⟩:=hold 3 o (by simpa [lA,lrAt] using ho);exact ⟨rfl,h,rfl⟩
 |20,ho=>obtain ⟨rfl,h⟩:=hold 4 o (by simpa [lA,lrAt] using ho);exact ⟨rfl,h,rfl⟩
 |21,ho=>obtain ⟨rfl,h⟩:=hold 5 o (by simpa [lA,lrAt] using ho);exact ⟨rfl,h,rfl⟩
 |22,ho|23,ho|24,ho|25,ho|26,ho=>cases io<;>cases ho<;>exact ⟨rfl,rfl,rfl⟩
 |27,ho|28,ho|29,ho|30,ho|31,ho=>cases c0<;>cases ho<;>exact ⟨rfl,rfl,rfl⟩
 |32,ho|33,ho|34,ho|35,ho|36,ho=>cases c1<;>cases ho<;>exact ⟨rfl,rfl,rfl⟩
 |37,ho=>cases pk<;>cases ho<;>exact ⟨rfl,rfl,rfl⟩
 |m+38,ho=>simp [lA,lrAt] at ho
end Go.Sx
namespace Go.Sx
open Go.Proofs
def part (ws:List Int) (st ln:Nat):List Int:=(ws.drop st).take ln
theorem part_length {ws:List Int} {st ln:Nat} (h:st+ln≤ws.length):(part ws st ln).length=ln:=by simp [part];omega
theorem part_getD {ws:List Int} {st ln i:Nat} (_h:st+ln≤ws.length) (hi:i<ln):(part ws st ln).getD i 0=ws.getD (st+i) 0:=by
 simp only [part,List.getD_eq_getElem?_getD,List.getElem?_take,if_pos hi,List.getElem?_drop]
theorem part_mem {ws:List Int} {st ln:Nat} {x:Int} (h:st+ln≤ws.length):x∈part ws st ln↔∃ i,i<ln∧ws.getD (st+i) 0=x:=by
 constructor
 ·intro hx
  obtain ⟨i,hi⟩:=List.getElem?_of_mem hx
  have hlt:i<(part ws st ln).length:=(List.getElem?_eq_some_iff.1 hi).1
  rw [part_length h] at hlt
  refine ⟨i,hlt,?_⟩
  rw [← part_getD h hlt,List.getD_eq_getElem?_getD,hi];rfl
 ·rintro ⟨i,hi,hx⟩
  rw [← part_getD h hi] at hx
  have hlt:i<(part ws st ln).length:=by rw [part_length h];exact hi
  rw [List.getD_eq_getElem?_getD,List.getElem?_eq_getElem hlt] at hx
  simp only [Option.getD_some] at hx
  rw [← hx];exact List.getElem_mem _
noncomputable def todoAm:List Item:=((ctlN F0 (exec F0 400) ⟨75,none,18⟩ 7 [.code (bodyOf Tryz.f75)] (Tr.ofList [.osv 0 1 0 0 1,.int .i64 5]) [] ⟨trO [some (rowI [1])],1,[],[],[]⟩).map (·.1)).getD []
noncomputable def todoAmF:List Item:=((ctlN F0 (exec F0 400) ⟨75,none,18⟩ 19 [.code (bodyOf Tryz.f75)] (Tr.ofList [.osv 0 1 0 0 1,.int .i64 1]) [] ⟨trO [some (rowI [1])],1,[],[],[]⟩).map (·.1)).getD []
def slAm (bs st ln:Nat) (n:Int) (i:Int):List (Option V):=[some (.osv 0 1 bs st ln),some (.int .i64 n),none,none,none,some (.int .i64 i)]++List.replicate 12 none
def slAmE (b:Bool):List (Option V):=[none,none,none,none,some (.bool b)]++List.replicate 13 none
section
variable {β:Base} {kind:CallKind} {cs:List Frame} {J:Nat→V} {a:Cf} {ws:List Int} {bs st ln:Nat} {n i:Int}
theorem live1 {o:Ob}:∀ m,m<1→∃ q,(([some o]:List (Option Ob))[m]?).join=some q:=by
 intro m hm
 match m,hm with
 |0,_=>exact ⟨_,rfl⟩
theorem amStart (hβ:β.n0=1) (hA:YC β ⟨75,none,18⟩ (Tr.ofList [.osv 0 1 bs st ln,.int .i64 n]) [] (hO [some (rowI ws)]) 1 far a):
  ∃ J' b',YC β ⟨75,none,18⟩ (trO (slots J' 0 (slAm bs st ln n 0))) [] (hO [some (rowI ws)]) 1 far b'∧Steps PR (At ⟨75,none,18⟩ none kind cs a [.code (bodyOf Tryz.f75)]) (At ⟨75,none,18⟩ none kind cs b' todoAm):=
 YC.eval (n:=400) (m:=7) (orc:=[]) (πl:=[0]) (nx':=1) (far:=far) (todo:=[.code (bodyOf Tryz.f75)]) (todo':=todoAm) (l':=[some (rowI ws)]) (sl':=slAm bs st ln n 0) (B:=true) F0_ok S0_ok kind cs hA
  (by kernel_rfl) rfl rfl rfl rfl rfl rfl (fun m=>Nat.blt m 1) (p_ok rfl live1) (fun m hm=>by rw [hβ] at hm;exact Nat.blt_eq.mpr hm) (by rw [hβ];kernel_rfl) (by kernel_rfl) (by kernel_rfl)
theorem amIter (hβ:β.n0=1) (hA:YC β ⟨75,none,18⟩ (trO (slots J 0 (slAm bs st ln n i))) [] (hO [some (rowI ws)]) 1 far a)
  (hB:allB [!(ws.getD (st+i.toNat) 0==n),decide (st+i.toNat<ws.length),decide (st+ln≤ws.length),decide (0≤i∧i<(ln:Int)),decide (i<(ln:Int))]=true):
  ∃ J' b',YC β ⟨75,none,18⟩ (trO (slots J' 0 (slAm bs st ln n (IntKind.i64.wrap (i+1))))) [] (hO [some (rowI ws)]) 1 far b'∧Steps PR (At ⟨75,none,18⟩ none kind cs a todoAm) (At ⟨75,none,18⟩ none kind cs b' todoAm):=
 YC.eval (n:=400) (m:=14) (orc:=bits 5 0b11110) (πl:=[0]) (nx':=1) (far:=far) (todo:=todoAm) (todo':=todoAm) (l':=[some (rowI ws)]) (sl':=slAm bs st ln n (IntKind.i64.wrap (i+1))) F0_ok S0_ok kind cs hA
  (by kernel_rfl) hB rfl rfl rfl rfl rfl (fun m=>Nat.blt m 1) (p_ok rfl live1) (fun m hm=>by rw [hβ] at hm;exact Nat.blt_eq.mpr hm) (by rw [hβ];kernel_rfl) (by kernel_rfl) (by kernel_rfl)
theorem amFound (hβ:β.n0=1) (hA:YC β ⟨75,none,18⟩ (trO (slots J 0 (slAm bs st ln n i))) [] (hO [some (rowI ws)]) 1 far a)
  (hB:allB [(ws.getD (st+i.toNat) 0==n),decide (st+i.toNat<ws.length),decide (st+ln≤ws.length),decide (0≤i∧i<(ln:Int)),decide (i<(ln:Int))]=true):
  ∃ J' b',YC β ⟨75,none,18⟩ (trO (slots J' 0 (slAmE true))) [] (hO [some (rowI ws)]) 1 far b'∧Steps PR (At ⟨75,none,18⟩ none kind cs a todoAm) (At ⟨75,none,18⟩ none kind cs b' todoAmF):=
 YC.eval (n:=400) (m:=12) (orc:=bits 5 0b11111) (πl:=[0]) (nx':=1) (far:=far) (todo:=todoAm) (todo':=todoAmF) (l':=[some (rowI ws)]) (sl':=slAmE true) F0_ok S0_ok kind cs hA
  (by kernel_rfl) hB rfl rfl rfl rfl rfl (fun m=>Nat.blt m 1) (p_ok rfl live1) (fun m hm=>by rw [hβ] at hm;exact Nat.blt_eq.mpr hm) (by rw [hβ];kernel_rfl) (by kernel_rfl) (by kernel_rfl)
theorem amExit (hβ:β.n0=1) (hA:YC β ⟨75,none,18⟩ (trO (slots J 0 (slAm bs st ln n i))) [] (hO [some (rowI ws)]) 1 far a) (h:¬ i<(ln:Int)):
  ∃ J' b',YC β ⟨75,none,18⟩ (trO (slots J' 0 (slAmE false))) [] (hO [some (rowI ws)]) 1 far b'∧Steps PR (At ⟨75,none,18⟩ none kind cs a todoAm) (At ⟨75,none,18⟩ none kind cs b' [.code .ret]):=
 YC.eval (n:=400) (m:=7) (orc:=bits 1 0) (πl:=[0]) (nx':=1) (far:=far) (todo:=todoAm) (todo':=[.code .ret]) (l':=[some (rowI ws)]) (sl':=slAmE false) (B:=allB [!(decide (i<(ln:Int)))]) F0_ok S0_ok kind cs hA
  (by kernel_rfl) (by simp only [allB,decide_eq_false h];rfl) rfl rfl rfl rfl rfl (fun m=>Nat.blt m 1) (p_ok rfl live1) (fun m hm=>by rw [hβ] at hm;exact Nat.blt_eq.mpr hm) (by rw [hβ];kernel_rfl) (by kernel_rfl) (by kernel_rfl)
theorem amLoop (hβ:β.n0=1) (hw:st+ln≤ws.length) (hbig:ln≤1048576):∀ (d:Nat) (J:Nat→V) (a:Cf) (i:Nat),ln=i+d→(∀ k,k<i→ws.getD (st+k) 0≠n)→YC β ⟨75,none,18⟩ (trO (slots J 0 (slAm bs st ln n (i:Int)))) [] (hO [some (rowI ws)]) 1 far a→
  ∃ J' b' todo,YC β ⟨75,none,18⟩ (trO (slots J' 0 (slAmE (decide (n∈part ws st ln))))) [] (hO [some (rowI ws)]) 1 far b'∧Steps PR (At ⟨75,none,18⟩ none kind cs a todoAm) (At ⟨75,none,18⟩ none kind cs b' todo)∧∃ k,todo=.code .ret::k:=by
 intro d
 induction d with
 |zero=>
  intro J a i hd hno hA
  obtain ⟨J',b',h1,h2⟩:=amExit (kind:=kind) (cs:=cs) hβ hA (by omega)
  have hf:decide (n∈part ws st ln)=false:=decide_eq_false fun h=>by
   obtain ⟨k,hk,he⟩:=(part_mem hw).1 h
   exact hno k (by omega) he
  rw [← hf] at h1
  exact ⟨J',b',_,h1,h2,[],rfl⟩
 |succ d ih=>
  intro J a i hd hno hA
  by_cases he:ws.getD (st+i) 0=n
  ·obtain ⟨J',b',h1,h2⟩:=amFound (kind:=kind) (cs:=cs) hβ hA (by simp only [XD,List.forall_mem_cons,decide_eq_true_eq,Int.toNat_natCast,beq_iff_eq];exact ⟨he,by omega,hw,by omega,by omega,fun _ hb=>by cases hb⟩)
   have hf:decide (n∈part ws st ln)=true:=decide_eq_true ((part_mem hw).2 ⟨i,by omega,he⟩)
   rw [← hf] at h1
   exact ⟨J',b',_,h1,h2,_,rfl⟩
  ·obtain ⟨J1,b1,h1,h2⟩:=amIter (kind:=kind) (cs:=cs) hβ hA (by simp only [XD,List.forall_mem_cons,decide_eq_true_eq,Int.toNat_natCast,Bool.not_eq_true',beq_eq_false_iff_ne];exact ⟨he,by omega,hw,by omega,by omega,fun _ hb=>by cases hb⟩)
   rw [XM (by omega) (by omega)] at h1
   obtain ⟨J2,b2,todo,h3,h4,h5⟩:=ih J1 b1 (i+1) (by omega) (fun k hk=>by
    by_cases hki:k=i
    ·subst hki;exact he
    ·exact hno k (by omega)) (by exact_mod_cast h1)
   exact ⟨J2,b2,todo,h3,h2.trans h4,h5⟩
theorem among_call (hw:st+ln≤ws.length) (hbig:ln≤1048576):YD PR 75 [.osv 0 1 bs st ln,.int .i64 n] 1 (hO [some (rowI ws)]) (.bool (decide (n∈part ws st ln))) 1 (hO [some (rowI ws)]):=by
 refine callH_of (c:=bodyOf Tryz.f75) (t:=4) (hi:=far) Tryz.func75 (by kernel_rfl) (Nat.blt_eq.mp (by kernel_rfl)) (by kernel_rfl) (Nat.ble_eq.mp (by kernel_rfl)) (fun m o ho=>?_) (fun m o ho hr=>?_) rfl ?_
 ·have:=XP (p:=fun m=>Nat.blt m 1) [some (rowI ws)] 0 (by kernel_rfl) m o ho
  rw [blt_fun] at this
  exact ⟨by simpa using this.2.1,this.2.2⟩
 ·rw [noRo_ok [some (rowI ws)] (by kernel_rfl) m o ho] at hr;cases hr
 ·intro L w kind cs a hA
  obtain ⟨J1,b1,h1,h2⟩:=amStart (kind:=kind) (cs:=cs) rfl hA
  obtain ⟨J2,b2,todo,h3,h4,h5⟩:=amLoop (kind:=kind) (cs:=cs) rfl hw hbig ln J1 b1 0 (by omega) (fun k hk=>absurd hk (Nat.not_lt_zero _)) h1
  exact ⟨b2,_,1,far,todo,h3,rfl,h2.trans h4,.inr h5⟩
end
def smAm (args:List V) (s:St):Option (V×St):=
 match args with
 |[x,.int .i64 n]=>(nrm .i64 3 x s).bind fun r=>match r with
  |((_,_,st,ln,ws),s1)=>(need (decide (ln≤1048576)) s1).bind fun s2=>some (.bool (decide (n∈part ws st ln)),s2)
 |_=>none
theorem smAm_ok {args:List V} {s s':St} {v:V} (h:smAm args s=some (v,s')) (ho:Obl s'):Lg s s'∧Obl s∧YB PR 75 args s v s':=by
 unfold smAm at h
 split at h
 ·rename_i x n
  obtain ⟨⟨⟨m,b,st,ln,ws⟩,s1⟩,h1,h2⟩:=XA h
  obtain ⟨s2,h3,h4⟩:=XA h2
  cases h4
  obtain ⟨hd,hq⟩:=XI h3 ho
  have hd:ln≤1048576:=of_decide_eq_true hd
  obtain ⟨g1,g2,g3,g4,g5,g6⟩:=nrm_ok h1 hq.2
  refine ⟨g1.trans (.of_same hq.1),g2,?_⟩
  have hcall:YB PR 75 [.osv m 1 b st ln,.int .i64 n] s' (.bool (decide (n∈part ws st ln))) s':=
   embedRO (l:=[some (rowI ws)]) (ac:=[.osv 0 1 b st ln,.int .i64 n]) (vc:=.bool (decide (n∈part ws st ln))) (among_call g4 hd) (fun m hm=>live1 m hm) (by kernel_rfl) (by kernel_rfl) [m] rfl (fun q o ho=>by
    match q,ho with
    |0,ho=>cases ho;rw [hq.1.H];exact g3) (by simp) rfl rfl
  refine YB.gh hcall (by rw [hq.1.nx];exact g1.le) (Nat.le_refl _) (fun D L w hSR hD hst=>?_)
  have e1:s'.nx=s1.nx:=hq.1.nx
  have e2:s'.H=s1.H:=hq.1.H
  rw [e1] at hD
  obtain ⟨L',k1,k2⟩:=g6 D L w hSR hD
  refine ⟨L',⟨by rw [e1];exact k1.le,k1.agree,by rw [e1,e2];exact k1.sr,fun n o b ho=>by rw [e2] at ho;exact k1.sub n o b ho,fun n o ho=>by rw [e2] at ho;exact k1.ro n o ho⟩,fun L'' hL''=>?_⟩
  rw [e1] at hL''
  simp only [List.map_cons,List.map_nil,k2 L'' hL'']
  rfl
 ·cases h
theorem smAm_sm:SmOK PR 75 smAm:=⟨fun _ _ _ _ h ho=>smAm_ok h ho,Tryz.call75⟩
end Go.Sx
namespace Go.Sx
open Go.Proofs
def smPk (p:Int) (args:List V) (s:St):Option (V×St):=
 match args with
 |[.int .i64 x,.int .i64 k]=>(chk (decide (k=4))).bind fun _=>(need (decide (XR x k=p)) s).bind fun s1=>some (.int .i64 p,s1)
 |_=>none
theorem smPk_sm (p:Int):SmOK PR 6 (smPk p):=by
 refine ⟨fun args s v s' h ho=>?_,Tryz.call6⟩
 unfold smPk at h
 split at h
 ·rename_i x k
  simp only [Option.bind_eq_some_iff] at h
  obtain ⟨_,h1,s1,h2,h3⟩:=h
  obtain rfl:=chk_dec h1
  cases h3
  obtain ⟨hd,hq⟩:=XI h2 ho
  have hd:=of_decide_eq_true hd
  subst hd
  refine ⟨Lg.of_same hq.1,hq.2,?_⟩
  exact embed0 (l:=[]) (pick_call x 4 (by decide)) (fun m hm=>absurd hm (Nat.not_lt_zero _)) (by kernel_rfl) (by kernel_rfl) [] rfl (fun m o ho=>by simp at ho) List.nodup_nil rfl hq.1 rfl
 ·cases h
noncomputable def smsP (p:Int):List (Nat×SmF):=[(6,smPk p),(69,smIStep),(15,smCStep),(21,smPStep),(105,smLive),(50,smNewFind),(47,smNext),(65,smAt),(75,smAm)]
theorem smsP_ok (p:Int):AllSm PR (smsP p):=⟨smPk_sm p,smIStep_sm,smCStep_sm,smPStep_sm,smLive_sm,smNewFind_sm,smNext_sm,smAt_sm,smAm_sm,trivial⟩
noncomputable def FP (p:Int):Env:=envOf tabT tabF (smOf (smsP p)) seT imT pzT
theorem FP_ok (p:Int):EnvOK PR (FP p):=env_ok _
theorem SP_ok (p:Int):SumOK PR (FP p):=sumOK_of rfl (smsP_ok p)
abbrev frPl:Frs:=⟨7,none,46⟩
noncomputable def plBody:Code:=bodyOf Tryz.f7
def σ00:CS:=⟨⟨0,0,1,0,0,1,0,0,0,0,0,0,0⟩,0,[],[],⟨0,0,0,0,false,0⟩,[],[],[],[],[],[],[],-1,-1,-1,-1,0,.none,.none,.none,.none⟩
noncomputable def plT (l:List Int) (k:Nat):List Item:=((ctlN (FP 0) (exec (FP 0) 400) frPl k [.code plBody] (Tr.ofList [.ptr 1 0 0 0,.slice 0 0 1 l.length l.length]) [] ⟨trO (lA l σ00),38,[],[],[]⟩).map (·.1)).getD []
noncomputable def plH:List Item:=plT [0] 7
noncomputable def plK:List Item:=plT [] 17
noncomputable def plG:List Item:=plT [] 28
def slH (len cap:Nat) (i:Int):List (Option V):=[some (.ptr 1 0 0 0),some (.slice 0 0 1 len cap),none,none,none,some (.int .i64 i)]++List.replicate 40 none
def slK (c:Int):List (Option V):=[some (.ptr 1 0 0 0),none,none,none,none,none,some (.int .i64 c)]++List.replicate 39 none
def slG (c k:Int):List (Option V):=[some (.ptr 1 0 0 0),none,none,none,none,none,some (.int .i64 c),some (.int .i64 k)]++List.replicate 38 none
def id38:List Nat:=[0,1,2,3,4,5,6,7,8,9,10,11,12,13,14,15,16,17,18,19,20,21,22,23,24,25,26,27,28,29,30,31,32,33,34,35,36,37]
def PlPc (todo:List Item) (sl:List (Option V)) (todo1:List Item) (sl1:List (Option V)) (σ σ':CS):Prop:=
 ∀ {β:Base} {kind:CallKind} {cs:List Frame} {J:Nat→V} {A:Cf} {zs:List Int},β.n0=9→YC β frPl (trO (slots J 0 sl)) [] (hO (lA zs σ)) 38 far A→
  ∃ J' b',YC β frPl (trO (slots J' 0 sl1)) [] (hO (lA zs σ')) 38 far b'∧Steps PR (At frPl none kind cs A todo) (At frPl none kind cs b' todo1)
def PlPz (zs:List Int) (todo:List Item) (sl:List (Option V)) (todo1:List Item) (sl1:List (Option V)) (σ σ':CS):Prop:=
 ∀ {β:Base} {kind:CallKind} {cs:List Frame} {J:Nat→V} {A:Cf},β.n0=9→YC β frPl (trO (slots J 0 sl)) [] (hO (lA zs σ)) 38 far A→
  ∃ J' b',YC β frPl (trO (slots J' 0 sl1)) [] (hO (lA zs σ')) 38 far b'∧Steps PR (At frPl none kind cs A todo) (At frPl none kind cs b' todo1)
theorem PlPc.z {zs:List Int} {t t1:List Item} {s s1:List (Option V)} {σ σ':CS} (h:PlPc t s t1 s1 σ σ'):PlPz zs t s t1 s1 σ σ':=fun hβ hA=>h hβ hA
theorem PlPz.trans {zs:List Int} {t t1 t2:List Item} {s s1 s2:List (Option V)} {σ σ' σ'':CS} (h:PlPz zs t s t1 s1 σ σ') (h':PlPz zs t1 s1 t2 s2 σ' σ''):PlPz zs t s t2 s2 σ σ'':=fun hβ hA=>by
 obtain ⟨J1,b1,g1,g2⟩:=h hβ hA
 obtain ⟨J2,b2,g3,g4⟩:=h' hβ g1
 exact ⟨J2,b2,g3,g2.trans g4⟩
theorem PlPz.refl {zs:List Int} {t:List Item} {s:List (Option V)} {σ:CS}:PlPz zs t s t s σ σ:=fun {_β _kind _cs J A} _ hA=>⟨J,A,hA,.refl _ _⟩
def clE (cl:List (List Int)) (o ck err n w:Int):List (List Int):=rs (rs (rs (rs cl o.toNat 2 (IntKind.i64.wrap (ck+1))) o.toNat 7 err) o.toNat 8 n) o.toNat 9 w
def pkN (y:ClC):ClC:={y with lv:=0,mine:=false}
def bndC (σ:CS):Int:=IntKind.i64.wrap (IntKind.i64.wrap (IntKind.i64.wrap (6*σ.t.height)*IntKind.i64.wrap (IntKind.i64.wrap (2*(σ.ks.length:Int))+1))+40)
def StH (c:Int) (σ σ':CS):Prop:=∀ (zs:List Int) (len cap:Nat) (i:Int),XR (zs.getD i.toNat 0) 4=c→0≤i→i<(len:Int)→len=zs.length→PlPz zs plH (slH len cap i) plH (slH len cap (IntKind.i64.wrap (i+1))) σ σ'
def StG (c:Int) (σ σ':CS):Prop:=∀ (k:Int),0≤k→k<bndC σ→PlPc plG (slG c k) plG (slG c (IntKind.i64.wrap (k+1))) σ σ'
end Go.Sx
