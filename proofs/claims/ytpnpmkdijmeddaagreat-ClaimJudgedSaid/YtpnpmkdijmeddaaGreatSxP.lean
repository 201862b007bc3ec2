/- Regions that draw their order: the invariant. -/
import Derived.Test.YtpnpmkdijmeddaaGreatSxN
set_option maxRecDepth 100000
namespace Go.Sx
section
variable {P:Program} {E:Env}
open Classical
noncomputable def Bf (x:Tce) (S:Nat→Prop):Nat→Nat→Option Ob
 |0,id=>(x.s 0).H.get id
 |k+1,id=>if S k∧Touch (x.r k) id then (x.s (k+1)).H.get id else Bf x S k id
noncomputable def Tf (all:Array Oper) (x:Tce) (S:Nat→Prop):Nat→Nat→V
 |0,t=>((x.T 0).get t).getD XJ
 |k+1,t=>if S k∧(all[k]?).bind (·.dst)=some t then x.v k else Tf all x S k t
def DS (x:Tce) (D:Nat→Prop) (n:Nat) (S:Nat→Prop):Nat→Prop:=fun id=>D id∨∃ j,j<n∧S j∧(x.r j).lo≤id∧id<(x.r j).hi
variable {all:Array Oper} {pms:List Nat} {x:Tce} {n:Nat}
theorem nx_mono (hf:∀ j o,all[j]?=some o→Fact P all x pms j o) (hn:n=all.size):∀ i j,i≤j→j≤n→(x.s i).nx≤(x.s j).nx:=by
 intro i j
 induction j with
 |zero=>intro h _;have:i=0:=(by omega);subst this;exact Nat.le_refl _
 |succ j ih=>
  intro h hj
  by_cases h1:i=j+1
  ·subst h1;exact Nat.le_refl _
  ·exact Nat.le_trans (ih (by omega) (by omega)) (hf j _ (Array.getElem?_eq_getElem (by omega))).nx
theorem Bf_all (hf:∀ j o,all[j]?=some o→Fact P all x pms j o) (hn:n=all.size):∀ (S:Nat→Prop) k,k≤n→∀ id,(∀ i,i<k→Touch (x.r i) id→S i)→Bf x S k id=(x.s k).H.get id:=by
 intro S k
 induction k with
 |zero=>intro _ id _;rfl
 |succ k ih=>
  intro hk id hS
  simp only [Bf]
  by_cases ht:Touch (x.r k) id
  ·rw [if_pos ⟨hS k (by omega) ht,ht⟩]
  ·rw [if_neg (fun h=>ht h.2),ih (by omega) id (fun i hi h=>hS i (by omega) h),(hf k _ (Array.getElem?_eq_getElem (by omega))).same id ht]
theorem Bf_tail {S:Nat→Prop} {j id:Nat}:∀ k,j≤k→(∀ i,j≤i→i<k→S i→¬ Touch (x.r i) id)→Bf x S k id=Bf x S j id:=by
 intro k
 induction k with
 |zero=>intro h _;have:j=0:=(by omega);subst this;rfl
 |succ k ih=>
  intro h hS
  by_cases h1:j=k+1
  ·subst h1;rfl
  ·simp only [Bf]
   rw [if_neg (fun hh=>hS k (by omega) (by omega) hh.1 hh.2),ih (by omega) (fun i a b c=>hS i a (by omega) c)]
theorem Bf_congr {S S':Nat→Prop}:∀ k id,(∀ i,i<k→Touch (x.r i) id→(S i↔S' i))→Bf x S k id=Bf x S' k id:=by
 intro k
 induction k with
 |zero=>intro id _;rfl
 |succ k ih=>
  intro id h
  simp only [Bf]
  rw [ih id (fun i hi=>h i (by omega))]
  by_cases ht:Touch (x.r k) id
  ·by_cases hs:S k
   ·rw [if_pos ⟨hs,ht⟩,if_pos ⟨(h k (by omega) ht).1 hs,ht⟩]
   ·rw [if_neg (fun q=>hs q.1),if_neg (fun q=>hs ((h k (by omega) ht).2 q.1))]
  ·rw [if_neg (fun q=>ht q.2),if_neg (fun q=>ht q.2)]
theorem Tf_all {pms:List Nat} {cf:CallF} {yf:YieldF} {fr:Frs} (hx:∀ j o,all[j]?=some o→StepP E cf yf fr all.toList pms [] x j o) (hn:n=all.size)
  (hob:∀ j,j<n→Obl (x.s1 j)):∀ (S:Nat→Prop) k,k≤n→∀ t,(∀ i,i<k→(all[i]?).bind (·.dst)=some t→S i)→Tf all x S k t=((x.T k).get t).getD XJ:=by
 intro S k
 induction k with
 |zero=>intro _ t _;rfl
 |succ k ih=>
  intro hk t hS
  simp only [Tf]
  have hlt:k<all.size:=by omega
  obtain ⟨pm,p1,p2,p3,_⟩:=hx k _ (Array.getElem?_eq_getElem hlt)
  have hdst:(all[k]?).bind (·.dst)=all[k].dst:=by rw [Array.getElem?_eq_getElem hlt];rfl
  obtain ⟨_,w2,_⟩:=wantedX_ok p2 (hob k (by omega))
  by_cases ht:(all[k]?).bind (·.dst)=some t
  ·rw [if_pos ⟨hS k (by omega) ht,ht⟩]
   rw [hdst] at ht
   unfold putDst at p3
   rw [ht] at p3
   simp only at p3
   obtain ⟨_,_,h2⟩:=XA p3
   obtain ⟨_,h3,h4⟩:=XA h2
   injection h4 with h4
   rw [← h4,Tr.get_put _ _ _ _ (Nat.blt_eq.mp (XC h3)),if_pos rfl];rfl
  ·rw [if_neg (fun q=>ht q.2),ih (by omega) t (fun i hi h=>hS i (by omega) h),← w2 t]
   rw [hdst] at ht
   unfold putDst at p3
   cases hd:all[k].dst with
   |none=>rw [hd] at p3;simp only at p3;injection p3 with p3;rw [p3]
   |some u=>
    rw [hd] at p3 ht
    simp only at p3
    obtain ⟨_,_,h2⟩:=XA p3
    obtain ⟨_,h3,h4⟩:=XA h2
    injection h4 with h4
    rw [← h4,Tr.get_put _ _ _ _ (Nat.blt_eq.mp (XC h3)),if_neg (fun e=>ht (by rw [e]))]
theorem Tf_tail {S:Nat→Prop} {j t:Nat}:∀ k,j≤k→(∀ i,j≤i→i<k→S i→(all[i]?).bind (·.dst)≠some t)→Tf all x S k t=Tf all x S j t:=by
 intro k
 induction k with
 |zero=>intro h _;have:j=0:=(by omega);subst this;rfl
 |succ k ih=>
  intro h hS
  by_cases h1:j=k+1
  ·subst h1;rfl
  ·simp only [Tf]
   rw [if_neg (fun hh=>hS k (by omega) (by omega) hh.1 hh.2),ih (by omega) (fun i a b c=>hS i a (by omega) c)]
theorem Tf_congr {S S':Nat→Prop}:∀ k t,(∀ i,i<k→(all[i]?).bind (·.dst)=some t→(S i↔S' i))→Tf all x S k t=Tf all x S' k t:=by
 intro k
 induction k with
 |zero=>intro t _;rfl
 |succ k ih=>
  intro t h
  simp only [Tf]
  rw [ih t (fun i hi=>h i (by omega))]
  by_cases ht:(all[k]?).bind (·.dst)=some t
  ·by_cases hs:S k
   ·rw [if_pos ⟨hs,ht⟩,if_pos ⟨(h k (by omega) ht).1 hs,ht⟩]
   ·rw [if_neg (fun q=>hs q.1),if_neg (fun q=>hs ((h k (by omega) ht).2 q.1))]
  ·rw [if_neg (fun q=>ht q.2),if_neg (fun q=>ht q.2)]
structure Inv (x:Tce) (all:Array Oper) (n:Nat) (nt:Nat) (D:Nat→Prop) (L0:LM) (w0:World) (S:Nat→Prop) (L:LM) (w:World) (arr:Array Value):Prop where
 sr:SR (DS x D n S) L (Bf x S n) w
 mv:Mv D L0 (x.s 0).H.get w0 L (Bf x S n) w
 tm:∀ L',Agree (DS x D n S) L L'→arr.size=nt∧∀ t,arr.getD t undef=(Tf all x S n t).den L'
theorem live_text (hf:∀ j o,all[j]?=some o→Fact P all x pms j o) (hn:n=all.size) {D:Nat→Prop} (hD:∀ m,D m→m<(x.s 0).nx∨(x.s n).nx≤m) (hD0:∀ id ob,(x.s 0).H.get id=some ob→D id):
  ∀ j,j≤n→∀ id ob,(x.s j).H.get id=some ob→id<(x.s j).nx∨(x.s n).nx≤id:=by
 intro j
 induction j with
 |zero=>intro _ id ob h;exact hD id (hD0 id ob h)
 |succ j ih=>
  intro hj id ob h
  have F:=hf j _ (Array.getElem?_eq_getElem (show j<all.size by omega))
  by_cases ht:Touch (x.r j) id
  ·rcases ht with ht|ht
   ·have:=F.wlt id ht;have:=F.nx;exact .inl (by omega)
   ·exact .inl (F.rng id ht.1 ht.2).2
  ·rw [F.same id ht] at h
   rcases ih (by omega) id ob h with h|h
   ·have:=F.nx;exact .inl (by omega)
   ·exact .inr h
def Rdy (S:Nat→Prop) (o:Oper):Prop:=∀ e∈o.after.toList,Region.binds .any e=true→S e.on
def Down (all:Array Oper) (S:Nat→Prop):Prop:=∀ (j:Nat) (o:Oper),all[j]?=some o→S j→Rdy S o
theorem inv_step (hE:EnvOK P E) {cf:CallF} {yf:YieldF} (hcf:CfOK P E cf) (hyf:YfOK P yf) {fr:Frs} (hn:n=all.size) (hpm:pms=befores [] all.toList) (hback:backOK 0 all.toList=true)
  (hap:apartAll all.toList all.toList pms 0=true) (hx:∀ j o,all[j]?=some o→StepP E cf yf fr all.toList pms [] x j o) (ho:Obl (x.s n)) {D:Nat→Prop} (hD:∀ m,D m→m<(x.s 0).nx∨(x.s n).nx≤m) (hD0:∀ id ob,(x.s 0).H.get id=some ob→D id)
  {L0:LM} {w0:World} {S:Nat→Prop} {L:LM} {w:World} {arr:Array Value} (hI:Inv x all n fr.nt D L0 w0 S L w arr) (_hSn:∀ j,S j→j<n) (hdown:Down all S) {j:Nat} {o:Oper} (hjo:all[j]?=some o)
  (hjS:¬ S j) (hrdy:Rdy S o) (rv:Option Nat) (kind:CallKind) (rest:List Nat) (k:List Item) (dv:List Deferred) (cs:List Frame):
  ∃ L' w' arr',Inv x all n fr.nt D L0 w0 (fun i=>S i∨i=j) L' w' arr'∧Agree (DS x D n S) L L'∧
   Steps P (lone (frm fr rv kind arr (.inRegion all (j::rest)::k) dv) cs w) (lone (frm fr rv kind arr' (.inRegion all rest::k) dv) cs w'):=by
 have hf:=facts_of hE hcf hyf hn hx ho
 have hjn:j<all.size:=(Array.getElem?_eq_some_iff.1 hjo).1
 have F:=hf j o hjo
 obtain ⟨pm,p1,p2,p3,p4⟩:=hx j o hjo
 have hob1:∀ i,i<n→Obl (x.s1 i):=by
  intro i hi
  have h1:Obl (x.s (i+1)):=by
   by_cases h:i+1<n
   ·exact (hf (i+1) _ (Array.getElem?_eq_getElem (by omega))).obl
   ·have:i+1=n:=by omega
    rw [this];exact ho
  obtain ⟨_,_,_,_,q4⟩:=hx i _ (Array.getElem?_eq_getElem (by omega))
  rcases q4 with ⟨_,_,q,_⟩|⟨_,_,rd,q,_,_⟩|⟨_,_,q,_,_,_,q'⟩
  ·rw [q] at h1;exact h1
  ·exact (quietX_ok hE q h1).1.2
  ·rw [q'] at h1
   exact (runOp_ok hE hcf hyf q (fun b hb=>h1 b hb)).2.1
 have hbefore:∀ i,Nat.testBit pm i=true→S i:=by
  have:=before_ready (ops:=all.toList) hback (S:=S) (fun j o h hs=>hdown j o (by simpa using h) hs) j o pm (by simpa using hjo) (by rw [← hpm];exact p1) hrdy
  exact this
 have hlater:∀ i oi pmi,all[i]?=some oi→pms[i]?=some pmi→S i→Nat.testBit pmi j=false:=by
  intro i oi pmi hi hpi hs
  cases hb:Nat.testBit pmi j with
  |false=>rfl
  |true=>
   exact absurd (before_ready (ops:=all.toList) hback (S:=S) (fun j o h hs=>hdown j o (by simpa using h) hs) i oi pmi (by simpa using hi) (by rw [← hpm];exact hpi) (hdown i oi hi hs) j hb) hjS
 have harr:all.toList.toArray=all:=by simp
 have hlooks:∀ t,t∈o.looksAt all→Tf all x S n t=((x.T j).get t).getD XJ:=by
  intro t ht
  rw [Tf_tail (j:=j) n (by omega)]
  ·refine Tf_all hx hn hob1 S j (by omega) t fun i hi hd=>?_
   refine Classical.byContradiction fun hs=>?_
   have hb:Nat.testBit pm i=false:=by
    cases h:Nat.testBit pm i with
    |false=>rfl
    |true=>exact absurd (hbefore i h) hs
   have hil:i<all.size:=by omega
   have ha:=apartAll_ok all.toList all.toList pms 0 hap j o pm (by simpa using hjo) p1 i _ (by rw [Array.getElem?_toList];exact Array.getElem?_eq_getElem hil) (by omega) hb
   rw [harr] at ha
   rw [Array.getElem?_eq_getElem hil] at hd
   exact (Oper.apart_spec ha).1 t hd ht
  ·intro i hi1 hi2 hs hd
   have hne:i≠j:=fun e=>hjS (e ▸ hs)
   have hil:i<all.size:=by omega
   obtain ⟨pmi,q1,_⟩:=hx i _ (Array.getElem?_eq_getElem hil)
   have hb:=hlater i _ pmi (Array.getElem?_eq_getElem hil) q1 hs
   have ha:=apartAll_ok all.toList all.toList pms 0 hap i _ pmi (by rw [Array.getElem?_toList];exact Array.getElem?_eq_getElem hil) q1 j o (by simpa using hjo) (by omega) hb
   rw [harr] at ha
   rw [Array.getElem?_eq_getElem hil] at hd
   exact (Oper.apart_spec ha).2.2 t hd ht
 obtain ⟨w1,w2,w3⟩:=wantedX_ok p2 (hob1 j (by omega))
 have hwant:Region.wanted o (yielded all arr)=x.wt j:=by
  refine w3 L arr fun g t hg ht=>?_
  have hl:t∈o.looksAt all:=by
   simp only [Oper.looksAt,hg,List.mem_append]
   refine .inr ?_
   rw [ht];simp
  rw [(hI.tm L (.refl _ _)).2 t,hlooks t hl]
 have hoper:∀ L',Agree (DS x D n S) L L'→∀ y∈o.op.operands,∀ u,ev (x.T1 j) y=some u→evalA arr y=u.den L':=by
  intro L' hL' y hy u hu
  cases y with
  |tmp t=>
   have hl:t∈o.looksAt all:=by
    simp only [Oper.looksAt,List.mem_append]
    refine .inl ?_
    rw [List.mem_filterMap]
    exact ⟨.tmp t,by simpa using hy,rfl⟩
   have h1:=(hI.tm L' hL').2 t
   rw [hlooks t hl,← w2 t] at h1
   simp only [evalA]
   rw [h1]
   simp only [ev] at hu
   split at hu
   ·rename_i hg;cases hu;rw [hg];rfl
   ·rename_i hg;cases hu;rw [hg];rfl
  |const c=>simp only [ev] at hu;simp only [evalA];exact (ofVal_den L' hu).symm
  |global g=>simp [ev] at hu
  |func f=>simp only [ev] at hu;cases hu;rfl
 have hslots:∀ (D':Nat→Prop) (L':LM) (val:Value),(∀ L'',Agree D' L' L''→val=(x.v j).den L'')→(∀ L'',Agree D' L' L''→Agree (DS x D n S) L L'')→
   ∀ L'',Agree D' L' L''→(putA arr o.dst val).size=fr.nt∧∀ t,(putA arr o.dst val).getD t undef=(Tf all x (fun i=>S i∨i=j) n t).den L'':=by
  intro D' L' val hv hag L'' hL''
  obtain ⟨t1,t2⟩:=hI.tm L'' (hag L'' hL'')
  have hdj:(all[j]?).bind (·.dst)=o.dst:=by rw [hjo];rfl
  refine ⟨by cases o.dst<;>simp [putA,t1],fun t=>?_⟩
  by_cases ht:o.dst=some t
  ·
   have hlt:t<fr.nt:=by
    unfold putDst at p3
    rw [ht] at p3
    simp only at p3
    obtain ⟨_,h1,_⟩:=XA p3
    exact Nat.blt_eq.mp (XC h1)
   have e1:Tf all x (fun i=>S i∨i=j) n t=x.v j:=by
    rw [Tf_tail (j:=j+1) n (by omega)]
    ·simp only [Tf]
     rw [if_pos ⟨by simp,by rw [hdj];exact ht⟩]
    ·intro i hi1 hi2 hs hd
     have hs':S i:=hs.resolve_right (by omega)
     have hil:i<all.size:=by omega
     obtain ⟨pmi,q1,_⟩:=hx i _ (Array.getElem?_eq_getElem hil)
     have hb:=hlater i _ pmi (Array.getElem?_eq_getElem hil) q1 hs'
     have ha:=apartAll_ok all.toList all.toList pms 0 hap i _ pmi (by rw [Array.getElem?_toList];exact Array.getElem?_eq_getElem hil) q1 j o (by simpa using hjo) (by omega) hb
     rw [harr] at ha
     rw [Array.getElem?_eq_getElem hil] at hd
     exact (Oper.apart_spec ha).2.1 t ht hd
   rw [e1,← hv L'' hL'']
   simp [putA,ht,t1,hlt]
  ·have e1:Tf all x (fun i=>S i∨i=j) n t=Tf all x S n t:=by
    refine Tf_congr n t fun i hi hd=>?_
    constructor
    ·rintro (h|rfl)
     ·exact h
     ·rw [hdj] at hd;exact absurd hd ht
    ·exact .inl
   rw [e1,← t2 t]
   cases hd:o.dst with
   |none=>rfl
   |some u=>
    have hut:u≠t:=fun e=>ht (by rw [hd,e])
    simp [putA,hut]
 have hquiet:∀ val,(∀ id,¬ Touch (x.r j) id)→(x.r j).lo=0→(x.r j).hi=0→(∀ L',Agree (DS x D n S) L L'→val=(x.v j).den L')→
   Steps P (lone (frm fr rv kind arr (.inRegion all (j::rest)::k) dv) cs w) (lone (frm fr rv kind (putA arr o.dst val) (.inRegion all rest::k) dv) cs w)→
   ∃ L' w' arr',Inv x all n fr.nt D L0 w0 (fun i=>S i∨i=j) L' w' arr'∧Agree (DS x D n S) L L'∧
    Steps P (lone (frm fr rv kind arr (.inRegion all (j::rest)::k) dv) cs w) (lone (frm fr rv kind arr' (.inRegion all rest::k) dv) cs w'):=by
  intro val hnt hlo hhi hv hst
  have eB:Bf x (fun i=>S i∨i=j) n=Bf x S n:=by
   funext id
   refine Bf_congr n id fun i _ ht=>⟨fun h=>h.resolve_right (fun e=>hnt id (e ▸ ht)),.inl⟩
  have eD:DS x D n (fun i=>S i∨i=j)=DS x D n S:=by
   funext id
   apply propext
   simp only [DS]
   constructor
   ·rintro (h|⟨i,h1,h2,h3,h4⟩)
    ·exact .inl h
    ·refine .inr ⟨i,h1,h2.resolve_right (fun e=>?_),h3,h4⟩
     subst e;rw [hhi] at h4;omega
   ·rintro (h|⟨i,h1,h2,h3⟩)
    ·exact .inl h
    ·exact .inr ⟨i,h1,.inl h2,h3⟩
  refine ⟨L,w,_,⟨by rw [eB,eD];exact hI.sr,by rw [eB];exact hI.mv,?_⟩,.refl _ _,hst⟩
  rw [eD]
  exact hslots _ L val hv (fun _ h=>h)
 rcases p4 with ⟨q1,q2,q3,q4⟩|⟨q1,q2,rd,q3,q4,q5⟩|⟨q1,q2,q3,q4,q5,q6,q7⟩
 ·refine hquiet undef (by rw [q4];rintro id (h|h)<;>simp at h) (by rw [q4]) (by rw [q4]) (fun L' _=>by rw [q2];exact (den_undef L').symm) (.one (step_skip_op hjo (by rw [hwant,q1])))
 ·have h1:Obl (x.s (j+1)):=by
   by_cases h:j+1<n
   ·exact (hf (j+1) _ (Array.getElem?_eq_getElem (by omega))).obl
   ·have:j+1=n:=by omega
    rw [this];exact ho
  have hreads:∀ id∈rd,∀ ob,(x.s1 j).H.get id=some ob→Bf x S n id=some ob:=by
   intro id hid ob hob
   rw [w1.1.H] at hob
   rw [Bf_tail (j:=j) n (by omega)]
   ·rw [Bf_all hf hn S j (by omega) id]
    ·exact hob
    ·intro i hi ht
     refine Classical.byContradiction fun hs=>?_
     have hb:Nat.testBit pm i=false:=by
      cases h:Nat.testBit pm i with
      |false=>rfl
      |true=>exact absurd (hbefore i h) hs
     exact quietFits_ok pm rd _ 0 q4 i (x.r i) (by rw [List.nil_append];exact range_get hi) (by simpa using hb) id hid ht
   ·intro i hi1 hi2 hs ht
    have hne:i≠j:=fun e=>hjS (e ▸ hs)
    have hil:i<all.size:=by omega
    obtain ⟨pmi,r1,_,_,r4⟩:=hx i _ (Array.getElem?_eq_getElem hil)
    have hb:=hlater i _ pmi (Array.getElem?_eq_getElem hil) r1 hs
    rcases r4 with ⟨_,_,_,r5⟩|⟨_,_,_,_,_,r5⟩|⟨_,_,_,r5,_,r6,_⟩
    ·rw [r5] at ht;rcases ht with h|h<;>simp at h
    ·rw [r5] at ht;rcases ht with h|h<;>simp at h
    ·have:=(loudFits_ok pmi _ _ 0 r5 j (x.r j) (by rw [List.nil_append];exact range_get (by omega)) (by simpa using hb)).2 (by rw [q5])
     rcases ht with h|h
     ·rw [r6] at h
      exact this id h (by rw [q5];exact hid)
     ·
      have hFi:=hf i _ (Array.getElem?_eq_getElem hil)
      have hr:=hFi.rng id h.1 h.2
      have hcases:=live_text hf hn hD hD0 j (by omega) id ob hob
      have hm1:=nx_mono (P:=P) hf hn j i (by omega) (by omega)
      have hm2:=nx_mono (P:=P) hf hn (i+1) n (by omega) (Nat.le_refl _)
      omega
  obtain ⟨val,g1,g2⟩:=quiet_gives hE q3 h1 (ρ:=evalA arr) (o:=o) (D:=DS x D n S) (L:=L) (w:=w) rfl (fun y hy u hu L' hL'=>hoper L' hL' y hy u hu) (by
   intro L' hL'
   have h0:=hI.sr L' hL'
   exact ⟨fun id hid ob hob=>h0.ob id ob (hreads id hid ob hob),fun a ha b hb oa ob hoa hob=>h0.inj a b oa ob (hreads a ha oa hoa) (hreads b hb ob hob)⟩)
  exact hquiet val (by rw [q5];rintro id (h|h)<;>simp at h) (by rw [q5]) (by rw [q5]) g1 (.one (step_gives hjo (by rw [hwant,q1]) (quiet_not_defer q2) (.inl g2)))
 ·
  have h2:Obl (x.s2 j):=by
   have h1:Obl (x.s (j+1)):=by
    by_cases h:j+1<n
    ·exact (hf (j+1) _ (Array.getElem?_eq_getElem (by omega))).obl
    ·have:j+1=n:=by omega
     rw [this];exact ho
   rw [q7] at h1
   exact fun b hb=>h1 b hb
  obtain ⟨⟨hle,l,hwr,hlog⟩,_,hop⟩:=runOp_ok hE hcf hyf q3 h2
  have hle:(x.s1 j).nx≤(x.s2 j).nx:=hle
  have hwr:(x.s2 j).wr=l:=by simpa using hwr
  have hrecs:∀ r∈[]++(List.range j).map x.r,RecOK r:=by
   intro r hr
   rw [List.nil_append] at hr
   obtain ⟨i,hi,rfl⟩:=mem_range.1 hr
   exact (hf i _ (Array.getElem?_eq_getElem (by omega))).rok
  have hnx2:(x.s (j+1)).nx=(x.s2 j).nx:=by rw [q7]
  have hnx1:=F.nx1
  have hview:∀ id,(hideRecs pm ([]++(List.range j).map x.r) 0 (x.s1 j).H).get id=if Hidden pm ([]++(List.range j).map x.r) 0 id then none else (x.s j).H.get id:=by
   intro id;rw [hideRecs_get pm _ _ _ _ hrecs,w1.1.H]
  have hnotj:∀ id ob,(x.s j).H.get id=some ob→∀ i,j<i→i<n→S i→¬ Touch (x.r i) id:=by
   intro id ob hob i hi1 hi2 hs ht
   have hil:i<all.size:=by omega
   obtain ⟨pmi,r1,_,_,r4⟩:=hx i _ (Array.getElem?_eq_getElem hil)
   have hb:=hlater i _ pmi (Array.getElem?_eq_getElem hil) r1 hs
   rcases r4 with ⟨_,_,_,r5⟩|⟨_,_,_,_,_,r5⟩|⟨_,_,_,r5,_,r6,_⟩
   ·rw [r5] at ht;rcases ht with h|h<;>simp at h
   ·rw [r5] at ht;rcases ht with h|h<;>simp at h
   ·have:=(loudFits_ok pmi _ _ 0 r5 j (x.r j) (by rw [List.nil_append];exact range_get (by omega)) (by simpa using hb)).1 (by rw [q6])
    rcases ht with h|h
    ·rw [r6] at h;simp only at h;rw [this] at h;simp at h
    ·have hr:=(hf i _ (Array.getElem?_eq_getElem hil)).rng id h.1 h.2
     have hcases:=live_text hf hn hD hD0 j (by omega) id ob hob
     have hm1:=nx_mono (P:=P) hf hn j i (by omega) (by omega)
     have hm2:=nx_mono (P:=P) hf hn (i+1) n (by omega) (Nat.le_refl _)
     omega
  have hviewB:∀ id ob,(hideRecs pm ([]++(List.range j).map x.r) 0 (x.s1 j).H).get id=some ob→Bf x S n id=some ob:=by
   intro id ob hob
   rw [hview] at hob
   split at hob
   ·cases hob
   ·rename_i hnh
    rw [Bf_tail (j:=j) n (by omega)]
    ·rw [Bf_all hf hn S j (by omega) id]
     ·exact hob
     ·intro i hi ht
      refine Classical.byContradiction fun hs=>hnh ⟨i,x.r i,by rw [List.nil_append];exact range_get hi,?_,ht⟩
      rw [Nat.zero_add]
      cases h:Nat.testBit pm i with
      |false=>rfl
      |true=>exact absurd (hbefore i h) hs
    ·intro i hi1 hi2 hs
     have hne:i≠j:=fun e=>hjS (e ▸ hs)
     exact hnotj id ob hob i (by omega) hi2 hs
  have hSRv:SR (DS x D n S) L (hideRecs pm ([]++(List.range j).map x.r) 0 (x.s1 j).H).get w:=hI.sr.sub hviewB
  have hfresh:∀ m,DS x D n S m→m<(x.s1 j).nx∨(x.s2 j).nx≤m:=by
   rintro m (h|⟨i,hi1,hi2,hi3,hi4⟩)
   ·rcases hD m h with h|h
    ·have:=nx_mono (P:=P) hf hn 0 j (by omega) (by omega);exact .inl (by omega)
    ·have:=nx_mono (P:=P) hf hn (j+1) n (by omega) (Nat.le_refl _);exact .inr (by omega)
   ·have hne:i≠j:=fun e=>hjS (e ▸ hi2)
    have hr:=(hf i _ (Array.getElem?_eq_getElem (show i<all.size by omega))).rng m hi3 hi4
    by_cases hlt:i<j
    ·have:=nx_mono (P:=P) hf hn (i+1) j (by omega) (by omega);exact .inl (by omega)
    ·have:=nx_mono (P:=P) hf hn (j+1) i (by omega) (by omega);exact .inr (by omega)
  obtain ⟨L',w',val,g1,g2,g3,g4⟩:=hop (DS x D n S) L w fr rv kind arr all j rest k dv cs o hjo rfl (by rw [hwant,q1]) (fun y hy u hu L' hL'=>hoper L' hL' y hy u hu) hSRv hfresh
  have hDS:DS x D n (fun i=>S i∨i=j)=Grow (DS x D n S) (x.s1 j).nx (x.s2 j).nx:=by
   funext id
   apply propext
   simp only [DS,Grow]
   constructor
   ·rintro (h|⟨i,h1,h2|h2,h3,h4⟩)
    ·exact .inl (.inl h)
    ·exact .inl (.inr ⟨i,h1,h2,h3,h4⟩)
    ·subst h2;rw [q6] at h3 h4;exact .inr ⟨h3,h4⟩
   ·rintro ((h|⟨i,h1,h2,h3⟩)|h)
    ·exact .inl h
    ·exact .inr ⟨i,h1,.inl h2,h3⟩
    ·exact .inr ⟨j,by omega,.inr rfl,by rw [q6];exact h.1,by rw [q6];exact h.2⟩
  have hag:∀ L'',Agree (Grow (DS x D n S) (x.s1 j).nx (x.s2 j).nx) L' L''→Agree (DS x D n S) L L'':=fun L'' h=>g1.agree.trans (h.mono (fun _ h=>.inl h))
  have hwrj:∀ id,id∈(x.r j).wr↔id∈l∧id<(x.s1 j).nx:=by
   intro id;rw [q6,← hwr];exact newWr_ok _ _ _ (Nat.le_refl _) id
  have hlhid:∀ id,Hidden pm ([]++(List.range j).map x.r) 0 id→¬ Touch (x.r j) id:=by
   rintro id ⟨i,r,h1,h2,h3⟩ ht
   rw [List.nil_append] at h1
   have hij:i<j:=by
    have:=(List.getElem?_eq_some_iff.1 h1).1
    simpa using this
   rw [range_get hij] at h1
   cases h1
   have hFi:=hf i _ (Array.getElem?_eq_getElem (show i<all.size by omega))
   rcases ht with ht|ht
   ·have hloud:(x.r i).loud=true:=by
     obtain ⟨_,_,_,_,r4⟩:=hx i _ (Array.getElem?_eq_getElem (show i<all.size by omega))
     rcases r4 with ⟨_,_,_,r5⟩|⟨_,_,_,_,_,r5⟩|⟨_,_,_,_,_,r6,_⟩
     ·rw [r5] at h3;rcases h3 with h|h<;>simp at h
     ·rw [r5] at h3;rcases h3 with h|h<;>simp at h
     ·rw [r6]
    have:=(loudFits_ok pm _ _ 0 q4 i (x.r i) (by rw [List.nil_append];exact range_get hij) h2).1 hloud
    rw [q6] at ht
    simp only at ht
    rw [this] at ht
    simp at ht
   ·have h5:=(F.rng id ht.1 ht.2).1
    rcases h3 with h3|h3
    ·have:=hFi.wlt id h3
     have:=nx_mono (P:=P) hf hn i j (by omega) (by omega)
     omega
    ·have:=(hFi.rng id h3.1 h3.2).2
     have:=nx_mono (P:=P) hf hn (i+1) j (by omega) (by omega)
     omega
  have htouchL:∀ id,Touch (x.r j) id→(x.s (j+1)).H.get id=(x.s2 j).H.get id:=by
   intro id ht
   rw [q7]
   show (backRecs pm (x.s1 j).H ([]++(List.range j).map x.r) 0 (x.s2 j).H).get id=_
   rw [backRecs_get pm _ _ _ _ _ hrecs,if_neg (fun h=>hlhid id h ht)]
  have hBtouch:∀ id,Touch (x.r j) id→(∀ i,j<i→i<n→S i→¬ Touch (x.r i) id)→Bf x (fun i=>S i∨i=j) n id=(x.s2 j).H.get id:=by
   intro id ht hlat
   rw [Bf_tail (j:=j+1) n (by omega)]
   ·simp only [Bf]
    rw [if_pos ⟨by simp,ht⟩,htouchL id ht]
   ·intro i hi1 hi2 hs
    exact hlat i (by omega) hi2 (hs.resolve_right (by omega))
  have hlat2:∀ id,Touch (x.r j) id→∀ i,j<i→i<n→S i→¬ Touch (x.r i) id:=by
   intro id ht i hi1 hi2 hs ht2
   have hil:i<all.size:=by omega
   obtain ⟨pmi,r1,_,_,r4⟩:=hx i _ (Array.getElem?_eq_getElem hil)
   have hb:=hlater i _ pmi (Array.getElem?_eq_getElem hil) r1 hs
   have hFi:=hf i _ (Array.getElem?_eq_getElem hil)
   rcases r4 with ⟨_,_,_,r5⟩|⟨_,_,_,_,_,r5⟩|⟨_,_,_,r5,_,r6,_⟩
   ·rw [r5] at ht2;rcases ht2 with h|h<;>simp at h
   ·rw [r5] at ht2;rcases ht2 with h|h<;>simp at h
   ·have:=(loudFits_ok pmi _ _ 0 r5 j (x.r j) (by rw [List.nil_append];exact range_get (by omega)) (by simpa using hb)).1 (by rw [q6])
    rcases ht2 with h|h
    ·rw [r6] at h;simp only at h;rw [this] at h;simp at h
    ·have hr:=hFi.rng id h.1 h.2
     have hm1:=nx_mono (P:=P) hf hn (j+1) i (by omega) (by omega)
     rcases ht with h3|h3
     ·have:=F.wlt id h3;have:=F.nx;omega
     ·have:=(F.rng id h3.1 h3.2).2;omega
  have hBsame:∀ id,¬ Touch (x.r j) id→Bf x (fun i=>S i∨i=j) n id=Bf x S n id:=by
   intro id ht
   refine Bf_congr n id fun i _ hti=>⟨fun h=>h.resolve_right (fun e=>ht (e ▸ hti)),.inl⟩
  have hsplit:∀ id ob,Bf x (fun i=>S i∨i=j) n id=some ob→(x.s2 j).H.get id=some ob∨
    (¬ Touch (x.r j) id∧Bf x S n id=some ob∧(hideRecs pm ([]++(List.range j).map x.r) 0 (x.s1 j).H).get id=none):=by
   intro id ob hob
   by_cases ht:Touch (x.r j) id
   ·rw [hBtouch id ht (hlat2 id ht)] at hob;exact .inl hob
   ·rw [hBsame id ht] at hob
    cases hv:(hideRecs pm ([]++(List.range j).map x.r) 0 (x.s1 j).H).get id with
    |none=>exact .inr ⟨ht,hob,rfl⟩
    |some ob'=>
     have:=hviewB id ob' hv
     rw [hob] at this
     cases this
     refine .inl ?_
     have h6:¬ ((x.s1 j).nx≤id∧id<(x.s2 j).nx):=fun h=>ht (.inr (by rw [q6];exact h))
     have h7:id ∉ l:=by
      intro h
      by_cases h8:id<(x.s1 j).nx
      ·exact ht (.inl ((hwrj id).2 ⟨h,h8⟩))
      ·exact h6 ⟨by omega,q5.2 id (by rw [hwr];exact h)⟩
     rw [hlog id h7 h6]
     exact hv
  have hinjOld:∀ L'',Agree (Grow (DS x D n S) (x.s1 j).nx (x.s2 j).nx) L' L''→∀ p q op oq,(x.s2 j).H.get p=some op→Bf x S n q=some oq→(hideRecs pm ([]++(List.range j).map x.r) 0 (x.s1 j).H).get q=none→¬ Touch (x.r j) q→
    (op.isRo=false∨oq.isRo=false)→(L'' q).blk≠none→(L'' p).blk≠(L'' q).blk:=by
   intro L'' hL'' p q op oq hp hq hvq htq hro hbq heq
   have h0:=hI.sr L'' (hag L'' hL'')
   obtain ⟨b,hb⟩:=Option.ne_none_iff_exists'.1 hbq
   have hlt:=(h0.ob q oq hq).blk_lt hb
   rw [hb] at heq
   have hcase:∃ m om,(hideRecs pm ([]++(List.range j).map x.r) 0 (x.s1 j).H).get m=some om∧(om.isRo=op.isRo∨om.isRo=false)∧(L'' m).blk=some b:=by
    cases hr:op.isRo with
    |true=>
     have hv:=g1.ro p op hp hr
     exact ⟨p,op,hv,.inl hr,heq⟩
    |false=>
     have hpb:(L' p).blk=some b:=by
      have hlp:L' p=L'' p:=hL'' p (g2.live hp)
      rw [hlp];exact heq
     rcases g1.sub p op b hp hr hpb with h|⟨m,om,h1,h2,h3⟩
     ·omega
     ·refine ⟨m,om,h1,.inr h2,?_⟩
      have hlm:L m=L'' m:=hag L'' hL'' m (hSRv.live h1)
      rw [← hlm];exact h3
   obtain ⟨m,om,h1,h2,h3⟩:=hcase
   have hmB:=hviewB m om h1
   have hmq:m≠q:=fun e=>by rw [e,hvq] at h1;cases h1
   rcases hro with hro|hro
   ·have hom:om.isRo=false:=by rcases h2 with h2|h2;rw [h2,hro];exact h2
    exact h0.inj m q om oq hmB hq hmq hom (by rw [h3];simp) (by rw [h3,hb])
   ·exact h0.inj q m oq om hq hmB (fun e=>hmq e.symm) hro hbq (by rw [h3,hb])
  refine ⟨L',w',putA arr o.dst val,⟨?_,?_,?_⟩,g1.agree,g4⟩
  ·rw [hDS]
   intro L'' hL''
   have h0:=hI.sr L'' (hag L'' hL'')
   have h9:=g2 L'' hL''
   refine ⟨fun id ob hob=>?_,fun p q op oq hp hq hne hro hbp=>?_⟩
   ·rcases hsplit id ob hob with h|⟨h1,h2,h3⟩
    ·exact h9.ob id ob h
    ·refine (h0.ob id ob h2).keep g1.size fun b hb hlt=>g1.frame b hlt ?_
     intro m om hm hrm hbm
     have hmid:m≠id:=fun e=>by rw [e] at hm;rw [h3] at hm;cases hm
     have hlm:L m=L'' m:=hag L'' hL'' m (hSRv.live hm)
     rw [hlm] at hbm
     exact h0.inj m id om ob (hviewB m om hm) h2 hmid hrm (by rw [hbm];simp) (by rw [hbm,hb])
   ·rcases hsplit p op hp with hp1|⟨hp1,hp2,hp3⟩
    ·rcases hsplit q oq hq with hq1|⟨hq1,hq2,hq3⟩
     ·exact h9.inj p q op oq hp1 hq1 hne hro hbp
     ·intro heq
      exact hinjOld L'' hL'' p q op oq hp1 hq2 hq3 hq1 (.inl hro) (by rw [← heq];exact hbp) heq
    ·rcases hsplit q oq hq with hq1|⟨hq1,hq2,hq3⟩
     ·intro heq
      exact hinjOld L'' hL'' q p oq op hq1 hp2 hp3 hp1 (.inr hro) hbp heq.symm
     ·exact h0.inj p q op oq hp2 hq2 hne hro hbp
  ·refine hI.mv.trans (D':=DS x D n S) (fun _ h=>.inl h) ⟨g1.agree,g1.size,?_,?_,g1.os,g1.tape,g1.output,?_⟩
   ·intro b hb hnb
    exact g1.frame b hb fun m om hm hr=>hnb m om (hviewB m om hm) hr
   ·intro id ob b hob hr hb
    rcases hsplit id ob hob with h|⟨h1,h2,h3⟩
    ·rcases g1.sub id ob b h hr hb with h|⟨m,om,h4,h5,h6⟩
     ·exact .inl h
     ·exact .inr ⟨m,om,hviewB m om h4,h5,h6⟩
    ·refine .inr ⟨id,ob,h2,hr,?_⟩
     rw [g1.agree id (hI.sr.live h2)];exact hb
   ·intro id ob hob hr
    rcases hsplit id ob hob with h|⟨h1,h2,h3⟩
    ·exact hviewB id ob (g1.ro id ob h hr)
    ·exact h2
  ·rw [hDS]
   exact hslots _ L' val g3 hag
end
end Go.Sx
namespace Go.Sx
section
variable {P:Program} {E:Env}
open Classical
theorem SR.mono {D D':Nat→Prop} {L:LM} {H:Nat→Option Ob} {w:World} (h:SR D L H w) (hd:∀ n,D n→D' n):SR D' L H w:=fun L' hL'=>h L' (hL'.mono hd)
theorem HR.heap {L:LM} {H:Nat→Option Ob} {w w':World} (h:HR L H w) (hh:w'.heap=w.heap):HR L H w':=
 ⟨fun n o ho=>(h.ob n o ho).keep (by rw [hh];exact Nat.le_refl _) (fun _ _ _=>by rw [hh]),h.inj⟩
theorem SR.heap {D:Nat→Prop} {L:LM} {H:Nat→Option Ob} {w w':World} (h:SR D L H w) (hh:w'.heap=w.heap):SR D L H w':=fun L' hL'=>(h L' hL').heap hh
theorem filter_lt {α:Type} {p q:α→Bool}:∀ (l:List α),(∀ x,q x=true→p x=true)→∀ y∈l,p y=true→q y=false→(l.filter q).length<(l.filter p).length:=by
 have hle:∀ l:List α,(∀ x,q x=true→p x=true)→(l.filter q).length≤(l.filter p).length:=by
  intro l h
  induction l with
  |nil=>simp
  |cons x l ih=>
   cases hq:q x with
   |true=>simp [hq,h x hq,ih]
   |false=>cases hp:p x<;>simp [hq,hp]<;>omega
 intro l h
 induction l with
 |nil=>intro y hy;simp at hy
 |cons x l ih=>
  intro y hy hp hq
  rcases List.mem_cons.1 hy with rfl|hy
  ·simp only [List.filter_cons,hp,hq,if_true]
   have:=hle l h
   simp;omega
  ·have:=ih y hy hp hq
   cases hq':q x with
   |true=>simp [hq',h x hq',this]
   |false=>cases hp':p x<;>simp [hq',hp']<;>omega
variable {all:Array Oper} {pms:List Nat} {x:Tce} {n:Nat}
theorem ready_mem {listed:Array Bool} {i:Nat}:i∈Region.ready .any all listed↔i<all.size∧listed.getD i true=false∧∃ o,all[i]?=some o∧∀ e∈o.after.toList,Region.binds .any e=true→listed.getD e.on false=true:=by
 simp only [Region.ready,List.mem_filter,List.mem_range,Bool.and_eq_true]
 refine and_congr_right fun hi=>?_
 rw [Array.getElem?_eq_getElem hi]
 simp only [Option.map_some,Option.getD_some,Array.all_eq_true_iff_forall_mem,Bool.or_eq_true,Bool.not_eq_eq_eq_not,Bool.not_true]
 refine and_congr_right fun _=>?_
 constructor
 ·intro h
  refine ⟨_,rfl,fun e he hb=>?_⟩
  rcases h e (by simpa using he) with h|h
  ·rw [hb] at h;cases h
  ·exact h
 ·rintro ⟨o,ho,h⟩ e he
  injection ho with ho
  subst ho
  cases hb:Region.binds .any e with
  |false=>exact .inl rfl
  |true=>exact .inr (h e (by simpa using he) hb)
theorem draws_ok (hE:EnvOK P E) {cf:CallF} {yf:YieldF} (hcf:CfOK P E cf) (hyf:YfOK P yf) {fr:Frs} (hn:n=all.size) (hpm:pms=befores [] all.toList) (hback:backOK 0 all.toList=true)
  (hap:apartAll all.toList all.toList pms 0=true) (hx:∀ j o,all[j]?=some o→StepP E cf yf fr all.toList pms [] x j o) (ho:Obl (x.s n)) {D:Nat→Prop} (hD:∀ m,D m→m<(x.s 0).nx∨(x.s n).nx≤m) (hD0:∀ id ob,(x.s 0).H.get id=some ob→D id)
  {L0:LM} {w0:World} (rv:Option Nat) (kind:CallKind) (k:List Item) (dv:List Deferred) (cs:List Frame):
  ∀ (fuel t:Nat) (listed:Array Bool) (L:LM) (w:World) (arr:Array Value),listed.size=n→((List.range n).filter fun i=>!listed.getD i true).length≤fuel→
   Inv x all n fr.nt D L0 w0 (fun i=>listed.getD i false=true) L w arr→Down all (fun i=>listed.getD i false=true)→
   ∃ L' w' arr',Inv x all n fr.nt D L0 w0 (fun i=>i<n) L' w' arr'∧Agree D L L'∧
    Steps P (lone (frm fr rv kind arr (.inRegion all (Region.linearise.go .any all fuel t listed [])::k) dv) cs w) (lone (frm fr rv kind arr' (.inRegion all []::k) dv) cs w'):=by
 have hfin:∀ (listed:Array Bool) (L:LM) (w:World) (arr:Array Value),listed.size=n→(∀ i,i<n→listed.getD i true=true)→Inv x all n fr.nt D L0 w0 (fun i=>listed.getD i false=true) L w arr→
   Inv x all n fr.nt D L0 w0 (fun i=>i<n) L w arr:=by
  intro listed L w arr hs hall hI
  have e:(fun i=>listed.getD i false=true)=(fun i=>i<n):=by
   funext i
   apply propext
   constructor
   ·intro h
    refine Nat.lt_of_not_le fun hle=>?_
    rw [Array.getD_eq_getD_getElem?,Array.getElem?_eq_none (by omega)] at h
    cases h
   ·intro h
    have:=hall i h
    rw [Array.getD_eq_getD_getElem?,Array.getElem?_eq_getElem (by omega)] at this ⊢
    exact this
  rw [← e];exact hI
 intro fuel
 induction fuel with
 |zero=>
  intro t listed L w arr hs hc hI hdown
  refine ⟨L,w,arr,hfin listed L w arr hs (fun i hi=>?_) hI,.refl _ _,by simp only [Region.linearise.go,List.reverse_nil];exact .refl _ _⟩
  cases h:listed.getD i true with
  |true=>rfl
  |false=>
   have:i∈((List.range n).filter fun i=>!listed.getD i true):=List.mem_filter.2 ⟨List.mem_range.2 hi,by rw [h];rfl⟩
   have:=List.length_pos_of_mem this
   omega
 |succ fuel ih=>
  intro t listed L w arr hs hc hI hdown
  simp only [Region.linearise.go]
  change ∃ L' w' arr',_∧_∧Steps P (lone (frm fr rv kind arr (.inRegion all (match (Region.ready .any all listed)[t % (Region.ready .any all listed).length]? with
   |some i=>Region.linearise.go .any all fuel (t / (Region.ready .any all listed).length) (listed.setIfInBounds i true) [i]
   |none=>[].reverse)::k) dv) cs w) _
  cases hi:(Region.ready .any all listed)[t % (Region.ready .any all listed).length]? with
  |none=>
   have hnil:Region.ready .any all listed=[]:=by
    cases hr:Region.ready .any all listed with
    |nil=>rfl
    |cons y ys=>
     rw [hr] at hi
     have hlt:t % (y::ys).length<(y::ys).length:=Nat.mod_lt _ (by simp)
     simp at hi
     simp at hlt
     omega
   have hall:∀ i,i<n→listed.getD i true=true:=by
    intro i
    induction i using Nat.strongRecOn with
    |ind i ihi=>
     intro hin
     cases h:listed.getD i true with
     |true=>rfl
     |false=>
      have hmem:i∈Region.ready .any all listed:=by
       refine ready_mem.2 ⟨by omega,h,_,Array.getElem?_eq_getElem (by omega),fun e he hb=>?_⟩
       have hlt:=backOK_spec all.toList 0 hback i _ (by rw [Array.getElem?_toList];exact Array.getElem?_eq_getElem (by omega)) e he hb
       rw [Nat.zero_add] at hlt
       have h2:=ihi e.on hlt (by omega)
       rw [Array.getD_eq_getD_getElem?,Array.getElem?_eq_getElem (by omega)] at h2 ⊢
       exact h2
      rw [hnil] at hmem
      simp at hmem
   exact ⟨L,w,arr,hfin listed L w arr hs hall hI,.refl _ _,.refl _ _⟩
  |some i=>
   simp only []
   obtain ⟨r1,r2,o,r3,r4⟩:=ready_mem.1 (List.mem_of_getElem? hi)
   rw [linearise_go_acc,List.reverse_singleton,List.singleton_append]
   have hns:¬ (listed.getD i false=true):=by
    rw [Array.getD_eq_getD_getElem?,Array.getElem?_eq_getElem (by omega)] at r2 ⊢
    simpa using r2
   have hSn:∀ j,listed.getD j false=true→j<n:=by
    intro j h
    refine Nat.lt_of_not_le fun hle=>?_
    rw [Array.getD_eq_getD_getElem?,Array.getElem?_eq_none (by omega)] at h
    cases h
   obtain ⟨L1,w1,arr1,hI1,hA1,hS1⟩:=inv_step hE hcf hyf hn hpm hback hap hx ho hD hD0 hI hSn hdown r3 hns r4 rv kind
    (Region.linearise.go .any all fuel (t / (Region.ready .any all listed).length) (listed.setIfInBounds i true) []) k dv cs
   have hset:∀ j b,j<n→(listed.setIfInBounds i true).getD j b=if j=i then true else listed.getD j b:=by
    intro j b hj
    rw [Array.getD_eq_getD_getElem?,Array.getElem?_setIfInBounds]
    by_cases hij:i=j
    ·subst hij;rw [if_pos rfl,if_pos rfl,if_pos (by omega)];rfl
    ·simp [hij,Ne.symm hij]
   have hset':(fun j=>(listed.setIfInBounds i true).getD j false=true)=(fun j=>listed.getD j false=true∨j=i):=by
    funext j
    apply propext
    by_cases hj:j<n
    ·rw [hset j false hj]
     by_cases hij:j=i
     ·simp [hij]
     ·simp [hij]
    ·have h1:(listed.setIfInBounds i true).getD j false=false:=by rw [Array.getD_eq_getD_getElem?,Array.getElem?_eq_none (by simp;omega)];rfl
     rw [h1]
     constructor
     ·intro h;cases h
     ·rintro (h|h)
      ·exact absurd (hSn j h) hj
      ·omega
   obtain ⟨L2,w2,arr2,hI2,hA2,hS2⟩:=ih (t / (Region.ready .any all listed).length) (listed.setIfInBounds i true) L1 w1 arr1 (by simp [hs]) (by
    have:=filter_lt (p:=fun j=>!listed.getD j true) (q:=fun j=>!(listed.setIfInBounds i true).getD j true) (List.range n) (fun j hj=>by
     by_cases hjn:j<n
     ·rw [hset j true hjn] at hj
      by_cases hij:j=i
      ·simp [hij] at hj
      ·simpa [hij] using hj
     ·have:(listed.setIfInBounds i true).getD j true=true:=by rw [Array.getD_eq_getD_getElem?,Array.getElem?_eq_none (by simp;omega)];rfl
      rw [this] at hj;cases hj) i (by simp;omega) (by rw [r2];rfl) (by rw [hset i true (by omega)];simp)
    exact Nat.le_of_lt_succ (Nat.lt_of_lt_of_le this hc)) (by rw [hset'];exact hI1) (by
    rw [hset']
    intro j' o' hjo' hS e he hb
    rcases hS with hS|rfl
    ·exact .inl (hdown j' o' hjo' hS e he hb)
    ·rw [r3] at hjo';cases hjo';exact .inl (r4 e he hb))
   exact ⟨L2,w2,arr2,hI2,(hA1.mono (fun m hm=>.inl hm)).trans hA2,hS1.trans hS2⟩
def DrawOK (P:Program) (fr:Frs) (id:Nat) (ops:Array Oper) (T:Tr V) (df:List Dfr) (s:St) (T':Tr V) (s':St):Prop:=
 ∀ (D:Nat→Prop) (L:LM) (w:World) (rv:Option Nat) (kind:CallKind) (arr:Array Value) (k:List Item) (dv:List Deferred) (cs:List Frame),
  SR D L s.H.get w→CtxR D L fr T df arr dv rv→(∀ n,D n→n<s.nx∨s'.nx≤n)→
  ∃ L' w' arr',Mv D L s.H.get w L' s'.H.get w'∧SR (Grow D s.nx s'.nx) L' s'.H.get w'∧CtxR (Grow D s.nx s'.nx) L' fr T' df arr' dv rv∧
   Steps P (lone (frm fr rv kind arr (.code (.region id ops true)::k) dv) cs w) (lone (frm fr rv kind arr' k dv) cs w')
theorem drawOps_ok (hE:EnvOK P E) (hm:P.follows .mixedOrders=true) {cf:CallF} {yf:YieldF} (hcf:CfOK P E cf) (hyf:YfOK P yf) (fr:Frs) (id:Nat) (ops:Array Oper) {T T':Tr V} {df:List Dfr} {s s':St}
  (h:drawOps E cf yf fr ops.toList ops.toList (befores [] ops.toList) [] T s=some (T',s')) (hap:apartAll ops.toList ops.toList (befores [] ops.toList) 0=true) (hback:backOK 0 ops.toList=true) (ho:Obl s'):
  Lg s s'∧Obl s∧DrawOK P fr id ops T df s T' s':=by
 obtain ⟨x,x1,x2,x3,x4,x5⟩:=drawOps_trace _ _ _ _ _ _ _ h
 have hn:ops.toList.length=ops.size:=by simp
 have hx:∀ j o,ops[j]?=some o→StepP E cf yf fr ops.toList (befores [] ops.toList) [] x j o:=fun j o hj=>x5 j o (by simpa using hj)
 rw [hn] at x3 x4
 rw [← x4] at ho
 have hf:=facts_of hE hcf hyf rfl hx ho
 have hlg:∀ j,j≤ops.size→Lg (x.s 0) (x.s j):=by
  intro j
  induction j with
  |zero=>intro _;exact .refl _
  |succ j ih=>
   intro hj
   have F:=hf j _ (Array.getElem?_eq_getElem (show j<ops.size by omega))
   exact (ih (by omega)).trans ⟨F.nx,F.lg⟩
 have hob:∀ j,j≤ops.size→Obl (x.s j):=by
  intro j hj
  by_cases hjn:j<ops.size
  ·exact (hf j _ (Array.getElem?_eq_getElem hjn)).obl
  ·have:j=ops.size:=by omega
   rw [this];exact ho
 have hob1:∀ i,i<ops.size→Obl (x.s1 i):=by
  intro i hi
  have h1:Obl (x.s (i+1)):=hob (i+1) (by omega)
  obtain ⟨_,_,_,_,q4⟩:=hx i _ (Array.getElem?_eq_getElem hi)
  rcases q4 with ⟨_,_,q,_⟩|⟨_,_,rd,q,_,_⟩|⟨_,_,q,_,_,_,q'⟩
  ·rw [q] at h1;exact h1
  ·exact (quietX_ok hE q h1).1.2
  ·rw [q'] at h1
   exact (runOp_ok hE hcf hyf q (fun b hb=>h1 b hb)).2.1
 refine ⟨by rw [← x2,← x4];exact hlg _ (Nat.le_refl _),by rw [← x2];exact hob 0 (Nat.zero_le _),?_⟩
 intro D L w rv kind arr k dv cs hSR hC hD
 rw [← x2] at hSR hD
 rw [← x4] at hD
 have hw:w.drew.heap=w.heap:=rfl
 have hI:Inv x ops ops.size fr.nt D L w (fun i=>(Array.replicate ops.size false).getD i false=true) L w.drew arr:=by
  have e:(fun i=>(Array.replicate ops.size false).getD i false=true)=(fun _=>False):=by
   funext i
   simp [Array.getD_eq_getD_getElem?,Array.getElem?_replicate]
   split<;>simp
  rw [e]
  have hB:Bf x (fun _=>False) ops.size=(x.s 0).H.get:=by
   funext m
   have:∀ j,Bf x (fun _=>False) j m=(x.s 0).H.get m:=by
    intro j
    induction j with
    |zero=>rfl
    |succ j ih=>simp [Bf,ih]
   exact this _
  have hT:∀ t,Tf ops x (fun _=>False) ops.size t=((x.T 0).get t).getD XJ:=by
   intro t
   have:∀ j,Tf ops x (fun _=>False) j t=((x.T 0).get t).getD XJ:=by
    intro j
    induction j with
    |zero=>rfl
    |succ j ih=>simp [Tf,ih]
   exact this _
  have hDS:DS x D ops.size (fun _=>False)=D:=by
   funext m
   apply propext
   simp [DS]
  refine ⟨?_,?_,?_⟩
  ·rw [hB,hDS];exact hSR.heap hw
  ·rw [hB]
   exact ⟨.refl _ _,Nat.le_refl _,fun _ _ _=>rfl,fun n o b h hr hb=>.inr ⟨n,o,h,hr,hb⟩,rfl,rfl,rfl,fun _ _ h _=>h⟩
  ·rw [hDS]
   intro L' hL'
   obtain ⟨⟨c1,c2⟩,_,_⟩:=hC L' hL'
   refine ⟨c1,fun t=>?_⟩
   rw [hT,x1]
   have:=c2 t
   exact this
 obtain ⟨L',w',arr',hI',hA,hS⟩:=draws_ok hE hcf hyf rfl rfl hback hap hx ho hD (fun m ob hm=>hSR.live hm) rv kind k dv cs ops.size (w.tape w.drawn (.order fr.fn id)) (Array.replicate ops.size false) L w.drew arr (by simp)
  (Nat.le_trans (List.length_filter_le _ _) (by simp)) hI (by
   intro j o _ hj
   simp [Array.getD_eq_getD_getElem?,Array.getElem?_replicate] at hj
   split at hj<;>simp at hj)
 have hB:Bf x (fun i=>i<ops.size) ops.size=(x.s ops.size).H.get:=by
  funext m
  exact Bf_all hf rfl _ _ (Nat.le_refl _) m (fun i hi _=>hi)
 have hT:∀ t,Tf ops x (fun i=>i<ops.size) ops.size t=((x.T ops.size).get t).getD XJ:=fun t=>Tf_all hx rfl hob1 _ _ (Nat.le_refl _) t (fun i hi _=>hi)
 have hDS:∀ m,DS x D ops.size (fun i=>i<ops.size) m→Grow D s.nx s'.nx m:=by
  rintro m (hm|⟨j,hj,_,h1,h2⟩)
  ·exact .inl hm
  ·have:=(hf j _ (Array.getElem?_eq_getElem hj)).rng m h1 h2
   have h3:=nx_mono hf rfl 0 j (Nat.zero_le _) (by omega)
   have h4:=nx_mono hf rfl (j+1) ops.size (by omega) (Nat.le_refl _)
   rw [x2] at h3;rw [x4] at h4
   exact .inr ⟨by omega,by omega⟩
 refine ⟨L',w',arr',?_,?_,?_,?_⟩
 ·have:=hI'.mv
  rw [hB,x4,x2] at this
  exact this
 ·have:=hI'.sr
  rw [hB,x4] at this
  exact this.mono hDS
 ·intro L'' hL''
  obtain ⟨t1,t2⟩:=hI'.tm L'' (hL''.mono hDS)
  obtain ⟨_,c3,c4⟩:=hC L'' ((hI'.mv.agree).trans (hL''.mono (fun m hm=>.inl hm)))
  refine ⟨⟨t1,fun t=>?_⟩,c3,c4⟩
  rw [← x3,← hT];exact t2 t
 ·refine Steps.head step_region_draw' ?_
  have e:Region.schedule (P.follows .mixedOrders) ops (w.tape w.drawn (.order fr.fn id))=Region.linearise.go .any ops ops.size (w.tape w.drawn (.order fr.fn id)) (Array.replicate ops.size false) []:=by
   simp [Region.schedule,hm,Region.linearise]
  rw [e]
  exact hS.trans (Steps.head step_region_end' (.refl _ _))
end
end Go.Sx
