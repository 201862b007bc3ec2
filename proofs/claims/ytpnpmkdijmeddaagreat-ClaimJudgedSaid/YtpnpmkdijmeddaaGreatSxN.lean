/- Regions that draw their order: who is before whom, what is hidden. -/
import Derived.Test.YtpnpmkdijmeddaaGreatSxL
set_option maxRecDepth 100000
namespace Go.Sx
def Touch (r:Rec) (id:Nat):Prop:=id∈r.wr∨(r.lo≤id∧id<r.hi)
theorem mem?_iff (n:Nat):∀ (l:List Nat),mem? n l=true↔n∈l:=by
 intro l
 induction l with
 |nil=>simp [mem?]
 |cons x xs ih=>
  simp only [mem?]
  by_cases h:n=x
  ·subst h;simp
  ·rw [XG h,cond_false,ih];simp [h]
theorem disj_iff:∀ (a b:List Nat),disj a b=true→∀ n∈a,n ∉ b:=by
 intro a
 induction a with
 |nil=>intro b _ n hn;simp at hn
 |cons x xs ih=>
  intro b h n hn
  simp only [disj] at h
  cases hm:mem? x b with
  |true=>rw [hm] at h;cases h
  |false=>
   rw [hm,cond_false] at h
   simp at hn
   rcases hn with rfl|hn
   ·intro hb;rw [(mem?_iff _ _).2 hb] at hm;cases hm
   ·exact ih b h n hn
theorem outside_iff (lo hi:Nat):∀ (a:List Nat),outside lo hi a=true→∀ n∈a,¬ (lo≤n∧n<hi):=by
 intro a
 induction a with
 |nil=>intro _ n hn;simp at hn
 |cons x xs ih=>
  intro h n hn
  simp only [outside] at h
  cases h1:Nat.ble lo x with
  |false=>
   rw [h1,cond_false] at h
   simp at hn
   rcases hn with rfl|hn
   ·intro hh;rw [Nat.ble_eq.mpr hh.1] at h1;cases h1
   ·exact ih h n hn
  |true=>
   rw [h1,cond_true] at h
   cases h2:Nat.blt x hi with
   |true=>rw [h2] at h;cases h
   |false=>
    rw [h2,cond_false] at h
    simp at hn
    rcases hn with rfl|hn
    ·intro hh;rw [Nat.blt_eq.mpr hh.2] at h2;cases h2
    ·exact ih h n hn
theorem hideL_get:∀ (l:List Nat) (H:Tr Ob) (id:Nat),(∀ n∈l,n<big)→(hideL H l).get id=if id∈l then none else H.get id:=by
 intro l
 induction l with
 |nil=>intro H id _;simp [hideL]
 |cons x xs ih=>
  intro H id h
  simp only [hideL]
  rw [ih _ _ (fun n hn=>h n (by simp [hn])),Tr.get_put _ _ _ _ (h x (by simp))]
  by_cases h1:id=x
  ·subst h1;simp
  ·simp [h1]
theorem hideR_get:∀ (k:Nat) (H:Tr Ob) (lo id:Nat),lo+k≤big→(hideR H lo k).get id=if lo≤id∧id<lo+k then none else H.get id:=by
 intro k
 induction k with
 |zero=>intro H lo id _;rw [if_neg (by omega)];rfl
 |succ k ih=>
  intro H lo id h
  simp only [hideR]
  rw [ih _ _ _ (by simp only [Nat.succ_eq_add_one];omega),Tr.get_put _ _ _ _ (by omega)]
  simp only [Nat.succ_eq_add_one]
  by_cases h1:id=lo
  ·subst h1;simp
  ·by_cases h2:lo+1≤id∧id<lo+1+k
   ·rw [if_pos h2,if_pos (by omega)]
   ·rw [if_neg h2,if_neg h1,if_neg (by omega)]
theorem backL_get:∀ (l:List Nat) (H0 H:Tr Ob) (id:Nat),(∀ n∈l,n<big)→(backL H0 H l).get id=if id∈l then H0.get id else H.get id:=by
 intro l
 induction l with
 |nil=>intro H0 H id _;simp [backL]
 |cons x xs ih=>
  intro H0 H id h
  simp only [backL]
  rw [ih _ _ _ (fun n hn=>h n (by simp [hn])),Tr.get_put _ _ _ _ (h x (by simp))]
  by_cases h1:id=x
  ·subst h1;simp
  ·simp [h1]
theorem backR_get:∀ (k:Nat) (H0 H:Tr Ob) (lo id:Nat),lo+k≤big→(backR H0 H lo k).get id=if lo≤id∧id<lo+k then H0.get id else H.get id:=by
 intro k
 induction k with
 |zero=>intro H0 H lo id _;rw [if_neg (by omega)];rfl
 |succ k ih=>
  intro H0 H lo id h
  simp only [backR]
  rw [ih _ _ _ _ (by simp only [Nat.succ_eq_add_one];omega),Tr.get_put _ _ _ _ (by omega)]
  simp only [Nat.succ_eq_add_one]
  by_cases h1:id=lo
  ·subst h1;simp
  ·by_cases h2:lo+1≤id∧id<lo+1+k
   ·rw [if_pos h2,if_pos (by omega)]
   ·rw [if_neg h2,if_neg h1,if_neg (by omega)]
def Hidden (pm:Nat) (recs:List Rec) (i0:Nat) (id:Nat):Prop:=∃ i r,recs[i]?=some r∧Nat.testBit pm (i0+i)=false∧Touch r id
def RecOK (r:Rec):Prop:=(∀ n∈r.wr,n<big)∧r.hi≤big∧r.lo≤r.hi
theorem hidden_cons {pm:Nat} {r:Rec} {rs:List Rec} {i0 id:Nat}:Hidden pm (r::rs) i0 id↔(Nat.testBit pm i0=false∧Touch r id)∨Hidden pm rs (i0+1) id:=by
 constructor
 ·rintro ⟨i,r',h1,h2,h3⟩
  cases i with
  |zero=>simp at h1;subst h1;exact .inl ⟨by simpa using h2,h3⟩
  |succ i=>simp at h1;exact .inr ⟨i,r',h1,by rw [show i0+1+i=i0+(i+1) by omega];exact h2,h3⟩
 ·rintro (⟨h1,h2⟩|⟨i,r',h1,h2,h3⟩)
  ·exact ⟨0,r,rfl,by simpa using h1,h2⟩
  ·exact ⟨i+1,r',by simpa using h1,by rw [show i0+(i+1)=i0+1+i by omega];exact h2,h3⟩
open Classical in
theorem hideRecs_get (pm:Nat):∀ (recs:List Rec) (i0:Nat) (H:Tr Ob) (id:Nat),(∀ r∈recs,RecOK r)→(hideRecs pm recs i0 H).get id=if Hidden pm recs i0 id then none else H.get id:=by
 intro recs
 induction recs with
 |nil=>intro i0 H id _;rw [if_neg (by rintro ⟨i,r,h,_⟩;simp at h)];rfl
 |cons r rs ih=>
  intro i0 H id h
  obtain ⟨r1,r2,r3⟩:=h r (by simp)
  have hrs:∀ x∈rs,RecOK x:=fun x hx=>h x (by simp [hx])
  simp only [hideRecs]
  cases ht:Nat.testBit pm i0 with
  |true=>
   rw [cond_true,ih _ _ _ hrs]
   have e:Hidden pm (r::rs) i0 id↔Hidden pm rs (i0+1) id:=by rw [hidden_cons,ht];simp
   by_cases hh:Hidden pm rs (i0+1) id
   ·rw [if_pos hh,if_pos (e.2 hh)]
   ·rw [if_neg hh,if_neg (fun x=>hh (e.1 x))]
  |false=>
   rw [cond_false,ih _ _ _ hrs]
   rw [hideR_get _ _ _ _ (by show r.lo+(r.hi - r.lo)≤big;omega),hideL_get _ _ _ r1]
   have e:Hidden pm (r::rs) i0 id↔Touch r id∨Hidden pm rs (i0+1) id:=by rw [hidden_cons,ht];simp
   by_cases hh:Hidden pm rs (i0+1) id
   ·rw [if_pos hh,if_pos (e.2 (.inr hh))]
   ·rw [if_neg hh]
    by_cases h2:Touch r id
    ·rw [if_pos (e.2 (.inl h2))]
     rcases h2 with h2|h2
     ·split
      ·rfl
      ·rfl
     ·rw [if_pos (by show r.lo≤id∧id<r.lo+(r.hi - r.lo);omega)]
    ·rw [if_neg (fun x=>(e.1 x).elim h2 hh),if_neg (fun x=>h2 (.inr (by have:r.lo≤id∧id<r.lo+(r.hi - r.lo):=x;omega))),if_neg (fun x=>h2 (.inl x))]
open Classical in
theorem backRecs_get (pm:Nat) (H0:Tr Ob):∀ (recs:List Rec) (i0:Nat) (H:Tr Ob) (id:Nat),(∀ r∈recs,RecOK r)→(backRecs pm H0 recs i0 H).get id=if Hidden pm recs i0 id then H0.get id else H.get id:=by
 intro recs
 induction recs with
 |nil=>intro i0 H id _;rw [if_neg (by rintro ⟨i,r,h,_⟩;simp at h)];rfl
 |cons r rs ih=>
  intro i0 H id h
  obtain ⟨r1,r2,r3⟩:=h r (by simp)
  have hrs:∀ x∈rs,RecOK x:=fun x hx=>h x (by simp [hx])
  simp only [backRecs]
  cases ht:Nat.testBit pm i0 with
  |true=>
   rw [cond_true,ih _ _ _ hrs]
   have e:Hidden pm (r::rs) i0 id↔Hidden pm rs (i0+1) id:=by rw [hidden_cons,ht];simp
   by_cases hh:Hidden pm rs (i0+1) id
   ·rw [if_pos hh,if_pos (e.2 hh)]
   ·rw [if_neg hh,if_neg (fun x=>hh (e.1 x))]
  |false=>
   rw [cond_false,ih _ _ _ hrs]
   rw [backR_get _ _ _ _ _ (by show r.lo+(r.hi - r.lo)≤big;omega),backL_get _ _ _ _ r1]
   have e:Hidden pm (r::rs) i0 id↔Touch r id∨Hidden pm rs (i0+1) id:=by rw [hidden_cons,ht];simp
   by_cases hh:Hidden pm rs (i0+1) id
   ·rw [if_pos hh,if_pos (e.2 (.inr hh))]
   ·rw [if_neg hh]
    by_cases h2:Touch r id
    ·rw [if_pos (e.2 (.inl h2))]
     rcases h2 with h2|h2
     ·rw [if_pos h2];split<;>rfl
     ·rw [if_pos (by show r.lo≤id∧id<r.lo+(r.hi - r.lo);omega)]
    ·rw [if_neg (fun x=>(e.1 x).elim h2 hh),if_neg (fun x=>h2 (.inr (by have:r.lo≤id∧id<r.lo+(r.hi - r.lo):=x;omega))),if_neg (fun x=>h2 (.inl x))]
theorem quietFits_ok (pm:Nat) (rd:List Nat):∀ (recs:List Rec) (i0:Nat),quietFits pm rd recs i0=true→∀ i r,recs[i]?=some r→Nat.testBit pm (i0+i)=false→∀ n∈rd,¬ Touch r n:=by
 intro recs
 induction recs with
 |nil=>intro i0 _ i r h;simp at h
 |cons r rs ih=>
  intro i0 h i r' hi ht n hn
  simp only [quietFits] at h
  cases hb:Nat.testBit pm i0 with
  |true=>
   rw [hb,cond_true] at h
   cases i with
   |zero=>simp at ht;rw [hb] at ht;cases ht
   |succ i=>simp at hi;exact ih (i0+1) h i r' hi (by rw [show i0+1+i=i0+(i+1) by omega];exact ht) n hn
  |false=>
   rw [hb,cond_false] at h
   cases h1:disj rd r.wr with
   |false=>rw [h1] at h;cases h
   |true=>
    rw [h1,cond_true] at h
    cases h2:outside r.lo r.hi rd with
    |false=>rw [h2] at h;cases h
    |true=>
     rw [h2,cond_true] at h
     cases i with
     |zero=>
      simp at hi;subst hi
      rintro (h3|h3)
      ·exact disj_iff _ _ h1 n hn h3
      ·exact outside_iff _ _ _ h2 n hn h3
     |succ i=>simp at hi;exact ih (i0+1) h i r' hi (by rw [show i0+1+i=i0+(i+1) by omega];exact ht) n hn
theorem loudFits_ok (pm:Nat) (wr:List Nat):∀ (recs:List Rec) (i0:Nat),loudFits pm wr recs i0=true→∀ i r,recs[i]?=some r→Nat.testBit pm (i0+i)=false→(r.loud=true→wr=[])∧(r.loud=false→∀ n∈wr,n ∉ r.rd):=by
 intro recs
 induction recs with
 |nil=>intro i0 _ i r h;simp at h
 |cons r rs ih=>
  intro i0 h i r' hi ht
  simp only [loudFits] at h
  cases hb:Nat.testBit pm i0 with
  |true=>
   rw [hb,cond_true] at h
   cases i with
   |zero=>simp at ht;rw [hb] at ht;cases ht
   |succ i=>simp at hi;exact ih (i0+1) h i r' hi (by rw [show i0+1+i=i0+(i+1) by omega];exact ht)
  |false=>
   rw [hb,cond_false] at h
   cases h1:loudOne r.loud wr r.rd with
   |false=>rw [h1] at h;cases h
   |true=>
    rw [h1,cond_true] at h
    cases i with
    |zero=>
     simp at hi;subst hi
     constructor
     ·intro hl
      rw [hl] at h1
      simp only [loudOne] at h1
      cases wr with
      |nil=>rfl
      |cons _ _=>cases h1
     ·intro hl
      rw [hl] at h1
      exact disj_iff _ _ h1
    |succ i=>simp at hi;exact ih (i0+1) h i r' hi (by rw [show i0+1+i=i0+(i+1) by omega];exact ht)
theorem newWr_ok (lo:Nat):∀ (k:Nat) (l:List Nat),l.length≤k→∀ n,n∈newWr lo k l↔n∈l∧n<lo:=by
 intro k
 induction k with
 |zero=>intro l h n;have:l=[]:=List.length_eq_zero_iff.1 (by omega);subst this;simp [newWr]
 |succ k ih=>
  intro l h n
  cases l with
  |nil=>simp [newWr]
  |cons x xs=>
   simp only [newWr]
   simp only [List.length_cons] at h
   cases hb:Nat.blt x lo with
   |true=>
    have hx:x<lo:=Nat.blt_eq.mp hb
    rw [cond_true,List.mem_cons,ih xs (by omega)]
    constructor
    ·rintro (rfl|h)
     ·exact ⟨by simp,hx⟩
     ·exact ⟨by simp [h.1],h.2⟩
    ·rintro ⟨h1,h2⟩
     simp at h1
     rcases h1 with rfl|h1
     ·exact .inl rfl
     ·exact .inr ⟨h1,h2⟩
   |false=>
    have hx:¬ x<lo:=fun h=>by rw [Nat.blt_eq.mpr h] at hb;cases hb
    rw [cond_false,ih xs (by omega)]
    constructor
    ·rintro ⟨h1,h2⟩;exact ⟨by simp [h1],h2⟩
    ·rintro ⟨h1,h2⟩
     simp at h1
     rcases h1 with rfl|h1
     ·exact absurd h2 hx
     ·exact ⟨h1,h2⟩
theorem allLt_ok (hi:Nat):∀ (l:List Nat),allLt hi l=true→∀ n∈l,n<hi:=by
 intro l
 induction l with
 |nil=>intro _ n hn;simp at hn
 |cons x xs ih=>
  intro h n hn
  simp only [allLt] at h
  cases hb:Nat.blt x hi with
  |false=>rw [hb] at h;cases h
  |true=>
   rw [hb,cond_true] at h
   simp at hn
   rcases hn with rfl|hn
   ·exact Nat.blt_eq.mp hb
   ·exact ih h n hn
def maskOf (acc:List Nat) (o:Oper):Nat:=(o.after.toList.filter (Region.binds .any)).foldl (fun m e=>Nat.lor m (Nat.lor (Nat.pow 2 e.on) ((nth acc e.on).getD 0))) 0
theorem befores_spec:∀ (os:List Oper) (acc:List Nat),(befores acc os).length=acc.length+os.length∧(befores acc os).take acc.length=acc∧
  ∀ j o,os[j]?=some o→(befores acc os)[acc.length+j]?=some (maskOf ((befores acc os).take (acc.length+j)) o):=by
 intro os
 induction os with
 |nil=>intro acc;simp [befores]
 |cons o os ih=>
  intro acc
  simp only [befores]
  obtain ⟨h1,h2,h3⟩:=ih (acc++[maskOf acc o])
  have hl:(acc++[maskOf acc o]).length=acc.length+1:=by simp
  rw [hl] at h1 h2 h3
  have hb:(befores (acc++[maskOf acc o]) os).take acc.length=acc:=by
   have:=congrArg (List.take acc.length) h2
   rw [List.take_take,Nat.min_eq_left (by omega)] at this
   rw [show befores (acc++[maskOf acc o]) os=befores (acc++[maskOf acc o]) os from rfl] at this
   simpa using this
  refine ⟨by show (befores (acc++[maskOf acc o]) os).length=_;rw [h1];simp;omega,hb,fun j o' hj=>?_⟩
  cases j with
  |zero=>
   simp at hj;subst hj
   show (befores (acc++[maskOf acc o]) os)[acc.length+0]?=some (maskOf ((befores (acc++[maskOf acc o]) os).take (acc.length+0)) o)
   rw [Nat.add_zero,hb]
   have:=congrArg (fun l:List Nat=>l[acc.length]?) h2
   rw [List.getElem?_take_of_lt (by omega)] at this
   rw [this];simp
  |succ j=>
   simp at hj
   have:=h3 j o' hj
   rw [show acc.length+1+j=acc.length+(j+1) by omega] at this
   exact this
theorem fold_bit {l:List Edge} {acc:List Nat} {i:Nat}:∀ m,Nat.testBit (l.foldl (fun m e=>Nat.lor m (Nat.lor (Nat.pow 2 e.on) ((nth acc e.on).getD 0))) m) i=true→
  Nat.testBit m i=true∨∃ e∈l,e.on=i∨Nat.testBit ((acc[e.on]?).getD 0) i=true:=by
 induction l with
 |nil=>intro m h;exact .inl h
 |cons e l ih=>
  intro m h
  simp only [List.foldl_cons] at h
  rcases ih _ h with h1|⟨e',h1,h2⟩
  ·have h2:Nat.testBit (m ||| (2 ^ e.on ||| ((nth acc e.on).getD 0))) i=true:=h1
   rw [Nat.testBit_or,Nat.testBit_or] at h2
   simp only [Bool.or_eq_true] at h2
   rcases h2 with h2|h2|h2
   ·exact .inl h2
   ·refine .inr ⟨e,by simp,.inl ?_⟩
    rw [Nat.testBit_two_pow] at h2
    simpa using h2
   ·rw [nth_eq] at h2
    exact .inr ⟨e,by simp,.inr h2⟩
  ·exact .inr ⟨e',by simp [h1],h2⟩
theorem mask_bit {acc:List Nat} {o:Oper} {i:Nat} (h:Nat.testBit (maskOf acc o) i=true):∃ e∈o.after.toList,Region.binds .any e=true∧(e.on=i∨Nat.testBit ((acc[e.on]?).getD 0) i=true):=by
 rcases fold_bit 0 h with h|⟨e,h1,h2⟩
 ·simp at h
 ·rw [List.mem_filter] at h1
  exact ⟨e,h1.1,h1.2,h2⟩
theorem backOK_spec:∀ (os:List Oper) (i:Nat),backOK i os=true→∀ j o,os[j]?=some o→∀ e∈o.after.toList,Region.binds .any e=true→e.on<i+j:=by
 intro os
 induction os with
 |nil=>intro i _ j o h;simp at h
 |cons x xs ih=>
  intro i h j o hj e he hb
  simp only [backOK] at h
  cases ha:(x.after.toList.all fun e=>!(Region.binds .any e)||Nat.blt e.on i) with
  |false=>rw [ha] at h;cases h
  |true=>
   rw [ha,cond_true] at h
   cases j with
   |zero=>
    simp at hj;subst hj
    have:=List.all_eq_true.1 ha e he
    rw [hb] at this
    simpa using Nat.blt_eq.mp (by simpa using this)
   |succ j=>
    simp at hj
    have:=ih (i+1) h j o hj e he hb
    omega
theorem before_ready {ops:List Oper} (hb:backOK 0 ops=true) {S:Nat→Prop} (hS:∀ (j:Nat) (o:Oper),ops[j]?=some o→S j→∀ e∈o.after.toList,Region.binds .any e=true→S e.on):
  ∀ (j:Nat) (o:Oper) (pm:Nat),ops[j]?=some o→(befores [] ops)[j]?=some pm→(∀ e∈o.after.toList,Region.binds .any e=true→S e.on)→∀ i,Nat.testBit pm i=true→S i:=by
 obtain ⟨h1,h2,h3⟩:=befores_spec ops []
 simp only [List.length_nil,Nat.zero_add] at h1 h3
 intro j
 induction j using Nat.strongRecOn with
 |_ j ih=>
  intro o pm ho hpm hpre i hi
  have h4:=h3 j o ho
  rw [hpm] at h4
  have h5:pm=maskOf ((befores [] ops).take j) o:=by simpa using h4
  rw [h5] at hi
  obtain ⟨e,he,hbi,h6⟩:=mask_bit hi
  have hlt:e.on<j:=by have:=backOK_spec ops 0 hb j o ho e he hbi;omega
  have hSe:=hpre e he hbi
  rcases h6 with h6|h6
  ·rw [← h6];exact hSe
  ·rw [List.getElem?_take_of_lt hlt] at h6
   have hjl:j<ops.length:=(List.getElem?_eq_some_iff.1 ho).1
   have hel:e.on<ops.length:=by omega
   have hoe:ops[e.on]?=some ops[e.on]:=List.getElem?_eq_getElem hel
   have hpe:(befores [] ops)[e.on]?=some ((befores [] ops)[e.on]'(by omega)):=List.getElem?_eq_getElem (by omega)
   rw [hpe] at h6
   exact ih e.on hlt _ _ hoe hpe (hS e.on _ hoe hSe) i h6
theorem apartOne_ok (all:List Oper) (o:Oper) (pm:Nat):∀ (xs:List Oper) (i j:Nat),apartAll.apartOne all o pm xs i j=true→∀ k x,xs[k]?=some x→i+k<j→Nat.testBit pm (i+k)=false→x.apart all.toArray o=true:=by
 intro xs
 induction xs with
 |nil=>intro i j _ k x h;simp at h
 |cons y ys ih=>
  intro i j h k x hk hlt ht
  simp only [apartAll.apartOne] at h
  rw [Nat.blt_eq.mpr (by omega:i<j),cond_true] at h
  cases hb:Nat.testBit pm i with
  |true=>
   rw [hb,cond_true] at h
   cases k with
   |zero=>simp at ht;rw [hb] at ht;cases ht
   |succ k=>simp at hk;exact ih (i+1) j h k x hk (by omega) (by rw [show i+1+k=i+(k+1) by omega];exact ht)
  |false=>
   rw [hb,cond_false] at h
   cases ha:y.apart all.toArray o with
   |false=>rw [ha] at h;cases h
   |true=>
    rw [ha,cond_true] at h
    cases k with
    |zero=>simp at hk;subst hk;exact ha
    |succ k=>simp at hk;exact ih (i+1) j h k x hk (by omega) (by rw [show i+1+k=i+(k+1) by omega];exact ht)
theorem apartAll_ok (all:List Oper):∀ (os:List Oper) (pms:List Nat) (j0:Nat),apartAll all os pms j0=true→∀ j o pm,os[j]?=some o→pms[j]?=some pm→∀ i x,all[i]?=some x→i<j0+j→Nat.testBit pm i=false→x.apart all.toArray o=true:=by
 intro os
 induction os with
 |nil=>intro pms j0 _ j o pm h;simp at h
 |cons y ys ih=>
  intro pms j0 h j o pm hj hp i x hi hlt ht
  cases pms with
  |nil=>simp at hp
  |cons p ps=>
   simp only [apartAll] at h
   cases ha:apartAll.apartOne all y p all 0 j0 with
   |false=>rw [ha] at h;cases h
   |true=>
    rw [ha,cond_true] at h
    cases j with
    |zero=>
     simp at hj hp
     subst hj hp
     exact apartOne_ok all y p all 0 j0 ha i x hi (by omega) (by simpa using ht)
    |succ j=>
     simp at hj hp
     exact ih ps (j0+1) h j o pm hj hp i x hi (by omega) ht
end Go.Sx
namespace Go.Sx
section
variable {P:Program} {E:Env}
structure Tce where
 T:Nat→Tr V
 T1:Nat→Tr V
 s:Nat→St
 s1:Nat→St
 s2:Nat→St
 wt:Nat→Bool
 v:Nat→V
 r:Nat→Rec
def StepP (E:Env) (cf:CallF) (yf:YieldF) (fr:Frs) (all:List Oper) (pms:List Nat) (recs0:List Rec) (x:Tce) (j:Nat) (o:Oper):Prop:=
 ∃ pm,pms[j]?=some pm∧wantedX all o (x.T j) (x.s j)=some (x.wt j,x.T1 j,x.s1 j)∧putDst fr.nt (x.T1 j) o.dst (x.v j)=some (x.T (j+1))∧
  ((x.wt j=false∧x.v j=XJ∧x.s (j+1)=x.s1 j∧x.r j=⟨false,[],[],0,0⟩)∨
   (x.wt j=true∧isQuiet o.op=true∧∃ rd,quietX E (x.T1 j) o.op (x.s1 j)=some (x.v j,rd,x.s (j+1))∧quietFits pm rd (recs0++(List.range j).map x.r) 0=true∧x.r j=⟨false,rd,[],0,0⟩)∨
   (x.wt j=true∧isQuiet o.op=false∧runOp E cf yf (x.T1 j) o.op {x.s1 j with H:=hideRecs pm (recs0++(List.range j).map x.r) 0 (x.s1 j).H,wr:=[]}=some (x.v j,x.s2 j)∧
    loudFits pm (newWr (x.s1 j).nx (x.s2 j).wr.length (x.s2 j).wr) (recs0++(List.range j).map x.r) 0=true∧((x.s2 j).nx≤big∧∀ n∈(x.s2 j).wr,n<(x.s2 j).nx)∧
    x.r j=⟨true,[],newWr (x.s1 j).nx (x.s2 j).wr.length (x.s2 j).wr,(x.s1 j).nx,(x.s2 j).nx⟩∧
    x.s (j+1)={x.s2 j with H:=backRecs pm (x.s1 j).H (recs0++(List.range j).map x.r) 0 (x.s2 j).H,wr:=(x.s2 j).wr++(x.s1 j).wr}))
def Tce.cons (T T1:Tr V) (s s1 s2:St) (wt:Bool) (v:V) (r:Rec) (x:Tce):Tce where
 T:=fun j=>match j with|0=>T|j+1=>x.T j
 T1:=fun j=>match j with|0=>T1|j+1=>x.T1 j
 s:=fun j=>match j with|0=>s|j+1=>x.s j
 s1:=fun j=>match j with|0=>s1|j+1=>x.s1 j
 s2:=fun j=>match j with|0=>s2|j+1=>x.s2 j
 wt:=fun j=>match j with|0=>wt|j+1=>x.wt j
 v:=fun j=>match j with|0=>v|j+1=>x.v j
 r:=fun j=>match j with|0=>r|j+1=>x.r j
theorem range_cons (r:Rec) (f:Nat→Rec) (recs0:List Rec) (j:Nat):recs0++(List.range (j+1)).map (fun j=>match j with|0=>r|j+1=>f j)=(recs0++[r])++(List.range j).map f:=by
 rw [List.range_succ_eq_map,List.map_cons,List.map_map]
 simp
theorem drawOps_trace {cf:CallF} {yf:YieldF} {fr:Frs} {all:List Oper}:∀ (l:List Oper) (pms:List Nat) (recs0:List Rec) (T T':Tr V) (s s':St),drawOps E cf yf fr all l pms recs0 T s=some (T',s')→
  ∃ x:Tce,x.T 0=T∧x.s 0=s∧x.T l.length=T'∧x.s l.length=s'∧∀ j o,l[j]?=some o→StepP E cf yf fr all pms recs0 x j o:=by
 intro l
 induction l with
 |nil=>
  intro pms recs0 T T' s s' h
  simp only [drawOps] at h
  cases h
  exact ⟨⟨fun _=>T,fun _=>T,fun _=>s,fun _=>s,fun _=>s,fun _=>true,fun _=>XJ,fun _=>⟨false,[],[],0,0⟩⟩,rfl,rfl,rfl,rfl,fun j o h=>by simp at h⟩
 |cons o l ih=>
  intro pms recs0 T T' s s' h
  cases pms with
  |nil=>simp [drawOps] at h
  |cons pm pms=>
   simp only [drawOps] at h
   obtain ⟨⟨wt,T1,s1⟩,h1,h2⟩:=XA h
   clear h
   have build:∀ (x:Tce) (s2:St) (v:V) (r:Rec),(∀ j o,l[j]?=some o→StepP E cf yf fr all pms (recs0++[r]) x j o)→x.T l.length=T'→x.s l.length=s'→
     StepP E cf yf fr all (pm::pms) recs0 (x.cons T T1 s s1 s2 wt v r) 0 o→
     ∃ x:Tce,x.T 0=T∧x.s 0=s∧x.T (o::l).length=T'∧x.s (o::l).length=s'∧∀ j o',(o::l)[j]?=some o'→StepP E cf yf fr all (pm::pms) recs0 x j o':=by
    intro x s2 v r hx hT hs h0
    refine ⟨x.cons T T1 s s1 s2 wt v r,rfl,rfl,hT,hs,fun j o' ho'=>?_⟩
    cases j with
    |zero=>simp at ho';subst ho';exact h0
    |succ j=>
     simp at ho'
     obtain ⟨pm',p1,p2,p3,p4⟩:=hx j o' ho'
     refine ⟨pm',by simpa using p1,p2,p3,?_⟩
     have e:recs0++(List.range (j+1)).map (x.cons T T1 s s1 s2 wt v r).r=(recs0++[r])++(List.range j).map x.r:=range_cons r x.r recs0 j
     rw [e]
     exact p4
   cases wt with
   |false=>
    obtain ⟨T2,h3,h4⟩:=XA h2
    obtain ⟨x,x1,x2,x3,x4,x5⟩:=ih _ _ _ _ _ _ h4
    refine build x s1 XJ _ x5 x3 x4 ⟨pm,rfl,h1,?_,.inl ⟨rfl,rfl,?_,rfl⟩⟩
    ·show putDst fr.nt T1 o.dst XJ=some (x.T 0);rw [x1];exact h3
    ·show x.s 0=s1;exact x2
   |true=>
    simp only at h2
    split at h2
    ·rename_i hq
     obtain ⟨⟨v,rd,s2⟩,h3,h4⟩:=XA h2
     obtain ⟨_,h5,h6⟩:=XA h4
     obtain ⟨T2,h7,h8⟩:=XA h6
     obtain ⟨x,x1,x2,x3,x4,x5⟩:=ih _ _ _ _ _ _ h8
     refine build x s1 v _ x5 x3 x4 ⟨pm,rfl,h1,?_,.inr (.inl ⟨rfl,hq,rd,?_,?_,rfl⟩)⟩
     ·show putDst fr.nt T1 o.dst v=some (x.T 0);rw [x1];exact h7
     ·show quietX E T1 o.op s1=some (v,rd,x.s 0);rw [x2];exact h3
     ·show quietFits pm rd (recs0++[]) 0=true;rw [List.append_nil];exact XC h5
    ·rename_i hq
     obtain ⟨⟨v,s2⟩,h3,h4⟩:=XA h2
     obtain ⟨_,h5,h6⟩:=XA h4
     obtain ⟨_,h5',h6'⟩:=XA h6
     obtain ⟨_,h5'',h6''⟩:=XA h6'
     obtain ⟨T2,h7,h8⟩:=XA h6''
     obtain ⟨x,x1,x2,x3,x4,x5⟩:=ih _ _ _ _ _ _ h8
     refine build x s2 v _ x5 x3 x4 ⟨pm,rfl,h1,?_,.inr (.inr ⟨rfl,hq,?_,?_,⟨Nat.ble_eq.mp (XC h5'),allLt_ok _ _ (XC h5'')⟩,rfl,?_⟩)⟩
     ·show putDst fr.nt T1 o.dst v=some (x.T 0);rw [x1];exact h7
     ·show runOp E cf yf T1 o.op {s1 with H:=hideRecs pm (recs0++[]) 0 s1.H,wr:=[]}=some (v,s2);rw [List.append_nil];exact h3
     ·show loudFits pm (newWr s1.nx s2.wr.length s2.wr) (recs0++[]) 0=true;rw [List.append_nil];exact XC h5
     ·show x.s 0={s2 with H:=backRecs pm s1.H (recs0++[]) 0 s2.H,wr:=s2.wr++s1.wr};rw [List.append_nil];exact x2
structure Fact (P:Program) (all:Array Oper) (x:Tce) (pms:List Nat) (j:Nat) (o:Oper):Prop where
 obl:Obl (x.s j)
 nx1:(x.s1 j).nx=(x.s j).nx
 nx:(x.s j).nx≤(x.s (j+1)).nx
 rok:RecOK (x.r j)
 wlt:∀ n∈(x.r j).wr,n<(x.s j).nx
 rng:∀ id,(x.r j).lo≤id→id<(x.r j).hi→(x.s j).nx≤id∧id<(x.s (j+1)).nx
 same:∀ id,¬ Touch (x.r j) id→(x.s (j+1)).H.get id=(x.s j).H.get id
 lg:∃ l,(x.s (j+1)).wr=l++(x.s j).wr∧∀ id,id ∉ l→¬ ((x.s j).nx≤id∧id<(x.s (j+1)).nx)→(x.s (j+1)).H.get id=(x.s j).H.get id
theorem mem_range {α:Type} {f:Nat→α} {j:Nat} {y:α}:y∈(List.range j).map f↔∃ i,i<j∧f i=y:=by simp
theorem range_get {α:Type} {f:Nat→α} {j i:Nat} (h:i<j):((List.range j).map f)[i]?=some (f i):=by simp [h]
theorem facts_of (hE:EnvOK P E) {cf:CallF} {yf:YieldF} (hcf:CfOK P E cf) (hyf:YfOK P yf) {fr:Frs} {all:Array Oper} {pms:List Nat} {x:Tce} {n:Nat} (hn:n=all.size)
  (hx:∀ j o,all[j]?=some o→StepP E cf yf fr all.toList pms [] x j o) (ho:Obl (x.s n)):∀ j o,all[j]?=some o→Fact P all x pms j o:=by
 have hob:∀ k j,j+k=n→Obl (x.s j):=by
  intro k
  induction k with
  |zero=>intro j h;rw [Nat.add_zero] at h;rw [h];exact ho
  |succ k ih=>
   intro j h
   have h1:=ih (j+1) (by omega)
   have hj:j<all.size:=by omega
   obtain ⟨pm,p1,p2,p3,p4⟩:=hx j _ (Array.getElem?_eq_getElem hj)
   have hs1:Obl (x.s1 j):=by
    rcases p4 with ⟨_,_,q,_⟩|⟨_,_,rd,q,_,_⟩|⟨_,_,q,_,_,_,q'⟩
    ·rw [q] at h1;exact h1
    ·exact (quietX_ok hE q h1).1.2
    ·rw [q'] at h1
     exact (runOp_ok hE hcf hyf q (fun b hb=>h1 b hb)).2.1
   exact (wantedX_ok p2 hs1).1.2
 have hrok:∀ j,j≤n→∀ i,i<j→RecOK (x.r i):=by
  intro j
  induction j with
  |zero=>intro _ i hi;omega
  |succ j ih=>
   intro hj i hi
   by_cases h:i<j
   ·exact ih (by omega) i h
   ·have hij:i=j:=by omega
    subst hij
    have hj':i<all.size:=by omega
    obtain ⟨pm,p1,p2,p3,p4⟩:=hx i _ (Array.getElem?_eq_getElem hj')
    rcases p4 with ⟨_,_,_,q⟩|⟨_,_,rd,_,_,q⟩|⟨_,_,q0,_,q2,q,q3⟩
    ·rw [q];exact ⟨by simp,Nat.zero_le _,Nat.le_refl _⟩
    ·rw [q];exact ⟨by simp,Nat.zero_le _,Nat.le_refl _⟩
    ·have h2:Obl (x.s2 i):=by
      have h1:=hob (n - (i+1)) (i+1) (by omega)
      rw [q3] at h1
      exact fun b hb=>h1 b hb
     have hlg:=(runOp_ok hE hcf hyf q0 h2).1
     have hle:(x.s1 i).nx≤(x.s2 i).nx:=hlg.le
     rw [q]
     refine ⟨fun m hm=>?_,q2.1,hle⟩
     have:=((newWr_ok _ _ _ (Nat.le_refl _) m).1 hm).2
     omega
 intro j o hjo
 have hj:j<all.size:=(Array.getElem?_eq_some_iff.1 hjo).1
 obtain ⟨pm,p1,p2,p3,p4⟩:=hx j o hjo
 have h1:=hob (n - (j+1)) (j+1) (by omega)
 have h0:=hob (n - j) j (by omega)
 have hs1:Obl (x.s1 j):=by
  rcases p4 with ⟨_,_,q,_⟩|⟨_,_,rd,q,_,_⟩|⟨_,_,q,_,_,_,q'⟩
  ·rw [q] at h1;exact h1
  ·exact (quietX_ok hE q h1).1.2
  ·rw [q'] at h1
   exact (runOp_ok hE hcf hyf q (fun b hb=>h1 b hb)).2.1
 obtain ⟨w1,_,_⟩:=wantedX_ok p2 hs1
 have hrecs:∀ r∈[]++(List.range j).map x.r,RecOK r:=by
  intro r hr
  rw [List.nil_append] at hr
  obtain ⟨i,hi,rfl⟩:=mem_range.1 hr
  exact hrok j (by omega) i hi
 rcases p4 with ⟨_,_,q,qr⟩|⟨_,_,rd,q,_,qr⟩|⟨_,_,q,_,qb,qr,q'⟩
 ·refine ⟨h0,w1.1.nx,by rw [q,w1.1.nx];exact Nat.le_refl _,hrok (j+1) (by omega) j (by omega),by rw [qr];simp,by rw [qr];intro id a b;simp at b,fun id _=>by rw [q,w1.1.H],[],by rw [q,w1.1.wr];rfl,fun id _ _=>by rw [q,w1.1.H]⟩
 ·have hq:=(quietX_ok hE q h1).1.1
  refine ⟨h0,w1.1.nx,by rw [hq.nx,w1.1.nx];exact Nat.le_refl _,hrok (j+1) (by omega) j (by omega),by rw [qr];simp,by rw [qr];intro id a b;simp at b,fun id _=>by rw [hq.H,w1.1.H],[],by rw [hq.wr,w1.1.wr];rfl,fun id _ _=>by rw [hq.H,w1.1.H]⟩
 ·have h2:Obl (x.s2 j):=by
   rw [q'] at h1
   exact fun b hb=>h1 b hb
  obtain ⟨⟨hle,l,hwr,hlog⟩,_,_⟩:=runOp_ok hE hcf hyf q h2
  have hle:(x.s1 j).nx≤(x.s2 j).nx:=hle
  have hwr:(x.s2 j).wr=l:=by simpa using hwr
  have hmain:∀ id,id ∉ l→¬ ((x.s1 j).nx≤id∧id<(x.s2 j).nx)→(x.s (j+1)).H.get id=(x.s j).H.get id:=by
   intro id g1 g2
   rw [q']
   show (backRecs pm (x.s1 j).H ([]++(List.range j).map x.r) 0 (x.s2 j).H).get id=_
   rw [backRecs_get pm _ _ _ _ _ hrecs]
   split
   ·rw [w1.1.H]
   ·rename_i hh
    have:=hlog id g1 g2
    rw [this]
    show (hideRecs pm ([]++(List.range j).map x.r) 0 (x.s1 j).H).get id=_
    rw [hideRecs_get pm _ _ _ _ hrecs,if_neg hh,w1.1.H]
  refine ⟨h0,w1.1.nx,by rw [q'];show (x.s j).nx≤(x.s2 j).nx;rw [← w1.1.nx];exact hle,hrok (j+1) (by omega) j (by omega),?_,?_,?_,l,?_,?_⟩
  ·rw [qr,← w1.1.nx]
   intro m hm
   exact ((newWr_ok _ _ _ (Nat.le_refl _) m).1 hm).2
  ·rw [qr,q']
   intro id a b
   exact ⟨by rw [← w1.1.nx];exact a,b⟩
  ·intro id ht
   rw [qr] at ht
   refine hmain id (fun hm=>?_) (fun hr=>ht (.inr hr))
   by_cases h3:id<(x.s1 j).nx
   ·exact ht (.inl ((newWr_ok _ _ _ (Nat.le_refl _) id).2 ⟨by rw [hwr];exact hm,h3⟩))
   ·have h4:=qb.2 id (by rw [hwr];exact hm)
    exact ht (.inr ⟨by show (x.s1 j).nx≤id;omega,h4⟩)
  ·rw [q',← w1.1.wr,← hwr]
  ·intro id g1 g2
   refine hmain id g1 (fun g3=>g2 ⟨by rw [← w1.1.nx];exact g3.1,by rw [q'];exact g3.2⟩)
end
end Go.Sx
