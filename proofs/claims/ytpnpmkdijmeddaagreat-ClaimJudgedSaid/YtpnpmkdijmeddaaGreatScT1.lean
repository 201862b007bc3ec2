/- A set of keys, of which the least is taken: whoever is marked was the least at one of its moments; then there is an order in which each is answered as a set answers. -/
set_option maxRecDepth 100000
namespace Go.Ql
inductive Op where
 |put (i:Int)
 |pick (r:Option Int)
 |look (r:Option Int)
def insK (key:Int→Int) (i:Int):List Int→List Int
 |[]=>[i]
 |x::l=>if key i<key x then i::x::l else x::insK key i l
def okQ (Q:List Int):Op→Prop
 |.put i=>¬ i∈Q
 |.pick r=>Q.head?=r
 |.look r=>Q.head?=r
def nxQ (key:Int→Int) (Q:List Int):Op→List Int
 |.put i=>insK key i Q
 |.pick _=>Q.tail
 |.look _=>Q
def runQ (key:Int→Int) (op:Nat→Op):List Int→List Nat→List Int→Prop
 |Q,[],Q'=>Q=Q'
 |Q,c::l,Q'=>okQ Q (op c)∧runQ key op (nxQ key Q (op c)) l Q'
theorem runQ_app {key:Int→Int} {op:Nat→Op}:∀ {l m:List Nat} {Q Q1 Q2:List Int},runQ key op Q l Q1→runQ key op Q1 m Q2→runQ key op Q (l++m) Q2
 |[],_,_,_,_,h,k=>by cases h;exact k
 |_::_,_,_,_,_,h,k=>⟨h.1,runQ_app h.2 k⟩
inductive Ev where
 |tau
 |ins (c:Nat) (i:Int)
 |read (c:Nat)
 |mark (c:Nat) (i:Int)
structure Ent where
 ck:Int
 S:List Int
 e:Ev
def after (key:Int→Int) (S:List Int):Ev→List Int
 |.ins _ i=>insK key i S
 |.mark _ i=>S.filter (·≠i)
 |_=>S
def Chain (key:Int→Int):List Ent→List Int→Prop
 |[],_=>True
 |[x],Sf=>after key x.S x.e=Sf
 |x::y::r,Sf=>after key x.S x.e=y.S∧Chain key (y::r) Sf
def fstS (tr:List Ent) (Sf:List Int):List Int:=match tr with
 |[]=>Sf
 |x::_=>x.S
theorem Chain.cons {key:Int→Int} {x:Ent} {r:List Ent} {Sf:List Int} (h:Chain key (x::r) Sf):after key x.S x.e=fstS r Sf∧Chain key r Sf:=by
 cases r with
 |nil=>exact ⟨h,trivial⟩
 |cons y r=>exact h
def rd:Ev→List Nat
 |.read c=>[c]
 |_=>[]
def pt:Ev→List Nat
 |.ins c _=>[c]
 |_=>[]
def mk:Ev→List (Int×Nat)
 |.mark c i=>[(i,c)]
 |_=>[]
def isHd (S:List Int) (x:Int×Nat):Bool:=decide (S.head?=some x.1)
def go:List Ent→List Nat×List (Int×Nat)
 |[]=>([],[])
 |x::r=>(rd x.e++((mk x.e++(go r).2).filter (isHd x.S)).map (·.2)++pt x.e++(go r).1,(mk x.e++(go r).2).filter fun y=>!isHd x.S y)
def callOf:Ev→List Nat
 |.tau=>[]
 |.ins c _=>[c]
 |.read c=>[c]
 |.mark c _=>[c]
section
variable {key:Int→Int} {op:Nat→Op} {fr to:Nat→Int} {Sf:List Int}
structure Good (key:Int→Int) (op:Nat→Op) (fr to:Nat→Int) (tr:List Ent) (Sf:List Int):Prop where
 chain:Chain key tr Sf
 first:fstS tr Sf=[]
 sorted:∀ x∈tr,x.S.Pairwise fun a b=>key a<key b
 times:tr.Pairwise fun x y=>x.ck≤y.ck
 calls:(tr.flatMap fun x=>callOf x.e).Nodup
 ins:∀ x∈tr,∀ c i,x.e=.ins c i→op c=.put i∧¬ i∈x.S∧(∀ y∈x.S,key y≠key i)∧fr c≤x.ck∧x.ck≤to c
 read:∀ x∈tr,∀ c,x.e=.read c→(op c=.look x.S.head?∨(op c=.pick none∧x.S=[]))∧fr c≤x.ck∧x.ck≤to c
 mark:∀ pre x suf,tr=pre++x::suf→∀ c i,x.e=.mark c i→op c=.pick (some i)∧i∈x.S∧x.ck≤to c∧∃ y∈pre++[x],y.S.head?=some i∧fr c≤y.ck
 fresh:∀ pre x suf,tr=pre++x::suf→∀ c i,x.e=.ins c i→∀ y∈pre,¬ i∈y.S
theorem filter_ins {p:Int→Bool} {i:Int} (h:p i=true):∀ {S:List Int},(S.Pairwise fun a b=>key a<key b)→(insK key i S).filter p=insK key i (S.filter p)
 |[],_=>by simp [insK,h]
 |x::S,hs=>by
  have hs':=List.pairwise_cons.1 hs
  simp only [insK]
  by_cases c:key i<key x
  ·rw [if_pos c]
   by_cases d:p x=true
   ·simp only [List.filter_cons,h,d,if_true,insK,if_pos c]
   ·simp only [List.filter_cons,h,d,if_true]
    have:∀ T:List Int,(∀ y∈T,key i<key y)→insK key i T=i::T:=fun T hT=>by
     cases T with
     |nil=>rfl
     |cons y T=>simp only [insK,if_pos (hT y (by simp))]
    simp only [Bool.false_eq_true,if_false]
    rw [this (S.filter p) (fun y hy=>by
     have:=hs'.1 y (List.mem_filter.1 hy).1
     omega)]
  ·rw [if_neg c]
   by_cases d:p x=true
   ·simp only [List.filter_cons,d,if_true,insK,if_neg c]
    rw [filter_ins h hs'.2]
   ·simp only [List.filter_cons,d,Bool.false_eq_true,if_false]
    rw [filter_ins h hs'.2]
theorem mem_insK {i x:Int}:∀ {S:List Int},x∈insK key i S↔x=i∨x∈S
 |[]=>by simp [insK]
 |y::S=>by
  simp only [insK]
  by_cases c:key i<key y
  ·rw [if_pos c];simp
  ·rw [if_neg c]
   simp only [List.mem_cons,mem_insK (S:=S)]
   constructor
   ·rintro (h|h|h)<;>simp [h]
   ·rintro (h|h|h)<;>simp [h]
theorem pend_wit:∀ (suf pre tr:List Ent),Good key op fr to tr Sf→tr=pre++suf→∀ y∈(go suf).2,∃ x∈pre,x.S.head?=some y.1∧fr y.2≤x.ck
 |[],_,_,_,_,y,hy=>by cases hy
 |x::r,pre,tr,G,htr,y,hy=>by
  simp only [go,List.mem_filter,List.mem_append] at hy
  obtain ⟨hy,hn⟩:=hy
  have hw:∃ z∈pre++[x],z.S.head?=some y.1∧fr y.2≤z.ck:=by
   rcases hy with hy|hy
   ·cases he:x.e with
    |mark c i=>
     rw [he] at hy
     simp only [mk,List.mem_singleton] at hy
     subst hy
     exact (G.mark pre x r htr c i he).2.2.2
    |_=>rw [he] at hy;cases hy
   ·exact pend_wit r (pre++[x]) tr G (by rw [htr];simp) y hy
  obtain ⟨z,hz,h1,h2⟩:=hw
  rcases List.mem_append.1 hz with hz|hz
  ·exact ⟨z,hz,h1,h2⟩
  ·rw [List.mem_singleton.1 hz] at h1
   simp [isHd,h1] at hn
theorem pend_mark:∀ (suf pre tr:List Ent),Good key op fr to tr Sf→tr=pre++suf→∀ y∈(go suf).2,op y.2=.pick (some y.1)∧∀ x∈pre,x.ck≤to y.2
 |[],_,_,_,_,y,hy=>by cases hy
 |x::r,pre,tr,G,htr,y,hy=>by
  simp only [go,List.mem_filter,List.mem_append] at hy
  rcases hy.1 with hy|hy
  ·cases he:x.e with
   |mark c i=>
    rw [he] at hy
    simp only [mk,List.mem_singleton] at hy
    subst hy
    obtain ⟨g1,_,g3,_⟩:=G.mark pre x r htr c i he
    refine ⟨g1,fun z hz=>?_⟩
    have ht:=G.times
    rw [htr] at ht
    have:=(List.pairwise_append.1 ht).2.2 z hz x (by simp)
    show z.ck≤to c
    omega
   |_=>rw [he] at hy;cases hy
  ·obtain ⟨g1,g2⟩:=pend_mark r (pre++[x]) tr G (by rw [htr];simp) y hy
   exact ⟨g1,fun z hz=>g2 z (List.mem_append_left _ hz)⟩
theorem head_mem {S:List Int} {i:Int} (h:S.head?=some i):i∈S:=by
 cases S with
 |nil=>cases h
 |cons x S=>cases h;simp
theorem sorted_nodup {S:List Int} (h:S.Pairwise fun a b=>key a<key b):S.Nodup:=h.imp fun {a b} hab e=>by subst e;omega
theorem pend_in:∀ (suf pre tr:List Ent),Good key op fr to tr Sf→Chain key suf Sf→tr=pre++suf→∀ y∈(go suf).2,y.1∈fstS suf Sf
 |[],_,_,_,_,_,y,hy=>by cases hy
 |x::r,pre,tr,G,hc,htr,y,hy=>by
  simp only [go,List.mem_filter,List.mem_append] at hy
  show y.1∈x.S
  rcases hy.1 with hy|hy
  ·cases he:x.e with
   |mark c i=>
    rw [he] at hy
    simp only [mk,List.mem_singleton] at hy
    subst hy
    exact (G.mark pre x r htr c i he).2.1
   |_=>rw [he] at hy;cases hy
  ·have h1:=pend_in r (pre++[x]) tr G hc.cons.2 (by rw [htr];simp) y hy
   rw [← hc.cons.1] at h1
   cases he:x.e with
   |mark c i=>rw [he] at h1;simp only [after,List.mem_filter] at h1;exact h1.1
   |tau=>rw [he] at h1;exact h1
   |read c=>rw [he] at h1;exact h1
   |ins c i=>
    rw [he] at h1
    rcases mem_insK.1 h1 with e|e
    ·obtain ⟨z,hz,h2,_⟩:=pend_wit r (pre++[x]) tr G (by rw [htr];simp) y hy
     have hzS:=head_mem h2
     rw [e] at hzS
     rcases List.mem_append.1 hz with hz|hz
     ·exact absurd hzS (G.fresh pre x r htr c i he z hz)
     ·rw [List.mem_singleton.1 hz] at hzS
      exact absurd hzS (G.ins x (by rw [htr];simp) c i he).2.1
    ·exact e
theorem pend_nodup1 {x:Ent} {r pre tr:List Ent} (G:Good key op fr to tr Sf) (hc:Chain key (x::r) Sf) (htr:tr=pre++x::r) (h:((go r).2.map (·.1)).Nodup):((mk x.e++(go r).2).map (·.1)).Nodup:=by
 cases he:x.e with
 |mark c i=>
  simp only [mk,List.singleton_append,List.map_cons,List.nodup_cons]
  refine ⟨fun hm=>?_,h⟩
  obtain ⟨y,hy,e⟩:=List.mem_map.1 hm
  have h1:=pend_in r (pre++[x]) tr G hc.cons.2 (by rw [htr];simp) y hy
  rw [← hc.cons.1,he] at h1
  simp only [after,List.mem_filter] at h1
  exact absurd e (by simpa using h1.2)
 |tau=>simpa [mk] using h
 |read c=>simpa [mk] using h
 |ins c i=>simpa [mk] using h
theorem pend_nodup:∀ (suf pre tr:List Ent),Good key op fr to tr Sf→Chain key suf Sf→tr=pre++suf→((go suf).2.map (·.1)).Nodup
 |[],_,_,_,_,_=>List.nodup_nil
 |x::r,pre,tr,G,hc,htr=>by
  have h:=pend_nodup1 G hc htr (pend_nodup r (pre++[x]) tr G hc.cons.2 (by rw [htr];simp))
  exact h.sublist ((List.filter_sublist).map _)
def outQ (P:List (Int×Nat)) (i:Int):Bool:=!decide (i∈P.map (·.1))
theorem head_filter {p:Int→Bool} {S:List Int} (h:∀ i,S.head?=some i→p i=true):(S.filter p).head?=S.head?:=by
 cases S with
 |nil=>rfl
 |cons x S=>rw [List.filter_cons,if_pos (h x rfl)];rfl
theorem go_run:∀ (suf pre tr:List Ent),Good key op fr to tr Sf→Chain key suf Sf→tr=pre++suf→runQ key op ((fstS suf Sf).filter (outQ (go suf).2)) (go suf).1 Sf
 |[],_,_,_,_,_=>by
  show Sf.filter (outQ [])=Sf
  exact List.filter_eq_self.2 fun _ _=>rfl
 |x::r,pre,tr,G,hc,htr=>by
  have htr':tr=(pre++[x])++r:=by rw [htr];simp
  have ih:=go_run r (pre++[x]) tr G hc.cons.2 htr'
  have hx:x∈tr:=by rw [htr];simp
  have hnd:=pend_nodup1 G hc htr (pend_nodup r (pre++[x]) tr G hc.cons.2 htr')
  have hS:=sorted_nodup (G.sorted x hx)
  obtain ⟨P1,hP1⟩:∃ P1,P1=mk x.e++(go r).2:=⟨_,rfl⟩
  have hop:∀ y∈P1,op y.2=.pick (some y.1):=fun y hy=>by
   rw [hP1] at hy
   rcases List.mem_append.1 hy with hy|hy
   ·cases he:x.e with
    |mark c i=>rw [he] at hy;simp only [mk,List.mem_singleton] at hy;subst hy;exact (G.mark pre x r htr c i he).1
    |_=>rw [he] at hy;cases hy
   ·exact (pend_mark r (pre++[x]) tr G htr' y hy).1
  simp only [go]
  rw [← hP1] at hnd ⊢
  show runQ key op (x.S.filter (outQ (P1.filter fun y=>!isHd x.S y))) _ Sf
  obtain ⟨Q0,hQ0⟩:∃ Q0,Q0=x.S.filter (outQ (P1.filter fun y=>!isHd x.S y)):=⟨_,rfl⟩
  have hh:Q0.head?=x.S.head?:=by
   rw [hQ0]
   refine head_filter fun i hi=>?_
   unfold outQ
   rw [Bool.not_eq_true',decide_eq_false_iff_not]
   intro hm
   obtain ⟨y,hy,e⟩:=List.mem_map.1 hm
   have:=(List.mem_filter.1 hy).2
   simp [isHd,hi,e] at this
  have r1:runQ key op Q0 (rd x.e) Q0:=by
   cases he:x.e with
   |read c=>
    rcases (G.read x hx c he).1 with g|⟨g,g'⟩
    ·show okQ Q0 (op c)∧nxQ key Q0 (op c)=Q0
     rw [g];exact ⟨hh,rfl⟩
    ·show okQ Q0 (op c)∧nxQ key Q0 (op c)=Q0
     rw [g]
     have:Q0=[]:=by rw [hQ0,g'];rfl
     rw [this];exact ⟨rfl,rfl⟩
   |_=>exact rfl
  have r2:runQ key op Q0 ((P1.filter (isHd x.S)).map (·.2)) (x.S.filter (outQ P1)):=by
   cases hf:P1.filter (isHd x.S) with
   |nil=>
    have:P1.filter (fun y=>!isHd x.S y)=P1:=List.filter_eq_self.2 fun y hy=>by
     have h1:¬ y∈P1.filter (isHd x.S):=by rw [hf];simp
     rw [List.mem_filter] at h1
     cases hb:isHd x.S y with
     |false=>rfl
     |true=>exact absurd ⟨hy,hb⟩ h1
    rw [hQ0,this];exact rfl
   |cons y l=>
    have hy:y∈P1∧isHd x.S y=true:=List.mem_filter.1 (by rw [hf];simp)
    have hy2:x.S.head?=some y.1:=of_decide_eq_true hy.2
    have hl:l=[]:=by
     cases l with
     |nil=>rfl
     |cons z l=>
      have hz:z∈P1∧isHd x.S z=true:=List.mem_filter.1 (by rw [hf];simp)
      have hz2:x.S.head?=some z.1:=of_decide_eq_true hz.2
      have h3:((P1.filter (isHd x.S)).map (·.1)).Nodup:=hnd.sublist ((List.filter_sublist).map _)
      rw [hf] at h3
      rw [hy2] at hz2
      simp only [List.map_cons,List.nodup_cons,List.mem_cons,not_or] at h3
      injection hz2 with hz2
      exact absurd hz2 h3.1.1
    subst hl
    show okQ Q0 (op y.2)∧nxQ key Q0 (op y.2)=_
    rw [hop y hy.1]
    refine ⟨hh.trans hy2,?_⟩
    show Q0.tail=_
    cases hS2:x.S with
    |nil=>rw [hS2] at hy2;cases hy2
    |cons a S'=>
     rw [hS2] at hy2 hS hQ0
     injection hy2 with hy2
     subst hy2
     have hoa:outQ (P1.filter fun z=>!isHd (y.1::S') z) y.1=true:=by
      unfold outQ
      rw [Bool.not_eq_true',decide_eq_false_iff_not]
      intro hm
      obtain ⟨z,hz,e⟩:=List.mem_map.1 hm
      have:=(List.mem_filter.1 hz).2
      simp [isHd,e] at this
     have hob:outQ P1 y.1=false:=by
      unfold outQ
      rw [Bool.not_eq_false',decide_eq_true_eq]
      exact List.mem_map.2 ⟨y,hy.1,rfl⟩
     rw [hQ0,List.filter_cons,if_pos hoa,List.filter_cons,hob]
     simp only [List.tail_cons,Bool.false_eq_true,if_false]
     refine List.filter_congr fun b hb=>?_
     have hne:b≠y.1:=fun e=>(List.nodup_cons.1 hS).1 (e ▸ hb)
     unfold outQ
     congr 1
     rw [decide_eq_decide]
     constructor
     ·intro hm
      obtain ⟨z,hz,e⟩:=List.mem_map.1 hm
      exact List.mem_map.2 ⟨z,(List.mem_filter.1 hz).1,e⟩
     ·intro hm
      obtain ⟨z,hz,e⟩:=List.mem_map.1 hm
      refine List.mem_map.2 ⟨z,List.mem_filter.2 ⟨hz,?_⟩,e⟩
      have:¬ y.1=z.1:=fun e2=>hne (by rw [← e,← e2])
      simp [isHd,this]
  have r3:runQ key op (x.S.filter (outQ P1)) (pt x.e) ((fstS r Sf).filter (outQ (go r).2)):=by
   rw [← hc.cons.1]
   cases he:x.e with
   |tau=>rw [he] at hP1;rw [hP1];exact rfl
   |read c=>rw [he] at hP1;rw [hP1];exact rfl
   |ins c i=>
    rw [he] at hP1
    have hP1:P1=(go r).2:=hP1
    obtain ⟨g1,g2,g3,_⟩:=G.ins x hx c i he
    have hio:outQ P1 i=true:=by
     unfold outQ
     rw [Bool.not_eq_true',decide_eq_false_iff_not]
     intro hm
     obtain ⟨y,hy,e⟩:=List.mem_map.1 hm
     rw [hP1] at hy
     obtain ⟨z,hz,h2,_⟩:=pend_wit r (pre++[x]) tr G htr' y hy
     have hzS:=head_mem h2
     rw [e] at hzS
     rcases List.mem_append.1 hz with hz|hz
     ·exact absurd hzS (G.fresh pre x r htr c i he z hz)
     ·rw [List.mem_singleton.1 hz] at hzS
      exact absurd hzS g2
    show okQ _ (op c)∧nxQ key _ (op c)=_
    rw [g1]
    refine ⟨fun hm=>g2 (List.mem_filter.1 hm).1,?_⟩
    show insK key i (x.S.filter (outQ P1))=(insK key i x.S).filter (outQ (go r).2)
    rw [← hP1,filter_ins hio (G.sorted x hx)]
   |mark c i=>
    rw [he] at hP1
    show x.S.filter (outQ P1)=(x.S.filter (·≠i)).filter (outQ (go r).2)
    rw [List.filter_filter,hP1]
    refine List.filter_congr fun b _=>?_
    simp only [outQ,mk,List.singleton_append,List.map_cons,List.mem_cons]
    by_cases e:b=i<;>simp [e]
  rw [← hQ0]
  exact runQ_app (runQ_app (runQ_app r1 r2) r3) ih
theorem go_time:∀ (suf pre tr:List Ent),Good key op fr to tr Sf→tr=pre++suf→(∀ c∈(go suf).1,∃ z∈suf,fr c≤z.ck∧z.ck≤to c)∧(go suf).1.Pairwise fun a b=>fr a≤to b
 |[],_,_,_,_=>⟨fun c hc=>(by cases hc),List.Pairwise.nil⟩
 |x::r,pre,tr,G,htr=>by
  have htr':tr=(pre++[x])++r:=by rw [htr];simp
  obtain ⟨ih1,ih2⟩:=go_time r (pre++[x]) tr G htr'
  have hx:x∈tr:=by rw [htr];simp
  have ht:=G.times
  rw [htr] at ht
  have hxr:∀ z∈r,x.ck≤z.ck:=(List.pairwise_cons.1 (List.pairwise_append.1 ht).2.1).1
  have hpx:∀ z∈pre,z.ck≤x.ck:=fun z hz=>(List.pairwise_append.1 ht).2.2 z hz x (by simp)
  have hhere:∀ c∈rd x.e++((mk x.e++(go r).2).filter (isHd x.S)).map (·.2)++pt x.e,fr c≤x.ck∧x.ck≤to c:=fun c hc=>by
   rcases List.mem_append.1 hc with hc|hc
   ·rcases List.mem_append.1 hc with hc|hc
    ·cases he:x.e with
     |read c'=>rw [he] at hc;simp only [rd,List.mem_singleton] at hc;subst hc;exact (G.read x hx c he).2
     |_=>rw [he] at hc;cases hc
    ·obtain ⟨y,hy,e⟩:=List.mem_map.1 hc
     subst e
     rcases List.mem_append.1 (List.mem_filter.1 hy).1 with hy'|hy'
     ·cases he:x.e with
      |mark c i=>
       rw [he] at hy'
       simp only [mk,List.mem_singleton] at hy'
       subst hy'
       obtain ⟨_,_,g3,z,hz,_,g4⟩:=G.mark pre x r htr c i he
       refine ⟨?_,g3⟩
       rcases List.mem_append.1 hz with hz|hz
       ·have:=hpx z hz
        show fr c≤x.ck
        omega
       ·rw [List.mem_singleton.1 hz] at g4;exact g4
      |_=>rw [he] at hy';cases hy'
     ·obtain ⟨z,hz,_,g4⟩:=pend_wit r (pre++[x]) tr G htr' y hy'
      obtain ⟨_,g5⟩:=pend_mark r (pre++[x]) tr G htr' y hy'
      refine ⟨?_,g5 x (by simp)⟩
      rcases List.mem_append.1 hz with hz|hz
      ·have:=hpx z hz
       omega
      ·rw [List.mem_singleton.1 hz] at g4;exact g4
   ·cases he:x.e with
    |ins c' i=>rw [he] at hc;simp only [pt,List.mem_singleton] at hc;subst hc;exact (G.ins x hx c i he).2.2.2
    |_=>rw [he] at hc;cases hc
  refine ⟨fun c hc=>?_,?_⟩
  ·simp only [go] at hc
   rcases List.mem_append.1 hc with hc|hc
   ·exact ⟨x,by simp,hhere c hc⟩
   ·obtain ⟨z,hz,h⟩:=ih1 c hc
    exact ⟨z,by simp [hz],h⟩
  ·simp only [go]
   refine List.pairwise_append.2 ⟨List.Pairwise.imp_of_mem (R:=fun _ _=>True) (fun {a b} ha hb _=>?_) (List.pairwise_iff_getElem.2 fun _ _ _ _ _=>trivial),ih2,fun a ha b hb=>?_⟩
   ·have h1:=hhere a ha
    have h2:=hhere b hb
    omega
   ·have h1:=hhere a ha
    obtain ⟨z,hz,h2⟩:=ih1 b hb
    have:=hxr z hz
    omega
theorem go_perm:∀ suf:List Ent,List.Perm ((go suf).1++(go suf).2.map (·.2)) (suf.flatMap fun x=>callOf x.e)
 |[]=>List.Perm.refl _
 |x::r=>by
  have ih:=go_perm r
  have hp:List.Perm ((mk x.e++(go r).2).filter (isHd x.S)++(mk x.e++(go r).2).filter fun y=>!isHd x.S y) (mk x.e++(go r).2):=List.filter_append_perm _ _
  have hp2:=hp.map (fun y:Int×Nat=>y.2)
  simp only [List.map_append] at hp2
  simp only [go,List.flatMap_cons]
  have hcall:List.Perm (callOf x.e) (rd x.e++pt x.e++(mk x.e).map (·.2)):=by
   cases x.e<;>exact List.Perm.refl _
  refine List.Perm.trans ?_ ((hcall.append ih.symm).symm)
  rw [List.perm_iff_count] at hp2 ⊢
  intro a
  have:=hp2 a
  simp only [List.count_append] at this ⊢
  omega
theorem Good.lin {tr:List Ent} (G:Good key op fr to tr Sf):∃ lin:List Nat,lin.Nodup∧(∀ c,c∈lin↔c∈tr.flatMap fun x=>callOf x.e)∧runQ key op [] lin Sf∧lin.Pairwise fun a b=>fr a≤to b:=by
 have hp:(go tr).2=[]:=by
  cases h:(go tr).2 with
  |nil=>rfl
  |cons y l=>
   obtain ⟨z,hz,_⟩:=pend_wit tr [] tr G rfl y (by rw [h];simp)
   cases hz
 have h1:=go_perm tr
 rw [hp] at h1
 simp only [List.map_nil,List.append_nil] at h1
 refine ⟨(go tr).1,h1.nodup_iff.2 G.calls,fun c=>h1.mem_iff,?_,(go_time tr [] tr G rfl).2⟩
 have h2:=go_run tr [] tr G G.chain rfl
 rw [G.first] at h2
 exact h2
end
end Go.Ql
namespace Go.Ql
def Ch (f:Int→Int):Int→List Int→Prop
 |x,[]=>f x=-1
 |x,y::C=>f x=y∧Ch f y C
def Pth (f:Int→Int):Int→List Int→Int→Prop
 |x,[],y=>f x=y
 |x,a::A,y=>f x=a∧Pth f a A y
theorem Ch.split {f:Int→Int}:∀ {A:List Int} {x y:Int} {B:List Int},Ch f x (A++y::B)↔Pth f x A y∧Ch f y B
 |[],_,_,_=>.rfl
 |a::A,x,y,B=>by
  show (f x=a∧Ch f a (A++y::B))↔((f x=a∧Pth f a A y)∧Ch f y B)
  rw [Ch.split (A:=A)]
  exact (and_assoc).symm
theorem Ch.congr {f g:Int→Int}:∀ {C:List Int} {x:Int},(∀ z,z=x∨z∈C→g z=f z)→Ch f x C→Ch g x C
 |[],x,h,hc=>(h x (.inl rfl)).trans hc
 |y::C,x,h,hc=>⟨(h x (.inl rfl)).trans hc.1,Ch.congr (fun z hz=>h z (by rcases hz with rfl|hz;exact .inr (by simp);exact .inr (by simp [hz]))) hc.2⟩
theorem Pth.congr {f g:Int→Int}:∀ {A:List Int} {x y:Int},(∀ z,z=x∨z∈A→g z=f z)→Pth f x A y→Pth g x A y
 |[],x,_,h,hc=>(h x (.inl rfl)).trans hc
 |a::A,x,y,h,hc=>⟨(h x (.inl rfl)).trans hc.1,Pth.congr (fun z hz=>h z (by rcases hz with rfl|hz;exact .inr (by simp);exact .inr (by simp [hz]))) hc.2⟩
def updF {α:Type} (f:Int→α) (p:Int) (v:α) (x:Int):α:=if x=p then v else f x
theorem XX {α:Type} {f:Int→α} {p:Int} {v:α}:updF f p v p=v:=by simp [updF]
theorem XW {α:Type} {f:Int→α} {p x:Int} {v:α} (h:x≠p):updF f p v x=f x:=by simp [updF,h]
structure Lv (key:Int→Int) (f:Int→Int) (m:Int→Bool) (L:Int→Prop) (C:List Int):Prop where
 ch:Ch f (-1) C
 srt:C.Pairwise fun a b=>key a<key b
 lnk:∀ i∈C,0≤i∧L i
 all:∀ i,L i→m i=false→i∈C
 nxt:∀ i,i=-1∨L i→f i=-1∨(0≤f i∧L (f i)∧(i=-1∨key i<key (f i)))
 pos:∀ i,L i→0≤i
def liv (m:Int→Bool) (C:List Int):List Int:=C.filter fun i=>!m i
section
variable {key f:Int→Int} {m:Int→Bool} {L:Int→Prop} {C:List Int}
theorem Lv.nd (V:Lv key f m L C):C.Nodup:=sorted_nodup V.srt
theorem Lv.at (V:Lv key f m L C) {p:Int} (h:p=-1∨(L p∧m p=false)):∃ A B,C=A++B∧(p=-1∧A=[]∨∃ A',A=A'++[p]∧Pth f (-1) A' p)∧Ch f p B∧¬ p∈B∧(∀ x∈A,x≠p→¬ x∈B):=by
 rcases h with rfl|⟨h1,h2⟩
 ·exact ⟨[],C,rfl,.inl ⟨rfl,rfl⟩,V.ch,fun hm=>by have:=(V.lnk _ hm).1;omega,fun x hx=>by cases hx⟩
 ·obtain ⟨A,B,e⟩:=List.append_of_mem (V.all p h1 h2)
  have hc:=V.ch
  have hn:=V.nd
  rw [e] at hc hn
  obtain ⟨g1,g2⟩:=Ch.split.1 hc
  have hn2:=List.nodup_append.1 hn
  refine ⟨A++[p],B,by rw [e];simp,.inr ⟨A,rfl,g1⟩,g2,(List.nodup_cons.1 hn2.2.1).1,fun x hx hne hB=>?_⟩
  rcases List.mem_append.1 hx with hx|hx
  ·exact hn2.2.2 x hx x (by simp [hB]) rfl
  ·exact hne (List.mem_singleton.1 hx)
theorem Lv.mark (V:Lv key f m L C) (i:Int):Lv key f (updF m i true) L C∧liv (updF m i true) C=(liv m C).filter (·≠i):=by
 refine ⟨⟨V.ch,V.srt,V.lnk,fun x h1 h2=>V.all x h1 ?_,V.nxt,V.pos⟩,?_⟩
 ·unfold updF at h2
  by_cases e:x=i
  ·rw [if_pos e] at h2;cases h2
  ·rwa [if_neg e] at h2
 ·unfold liv
  rw [List.filter_filter]
  refine List.filter_congr fun x _=>?_
  by_cases e:x=i
  ·subst e;simp [updF]
  ·simp [updF,e]
theorem insK_mid {x:Int}:∀ {A B:List Int},(∀ a∈A,key a<key x)→(∀ b∈B,key x<key b)→insK key x (A++B)=A++x::B
 |[],B,_,hB=>by
  cases B with
  |nil=>rfl
  |cons b B=>show (if key x<key b then _ else _)=_;rw [if_pos (hB b (by simp))];rfl
 |a::A,B,hA,hB=>by
  have h1:=hA a (by simp)
  show (if key x<key a then _ else a::insK key x (A++B))=_
  rw [if_neg (by omega),insK_mid (fun b hb=>hA b (by simp [hb])) hB];rfl
theorem filter_insN {p:Int→Bool} {i:Int} (h:p i=false):∀ {S:List Int},(insK key i S).filter p=S.filter p
 |[]=>by simp [insK,h]
 |x::S=>by
  simp only [insK]
  by_cases c:key i<key x
  ·rw [if_pos c,List.filter_cons,h];rfl
  ·rw [if_neg c,List.filter_cons,List.filter_cons,filter_insN h]
theorem Lv.link (V:Lv key f m L C) {p x:Int} (hp:p=-1∨(L p∧m p=false)) (hx:¬ L x) (h0:0≤x) (hf:f x=f p) (h1:p=-1∨key p<key x) (h2:f p=-1∨key x<key (f p)):
  Lv key (updF f p x) m (fun i=>i=x∨L i) (insK key x C):=by
 obtain ⟨A,B,hC,hA,hB,hpB,hAB⟩:=V.at hp
 have hxp:x≠p:=by
  rcases hp with rfl|⟨g,_⟩
  ·omega
  ·exact fun e=>hx (e ▸ g)
 have hxC:¬ x∈C:=fun h=>hx (V.lnk x h).2
 have hsrt:=V.srt
 rw [hC] at hsrt
 have hs:=List.pairwise_append.1 hsrt
 have hAx:∀ a∈A,key a<key x:=fun a ha=>by
  rcases hA with ⟨_,rfl⟩|⟨A',rfl,_⟩
  ·cases ha
  ·have hpx:key p<key x:=by
    rcases h1 with rfl|h1
    ·have:(-1:Int)∈C:=by rw [hC];simp
     have:=(V.lnk _ this).1
     omega
    ·exact h1
   rcases List.mem_append.1 ha with ha|ha
   ·have:=(List.pairwise_append.1 hs.1).2.2 a ha p (by simp)
    omega
   ·rw [List.mem_singleton.1 ha];exact hpx
 have hxB:∀ b∈B,key x<key b:=fun b hb=>by
  cases B with
  |nil=>cases hb
  |cons y B=>
   have e:f p=y:=hB.1
   have hy:(0:Int)≤y:=(V.lnk y (by rw [hC];simp)).1
   have hxy:key x<key y:=by
    rcases h2 with h2|h2
    ·omega
    ·rwa [e] at h2
   rcases List.mem_cons.1 hb with rfl|hb
   ·exact hxy
   ·have:=(List.pairwise_cons.1 hs.2.1).1 b hb
    omega
 have hins:insK key x C=A++x::B:=by rw [hC];exact insK_mid hAx hxB
 have hchB:Ch (updF f p x) x B:=by
  cases B with
  |nil=>
   show updF f p x x=-1
   rw [XW hxp,hf];exact hB
  |cons y B=>
   refine ⟨by rw [XW hxp,hf];exact hB.1,Ch.congr (fun z hz=>XW fun e=>hpB ?_) hB.2⟩
   subst e
   rcases hz with e|hz
   ·rw [e];simp
   ·simp [hz]
 rw [hins]
 refine ⟨?_,?_,fun i hi=>?_,fun i hi hm=>?_,fun i hi=>?_,fun i hi=>?_⟩
 ·rcases hA with ⟨rfl,rfl⟩|⟨A',rfl,hP⟩
  ·exact ⟨XX,hchB⟩
  ·rw [List.append_assoc]
   refine Ch.split.2 ⟨Pth.congr (fun z hz=>XW fun e=>?_) hP,XX,hchB⟩
   subst e
   rcases hz with e|hz
   ·have:z∈C:=by rw [hC];simp
    have:=(V.lnk z this).1
    omega
   ·exact (List.nodup_append.1 (List.nodup_append.1 (hC ▸ V.nd)).1).2.2 z hz z (by simp) rfl
 ·refine List.pairwise_append.2 ⟨hs.1,List.pairwise_cons.2 ⟨hxB,hs.2.1⟩,fun a ha b hb=>?_⟩
  rcases List.mem_cons.1 hb with rfl|hb
  ·exact hAx a ha
  ·exact hs.2.2 a ha b hb
 ·rcases List.mem_append.1 hi with hi|hi
  ·have:=V.lnk i (by rw [hC];simp [hi])
   exact ⟨this.1,.inr this.2⟩
  ·rcases List.mem_cons.1 hi with rfl|hi
   ·exact ⟨h0,.inl rfl⟩
   ·have:=V.lnk i (by rw [hC];simp [hi])
    exact ⟨this.1,.inr this.2⟩
 ·rcases hi with rfl|hi
  ·simp
  ·have:=V.all i hi hm
   rw [hC] at this
   rcases List.mem_append.1 this with h|h
   ·simp [h]
   ·simp [h]
 ·by_cases e:i=p
  ·subst e
   rw [XX]
   exact .inr ⟨h0,.inl rfl,h1⟩
  ·rw [XW e]
   by_cases e2:i=x
   ·subst e2
    rw [hf]
    have hpp:p=-1∨L p:=hp.imp id And.left
    rcases V.nxt p hpp with h|⟨g1,g2,_⟩
    ·exact .inl h
    ·refine .inr ⟨g1,.inr g2,.inr ?_⟩
     rcases h2 with h2|h2
     ·omega
     ·exact h2
   ·have:i=-1∨L i:=by
     rcases hi with h|h|h
     ·exact .inl h
     ·exact absurd h e2
     ·exact .inr h
    rcases V.nxt i this with h|⟨g1,g2,g3⟩
    ·exact .inl h
    ·exact .inr ⟨g1,.inr g2,g3⟩
 ·rcases hi with rfl|hi
  ·exact h0
  ·exact V.pos i hi
theorem liv_link (V:Lv key f m L C) {x:Int} (hm:m x=false):liv m (insK key x C)=insK key x (liv m C):=filter_ins (by simp [hm]) V.srt
theorem Lv.unlink (V:Lv key f m L C) {p c:Int} (hp:p=-1∨(L p∧m p=false)) (hc:f p=c) (h0:c≠-1) (hm:m c=true):
  Lv key (updF f p (f c)) m L (C.filter (·≠c))∧liv m (C.filter (·≠c))=liv m C:=by
 obtain ⟨A,B,hC,hA,hB,hpB,hAB⟩:=V.at hp
 have hB':∃ B',B=c::B':=by
  cases B with
  |nil=>exact absurd (hc.symm.trans hB) h0
  |cons y B=>exact ⟨B,by rw [hB.1.symm.trans hc]⟩
 obtain ⟨B',rfl⟩:=hB'
 have hnd:=V.nd
 rw [hC] at hnd
 have hn:=List.nodup_append.1 hnd
 have hcB:¬ c∈B':=(List.nodup_cons.1 hn.2.1).1
 have hcA:¬ c∈A:=fun h=>hn.2.2 c h c (by simp) rfl
 have hfil:C.filter (·≠c)=A++B':=by
  rw [hC,List.filter_append,List.filter_cons]
  have e1:A.filter (·≠c)=A:=List.filter_eq_self.2 fun a ha=>decide_eq_true (fun e:a=c=>hcA (e ▸ ha))
  have e2:B'.filter (·≠c)=B':=List.filter_eq_self.2 fun a ha=>decide_eq_true (fun e:a=c=>hcB (e ▸ ha))
  rw [e1,e2];simp
 have hcp:c≠p:=fun e=>hpB (by rw [← e];simp)
 have hch:Ch (updF f p (f c)) p B':=by
  cases B' with
  |nil=>show updF f p (f c) p=-1;rw [XX];exact hB.2
  |cons y B'=>
   refine ⟨by rw [XX];exact hB.2.1,Ch.congr (fun z hz=>XW fun e=>hpB ?_) hB.2.2⟩
   subst e
   rcases hz with e|hz
   ·rw [e];simp
   ·simp [hz]
 have hlC:∀ i∈A++B',i∈C:=fun i hi=>by
  rw [hC]
  rcases List.mem_append.1 hi with h|h
  ·simp [h]
  ·simp [h]
 refine ⟨?_,?_⟩
 ·rw [hfil]
  refine ⟨?_,?_,fun i hi=>V.lnk i (hlC i hi),fun i hi h2=>?_,fun i hi=>?_,V.pos⟩
  ·rcases hA with ⟨rfl,rfl⟩|⟨A',rfl,hP⟩
   ·exact hch
   ·rw [List.append_assoc]
    refine Ch.split.2 ⟨Pth.congr (fun z hz=>XW fun e=>?_) hP,hch⟩
    subst e
    rcases hz with e|hz
    ·have:z∈C:=by rw [hC];simp
     have:=(V.lnk z this).1
     omega
    ·exact (List.nodup_append.1 hn.1).2.2 z hz z (by simp) rfl
  ·have:=V.srt
   rw [← hfil]
   exact this.sublist (List.filter_sublist)
  ·have h3:=V.all i hi h2
   have h4:i≠c:=fun e=>by rw [e,hm] at h2;cases h2
   rw [← hfil]
   exact List.mem_filter.2 ⟨h3,by simpa using h4⟩
  ·by_cases e:i=p
   ·subst e
    rw [XX]
    have hcL:L c:=(V.lnk c (by rw [hC];simp)).2
    rcases V.nxt c (.inr hcL) with h|⟨g1,g2,g3⟩
    ·exact .inl h
    ·refine .inr ⟨g1,g2,?_⟩
     rcases V.nxt i hi with h|⟨_,_,h⟩
     ·rw [hc] at h;exact absurd h h0
     ·rcases h with h|h
      ·exact .inl h
      ·rcases g3 with g3|g3
       ·exact absurd g3 h0
       ·rw [hc] at h;exact .inr (by omega)
   ·rw [XW e];exact V.nxt i hi
 ·unfold liv
  rw [List.filter_filter]
  refine List.filter_congr fun x _=>?_
  by_cases e:x=c
  ·subst e;simp [hm]
  ·simp [e]
end
end Go.Ql
namespace Go.Ql
structure Fd where
 ln:Nat
 lv:Nat
 p:Int
 c:Int
 w:Int
 told:Nat→Int×Int
def Fd.down (x:Fd):Fd:={x with ln:=if x.lv=0 then 9 else 1,lv:=x.lv - 1,told:=fun l=>if l=x.lv then (x.p,x.c) else x.told l}
def Fd.looks (x:Fd):Fd:=if x.c=-1 then x.down else {x with ln:=2}
def Fd.anew (H:Nat) (x:Fd):Fd:={x with ln:=1,lv:=H - 1,p:=-1}
def fstep (H:Nat) (key:Int→Int) (k:Int) (nx:Nat→Int→Int) (mk:Nat→Int→Bool) (x:Fd):(Nat→Int→Int)×Fd:=
 if x.ln=1 then (nx,if mk x.lv x.p then x.anew H else {x with c:=nx x.lv x.p}.looks)
 else if x.ln=2 then (nx,{x with w:=nx x.lv x.c,ln:=if mk x.lv x.c then 3 else 4})
 else if x.ln=3 then
  if nx x.lv x.p=x.c∧mk x.lv x.p=false then (fun l=>if l=x.lv then updF (nx l) x.p x.w else nx l,{x with c:=x.w}.looks) else (nx,x.anew H)
 else if x.ln=4 then (nx,if key x.c≥k then x.down else {x with p:=x.c,c:=x.w}.looks)
 else (nx,x)
structure SInv (H:Nat) (N:Int) (key:Int→Int) (high:Int→Nat) (nx:Nat→Int→Int) (mk:Nat→Int→Bool) (lev:Int→Nat) (C:Nat→List Int):Prop where
 lv:∀ l,l<H→Lv key (nx l) (mk l) (fun i=>0≤i∧i<N∧l<lev i) (C l)
 lh:∀ i,lev i≤high i
 hh:∀ i,high i≤H
 hd:∀ l,mk l (-1)=false
 dn:∀ i l,l+1<high i→mk l i=true→mk (l+1) i=true
def lkd (N:Int) (lev:Int→Nat) (l:Nat) (i:Int):Prop:=0≤i∧i<N∧l<lev i
def pOK (N:Int) (key:Int→Int) (k:Int) (lev:Int→Nat) (l:Nat) (p:Int):Prop:=p=-1∨(lkd N lev l p∧key p<k)
def sOK (N:Int) (key:Int→Int) (k:Int) (lev:Int→Nat) (l:Nat) (c:Int):Prop:=c=-1∨(lkd N lev l c∧k≤key c)
def bOK (key:Int→Int) (p c:Int):Prop:=p=-1∨key p<key c
structure FInv (H:Nat) (N:Int) (key:Int→Int) (k:Int) (nx:Nat→Int→Int) (mk:Nat→Int→Bool) (lev:Int→Nat) (x:Fd):Prop where
 tld:∀ l,l<H→(x.lv<l∨x.ln=9)→pOK N key k lev l (x.told l).1∧sOK N key k lev l (x.told l).2
 lt:x.lv<H
 pl:x.ln≠9→pOK N key k lev x.lv x.p
 cl:x.ln=2∨x.ln=3∨x.ln=4→lkd N lev x.lv x.c∧bOK key x.p x.c
 l3:x.ln=3→mk x.lv x.c=true∧x.w=nx x.lv x.c
 l4:x.ln=4→x.w=-1∨(lkd N lev x.lv x.w∧key x.c<key x.w)
 ln:x.ln=1∨x.ln=2∨x.ln=3∨x.ln=4∨x.ln=9
section
variable {H:Nat} {N k:Int} {key:Int→Int} {high:Int→Nat} {nx:Nat→Int→Int} {mk:Nat→Int→Bool} {lev:Int→Nat} {C:Nat→List Int} {x:Fd}
theorem pOK.dn {l:Nat} {p:Int} (h:pOK N key k lev (l+1) p):pOK N key k lev l p:=by
 rcases h with h|⟨⟨a,b,c⟩,d⟩
 ·exact .inl h
 ·exact .inr ⟨⟨a,b,by omega⟩,d⟩
theorem FInv.down (hlt:x.lv<H) (ht:∀ l,l<H→x.lv<l→pOK N key k lev l (x.told l).1∧sOK N key k lev l (x.told l).2) (hp:pOK N key k lev x.lv x.p) (hc:sOK N key k lev x.lv x.c):FInv H N key k nx mk lev x.down:=by
 have hn:∀ l,l<H→x.lv≤l→pOK N key k lev l (x.down.told l).1∧sOK N key k lev l (x.down.told l).2:=fun l hl h=>by
  show pOK N key k lev l (if l=x.lv then (x.p,x.c) else x.told l).1∧sOK N key k lev l (if l=x.lv then (x.p,x.c) else x.told l).2
  by_cases e:l=x.lv
  ·subst e;rw [if_pos rfl];exact ⟨hp,hc⟩
  ·rw [if_neg e];exact ht l hl (by omega)
 by_cases z:x.lv=0
 ·have e:x.down.ln=9:=if_pos z
  refine ⟨fun l hl _=>hn l hl (by omega),by show x.lv - 1<H;omega,fun h=>absurd e h,fun h=>?_,fun h=>?_,fun h=>?_,.inr (.inr (.inr (.inr e)))⟩
  ·rw [e] at h;omega
  ·rw [e] at h;omega
  ·rw [e] at h;omega
 ·have e:x.down.ln=1:=if_neg z
  refine ⟨fun l hl h=>hn l hl ?_,by show x.lv - 1<H;omega,fun _=>?_,fun h=>?_,fun h=>?_,fun h=>?_,.inl e⟩
  ·rcases h with h|h
   ·have h:x.lv - 1<l:=h
    omega
   ·rw [e] at h;omega
  ·show pOK N key k lev (x.lv - 1) x.p
   have:x.lv=(x.lv - 1)+1:=by omega
   rw [this] at hp
   exact hp.dn
  ·rw [e] at h;omega
  ·rw [e] at h;omega
  ·rw [e] at h;omega
theorem FInv.looks (hlt:x.lv<H) (ht:∀ l,l<H→x.lv<l→pOK N key k lev l (x.told l).1∧sOK N key k lev l (x.told l).2) (hp:pOK N key k lev x.lv x.p) (hc:x.c=-1∨(lkd N lev x.lv x.c∧bOK key x.p x.c)):FInv H N key k nx mk lev x.looks:=by
 unfold Fd.looks
 by_cases e:x.c=-1
 ·rw [if_pos e];exact FInv.down hlt ht hp (.inl e)
 ·rw [if_neg e]
  refine ⟨fun l hl h=>ht l hl ?_,hlt,fun _=>hp,fun _=>hc.resolve_left e,fun h=>?_,fun h=>?_,.inr (.inl rfl)⟩
  ·rcases h with h|h
   ·exact h
   ·cases h
  ·cases h
  ·cases h
theorem FInv.anew (h:0<H):FInv H N key k nx mk lev (x.anew H):=by
 refine ⟨fun l hl h2=>?_,by show H - 1<H;omega,fun _=>.inl rfl,fun h=>?_,fun h=>?_,fun h=>?_,.inl rfl⟩
 ·rcases h2 with h2|h2
  ·have h2:H - 1<l:=h2
   omega
  ·cases h2
 ·rcases h with h|h|h<;>cases h
 ·cases h
 ·cases h
theorem fstep_ok (V:SInv H N key high nx mk lev C) (I:FInv H N key k nx mk lev x):∃ C',SInv H N key high (fstep H key k nx mk x).1 mk lev C'∧(∀ l,l<H→liv (mk l) (C' l)=liv (mk l) (C l))∧FInv H N key k (fstep H key k nx mk x).1 mk lev (fstep H key k nx mk x).2:=by
 have hlt:=I.lt
 have ht:∀ l,l<H→x.lv<l→pOK N key k lev l (x.told l).1∧sOK N key k lev l (x.told l).2:=fun l hl h=>I.tld l hl (.inl h)
 have hV:=V.lv x.lv hlt
 rcases I.ln with e|e|e|e|e
 ·
  have hp:=I.pl (by omega)
  unfold fstep
  rw [if_pos e]
  refine ⟨C,V,fun _ _=>rfl,?_⟩
  cases hm:mk x.lv x.p with
  |true=>simp only [if_true];exact FInv.anew (by omega)
  |false=>
   simp only [Bool.false_eq_true,if_false]
   refine FInv.looks (x:={x with c:=nx x.lv x.p}) hlt ht hp ?_
   rcases hV.nxt x.p (hp.imp id And.left) with h|⟨h1,h2,h3⟩
   ·exact .inl h
   ·exact .inr ⟨h2,h3⟩
 ·
  obtain ⟨hc,hb⟩:=I.cl (.inl e)
  unfold fstep
  rw [if_neg (by omega),if_pos e]
  refine ⟨C,V,fun _ _=>rfl,fun l hl h=>?_,hlt,fun _=>I.pl (by omega),fun _=>⟨hc,hb⟩,fun h=>?_,fun h=>?_,?_⟩
  ·rcases h with h|h
   ·exact ht l hl h
   ·have h:(if mk x.lv x.c=true then 3 else 4)=9:=h
    split at h<;>cases h
  ·have h:(if mk x.lv x.c=true then 3 else 4)=3:=h
   refine ⟨?_,rfl⟩
   cases hm:mk x.lv x.c with
   |true=>rfl
   |false=>rw [hm] at h;cases h
  ·rcases hV.nxt x.c (.inr hc) with g|⟨g1,g2,g3⟩
   ·exact .inl g
   ·refine .inr ⟨g2,?_⟩
    rcases g3 with g3|g3
    ·have:=hc.1;omega
    ·exact g3
  ·show (if mk x.lv x.c=true then 3 else 4)=1∨_
   cases mk x.lv x.c
   ·exact .inr (.inr (.inr (.inl rfl)))
   ·exact .inr (.inr (.inl rfl))
 ·
  obtain ⟨hc,hb⟩:=I.cl (.inr (.inl e))
  obtain ⟨hm,hw⟩:=I.l3 e
  have hp:=I.pl (by omega)
  unfold fstep
  rw [if_neg (by omega),if_neg (by omega),if_pos e]
  by_cases g:nx x.lv x.p=x.c∧mk x.lv x.p=false
  ·rw [if_pos g]
   have hpp:x.p=-1∨((0≤x.p∧x.p<N∧x.lv<lev x.p)∧mk x.lv x.p=false):=hp.imp id fun h=>⟨h.1,g.2⟩
   obtain ⟨u1,u2⟩:=hV.unlink hpp g.1 (by have:=hc.1;omega) hm
   rw [← hw] at u1
   refine ⟨fun l=>if l=x.lv then (C l).filter (·≠x.c) else C l,⟨fun l hl=>?_,V.lh,V.hh,V.hd,V.dn⟩,fun l hl=>?_,?_⟩
   ·by_cases el:l=x.lv
    ·subst el;simp only [if_true];exact u1
    ·simp only [if_neg el];exact V.lv l hl
   ·by_cases el:l=x.lv
    ·subst el;simp only [if_true];exact u2
    ·simp only [if_neg el]
   ·refine FInv.looks (x:={x with c:=x.w}) hlt ht hp ?_
    show x.w=-1∨_
    rcases hV.nxt x.c (.inr hc) with h|⟨h1,h2,h3⟩
    ·exact .inl (by rw [hw];exact h)
    ·refine .inr ⟨by rw [hw];exact h2,?_⟩
     rcases hb with hb|hb
     ·exact .inl hb
     ·rcases h3 with h3|h3
      ·have:=hc.1;omega
      ·exact .inr (by show key x.p<key x.w;rw [hw];omega)
  ·rw [if_neg g]
   exact ⟨C,V,fun _ _=>rfl,FInv.anew (by omega)⟩
 ·
  obtain ⟨hc,hb⟩:=I.cl (.inr (.inr e))
  have hp:=I.pl (by omega)
  unfold fstep
  rw [if_neg (by omega),if_neg (by omega),if_neg (by omega),if_pos e]
  refine ⟨C,V,fun _ _=>rfl,?_⟩
  by_cases g:key x.c≥k
  ·simp only [if_pos g]
   exact FInv.down hlt ht hp (.inr ⟨hc,g⟩)
  ·simp only [if_neg g]
   refine FInv.looks (x:={x with p:=x.c,c:=x.w}) hlt ht (.inr ⟨hc,by show key x.c<k;omega⟩) ?_
   rcases I.l4 e with h|⟨h1,h2⟩
   ·exact .inl h
   ·exact .inr ⟨h1,.inr h2⟩
 ·unfold fstep
  rw [if_neg (by omega),if_neg (by omega),if_neg (by omega),if_neg (by omega)]
  exact ⟨C,V,fun _ _=>rfl,I⟩
end
end Go.Ql
