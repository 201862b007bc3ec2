/- A history grows: by an act; by what is known of an act later. -/
import Derived.Test.YtpnpmkdijmeddaaGreatScD4
import Derived.Test.YtpnpmkdijmeddaaGreatScU6
set_option maxRecDepth 100000
namespace Go.Ql
def XT (tr:List Ent):List Nat:=tr.flatMap fun x=>callOf x.e
section
variable {key:Int→Int} {op op':Nat→Op} {fr to fr' to':Nat→Int} {Sf:List Int} {tr:List Ent}
theorem Good.mono (G:Good key op fr to tr Sf) (h:∀ c∈XT tr,op' c=op c∧fr' c=fr c∧to c≤to' c):Good key op' fr' to' tr Sf:=by
 have hc:∀ x∈tr,∀ c,c∈callOf x.e→op' c=op c∧fr' c=fr c∧to c≤to' c:=fun x hx c hc=>h c (List.mem_flatMap.2 ⟨x,hx,hc⟩)
 refine ⟨G.chain,G.first,G.sorted,G.times,G.calls,fun x hx c i e=>?_,fun x hx c e=>?_,fun pre x suf ht c i e=>?_,G.fresh⟩
 ·obtain ⟨g1,g2,g3⟩:=hc x hx c (by rw [e];simp [callOf])
  obtain ⟨a,b,d,k,l⟩:=G.ins x hx c i e
  exact ⟨g1.trans a,b,d,by rw [g2];exact k,by omega⟩
 ·obtain ⟨g1,g2,g3⟩:=hc x hx c (by rw [e];simp [callOf])
  obtain ⟨a,k,l⟩:=G.read x hx c e
  exact ⟨by rw [g1];exact a,by rw [g2];exact k,by omega⟩
 ·obtain ⟨g1,g2,g3⟩:=hc x (by rw [ht];simp) c (by rw [e];simp [callOf])
  obtain ⟨a,b,k,y,hy,h1,h2⟩:=G.mark pre x suf ht c i e
  exact ⟨g1.trans a,b,by omega,y,hy,h1,by rw [g2];exact h2⟩
theorem Chain.snoc {z:Ent}:∀ {tr:List Ent},Chain key tr z.S→Chain key (tr++[z]) (after key z.S z.e)
 |[],_=>rfl
 |[_x],h=>⟨h,rfl⟩
 |_x::y::r,h=>⟨h.1,Chain.snoc (tr:=y::r) h.2⟩
theorem split_snoc {z x:Ent} {pre suf:List Ent} (h:tr++[z]=pre++x::suf):(suf=[]∧x=z∧pre=tr)∨∃ s,suf=s++[z]∧tr=pre++x::s:=by
 rcases List.eq_nil_or_concat suf with rfl|⟨s,w,rfl⟩
 ·have:=List.append_inj' h rfl
  exact .inl ⟨rfl,by simpa using this.2.symm,this.1.symm⟩
 ·have h2:tr++[z]=(pre++x::s)++[w]:=by rw [h];simp
  have:=List.append_inj' h2 rfl
  exact .inr ⟨s,by simp at this;rw [this.2];simp,this.1⟩
theorem Good.snoc (G:Good key op fr to tr Sf) {ck:Int} {e:Ev} (hck:∀ x∈tr,x.ck≤ck) (hs:Sf.Pairwise fun a b=>key a<key b) (hc:∀ c∈callOf e,¬ c∈XT tr)
  (hi:∀ c i,e=.ins c i→op c=.put i∧¬ i∈Sf∧(∀ y∈Sf,key y≠key i)∧fr c≤ck∧ck≤to c∧∀ y∈tr,¬ i∈y.S)
  (hr:∀ c,e=.read c→(op c=.look Sf.head?∨(op c=.pick none∧Sf=[]))∧fr c≤ck∧ck≤to c)
  (hm:∀ c i,e=.mark c i→op c=.pick (some i)∧i∈Sf∧ck≤to c∧∃ y∈tr,y.S.head?=some i∧fr c≤y.ck):Good key op fr to (tr++[⟨ck,Sf,e⟩]) (after key Sf e):=by
 have hmem:∀ x∈tr++[(⟨ck,Sf,e⟩:Ent)],x∈tr∨x=⟨ck,Sf,e⟩:=fun x hx=>by simpa using hx
 refine ⟨Chain.snoc (z:=⟨ck,Sf,e⟩) G.chain,?_,fun x hx=>?_,?_,?_,fun x hx c i he=>?_,fun x hx c he=>?_,fun pre x suf ht c i he=>?_,fun pre x suf ht c i he=>?_⟩
 ·have:=G.first
  cases tr with
  |nil=>exact this
  |cons y r=>exact this
 ·rcases hmem x hx with h|h
  ·exact G.sorted x h
  ·rw [h];exact hs
 ·refine List.pairwise_append.2 ⟨G.times,by simp,fun a ha b hb=>?_⟩
  rw [List.mem_singleton.1 hb];exact hck a ha
 ·show (XT (tr++[_])).Nodup
  unfold XT
  rw [List.flatMap_append]
  refine List.nodup_append.2 ⟨G.calls,?_,fun a ha b hb=>?_⟩
  ·show (callOf e++[]).Nodup
   cases e<;>simp [callOf]
  ·have hb:b∈callOf e:=by simpa using hb
   exact fun h=>hc b hb (h ▸ ha)
 ·rcases hmem x hx with h|h
  ·exact G.ins x h c i he
  ·rw [h] at he ⊢
   obtain ⟨a,b,d,k,l,_⟩:=hi c i he
   exact ⟨a,b,d,k,l⟩
 ·rcases hmem x hx with h|h
  ·exact G.read x h c he
  ·rw [h] at he ⊢
   exact hr c he
 ·rcases split_snoc ht with ⟨h1,h2,h3⟩|⟨s,h1,h2⟩
  ·subst h1;subst h2;subst h3
   obtain ⟨a,b,d,y,hy,g1,g2⟩:=hm c i he
   exact ⟨a,b,d,y,by simp [hy],g1,g2⟩
  ·exact G.mark pre x s h2 c i he
 ·rcases split_snoc ht with ⟨h1,h2,h3⟩|⟨s,h1,h2⟩
  ·subst h1;subst h2;subst h3
   exact (hi c i he).2.2.2.2.2
  ·exact G.fresh pre x s h2 c i he
theorem Chain.rep {x:Ent} {c:Nat} (hx:x.e=.tau):∀ {pre suf:List Ent} {Sf:List Int},Chain key (pre++x::suf) Sf→Chain key (pre++{x with e:=.read c}::suf) Sf
 |[],[],_,h=>by have h:after key x.S x.e=_:=h;rw [hx] at h;exact h
 |[],y::r,_,h=>by
  have h1:after key x.S x.e=y.S:=h.1
  rw [hx] at h1
  exact ⟨h1,h.2⟩
 |[p],suf,Sf,h=>⟨h.1,Chain.rep hx (pre:=[]) (suf:=suf) h.2⟩
 |p::q::r,suf,Sf,h=>⟨h.1,Chain.rep hx (pre:=q::r) (suf:=suf) h.2⟩
theorem split_rep {_x x' y:Ent} {pre suf p s:List Ent} (h:pre++x'::suf=p++y::s):y=x'∨(∃ a,p++y::a=pre∧s=a++x'::suf)∨∃ b,p=pre++x'::b∧suf=b++y::s:=by
 rcases List.append_eq_append_iff.1 h with ⟨a,h1,h2⟩|⟨a,h1,h2⟩
 ·cases a with
  |nil=>simp at h2;exact .inl h2.1.symm
  |cons z a=>
   simp at h2
   exact .inr (.inr ⟨a,by rw [h1,h2.1],h2.2⟩)
 ·cases a with
  |nil=>simp at h2;exact .inl h2.1
  |cons z a=>
   simp at h2
   exact .inr (.inl ⟨a,by rw [h1,h2.1],h2.2⟩)
theorem callsT_rep {x:Ent} {c d:Nat} {pre suf:List Ent} (hx:x.e=.tau):d∈XT (pre++{x with e:=.read c}::suf)↔d=c∨d∈XT (pre++x::suf):=by
 unfold XT
 simp only [List.flatMap_append,List.flatMap_cons,List.mem_append,hx,callOf,List.mem_singleton,List.not_mem_nil,false_or]
 constructor
 ·rintro (h|h|h)<;>simp [h]
 ·rintro (h|h|h)<;>simp [h]
theorem Good.rep {pre suf:List Ent} {x:Ent} {c:Nat} (G:Good key op fr to (pre++x::suf) Sf) (hx:x.e=.tau) (hc:¬ c∈XT (pre++x::suf)) (ho:op c=.look x.S.head?) (hf:fr c≤x.ck) (ht:x.ck≤to c):
  Good key op fr to (pre++{x with e:=.read c}::suf) Sf:=by
 have hmem:∀ y∈pre++({x with e:=.read c}:Ent)::suf,y={x with e:=.read c}∨y∈pre++x::suf:=fun y hy=>by
  rcases List.mem_append.1 hy with h|h
  ·exact .inr (by simp [h])
  ·rcases List.mem_cons.1 h with h|h
   ·exact .inl h
   ·exact .inr (by simp [h])
 refine ⟨Chain.rep hx G.chain,?_,fun y hy=>?_,?_,?_,fun y hy d i he=>?_,fun y hy d he=>?_,fun p y s hs d i he=>?_,fun p y s hs d i he=>?_⟩
 ·have:=G.first
  cases pre with
  |nil=>exact this
  |cons z r=>exact this
 ·rcases hmem y hy with h|h
  ·rw [h];exact G.sorted x (by simp)
  ·exact G.sorted y h
 ·have h:=G.times
  rw [List.pairwise_append,List.pairwise_cons] at h ⊢
  refine ⟨h.1,⟨fun z hz=>h.2.1.1 z hz,h.2.1.2⟩,fun a ha b hb=>?_⟩
  rcases List.mem_cons.1 hb with e|e
  ·rw [e];exact h.2.2 a ha x (by simp)
  ·exact h.2.2 a ha b (by simp [e])
 ·have h1:=G.calls
  have hp:List.Perm ((pre++({x with e:=.read c}:Ent)::suf).flatMap fun x=>callOf x.e) (c::((pre++x::suf).flatMap fun x=>callOf x.e)):=by
   simp only [List.flatMap_append,List.flatMap_cons,hx,callOf,List.nil_append]
   exact List.perm_middle
  exact hp.nodup_iff.2 (List.nodup_cons.2 ⟨hc,h1⟩)
 ·rcases hmem y hy with h|h
  ·rw [h] at he;cases he
  ·exact G.ins y h d i he
 ·rcases hmem y hy with h|h
  ·rw [h] at he ⊢
   have:c=d:=by injection he
   subst this
   exact ⟨.inl ho,hf,ht⟩
  ·exact G.read y h d he
 ·rcases split_rep (_x:=x) hs with h|⟨a,h1,h2⟩|⟨b,h1,h2⟩
  ·rw [h] at he;cases he
  ·obtain ⟨k1,k2,k3,k4⟩:=G.mark p y (a++x::suf) (by rw [← h1];simp) d i he
   exact ⟨k1,k2,k3,k4⟩
  ·obtain ⟨k1,k2,k3,z,hz,k5,k6⟩:=G.mark (pre++x::b) y s (by rw [h2];simp) d i he
   refine ⟨k1,k2,k3,?_⟩
   rw [h1]
   by_cases e:z=x
   ·exact ⟨{x with e:=.read c},by simp,by rw [e] at k5;exact k5,by rw [e] at k6;exact k6⟩
   ·refine ⟨z,?_,k5,k6⟩
    rcases List.mem_append.1 hz with hz|hz
    ·rcases List.mem_append.1 hz with hz|hz
     ·simp [hz]
     ·rcases List.mem_cons.1 hz with hz|hz
      ·exact absurd hz e
      ·simp [hz]
    ·simp at hz;simp [hz]
 ·rcases split_rep (_x:=x) hs with h|⟨a,h1,h2⟩|⟨b,h1,h2⟩
  ·rw [h] at he;cases he
  ·exact G.fresh p y (a++x::suf) (by rw [← h1];simp) d i he
  ·have:=G.fresh (pre++x::b) y s (by rw [h2];simp) d i he
   intro z hz
   rw [h1] at hz
   rcases List.mem_append.1 hz with hz|hz
   ·exact this z (by simp [hz])
   ·rcases List.mem_cons.1 hz with hz|hz
    ·rw [hz];exact this x (by simp)
    ·exact this z (by simp [hz])
end
end Go.Ql
namespace Go.Sx
open Go.Ql (SInv FInv fstep updF XX XW lkd RW liv Ch)
theorem nodup_leC:∀ (n:Nat) (l:List Nat),l.Nodup→(∀ i∈l,i<n)→l.length≤n
 |0,l,_,h=>by
  cases l with
  |nil=>exact Nat.le_refl _
  |cons x l=>exact absurd (h x (by simp)) (Nat.not_lt_zero _)
 |n+1,l,hn,h=>by
  have h1:=nodup_leC n (l.filter (·≠n)) (hn.sublist List.filter_sublist) (fun i hi=>by
   have h2:=List.mem_filter.1 hi
   have h3:=h i h2.1
   have h4:i≠n:=by simpa using h2.2
   omega)
  have h2:l.length≤(l.filter (·≠n)).length+1:=by
   have h3:(l.filter (·=n)).length≤1:=by
    have h5:(l.filter (·=n)).Nodup:=hn.sublist List.filter_sublist
    have h6:∀ x∈l.filter (·=n),x=n:=fun x hx=>by simpa using (List.mem_filter.1 hx).2
    cases hq:l.filter (·=n) with
    |nil=>simp
    |cons a q=>
     cases q with
     |nil=>simp
     |cons b q=>
      rw [hq] at h5 h6
      have ha:=h6 a (by simp)
      have hb:=h6 b (by simp)
      simp [ha,hb] at h5
   have h4:∀ l:List Nat,l.length=(l.filter (·=n)).length+(l.filter (·≠n)).length:=fun l=>by
    induction l with
    |nil=>rfl
    |cons x l ih=>by_cases e:x=n<;>simp [e] at ih ⊢<;>omega
   have:=h4 l
   omega
  omega
theorem Ch.get {f:Int→Int}:∀ {C:List Int} {p:Int},Ch f p C→f p=C.getD 0 (-1)∧∀ j,j<C.length→f (C.getD j (-1))=C.getD (j+1) (-1)
 |[],_,h=>⟨h,fun j hj=>absurd hj (Nat.not_lt_zero _)⟩
 |a::A,p,h=>⟨h.1,fun j hj=>by
  obtain ⟨h1,h2⟩:=Ch.get (C:=A) h.2
  cases j with
  |zero=>exact h1
  |succ j=>exact h2 j (by simp at hj;omega)⟩
section
variable {n H:Nat} {ks hs ws:List Int} {nx:Nat→Int→Int} {mk:Nat→Int→Bool} {lev:Int→Nat} {C:Nat→List Int}
theorem ad_sz (g:Geo n H) {i:Int} (h:i=-1∨(0≤i∧i<n)):ad n H 0 i<(szW n H).toNat:=by
 rw [ad_val]
 obtain ⟨g1,g2,g3,g4⟩:=id g
 unfold szW
 by_cases e:i=-1
 ·rw [if_pos e];rcases g.h with rfl|rfl|rfl|rfl<;>omega
 ·rw [if_neg e]
  have h:=h.resolve_left e
  rcases g.h with rfl|rfl|rfl|rfl<;>omega
theorem w0_eq (W:WI n H ks hs nx mk ws) (g:Geo n H) {i:Int} (h:i=-1∨(0≤i∧i<n)):w0L (tw n H) (ws.take (szW n H).toNat) i=lnkW (nx 0 i) (mk 0 i)∧indT (n:Int) (w0L (tw n H) (ws.take (szW n H).toNat) i)=nx 0 i:=by
 have hd:dm n H 0 i:=⟨h,by obtain ⟨_,_,_,_⟩:=g;omega⟩
 have e:w0L (tw n H) (ws.take (szW n H).toNat) i=lnkW (nx 0 i) (mk 0 i):=by
  unfold w0L
  have:(nxA (tw n H) i 0).toNat=ad n H 0 i:=rfl
  rw [this,getD_take (ad_sz g h)]
  exact W.lk _ _ hd
 have hr:=W.rg _ _ hd
 exact ⟨e,by rw [e];exact rI g hr.1 hr.2⟩
theorem nd_C (W:WI n H ks hs nx mk ws) (g:Geo n H) (V:SInv H n (keyF ks) (hiF n hs) nx mk lev C):∀ j,j≤(C 0).length→ndL (tw n H) (ws.take (szW n H).toNat) j=(C 0).getD j (-1)
 |0,_=>by
  have V0:=V.lv 0 (by obtain ⟨_,_,_,_⟩:=g;omega)
  exact (w0_eq W g (.inl rfl)).2.trans (Ch.get V0.ch).1
 |j+1,hj=>by
  have V0:=V.lv 0 (by obtain ⟨_,_,_,_⟩:=g;omega)
  have ih:=nd_C W g V j (by omega)
  show indT (n:Int) (w0L _ _ (ndL _ _ j))=_
  rw [ih]
  have hm:(C 0).getD j (-1)∈C 0:=by
   rw [List.getD_eq_getElem?_getD,List.getElem?_eq_getElem (by omega)]
   exact List.getElem_mem _
  have hl:=V0.lnk _ hm
  exact (w0_eq W g (.inr ⟨hl.1,hl.2.2.1⟩)).2.trans ((Ch.get V0.ch).2 j (by omega))
theorem C_len (g:Geo n H) (V:SInv H n (keyF ks) (hiF n hs) nx mk lev C):(C 0).length≤n:=by
 have V0:=V.lv 0 (by obtain ⟨_,_,_,_⟩:=g;omega)
 have h:=nodup_leC n ((C 0).map Int.toNat) ?_ ?_
 ·rwa [List.length_map] at h
 ·refine List.Pairwise.map _ (fun a b h=>h) ?_
  refine List.Pairwise.imp_of_mem (fun {a b} ha hb h=>?_) V0.nd
  have h1:=(V0.lnk a ha).1
  have h2:=(V0.lnk b hb).1
  omega
 ·intro i hi
  obtain ⟨a,ha,rfl⟩:=List.mem_map.1 hi
  have:=(V0.lnk a ha).2
  omega
theorem liveF_C (W:WI n H ks hs nx mk ws) (g:Geo n H):∀ (L:List Int) (p:Int) (f:Nat),Ch (nx 0) p L→(∀ i∈L,0≤i∧i<n)→L.length≤f→liveF (tw n H) (ws.take (szW n H).toNat) f (nx 0 p)=liv (mk 0) L
 |[],p,f,hc,_,_=>by
  have hc:nx 0 p=-1:=hc
  rw [hc]
  cases f<;>rfl
 |a::L,p,0,_,_,hl=>by simp at hl
 |a::L,p,f+1,hc,hm,hl=>by
  have ha:=hm a (by simp)
  obtain ⟨e1,e2⟩:=w0_eq W g (.inr ha)
  have hr:=W.rg 0 a ⟨.inr ha,by obtain ⟨_,_,_,_⟩:=g;omega⟩
  have ih:=liveF_C W g L a f hc.2 (fun i hi=>hm i (by simp [hi])) (by simp at hl;omega)
  rw [hc.1]
  show (if a<0 then [] else if rawM (w0L (tw n H) (ws.take (szW n H).toNat) a)=true then liveF (tw n H) _ f (indT (n:Int) (w0L (tw n H) _ a)) else a::liveF (tw n H) _ f (indT (n:Int) (w0L (tw n H) _ a)))=_
  rw [if_neg (by omega),e2,e1,rM g hr.1 hr.2,ih]
  unfold liv
  rw [List.filter_cons]
  cases mk 0 a<;>rfl
theorem live_eq (W:WI n H ks hs nx mk ws) (g:Geo n H) (V:SInv H n (keyF ks) (hiF n hs) nx mk lev C):liveW (tw n H) (ws.take (szW n H).toNat)=liv (mk 0) (C 0):=by
 have V0:=V.lv 0 (by obtain ⟨_,_,_,_⟩:=g;omega)
 have h0:ndL (tw n H) (ws.take (szW n H).toNat) 0=nx 0 (-1):=(w0_eq W g (.inl rfl)).2
 unfold liveW
 rw [h0]
 exact liveF_C W g _ _ 6 V0.ch (fun i hi=>⟨(V0.lnk i hi).1,(V0.lnk i hi).2.2.1⟩) (by have:=C_len g V;obtain ⟨_,_,_,_⟩:=g;omega)
theorem lv_pre (W:WI n H ks hs nx mk ws) (g:Geo n H) (V:SInv H n (keyF ks) (hiF n hs) nx mk lev C):lvPre (tw n H) (szW n H) ws:=by
 have V0:=V.lv 0 (by obtain ⟨_,_,_,_⟩:=g;omega)
 have hl:=C_len g V
 obtain ⟨g1,g2,g3,g4⟩:=id g
 refine ⟨tw_fit g W.len,?_,(C 0).length,by omega,fun j hj=>⟨?_,?_⟩,?_⟩
 ·unfold szW
  rcases g.h with rfl|rfl|rfl|rfl<;>omega
 ·rw [nd_C W g V j (by omega),List.getD_eq_getElem?_getD,List.getElem?_eq_getElem hj]
  exact (V0.lnk _ (List.getElem_mem hj)).1
 ·show (j:Int)<n
  omega
 ·rw [nd_C W g V _ (Nat.le_refl _),List.getD_eq_getElem?_getD,List.getElem?_eq_none (Nat.le_refl _)]
  decide
def hdS (S:List Int):Int:=if S=[] then -1 else S.getD 0 0
theorem hdS_some {S:List Int} {i:Int} (h:S.head?=some i):hdS S=i:=by
 cases S with
 |nil=>cases h
 |cons a S=>
  have:a=i:=by simpa using h
  unfold hdS
  rw [if_neg (by simp),← this];rfl
theorem fst_eq (W:WI n H ks hs nx mk ws) (g:Geo n H) (V:SInv H n (keyF ks) (hiF n hs) nx mk lev C):fstL (tw n H) (szW n H) ws=hdS (liv (mk 0) (C 0)):=by
 unfold fstL hdS
 rw [live_eq W g V]
end
end Go.Sx
namespace Go.Sx
open Go.Ql (SInv FInv fstep updF XX XW lkd RW liv insK Ent XT)
def rowQ (c:Nat) (f t k a w e m v:Int):List Int:=[(c:Int),f,t,k,a,0,w,e,m,v]
def frL (cl:List (List Int)) (c:Nat):Int:=(cl.getD c []).getD 1 0
def toL (cl:List (List Int)) (ck:Int) (c:Nat):Int:=if (cl.getD c []).getD 2 0=-1 then ck+1 else (cl.getD c []).getD 2 0
def AnsOK (n:Nat) (ks:List Int) (o:Ql.Op) (k a w e m v:Int):Prop:=
 (k=4∧o=.put a∧w=keyF ks a∧0≤a∧a<n∧e=0∧m=0∧v=0)∨
 (k=5∧a=0∧w=0∧((o=.pick none∧e=15∧m=0∧v=0)∨∃ i,o=.pick (some i)∧0≤i∧i<n∧e=0∧m=i∧v=keyF ks i))∨
 (k=6∧a=0∧w=0∧((o=.look none∧e=15∧m=0∧v=0)∨∃ i,o=.look (some i)∧0≤i∧i<n∧e=0∧m=i∧v=keyF ks i))
def RowOK (n:Nat) (ks:List Int) (ck:Int) (op:Nat→Ql.Op) (tr:List Ent) (c:Nat) (r:List Int):Prop:=
 ∃ f t k a w e m v,r=rowQ c f t k a w e m v∧0≤f∧f≤ck∧(k=4∨k=5∨k=6)∧(t=-1∨(c∈XT tr∧0≤t∧t≤ck∧AnsOK n ks (op c) k a w e m v))
structure HI (n:Nat) (ks:List Int) (cl:List (List Int)) (ck:Int) (op:Nat→Ql.Op) (tr:List Ent) (Sf:List Int):Prop where
 G:Ql.Good (keyF ks) op (frL cl) (toL cl ck) tr Sf
 ck0:0≤ck
 tck:∀ x∈tr,x.ck≤ck
 lt:∀ c∈XT tr,c<cl.length
 rows:∀ c,c<cl.length→RowOK n ks ck op tr c (cl.getD c [])
def pend (cl:List (List Int)) (c:Nat) (f k a w:Int):Prop:=c<cl.length∧cl.getD c []=rowQ c f (-1) k a w 0 0 0
def updO (op:Nat→Ql.Op) (c:Nat) (o:Ql.Op) (d:Nat):Ql.Op:=if d=c then o else op d
section
variable {n:Nat} {ks:List Int} {cl:List (List Int)} {ck:Int} {op:Nat→Ql.Op} {tr:List Ent} {Sf:List Int} {c:Nat} {f k a w i:Int}
theorem updO_eq {o:Ql.Op}:updO op c o c=o:=if_pos rfl
theorem updO_ne {o:Ql.Op} {d:Nat} (h:d≠c):updO op c o d=op d:=if_neg h
theorem pend.fr (p:pend cl c f k a w):frL cl c=f:=by unfold frL;rw [p.2];rfl
theorem pend.to (p:pend cl c f k a w):toL cl ck c=ck+1:=by unfold toL;rw [p.2];exact if_pos rfl
theorem HI.fle (h:HI n ks cl ck op tr Sf) (p:pend cl c f k a w):0≤f∧f≤ck:=by
 obtain ⟨f',t,k',a',w',e,m,v,e1,e2,e3,_⟩:=h.rows c p.1
 rw [p.2] at e1
 simp only [rowQ,List.cons.injEq] at e1
 obtain ⟨_,rfl,_⟩:=e1
 exact ⟨e2,e3⟩
theorem callsT_snoc {z:Ent} {d:Nat}:d∈XT (tr++[z])↔d∈XT tr∨d∈Ql.callOf z.e:=by
 unfold XT
 simp
theorem HI.opx (h:HI n ks cl ck op tr Sf) (o:Ql.Op) (hc:¬ c∈XT tr):HI n ks cl ck (updO op c o) tr Sf:=by
 have hne:∀ d∈XT tr,updO op c o d=op d:=fun d hd=>updO_ne fun e=>hc (e ▸ hd)
 refine ⟨h.G.mono fun d hd=>⟨hne d hd,rfl,Int.le_refl _⟩,h.ck0,h.tck,h.lt,fun d hd=>?_⟩
 obtain ⟨f',t,k',a',w',e,m,v,e1,e2,e3,e4,e5⟩:=h.rows d hd
 refine ⟨f',t,k',a',w',e,m,v,e1,e2,e3,e4,e5.imp id fun g=>⟨g.1,g.2.1,g.2.2.1,?_⟩⟩
 rw [hne d g.1];exact g.2.2.2
theorem HI.snoc (h:HI n ks cl ck op tr Sf) {e:Ql.Ev} (hs:Sf.Pairwise fun a b=>keyF ks a<keyF ks b) (hc:∀ c∈Ql.callOf e,¬ c∈XT tr∧∃ f k a w,pend cl c f k a w)
  (hi:∀ c i,e=.ins c i→op c=.put i∧¬ i∈Sf∧(∀ y∈Sf,keyF ks y≠keyF ks i)∧∀ y∈tr,¬ i∈y.S)
  (hr:∀ c,e=.read c→(op c=.look Sf.head?∨(op c=.pick none∧Sf=[])))
  (hm:∀ c i,e=.mark c i→op c=.pick (some i)∧i∈Sf∧∃ y∈tr,y.S.head?=some i∧frL cl c≤y.ck):HI n ks cl ck op (tr++[⟨ck,Sf,e⟩]) (Ql.after (keyF ks) Sf e):=by
 have hft:∀ c∈Ql.callOf e,frL cl c≤ck∧ck≤toL cl ck c:=fun c hce=>by
  obtain ⟨_,f,k,a,w,p⟩:=hc c hce
  have:=h.fle p
  rw [p.fr,p.to];omega
 refine ⟨h.G.snoc h.tck hs (fun c hce=>(hc c hce).1) (fun c i he=>?_) (fun c he=>?_) (fun c i he=>?_),h.ck0,fun x hx=>?_,fun d hd=>?_,fun d hd=>?_⟩
 ·obtain ⟨g1,g2,g3,g4⟩:=hi c i he
  have:=hft c (by rw [he];simp [Ql.callOf])
  exact ⟨g1,g2,g3,this.1,this.2,g4⟩
 ·have:=hft c (by rw [he];simp [Ql.callOf])
  exact ⟨hr c he,this.1,this.2⟩
 ·obtain ⟨g1,g2,g3⟩:=hm c i he
  have:=hft c (by rw [he];simp [Ql.callOf])
  exact ⟨g1,g2,this.2,g3⟩
 ·rcases List.mem_append.1 hx with g|g
  ·exact h.tck x g
  ·rw [List.mem_singleton.1 g];exact Int.le_refl _
 ·rcases callsT_snoc.1 hd with g|g
  ·exact h.lt d g
  ·obtain ⟨_,f,k,a,w,p⟩:=hc d g
   exact p.1
 ·obtain ⟨f',t,k',a',w',e',m,v,e1,e2,e3,e4,e5⟩:=h.rows d hd
  exact ⟨f',t,k',a',w',e',m,v,e1,e2,e3,e4,e5.imp id fun g=>⟨callsT_snoc.2 (.inl g.1),g.2⟩⟩
theorem HI.tau (h:HI n ks cl ck op tr Sf) (hs:Sf.Pairwise fun a b=>keyF ks a<keyF ks b):HI n ks cl ck op (tr++[⟨ck,Sf,.tau⟩]) Sf:=
 h.snoc (e:=.tau) hs (fun c hc=>by cases hc) (fun c i he=>by cases he) (fun c he=>by cases he) (fun c i he=>by cases he)
theorem HI.ins (h:HI n ks cl ck op tr Sf) (hs:Sf.Pairwise fun a b=>keyF ks a<keyF ks b) (p:pend cl c f k a w) (hc:¬ c∈XT tr) (ho:op c=.put i) (h1:¬ i∈Sf) (h2:∀ y∈Sf,keyF ks y≠keyF ks i) (h3:∀ y∈tr,¬ i∈y.S):
  HI n ks cl ck op (tr++[⟨ck,Sf,.ins c i⟩]) (insK (keyF ks) i Sf):=
 h.snoc (e:=.ins c i) hs (fun d hd=>by
  have hd:d∈[c]:=hd
  rw [List.mem_singleton.1 hd];exact ⟨hc,_,_,_,_,p⟩) (fun d j he=>by
  injection he with e1 e2;subst e1;subst e2;exact ⟨ho,h1,h2,h3⟩) (fun d he=>by cases he) (fun d j he=>by cases he)
theorem HI.mark (h:HI n ks cl ck op tr Sf) (hs:Sf.Pairwise fun a b=>keyF ks a<keyF ks b) (p:pend cl c f k a w) (hc:¬ c∈XT tr) (h1:i∈Sf) (h2:∃ y∈tr,y.S.head?=some i∧f≤y.ck):
  HI n ks cl ck (updO op c (.pick (some i))) (tr++[⟨ck,Sf,.mark c i⟩]) (Sf.filter (·≠i)):=
 (h.opx (.pick (some i)) hc).snoc (e:=.mark c i) hs (fun d hd=>by
  have hd:d∈[c]:=hd
  rw [List.mem_singleton.1 hd];exact ⟨hc,_,_,_,_,p⟩) (fun d j he=>by cases he) (fun d he=>by cases he) (fun d j he=>by
  injection he with e1 e2;subst e1;subst e2;exact ⟨updO_eq,h1,by rw [p.fr];exact h2⟩)
theorem HI.none (h:HI n ks cl ck op tr []) (p:pend cl c f k a w) (hc:¬ c∈XT tr) (o:Ql.Op) (ho:o=.pick none∨o=.look none):
  HI n ks cl ck (updO op c o) (tr++[⟨ck,[],.read c⟩]) []:=
 (h.opx o hc).snoc (e:=.read c) List.Pairwise.nil (fun d hd=>by
  have hd:d∈[c]:=hd
  rw [List.mem_singleton.1 hd];exact ⟨hc,_,_,_,_,p⟩) (fun d j he=>by cases he) (fun d he=>by
  injection he with e1
  subst e1
  rw [updO_eq]
  rcases ho with rfl|rfl
  ·exact .inr ⟨rfl,rfl⟩
  ·exact .inl rfl) (fun d j he=>by cases he)
theorem HI.rep {pre suf:List Ent} {x:Ent} (h:HI n ks cl ck op (pre++x::suf) Sf) (p:pend cl c f k a w) (hc:¬ c∈XT (pre++x::suf)) (hx:x.e=.tau) (hf:f≤x.ck):
  HI n ks cl ck (updO op c (.look x.S.head?)) (pre++{x with e:=.read c}::suf) Sf:=by
 have h':=h.opx (.look x.S.head?) hc
 have hck:=h.tck x (by simp)
 refine ⟨h'.G.rep hx hc updO_eq (by rw [p.fr];exact hf) (by rw [p.to];omega),h.ck0,fun y hy=>?_,fun d hd=>?_,fun d hd=>?_⟩
 ·rcases List.mem_append.1 hy with g|g
  ·exact h.tck y (by simp [g])
  ·rcases List.mem_cons.1 g with g|g
   ·rw [g];exact hck
   ·exact h.tck y (by simp [g])
 ·rcases (Ql.callsT_rep hx).1 hd with g|g
  ·rw [g];exact p.1
  ·exact h.lt d g
 ·obtain ⟨f',t,k',a',w',e',m,v,e1,e2,e3,e4,e5⟩:=h'.rows d hd
  exact ⟨f',t,k',a',w',e',m,v,e1,e2,e3,e4,e5.imp id fun g=>⟨(Ql.callsT_rep hx).2 (.inr g.1),g.2⟩⟩
theorem getD_snoc {r:List Int} {d:Nat}:(cl++[r]).getD d []=if d=cl.length then r else cl.getD d []:=by
 rw [List.getD_eq_getElem?_getD,List.getD_eq_getElem?_getD]
 by_cases h:d<cl.length
 ·rw [List.getElem?_append_left h,if_neg (by omega)]
 ·rw [List.getElem?_append_right (by omega)]
  by_cases e:d=cl.length
  ·rw [if_pos e,e,Nat.sub_self];rfl
  ·rw [if_neg e,List.getElem?_eq_none (by simp;omega),List.getElem?_eq_none (by omega)]
theorem HI.begin (h:HI n ks cl ck op tr Sf) (hk:k=4∨k=5∨k=6) (o:Ql.Op):
  HI n ks (cl++[rowQ cl.length (ck+1) (-1) k a w 0 0 0]) (ck+1) (updO op cl.length o) tr Sf∧pend (cl++[rowQ cl.length (ck+1) (-1) k a w 0 0 0]) cl.length (ck+1) k a w∧¬ cl.length∈XT tr:=by
 have hck:=h.ck0
 have hnc:¬ cl.length∈XT tr:=fun g=>absurd (h.lt _ g) (Nat.lt_irrefl _)
 refine ⟨⟨h.G.mono fun d hd=>?_,by omega,fun x hx=>by have:=h.tck x hx;omega,fun d hd=>by have:=h.lt d hd;simp;omega,fun d hd=>?_⟩,⟨by simp,by rw [getD_snoc,if_pos rfl]⟩,hnc⟩
 ·have hlt:=h.lt d hd
  have e:(cl++[rowQ cl.length (ck+1) (-1) k a w 0 0 0]).getD d []=cl.getD d []:=by rw [getD_snoc,if_neg (by omega)]
  refine ⟨updO_ne (by omega),by unfold frL;rw [e],?_⟩
  unfold toL
  rw [e]
  split<;>omega
 ·rw [getD_snoc]
  by_cases e:d=cl.length
  ·rw [if_pos e,e]
   exact ⟨_,_,_,_,_,_,_,_,rfl,by omega,Int.le_refl _,hk,.inl rfl⟩
  ·rw [if_neg e]
   obtain ⟨f',t,k',a',w',e',m,v,e1,e2,e3,e4,e5⟩:=h.rows d (by simp at hd;omega)
   exact ⟨f',t,k',a',w',e',m,v,e1,e2,by omega,e4,e5.imp id fun g=>⟨g.1,g.2.1,by omega,by rw [updO_ne e];exact g.2.2.2⟩⟩
theorem clE_eq (p:pend cl c f k a w) (h0:0≤ck) (h1:ck<1000000) (e m v:Int):clE cl c ck e m v=cl.set c (rowQ c f (ck+1) k a w e m v):=by
 have hw:IntKind.i64.wrap (ck+1)=ck+1:=XM (by omega) (by omega)
 have hl:=p.1
 unfold clE
 rw [hw]
 show Go.Sx.rs (Go.Sx.rs (Go.Sx.rs (Go.Sx.rs cl c 2 (ck+1)) c 7 e) c 8 m) c 9 v=_
 unfold Go.Sx.rs
 simp only [List.set_set,getD_setR hl,if_true]
 rw [p.2]
 rfl
theorem rs_len {cl:List (List Int)} {q z:Nat} {x:Int}:(Go.Sx.rs cl q z x).length=cl.length:=by unfold Go.Sx.rs;rw [List.length_set]
theorem HI.fin (h:HI n ks cl ck op tr Sf) (p:pend cl c f k a w) (hc:c∈XT tr) {e m v:Int} (hA:AnsOK n ks (op c) k a w e m v):HI n ks (cl.set c (rowQ c f (ck+1) k a w e m v)) (ck+1) op tr Sf:=by
 have hck:=h.ck0
 have hf:=h.fle p
 have hl:=p.1
 have hkk:k=4∨k=5∨k=6:=by
  obtain ⟨f',t,k',a',w',e,m,v,e1,e2,e3,e4,_⟩:=h.rows c p.1
  rw [p.2] at e1
  simp only [rowQ,List.cons.injEq] at e1
  obtain ⟨_,_,_,rfl,_⟩:=e1
  exact e4
 refine ⟨h.G.mono fun d hd=>?_,by omega,fun x hx=>by have:=h.tck x hx;omega,fun d hd=>by rw [List.length_set];exact h.lt d hd,fun d hd=>?_⟩
 ·refine ⟨rfl,?_,?_⟩
  ·unfold frL
   rw [getD_setR hl]
   by_cases g:d=c
   ·rw [if_pos g,g,p.2];rfl
   ·rw [if_neg g]
  ·by_cases g:d=c
   ·rw [g,p.to]
    unfold toL
    rw [getD_setR hl,if_pos rfl]
    show ck+1≤(if ck+1=-1 then _ else ck+1)
    rw [if_neg (by omega)];exact Int.le_refl _
   ·unfold toL
    rw [getD_setR hl,if_neg g]
    split<;>omega
 ·rw [getD_setR hl]
  by_cases g:d=c
  ·rw [if_pos g,g]
   exact ⟨_,_,_,_,_,_,_,_,rfl,hf.1,by omega,hkk,.inr ⟨hc,by omega,Int.le_refl _,hA⟩⟩
  ·rw [if_neg g]
   rw [List.length_set] at hd
   obtain ⟨f',t,k',a',w',e',m,v,e1,e2,e3,e4,e5⟩:=h.rows d hd
   exact ⟨f',t,k',a',w',e',m,v,e1,e2,by omega,e4,e5.imp id fun g=>⟨g.1,g.2.1,by omega,g.2.2.2⟩⟩
end
end Go.Sx
namespace Go.Sx
open Go.Ql (SInv FInv fstep updF XX XW lkd RW liv insK Ent XT)
def cntI:IS→Nat
 |.none=>0
 |.over k=>k+1
 |.a k _ _ _=>k+1
 |.r k _ _ _ _=>k+1
 |.p k _ _ _ _ _=>k+1
structure GhC where
 X:Nat→Int→Int
 M:Nat→Int→Bool
 E:Int→Nat
 C:Nat→List Int
 O:Nat→Ql.Op
 T:List Ent
 d0:Ql.Fd
 d1:Ql.Fd
 d2:Ql.Fd
def ICore (n H:Nat) (ks hs:List Int) (g:GhC) (cl:List (List Int)) (io:IS) (o:Int):Prop:=match io with
 |.none=>o=-1
 |.over _=>o=-1
 |.a k x f rs=>∃ (c:Nat) (f0:Int),o=c∧pend cl c f0 4 k (keyF ks k)∧g.O c=.put (k:Int)∧(c∈XT g.T↔1≤g.E k)∧IR n H ks hs g.X g.M g.E k x f rs g.d0
 |.r k x _ _ q=>∃ (c:Nat) (f0:Int),o=c∧pend cl c f0 4 k (keyF ks k)∧g.O c=.put (k:Int)∧(c∈XT g.T∧1≤g.E k)∧IB n H ks hs k x∧x.ln=12∧q=⟨true,0,tw n H,k⟩
 |.p k x _ _ _ u=>∃ (c:Nat) (f0:Int),o=c∧pend cl c f0 4 k (keyF ks k)∧g.O c=.put (k:Int)∧(c∈XT g.T∧1≤g.E k)∧IB n H ks hs k x∧x.ln=12∧PI n H k u
def WP (tr:List Ent) (fl:List Int) (f0:Int) (i:Int):Prop:=i∈fl∧∃ y∈tr,y.S.head?=some i∧f0≤y.ck
def ownP (k:KS) (i:Int):Prop:=match k with
 |.a y=>own9 y∧y.i=i
 |.b y _ _=>y.i=i
 |.r y _ _ _=>y.i=i
 |.p y _ _ _ _=>y.i=i
 |_=>False
def KCore (n H:Nat) (ks hs:List Int) (g:GhC) (cl:List (List Int)) (fl:List Int) (d:Ql.Fd) (k:KS) (o:Int):Prop:=match k with
 |.none=>o=-1
 |.over=>o=-1
 |.a y=>∃ (c:Nat) (f0:Int),o=c∧pend cl c f0 5 0 0∧(c∈XT g.T↔own9 y)∧(own9 y→g.O c=.pick (some y.i))∧CR n H ks hs g.X g.M g.E (WP g.T fl f0) y
 |.b y f rs=>∃ (c:Nat) (f0:Int),o=c∧pend cl c f0 5 0 0∧c∈XT g.T∧g.O c=.pick (some y.i)∧DR n H ks g.X g.M g.E (WP g.T fl f0) y f rs d
 |.r y _ _ q=>∃ (c:Nat) (f0:Int),o=c∧pend cl c f0 5 0 0∧c∈XT g.T∧g.O c=.pick (some y.i)∧DB n H ks g.M (WP g.T fl f0) y∧y.ln=12∧q=⟨true,0,tw n H,y.i⟩
 |.p y _ _ _ u=>∃ (c:Nat) (f0:Int),o=c∧pend cl c f0 5 0 0∧c∈XT g.T∧g.O c=.pick (some y.i)∧DB n H ks g.M (WP g.T fl f0) y∧y.ln=12∧PI n H y.i u
def QP (tr:List Ent) (fl:List Int) (f0:Int) (i:Int):Prop:=i∈fl∧∃ y∈tr,y.e=.tau∧y.S.head?=some i∧f0≤y.ck
def PCore (n H:Nat) (ks:List Int) (g:GhC) (cl:List (List Int)) (fl:List Int) (p:PS) (o:Int):Prop:=match p with
 |.none=>o=-1
 |.over=>o=-1
 |.a y=>∃ (c:Nat) (f0:Int),o=c∧pend cl c f0 6 0 0∧QR n H ks g.X g.M g.E (QP g.T fl f0) (fun i=>i∈fl∧c∈XT g.T∧g.O c=.look (some i)∧1≤g.E i) y∧(y.ln≠4∧y.ln≠5→¬ c∈XT g.T)
structure Bnd (m:Nat) (σ:CS):Prop where
 cl:σ.cl.length≤m
 ck:σ.ck≤m
 f0:σ.f0.length≤m
 f1:σ.f1.length≤m
 f2:σ.f2.length≤m
 f3:σ.f3.length≤m
 gt:σ.gt.length≤m
structure CI (n H m:Nat) (σ:CS) (g:GhC):Prop where
 N:Nums n H σ.ks σ.hs
 t:σ.t=tw n H
 sz:σ.sz=szW n H
 W:WI n H σ.ks σ.hs g.X g.M σ.ws
 V:SInv H n (keyF σ.ks) (hiF n σ.hs) g.X g.M g.E g.C
 h:HI n σ.ks σ.cl σ.ck g.O g.T (liv (g.M 0) (g.C 0))
 opn:∀ c,c<σ.cl.length→(σ.cl.getD c []).getD 2 0=-1→(c:Int)=σ.o0∨(c:Int)=σ.o1∨(c:Int)=σ.o2∨(c:Int)=σ.o3
 i:ICore n H σ.ks σ.hs g σ.cl σ.io σ.o0
 k1:KCore n H σ.ks σ.hs g σ.cl σ.f1 g.d1 σ.c0 σ.o1
 k2:KCore n H σ.ks σ.hs g σ.cl σ.f2 g.d2 σ.c1 σ.o2
 p:PCore n H σ.ks g σ.cl σ.f3 σ.pk σ.o3
 df:σ.o1=σ.o2→σ.o1=-1
 fut:∀ i:Int,(cntI σ.io:Int)≤i→g.E i=0∧∀ l,g.M l i=false
 cn:cntI σ.io≤n
 gt:∀ i∈σ.gt,g.M 0 i=true
 g1:∀ i,ownP σ.c0 i→g.M 0 i=true∧¬ i∈σ.gt∧¬ ownP σ.c1 i
 g2:∀ i,ownP σ.c1 i→g.M 0 i=true∧¬ i∈σ.gt
 tl:∀ y∈g.T,∀ i∈y.S,1≤g.E i
 b:Bnd m σ
structure TR (cx:Nat) (g:GhC) (cl:List (List Int)) (g':GhC) (cl':List (List Int)):Prop where
 y:∀ y∈g.T,∃ y'∈g'.T,y'.S=y.S∧y'.ck=y.ck
 c:∀ c,c≠cx→(c∈XT g'.T↔c∈XT g.T)∧g'.O c=g.O c
 r:∀ c f k a w,c≠cx→pend cl c f k a w→pend cl' c f k a w
section
variable {n H m cx:Nat} {ks hs:List Int} {g g':GhC} {cl cl':List (List Int)} {ow o:Int} {io:IS} {k:KS} {p:PS} {fl fl':List Int} {d:Ql.Fd} {f0:Int}
theorem IR.mono {nx nx':Nat→Int→Int} {mk mk':Nat→Int→Bool} {lev lev':Int→Nat} {i:Int} {x:InsC} {f:FdC} {rs:List (List Int)} (S:IR n H ks hs nx mk lev i x f rs d) (R:RW n ow nx mk lev nx' mk' lev') (h:i≠ow):IR n H ks hs nx' mk' lev' i x f rs d:=
 ⟨S.B,S.fb,S.ln,S.lv,R.ii S.B.i0 h S.I,S.F,S.f9,S.l3,S.w5⟩
theorem ICore.mono (S:ICore n H ks hs g cl io o) (R:RW n (-1) g.X g.M g.E g'.X g'.M g'.E) (T:TR cx g cl g' cl') (ho:o≠cx) (hd:g'.d0=g.d0):ICore n H ks hs g' cl' io o:=by
 cases io with
 |none=>exact S
 |over k=>exact S
 |a k x f rs=>
  obtain ⟨c,f0,e,h1,h2,h3,h4⟩:=S
  have hc:c≠cx:=fun h=>ho (by rw [e,h])
  have hk:(k:Int)≠-1:=by omega
  exact ⟨c,f0,e,T.r _ _ _ _ _ hc h1,(T.c c hc).2.trans h2,by rw [(T.c c hc).1,R.lo _ hk];exact h3,by rw [hd];exact h4.mono R hk⟩
 |r k x f rs q=>
  obtain ⟨c,f0,e,h1,h2,⟨h3,h3'⟩,h4⟩:=S
  have hc:c≠cx:=fun h=>ho (by rw [e,h])
  exact ⟨c,f0,e,T.r _ _ _ _ _ hc h1,(T.c c hc).2.trans h2,⟨(T.c c hc).1.2 h3,by have:=R.lv k;omega⟩,h4⟩
 |p k x f rs q u=>
  obtain ⟨c,f0,e,h1,h2,⟨h3,h3'⟩,h4⟩:=S
  have hc:c≠cx:=fun h=>ho (by rw [e,h])
  exact ⟨c,f0,e,T.r _ _ _ _ _ hc h1,(T.c c hc).2.trans h2,⟨(T.c c hc).1.2 h3,by have:=R.lv k;omega⟩,h4⟩
theorem WP.mono {tr tr':List Ent} {i:Int} (h:WP tr fl f0 i) (hf:∀ x∈fl,x∈fl') (hy:∀ y∈tr,∃ y'∈tr',y'.S=y.S∧y'.ck=y.ck):WP tr' fl' f0 i:=by
 obtain ⟨h1,y,h2,h3,h4⟩:=h
 obtain ⟨y',k1,k2,k3⟩:=hy y h2
 exact ⟨hf _ h1,y',k1,by rw [k2];exact h3,by rw [k3];exact h4⟩
theorem KCore.mono (S:KCore n H ks hs g cl fl d k o) (R:RW n ow g.X g.M g.E g'.X g'.M g'.E) (T:TR cx g cl g' cl') (ho:o≠cx):KCore n H ks hs g' cl' fl d k o:=by
 cases k with
 |none=>exact S
 |over=>exact S
 |a y=>
  obtain ⟨c,f0,e,h1,h2,h3,h4⟩:=S
  have hc:c≠cx:=fun h=>ho (by rw [e,h])
  exact ⟨c,f0,e,T.r _ _ _ _ _ hc h1,(T.c c hc).1.trans h2,fun h=>(T.c c hc).2.trans (h3 h),h4.mono R fun i h=>h.mono (fun _ h=>h) T.y⟩
 |b y f rs=>
  obtain ⟨c,f0,e,h1,h2,h3,h4⟩:=S
  have hc:c≠cx:=fun h=>ho (by rw [e,h])
  exact ⟨c,f0,e,T.r _ _ _ _ _ hc h1,(T.c c hc).1.2 h2,(T.c c hc).2.trans h3,h4.mono R fun i h=>h.mono (fun _ h=>h) T.y⟩
 |r y f rs q=>
  obtain ⟨c,f0,e,h1,h2,h3,h4,h5⟩:=S
  have hc:c≠cx:=fun h=>ho (by rw [e,h])
  exact ⟨c,f0,e,T.r _ _ _ _ _ hc h1,(T.c c hc).1.2 h2,(T.c c hc).2.trans h3,h4.mono (R.mm 0) fun i h=>h.mono (fun _ h=>h) T.y,h5⟩
 |p y f rs q u=>
  obtain ⟨c,f0,e,h1,h2,h3,h4,h5⟩:=S
  have hc:c≠cx:=fun h=>ho (by rw [e,h])
  exact ⟨c,f0,e,T.r _ _ _ _ _ hc h1,(T.c c hc).1.2 h2,(T.c c hc).2.trans h3,h4.mono (R.mm 0) fun i h=>h.mono (fun _ h=>h) T.y,h5⟩
theorem PCore.mono (S:PCore n H ks g cl fl p o) (R:RW n ow g.X g.M g.E g'.X g'.M g'.E) (T:TR cx g cl g' cl') (ho:o≠cx) (hy:∀ y∈g.T,y∈g'.T):PCore n H ks g' cl' fl p o:=by
 cases p with
 |none=>exact S
 |over=>exact S
 |a y=>
  obtain ⟨c,f0,e,h1,h2,h3⟩:=S
  have hc:c≠cx:=fun h=>ho (by rw [e,h])
  exact ⟨c,f0,e,T.r _ _ _ _ _ hc h1,h2.mono R (fun i h=>⟨h.1,by
   obtain ⟨z,k1,k2,k3,k4⟩:=h.2
   exact ⟨z,hy z k1,k2,k3,k4⟩⟩) (fun i h=>⟨h.1,(T.c c hc).1.2 h.2.1,(T.c c hc).2.trans h.2.2.1,by have:=R.lv i;have:=h.2.2.2;omega⟩),fun h=>by rw [(T.c c hc).1];exact h3 h⟩
theorem ICore.call (S:ICore n H ks hs g cl io o) (h:o≥0):∃ (c:Nat) (f0:Int) (a:Nat),o=c∧pend cl c f0 4 a (keyF ks a):=by
 cases io with
 |none=>have S:o=-1:=S;omega
 |over k=>have S:o=-1:=S;omega
 |a k x f rs=>obtain ⟨c,f0,e,h1,_⟩:=S;exact ⟨c,f0,k,e,h1⟩
 |r k x f rs q=>obtain ⟨c,f0,e,h1,_⟩:=S;exact ⟨c,f0,k,e,h1⟩
 |p k x f rs q u=>obtain ⟨c,f0,e,h1,_⟩:=S;exact ⟨c,f0,k,e,h1⟩
theorem KCore.call (S:KCore n H ks hs g cl fl d k o):o=-1∨∃ (c:Nat) (f0:Int),o=c∧pend cl c f0 5 0 0:=by
 cases k with
 |none=>exact .inl S
 |over=>exact .inl S
 |a y=>obtain ⟨c,f0,e,h1,_⟩:=S;exact .inr ⟨c,f0,e,h1⟩
 |b y f rs=>obtain ⟨c,f0,e,h1,_⟩:=S;exact .inr ⟨c,f0,e,h1⟩
 |r y f rs q=>obtain ⟨c,f0,e,h1,_⟩:=S;exact .inr ⟨c,f0,e,h1⟩
 |p y f rs q u=>obtain ⟨c,f0,e,h1,_⟩:=S;exact .inr ⟨c,f0,e,h1⟩
theorem PCore.call (S:PCore n H ks g cl fl p o):o=-1∨∃ (c:Nat) (f0:Int),o=c∧pend cl c f0 6 0 0:=by
 cases p with
 |none=>exact .inl S
 |over=>exact .inl S
 |a y=>obtain ⟨c,f0,e,h1,_⟩:=S;exact .inr ⟨c,f0,e,h1⟩
theorem pend.ne {c c':Nat} {f f' k k' a a' w w':Int} (h:pend cl c f k a w) (h':pend cl c' f' k' a' w') (hk:k≠k'):c≠c':=fun e=>by
 subst e
 have:=h.2.symm.trans h'.2
 simp only [rowQ,List.cons.injEq] at this
 exact hk this.2.2.2.1
theorem CI.lk {σ:CS} (I:CI n H m σ g) {i:Int} (h:i∈liv (g.M 0) (g.C 0)):0≤i∧i<n∧1≤g.E i∧g.M 0 i=false:=by
 have hg:=I.N.g
 have V0:=I.V.lv 0 (by obtain ⟨_,_,_,_⟩:=hg;omega)
 have:=V0.lives.1 h
 exact ⟨this.1.1,this.1.2.1,this.1.2.2,this.2⟩
theorem CI.srt {σ:CS} (I:CI n H m σ g):(liv (g.M 0) (g.C 0)).Pairwise fun a b=>keyF σ.ks a<keyF σ.ks b:=by
 have hg:=I.N.g
 exact (I.V.lv 0 (by obtain ⟨_,_,_,_⟩:=hg;omega)).livs
theorem CI.lvp {σ:CS} (I:CI n H m σ g):lvPre σ.t σ.sz σ.ws:=by rw [I.t,I.sz];exact lv_pre I.W I.N.g I.V
theorem CI.fst {σ:CS} (I:CI n H m σ g):fstL σ.t σ.sz σ.ws=hdS (liv (g.M 0) (g.C 0)):=by rw [I.t,I.sz];exact fst_eq I.W I.N.g I.V
theorem CI.livW {σ:CS} (I:CI n H m σ g):liveW σ.t (σ.ws.take σ.sz.toNat)=liv (g.M 0) (g.C 0):=by rw [I.t,I.sz];exact live_eq I.W I.N.g I.V
end
end Go.Sx
