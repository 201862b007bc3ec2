/- append; slices that are cut. -/
import Derived.Test.YtpnpmkdijmeddaaGreatSxG
set_option maxRecDepth 100000
namespace Go.Sx
section
variable {P:Program} {E:Env}
def V.at?:V→Option Nat
 |.osl n _=>some n
 |.osv n _ _ _ _=>some n
 |.slice n _ _ _ _=>some n
 |_=>none
theorem allSingle_ok:∀ {l:List V},allSingle l=true→∀ v∈l,v.single=true:=by
 intro l
 induction l with
 |nil=>intro _ v hv;simp at hv
 |cons x xs ih=>
  intro h v hv
  simp only [allSingle] at h
  cases hx:x.single with
  |false=>rw [hx] at h;cases h
  |true=>
   rw [hx,cond_true] at h
   simp at hv
   rcases hv with rfl|hv
   ·exact hx
   ·exact ih h v hv
theorem Sh.mk_single (h:Sh) (n:Int):(h.mk n).single=true:=by cases h<;>rfl
theorem shRow_single:∀ (sh:List Sh) (r:List Int),∀ v∈shRow sh r,v.single=true:=by
 intro sh
 induction sh with
 |nil=>intro r v hv;simp [shRow] at hv
 |cons s ss ih=>
  intro r v hv
  cases r with
  |nil=>simp [shRow] at hv;rcases hv with rfl|hv;exact Sh.mk_single _ _;exact ih _ v hv
  |cons x xs=>simp [shRow] at hv;rcases hv with rfl|hv;exact Sh.mk_single _ _;exact ih _ v hv
theorem Body.singles_ok {b:Body} (h:b.singles=true) (L:LM):∀ u∈XE L b,u.oneCell'=true:=by
 intro u hu
 obtain ⟨v,hv,rfl⟩:=List.mem_map.1 hu
 refine single_one ?_ L
 cases b with
 |cells cs=>exact allSingle_ok h v hv
 |words k ws=>simp only [Body.flat,List.mem_map] at hv;obtain ⟨n,_,rfl⟩:=hv;rfl
 |rows sh rs=>simp only [Body.flat,List.mem_flatMap] at hv;obtain ⟨r,_,hv⟩:=hv;exact shRow_single _ _ v hv
theorem flatMap_drop {α β:Type} (f:α→List β) (n:Nat) (hf:∀ x,(f x).length=n):∀ (k:Nat) (l:List α),(l.drop k).flatMap f=(l.flatMap f).drop (k*n):=by
 intro k
 induction k with
 |zero=>intro l;simp
 |succ k ih=>
  intro l
  cases l with
  |nil=>simp
  |cons x xs=>rw [List.drop_succ_cons,ih,List.flatMap_cons,Nat.succ_mul,Nat.add_comm (k*n),List.drop_append,hf,List.drop_of_length_le (l:=f x) (by rw [hf];omega)];simp only [List.nil_append];congr 1;omega
theorem flatMap_take {α β:Type} (f:α→List β) (n:Nat) (hf:∀ x,(f x).length=n):∀ (k:Nat) (l:List α),(l.take k).flatMap f=(l.flatMap f).take (k*n):=by
 intro k
 induction k with
 |zero=>intro l;simp
 |succ k ih=>
  intro l
  cases l with
  |nil=>simp
  |cons x xs=>rw [List.take_succ_cons,List.flatMap_cons,ih,List.flatMap_cons,Nat.succ_mul,Nat.add_comm (k*n),List.take_append,hf,List.take_of_length_le (l:=f x) (by rw [hf];omega)];congr 2;omega
theorem Body.sub_ok {b:Body} {es start len:Nat} (hb:b.flat.length=b.count es*es) (hes:0<es) (hle:start+len≤b.count es) (hw:b.fits es=true):
  (b.sub es start len).flat=(b.flat.drop (start*es)).take (len*es)∧(b.sub es start len).count es=len∧(b.sub es start len).flat.length=len*es:=by
 have h1:(b.sub es start len).flat=(b.flat.drop (start*es)).take (len*es):=by
  cases b with
  |cells cs=>simp [Body.sub,Body.flat,takeN_eq,dropN_eq]
  |words k ws=>
   have:es=1:=Nat.beq_eq.mp hw
   subst this
   simp [Body.sub,Body.flat,List.map_take,List.map_drop]
  |rows sh rs=>
   have:es=sh.length:=Nat.beq_eq.mp hw
   subst this
   simp only [Body.sub,Body.flat]
   rw [flatMap_take _ _ (shRow_length sh),flatMap_drop _ _ (shRow_length sh)]
 have h2:(b.sub es start len).flat.length=len*es:=by
  rw [h1,List.length_take,List.length_drop,hb]
  have:(start+len)*es≤b.count es*es:=Nat.mul_le_mul_right _ hle
  rw [Nat.add_mul] at this
  omega
 refine ⟨h1,?_,h2⟩
 cases b with
 |cells cs=>
  simp only [Body.sub,Body.flat] at h2
  simp only [Body.sub,Body.count]
  by_cases h3:es=1
  ·rw [h3,Nat.beq_refl,cond_true];rw [h3] at h2;simpa using h2
  ·rw [XG h3,cond_false,h2];exact Nat.mul_div_cancel _ hes
 |words k ws=>simp only [Body.sub,Body.count,List.length_take,List.length_drop] at *;omega
 |rows sh rs=>simp only [Body.sub,Body.count,List.length_take,List.length_drop] at *;omega
theorem fits_of {b:Body} {es:Nat} (hb:b.flat.length=b.count es*es) (h:∀ sh rs,b=.rows sh rs→rs≠[]) (h':∀ k ws,b=.words k ws→ws≠[]):b.fits es=true:=by
 cases b with
 |cells cs=>
  simp only [Body.flat,Body.count] at hb
  simp only [Body.fits]
  rw [Nat.beq_eq]
  by_cases h1:es=1
  ·subst h1;show cs.length / 1*1=cs.length;simp
  ·rw [XG h1,cond_false] at hb;exact hb.symm
 |words k ws=>
  simp only [Body.flat,Body.count,List.length_map] at hb
  simp only [Body.fits]
  rw [Nat.beq_eq]
  have:0<ws.length:=List.length_pos_iff.2 (h' _ _ rfl)
  exact Nat.eq_of_mul_eq_mul_left this (by omega)
 |rows sh rs=>
  simp only [Body.flat,Body.count] at hb
  rw [flatMap_length _ _ (shRow_length sh)] at hb
  simp only [Body.fits]
  rw [Nat.beq_eq]
  have:0<rs.length:=List.length_pos_iff.2 (h _ _ rfl)
  exact Nat.eq_of_mul_eq_mul_left this hb.symm
theorem count_nil (es:Nat):(Body.cells []).count es=0:=by
 simp only [Body.count]
 cases es.beq 1 with
 |true=>rfl
 |false=>exact Nat.zero_div es
theorem Body.sub_flat0 {b:Body} {es start:Nat}:(b.sub es start 0).flat=[]∧(b.sub es start 0).count es=0:=by
 cases b with
 |cells cs=>
  have:(Body.cells cs).sub es start 0=.cells []:=by simp [Body.sub,takeN]
  rw [this]
  exact ⟨rfl,count_nil es⟩
 |words k ws=>simp [Body.sub,Body.flat,Body.count]
 |rows sh rs=>simp [Body.sub,Body.flat,Body.count]
theorem Body.sub_open {b:Body} {es start len:Nat} (hb:b.flat.length=b.count es*es) (hes:0<es) (hle:start+len≤b.count es):
  (b.sub es start len).flat=(b.flat.drop (start*es)).take (len*es)∧(b.sub es start len).count es=len∧(b.sub es start len).flat.length=len*es:=by
 by_cases h0:len=0
 ·subst h0
  obtain ⟨h1,h2⟩:=Body.sub_flat0 (b:=b) (es:=es) (start:=start)
  exact ⟨by simp [h1],h2,by simp [h1]⟩
 ·refine Body.sub_ok hb hes hle (fits_of hb ?_ ?_)
  ·rintro sh rs rfl h1
   subst h1
   simp [Body.count] at hle
   omega
  ·rintro k ws rfl h1
   subst h1
   simp [Body.count] at hle
   omega
theorem contents_ok {r:RowK} {es:Nat} (hes:0<es) {x:V} {b:Body} {k:Nat} {s s':St} (h:contents r es x s=some (b,k,s')) (ho:Obl s'):
  Quiet s s'∧∀ (L:LM) (w:World),(∀ n o,x.at?=some n→s.H.get n=some o→ObR L w n o)→
   ∃ a c,x.den L=.slice a k c∧b.count es=k∧b.flat.length=k*es∧(a=none→k=0)∧∀ ad,a=some ad→∀ j u,(XE L b)[j]?=some u→w.cell? (ad.add j)=some u:=by
 unfold contents at h
 split at h
 ·refine ⟨?_,fun L w _=>⟨none,0,?_⟩⟩
  ·split at h<;>cases h<;>exact .refl ho
  ·split at h<;>cases h
   all_goals exact ⟨rfl,(by first|exact count_nil es|rfl),by simp [Body.flat],fun _=>rfl,fun ad e=>by cases e⟩
 ·rename_i n es'
  obtain ⟨_,c1,h1⟩:=XA h
  have he:es=es':=Nat.beq_eq.mp (XC c1)
  subst he
  split at h1
  ·rename_i b' t e hg
   obtain ⟨_,c2,h2⟩:=XA h1
   have he:e=es:=Nat.beq_eq.mp (XC c2)
   subst he
   cases h2
   refine ⟨.refl ho,fun L w hR=>?_⟩
   have hO:=hR n _ rfl hg
   obtain ⟨g1,g2,g3,g4⟩:=hO
   rcases g4 with ⟨g5,g6,g7⟩|⟨kk,cur,g5,g6,g7,g8,g9,g10⟩
   ·refine ⟨none,0,by simp only [V.den,g5];rw [g2,g6],rfl,by rw [g3,g2],fun _=>by rw [g2,g6],fun ad e=>by cases e⟩
   ·refine ⟨some ⟨kk,0,none⟩,(L n).cap,by simp only [V.den,g5];rw [g2],rfl,by rw [g3,g2],(fun e=>by cases e),fun ad e j u hu=>?_⟩
    cases e
    have hj:j<(XE L b).length:=(List.getElem?_eq_some_iff.1 hu).1
    have h5:=hu
    rw [← g10,List.getElem?_take_of_lt (by unfold XE at hj;rw [List.length_map,g3] at hj;exact hj)] at h5
    rw [addr_add]
    simp [World.cell?,g6]
    simpa using h5
  ·cases h1
 ·rename_i n es' base start len
  obtain ⟨_,c1,h1⟩:=XA h
  have he:es=es':=Nat.beq_eq.mp (XC c1)
  subst he
  split at h1
  ·rename_i b' t e hg
   obtain ⟨_,c2,h2⟩:=XA h1
   have he:e=es:=Nat.beq_eq.mp (XC c2)
   subst he
   obtain ⟨s1,hnd,h3⟩:=XA h2
   cases h3
   obtain ⟨hd,hq⟩:=XI hnd ho
   have hd':start+k≤b'.count e:=by simpa using hd
   refine ⟨hq,fun L w hR=>?_⟩
   have hO:=hR n _ rfl hg
   obtain ⟨g1,g2,g3,g4⟩:=hO
   obtain ⟨f1,f2,f3⟩:=Body.sub_open (b:=b') (by rw [g3,g2]) hes hd'
   rcases g4 with ⟨g5,g6,g7⟩|⟨kk,cur,g5,g6,g7,g8,g9,g10⟩
   ·refine ⟨none,(L n).cap - start,by simp only [V.den,g5],f2,f3,fun _=>by omega,fun ad e=>by cases e⟩
   ·refine ⟨some ⟨kk,if (L n).cap=start then base*e else start*e,none⟩,(L n).cap - start,by simp only [V.den,g5],f2,f3,(fun h=>by cases h),fun ad hh j u hu=>?_⟩
    cases hh
    have hj:j<(XE L (b'.sub e start k)).length:=(List.getElem?_eq_some_iff.1 hu).1
    have hj':j<k*e:=by unfold XE at hj;rw [List.length_map,f3] at hj;exact hj
    have hk:0<k:=by cases k with|zero=>omega|succ k=>omega
    rw [if_neg (by omega),addr_add]
    unfold XE at hu
    rw [f1,List.map_take,List.map_drop,show List.map (V.den L) b'.flat=XE L b' from rfl,← g10,List.getElem?_take_of_lt hj',List.getElem?_drop] at hu
    have hsl:start*e+j<(L n).len*e:=by
     have:(start+k)*e≤(L n).len*e:=Nat.mul_le_mul_right _ (by omega)
     rw [Nat.add_mul] at this;omega
    rw [List.getElem?_take_of_lt hsl] at hu
    simp [World.cell?,g6]
    simpa using hu
  ·cases h1
 ·rename_i n start es' len cap
  obtain ⟨_,c1,h1⟩:=XA h
  have he:es=es':=Nat.beq_eq.mp (XC c1)
  subst he
  split at h1
  ·rename_i b' t hg
   obtain ⟨_,c2,h2⟩:=XA h1
   obtain ⟨s1,hnd,h3⟩:=XA h2
   cases h3
   obtain ⟨hd,hq⟩:=XI hnd ho
   have hd':start+k≤b'.count es:=by simpa using hd
   refine ⟨hq,fun L w hR=>?_⟩
   have hO:=hR n _ rfl hg
   have hbl:b'.flat.length=b'.count es*es:=by
    have hf:=XC c2
    cases b' with
    |cells cs=>
     simp only [Body.fits] at hf
     simp only [Body.flat,Body.count]
     by_cases h1:es=1
     ·rw [h1,Nat.beq_refl,cond_true,Nat.mul_one]
     ·rw [XG h1,cond_false];exact (Nat.beq_eq.mp hf).symm
    |words k ws=>simp only [Body.fits] at hf;rw [Nat.beq_eq.mp hf];simp [Body.flat,Body.count]
    |rows sh rs=>simp only [Body.fits] at hf;rw [Nat.beq_eq.mp hf];simp only [Body.flat,Body.count];exact flatMap_length _ _ (shRow_length sh) rs
   obtain ⟨f1,f2,f3⟩:=Body.sub_open hbl hes hd'
   refine ⟨some ⟨(L n).blk.getD 0,(L n).off+start*es,none⟩,cap,rfl,f2,f3,(fun h=>by cases h),fun ad hh j u hu=>?_⟩
   cases hh
   have hj:j<k*es:=by have:=(List.getElem?_eq_some_iff.1 hu).1;unfold XE at this;rw [List.length_map,f3] at this;exact this
   unfold XE at hu
   rw [List.getElem?_map] at hu
   obtain ⟨v,hv,rfl⟩:=Option.map_eq_some_iff.1 hu
   rw [f1,List.getElem?_take_of_lt hj,List.getElem?_drop] at hv
   have:=cell_of hO (p:=start*es+j) hv
   rw [addr_add,Nat.add_assoc]
   exact this
  ·rename_i kk ws hg
   obtain ⟨_,c2,h2⟩:=XA h1
   have he:es=1:=Nat.beq_eq.mp (XC c2)
   subst he
   obtain ⟨s1,hnd,h3⟩:=XA h2
   cases h3
   obtain ⟨hd,hq⟩:=XI hnd ho
   have hd':start+k≤ws.length:=by simpa using hd
   refine ⟨hq,fun L w hR=>?_⟩
   have hO:=hR n _ rfl hg
   refine ⟨some ⟨(L n).blk.getD 0,(L n).off+start*1,none⟩,cap,rfl,by simp [Body.count];omega,by simp [Body.flat];omega,(fun h=>by cases h),fun ad hh j u hu=>?_⟩
   cases hh
   have hj:j<k:=by have:=(List.getElem?_eq_some_iff.1 hu).1;simp [XE,Body.flat] at this;omega
   unfold XE at hu
   rw [List.getElem?_map] at hu
   obtain ⟨v,hv,rfl⟩:=Option.map_eq_some_iff.1 hu
   have h6:(Ob.ro kk ws).flat[start*1+j]?=some v:=by
    simp only [Ob.flat,Body.flat] at hv ⊢
    rw [List.map_take,List.map_drop,List.getElem?_take_of_lt hj,List.getElem?_drop] at hv
    rw [Nat.mul_one];exact hv
   have:=cell_of hO h6
   rw [addr_add,Nat.add_assoc]
   exact this
  ·cases h1
 ·cases h
theorem kill_ok {D:Nat→Prop} {L:LM} {H H':Nat→Option Ob} {w:World} {n:Nat} (h:SR D L H w) (hH:∀ m,H' m=if m=n then none else H m):Mv D L H w L H' w∧SR D L H' w:=by
 have hs:∀ m o,H' m=some o→H m=some o:=by
  intro m o hm
  rw [hH] at hm
  split at hm
  ·cases hm
  ·exact hm
 exact ⟨⟨.refl _ _,Nat.le_refl _,fun _ _ _=>rfl,fun m o b ho hr hb=>.inr ⟨m,o,hs _ _ ho,hr,hb⟩,rfl,rfl,rfl,fun m o hm _=>hs _ _ hm⟩,h.sub hs⟩
theorem nil_ok {D:Nat→Prop} {L:LM} {s s':St} {w:World} {b:Body} {elem:TypeId} {es m:Nat} (hnew:s.new (.mem b elem (some es))=some (m,s')) (hSR:SR D L s.H.get w)
  (hD:∀ n,D n→n<s.nx∨s'.nx≤n) (hcount:b.count es=0) (hflen:b.flat=[]):
  ∃ L',Mv D L s.H.get w L' s'.H.get w∧SR (Grow D s.nx s'.nx) L' s'.H.get w∧(∀ L'',Agree (Grow D s.nx s'.nx) L' L''→.slice none 0 0=(V.osl m es).den L''):=by
 obtain ⟨n1,n2,n3,n4,n5⟩:=new_ok hnew
 subst n1
 have hD':¬ D s.nx:=fun hh=>by rcases hD _ hh with h|h<;>omega
 have hnx:∀ L'',Agree (Grow D s.nx (s.nx+1)) (fun m=>if m=s.nx then (⟨none,0,0,0⟩:LI) else L m) L''→L'' s.nx=⟨none,0,0,0⟩:=by
  intro L'' h
  have:=h s.nx (.inr ⟨Nat.le_refl _,Nat.lt_succ_self _⟩)
  simpa using this.symm
 refine ⟨fun m=>if m=s.nx then (⟨none,0,0,0⟩:LI) else L m,⟨fun n hn=>by have:n≠s.nx:=fun e=>hD' (e ▸ hn);simp [this],Nat.le_refl _,fun _ _ _=>rfl,?_,rfl,rfl,rfl,fun n o ho hr=>by
  rw [n5] at ho
  split at ho
  ·cases ho;cases hr
  ·exact ho⟩,?_,?_⟩
 ·intro n o b' ho hr hb
  rw [n5] at ho
  by_cases hn:n=s.nx
  ·subst hn;simp at hb
  ·rw [if_neg hn] at ho
   simp only [if_neg hn] at hb
   exact .inr ⟨n,o,ho,hr,hb⟩
 ·rw [n2]
  intro L' hL'
  have hag:Agree D L L':=fun k hk=>by
   have:=hL' k (.inl hk)
   have hne:k≠s.nx:=fun e=>hD' (e ▸ hk)
   simpa [hne] using this
  have h0:=hSR L' hag
  have hl:=hnx L' hL'
  refine ⟨fun n o ho=>?_,fun n p on om hn hp hne hr hb=>?_⟩
  ·rw [n5] at ho
   by_cases hn:n=s.nx
   ·subst hn
    rw [if_pos rfl] at ho
    cases ho
    exact ⟨by rw [hl],by rw [hl];exact hcount,by rw [hl,hflen];simp,.inl (by rw [hl];exact ⟨rfl,rfl,rfl⟩)⟩
   ·rw [if_neg hn] at ho
    exact h0.ob n o ho
  ·rw [n5] at hn hp
   by_cases h1:n=s.nx
   ·subst h1;rw [hl] at hb;exact absurd rfl hb
   ·rw [if_neg h1] at hn
    by_cases h2:p=s.nx
    ·subst h2;rw [hl];exact hb
    ·rw [if_neg h2] at hp
     exact h0.inj n p on om hn hp hne hr hb
 ·rw [n2]
  intro L'' hL''
  simp [V.den,hnx L'' hL'']
theorem moved_ok {D:Nat→Prop} {L:LM} {s s1 s':St} {w w':World} {b:Body} {elem:TypeId} {es m n k:Nat} {o:Ob} {li:LI} (hSR:SR D L s.H.get w) (hn:s.H.get n=some o) (hro:o.isRo=false) (hk:(L n).blk=some k)
  (hupd:s.upd n none=some s1) (hnew:s1.new (.mem b elem (some es))=some (m,s')) (hD:∀ n,D n→n<s.nx∨s'.nx≤n) (hlb:li.blk=some k)
  (hsz:w'.heap.size=w.heap.size) (hoth:∀ b,b≠k→w'.heap[b]?=w.heap[b]?) (hos:w'.os=w.os∧w'.tape=w.tape∧w'.output=w.output)
  (ho:∀ L',Agree D L L'→L' s.nx=li→ObR L' w' s.nx (.mem b elem (some es))):
  ∃ L',Mv D L s.H.get w L' s'.H.get w'∧SR (Grow D s.nx s'.nx) L' s'.H.get w'∧(∀ L'',Agree (Grow D s.nx s'.nx) L' L''→.slice (some ⟨k,0,none⟩) li.len li.cap=(V.osl m es).den L''):=by
 obtain ⟨u1,u2,u3,u4⟩:=upd_ok hupd
 obtain ⟨n1,n2,n3,n4,n5⟩:=new_ok hnew
 rw [u1] at n1 n2 n5
 subst n1
 have hD':¬ D s.nx:=fun hh=>by rcases hD _ hh with h|h<;>omega
 have hnn:n≠s.nx:=fun e=>hD' (e ▸ hSR.live hn)
 have hH:∀ m,s'.H.get m=if m=s.nx then some (.mem b elem (some es)) else if m=n then none else s.H.get m:=by intro m;rw [n5,u4]
 have hnx:∀ L'',Agree (Grow D s.nx (s.nx+1)) (fun m=>if m=s.nx then li else L m) L''→L'' s.nx=li:=by
  intro L'' h
  have:=h s.nx (.inr ⟨Nat.le_refl _,Nat.lt_succ_self _⟩)
  simpa using this.symm
 refine ⟨fun m=>if m=s.nx then li else L m,⟨fun n hn=>by have:n≠s.nx:=fun e=>hD' (e ▸ hn);simp [this],by omega,fun b hb hnb=>hoth b (fun e=>hnb n o hn hro (by rw [hk,e])),?_,hos.1,hos.2.1,hos.2.2,fun p op hp hr=>by
  rw [hH] at hp
  split at hp
  ·cases hp;cases hr
  ·split at hp
   ·cases hp
   ·exact hp⟩,?_,?_⟩
 ·intro p op b' hp hr hb
  rw [hH] at hp
  by_cases h1:p=s.nx
  ·subst h1
   simp only [if_true,hlb] at hb
   cases hb
   exact .inr ⟨n,o,hn,hro,hk⟩
  ·rw [if_neg h1] at hp
   simp only [if_neg h1] at hb
   by_cases h2:p=n
   ·rw [if_pos h2] at hp;cases hp
   ·rw [if_neg h2] at hp;exact .inr ⟨p,op,hp,hr,hb⟩
 ·rw [n2]
  intro L' hL'
  have hag:Agree D L L':=fun k hk=>by
   have:=hL' k (.inl hk)
   have hne:k≠s.nx:=fun e=>hD' (e ▸ hk)
   simpa [hne] using this
  have h0:=hSR L' hag
  have hl:=hnx L' hL'
  have hk':(L' n).blk=some k:=by rw [← hag n (hSR.live hn)];exact hk
  have hold:∀ p op,p≠s.nx→s'.H.get p=some op→p≠n∧s.H.get p=some op:=by
   intro p op h1 hp
   rw [hH,if_neg h1] at hp
   by_cases h2:p=n
   ·rw [if_pos h2] at hp;cases hp
   ·rw [if_neg h2] at hp;exact ⟨h2,hp⟩
  refine ⟨fun p op hp=>?_,fun p q op oq hp hq hne hr hb=>?_⟩
  ·by_cases h1:p=s.nx
   ·subst h1
    rw [hH,if_pos rfl] at hp
    cases hp
    exact ho L' hag hl
   ·obtain ⟨h2,h3⟩:=hold p op h1 hp
    refine (h0.ob p op h3).keep (by omega) fun b hb _=>hoth b ?_
    intro e
    subst e
    exact h0.inj n p o op hn h3 (fun e=>h2 e.symm) hro (by rw [hk'];simp) (by rw [hk',hb])
  ·by_cases h1:p=s.nx
   ·subst h1
    obtain ⟨h2,h3⟩:=hold q oq (fun e=>hne e.symm) hq
    rw [hl,hlb,← hk']
    exact h0.inj n q o oq hn h3 (fun e=>h2 e.symm) hro (by rw [hk'];simp)
   ·obtain ⟨h2,h3⟩:=hold p op h1 hp
    by_cases h4:q=s.nx
    ·subst h4
     rw [hl,hlb,← hk']
     exact h0.inj p n op o h3 hn h2 hr hb
    ·obtain ⟨h5,h6⟩:=hold q oq h4 hq
     exact h0.inj p q op oq h3 h6 hne hr hb
 ·rw [n2]
  intro L'' hL''
  simp [V.den,hnx L'' hL'',hlb]
theorem app_ok {a b c:Body} (h:a.app b=some c) (es:Nat) (hes:0<es) (ha:a.flat.length=a.count es*es) (hb:b.flat.length=b.count es*es):
  c.flat=a.flat++b.flat∧c.count es=a.count es+b.count es:=by
 unfold Body.app at h
 split at h
 ·cases h
  refine ⟨rfl,?_⟩
  simp only [Body.flat,Body.count] at *
  by_cases h1:es=1
  ·subst h1;simp
  ·rw [XG h1] at *
   simp only [cond_false,List.length_append] at *
   rw [ha,hb,← Nat.add_mul]
   simp only [show ∀ x:Nat,Nat.div (x*es) es=x from fun x=>Nat.mul_div_cancel _ hes]
 ·rename_i k x k' y
  obtain ⟨_,h0,h1⟩:=XA h
  cases h1
  have:k=k':=by simpa using XC h0
  subst this
  exact ⟨by simp [Body.flat],by simp [Body.count]⟩
 ·rename_i sh x sh' y
  obtain ⟨_,h0,h1⟩:=XA h
  cases h1
  have hs:∀ (a b:List Sh),shEq a b=true→a=b:=by
   intro a
   induction a with
   |nil=>intro b hb;cases b with
    |nil=>rfl
    |cons _ _=>cases hb
   |cons x xs ih=>
    intro b hb
    cases b with
    |nil=>cases x<;>cases hb
    |cons y ys=>
     cases x<;>cases y<;>simp only [shEq] at hb
     ·rename_i k k'
      cases hk:decide (k=k') with
      |true=>
       rw [hk,cond_true] at hb
       have:k=k':=by simpa using hk
       subst this
       rw [ih ys hb]
      |false=>rw [hk] at hb;cases hb
     ·cases hb
     ·cases hb
     ·rw [ih ys hb]
  have:=hs _ _ (XC h0)
  subst this
  exact ⟨by simp [Body.flat],by simp [Body.count]⟩
 ·cases h
theorem run_append_none (w:World) {t ty e:TypeId} {i:TypeInfo} (ht:P.underlying t=some (.slice e)) (hi:P.info? e=some i) (a:Option Addr) (n c c':Nat) (hc:n≤c):
  (Builtin.append_ #[t,t] ty #[.slice a n c,.slice none 0 c']).run P w=.ok (.slice a n c) w:=by
 cases a with
 |none=>simp [Builtin.append_,run_underlying ht,sizeOf,typeInfo,hi,Builtin.lenOf,hc,Builtin.firstCells]
 |some a=>simp [Builtin.append_,run_underlying ht,sizeOf,typeInfo,hi,Builtin.lenOf,hc,Builtin.firstCells,storeCells]
theorem contents_osl {r:RowK} {es n es' k:Nat} {b:Body} {s s':St} (h:contents r es (.osl n es') s=some (b,k,s')):es=es'∧s'=s∧∃ t,s.H.get n=some (.mem b t (some es)):=by
 unfold contents at h
 simp only at h
 obtain ⟨_,c1,h1⟩:=XA h
 have he:es=es':=Nat.beq_eq.mp (XC c1)
 split at h1
 ·rename_i bo t e hg
  obtain ⟨_,c2,h2⟩:=XA h1
  have hee:e=es:=Nat.beq_eq.mp (XC c2)
  cases h2
  subst hee
  exact ⟨he,rfl,t,hg⟩
 ·cases h1
theorem Lg.none {s s':St} (h:s'=s):Lg s s':=by subst h;exact .refl _
theorem appendX_ok (hE:EnvOK P E) {st:TypeId} {a x v:V} {s s':St} (h:appendX E st a x s=some (v,s')) (ho:Obl s'):
  Lg s s'∧Obl s∧∀ (D:Nat→Prop) (L:LM) (w:World) (ty:TypeId) (av xv:Value),(∀ L',Agree D L L'→av=a.den L'∧xv=x.den L')→SR D L s.H.get w→(∀ n,D n→n<s.nx∨s'.nx≤n)→
   ∃ L' w' val,Mv D L s.H.get w L' s'.H.get w'∧SR (Grow D s.nx s'.nx) L' s'.H.get w'∧(∀ L'',Agree (Grow D s.nx s'.nx) L' L''→val=v.den L'')∧
    (Builtin.append_ #[st,st] ty #[av,xv]).run P w=.ok val w':=by
 unfold appendX at h
 obtain ⟨ti,hti,h1⟩:=XA h
 clear h
 obtain ⟨i,zv,d,hi,hs,hb,hzv,hzz,hu,hag,hk⟩:=(hE.ty _ _ hti).info
 split at h1
 ·rename_i elem hkd
  rw [hkd] at hk
  cases hk
  obtain ⟨ei,hei,h2⟩:=XA h1
  obtain ⟨_,c1,h3⟩:=XA h2
  obtain ⟨_,c2,h4⟩:=XA h3
  obtain ⟨⟨b1,n1,s1⟩,hc1,h5⟩:=XA h4
  obtain ⟨⟨b2,n2,s2⟩,hc2,h6⟩:=XA h5
  obtain ⟨_,c3,h7⟩:=XA h6
  obtain ⟨b,happ,h8⟩:=XA h7
  obtain ⟨s3,hnd,h9⟩:=XA h8
  clear h1 h2 h3 h4 h5 h6 h7 h8
  have hTe:=hE.ty _ _ hei
  obtain ⟨ie,ze,de,hie,hse,hbe,hze,hzze,hue,hage,hke⟩:=hTe.info
  have hes:0<ei.size:=Nat.blt_eq.mp (XC c1)
  have hby:ei.bytes≤1048576:=Nat.ble_eq.mp (XC c2)
  have hobl3:Obl s3∧Lg s3 s':=by
   split at h9
   ·obtain ⟨⟨m,s4⟩,hn,h10⟩:=XA h9
    cases h10
    obtain ⟨_,_,_,q,_⟩:=new_ok hn
    exact ⟨fun x hx=>ho x (by rw [q];exact hx),.new hn⟩
   ·split at h9
    ·obtain ⟨_,_,h9'⟩:=XA h9
     obtain ⟨s4,hup,h10⟩:=XA h9'
     obtain ⟨⟨m,s5⟩,hn,h11⟩:=XA h10
     cases h11
     obtain ⟨_,_,_,q,_⟩:=new_ok hn
     obtain ⟨_,_,q',_⟩:=upd_ok hup
     exact ⟨fun x hx=>ho x (by rw [q,q'];exact hx),(Lg.upd hup).trans (.new hn)⟩
    ·cases h9
   ·cases h9
  obtain ⟨hd,hq3⟩:=XI hnd hobl3.1
  have hle:n1+n2≤1048576:=by simpa using hd
  obtain ⟨hq2,hcx⟩:=contents_ok hes hc2 hq3.2
  obtain ⟨hq1,hca⟩:=contents_ok hes hc1 hq2.2
  have hsame:Same s s3:=(hq1.1.trans hq2.1).trans hq3.1
  refine ⟨(Lg.of_same hsame).trans hobl3.2,hq1.2,fun D L w ty av xv hav hSR hD=>?_⟩
  rw [← hsame.H] at hSR ⊢
  rw [← hsame.nx] at hD ⊢
  obtain ⟨rfl,rfl⟩:=hav L (.refl _ _)
  have hHs:s.H=s3.H:=hsame.H.symm
  have hH1:s1.H=s3.H:=by rw [hsame.H,hq1.1.H]
  obtain ⟨xa,xc,hxd,hxcnt,hxfl,hxnone,hxsome⟩:=hcx L w (fun n o _ hg=>(hSR L (.refl _ _)).ob n o (by rw [← hH1];exact hg))
  obtain ⟨aa,ac,had,hacnt,hafl,hanone,hasome⟩:=hca L w (fun n o _ hg=>(hSR L (.refl _ _)).ob n o (by rw [← hHs];exact hg))
  obtain ⟨hbf,hbc⟩:=app_ok happ ei.size hes (by rw [hafl,hacnt]) (by rw [hxfl,hxcnt])
  rw [hacnt,hxcnt] at hbc
  have hbfl:b.flat.length=(n1+n2)*ei.size:=by rw [hbf,List.length_append,hafl,hxfl,Nat.add_mul]
  have hcellX:∀ L',Agree D L L'→XE L' b2=XE L b2:=by
   intro L' hL'
   obtain ⟨xa',xc',hxd',_,_,hxn',hxs'⟩:=hcx L' w (fun n o _ hg=>(hSR L' hL').ob n o (by rw [← hH1];exact hg))
   have e:V.den L x=V.den L' x:=(hav L' hL').2
   rw [hxd,hxd'] at e
   cases e
   apply List.ext_getElem?
   intro j
   cases xa with
   |none=>
    have:=hxn' rfl
    subst this
    have:b2.flat=[]:=List.length_eq_zero_iff.1 (by rw [hxfl];simp)
    simp [XE,this]
   |some ad=>
    by_cases hj:j<b2.flat.length
    ·have g1:=hxs' ad rfl j _ (List.getElem?_eq_getElem (l:=XE L' b2) (by simpa [XE] using hj))
     have g2:=hxsome ad rfl j _ (List.getElem?_eq_getElem (l:=XE L b2) (by simpa [XE] using hj))
     rw [g1] at g2
     rw [List.getElem?_eq_getElem (l:=XE L' b2) (by simpa [XE] using hj),List.getElem?_eq_getElem (l:=XE L b2) (by simpa [XE] using hj)]
     exact g2
    ·rw [List.getElem?_eq_none (by simpa [XE] using hj),List.getElem?_eq_none (by simpa [XE] using hj)]
  have hcellA:∀ L',Agree D L L'→XE L' b1=XE L b1:=by
   intro L' hL'
   obtain ⟨xa',xc',hxd',_,_,hxn',hxs'⟩:=hca L' w (fun n o _ hg=>(hSR L' hL').ob n o (by rw [← hHs];exact hg))
   have e:V.den L a=V.den L' a:=(hav L' hL').1
   rw [had,hxd'] at e
   cases e
   apply List.ext_getElem?
   intro j
   cases aa with
   |none=>
    have:=hxn' rfl
    subst this
    have:b1.flat=[]:=List.length_eq_zero_iff.1 (by rw [hafl];simp)
    simp [XE,this]
   |some ad=>
    by_cases hj:j<b1.flat.length
    ·have g1:=hxs' ad rfl j _ (List.getElem?_eq_getElem (l:=XE L' b1) (by simpa [XE] using hj))
     have g2:=hasome ad rfl j _ (List.getElem?_eq_getElem (l:=XE L b1) (by simpa [XE] using hj))
     rw [g1] at g2
     rw [List.getElem?_eq_getElem (l:=XE L' b1) (by simpa [XE] using hj),List.getElem?_eq_getElem (l:=XE L b1) (by simpa [XE] using hj)]
     exact g2
    ·rw [List.getElem?_eq_none (by simpa [XE] using hj),List.getElem?_eq_none (by simpa [XE] using hj)]
  have hcellB:∀ L',Agree D L L'→XE L' b=XE L b1++XE L b2:=by
   intro L' hL'
   rw [← hcellA L' hL',← hcellX L' hL']
   simp [XE,hbf]
  have hl1:(XE L b1).length=n1*ei.size:=by simp [XE,hafl]
  have hl2:(XE L b2).length=n2*ei.size:=by simp [XE,hxfl]
  have hbytes:(n1+n2)*ie.bytes≤140737488355328:=by
   rw [hbe]
   calc (n1+n2)*ei.bytes≤1048576*1048576:=Nat.mul_le_mul hle hby
    _≤140737488355328:=by omega
  have hone2:∀ u∈XE L b2,u.oneCell'=true:=Body.singles_ok (XC c3) L
  have hzs:ze.cells.size=ei.size:=by
   have:=congrArg List.length (hzze L)
   simpa [XE,hTe.zlen] using this
  have hcapm:∀ old,grownCap w (n1+n2) old elem≤maxLen:=fun old=>grownCap_le_maxLen w (n1+n2) old elem (by unfold maxLen;omega)
  have hgrown:∀ (s4:St) (m:Nat) (old:Nat) (H0:SR D L s4.H.get w),s4.new (.mem b elem (some ei.size))=some (m,s')→(∀ n,D n→n<s4.nx∨s'.nx≤n)→
    ∃ L',Mv D L s4.H.get w L' s'.H.get (w.drew.alloc (.cells ((XE L b1).toArray++(XE L b2).toArray++Builtin.zeroCells ze.cells (grownCap w (n1+n2) old elem - (n1+n2))) elem))∧
     SR (Grow D s4.nx s'.nx) L' s'.H.get (w.drew.alloc (.cells ((XE L b1).toArray++(XE L b2).toArray++Builtin.zeroCells ze.cells (grownCap w (n1+n2) old elem - (n1+n2))) elem))∧
     (∀ L'',Agree (Grow D s4.nx s'.nx) L' L''→.slice (some ⟨w.heap.size,0,none⟩) (n1+n2) (grownCap w (n1+n2) old elem)=(V.osl m ei.size).den L''):=by
   intro s4 m old H0 hnew hD0
   refine made_ok (w0:=w.drew) hnew H0 hD0 ⟨rfl,rfl,rfl,rfl⟩ hbc hbfl (grownCap_ge w _ old elem) (hcapm old) ?_ ?_
   ·simp only [Array.size_append,List.size_toArray,size_zeroCells,hzs,hl1,hl2,← Nat.add_mul]
    congr 1
    have:=grownCap_ge w (n1+n2) old elem
    omega
   ·intro L' hL'
    rw [hcellB L' hL']
    simp only [Array.toList_append,List.append_assoc]
    rw [← List.append_assoc,List.take_left' (by rw [List.length_append,hl1,hl2,← Nat.add_mul])]
  split at h9
  ·obtain ⟨⟨m,s4⟩,hnew,h10⟩:=XA h9
   cases h10
   simp only [V.den] at had
   cases had
   have hb1:XE L b1=[]:=List.length_eq_zero_iff.1 (by rw [hl1];simp)
   by_cases hn2:n2=0
   ·subst hn2
    have hbe:b.flat=[]:=List.length_eq_zero_iff.1 (by rw [hbfl];simp)
    obtain ⟨L',g1,g2,g3⟩:=nil_ok hnew hSR hD (by rw [hbc]) hbe
    refine ⟨L',w,_,g1,g2,g3,?_⟩
    rw [hxd]
    cases xa with
    |none=>exact run_append_none w hu hie none 0 0 xc (Nat.le_refl _)
    |some ad=>
     show (Builtin.append_ #[st,st] ty #[.slice none 0 0,.slice (some ad) 0 xc]).run P w=_
     simp [Builtin.append_,run_underlying hu,sizeOf,typeInfo,hie,Builtin.lenOf,Builtin.firstCells,loadCells,loadCellsFrom]
   ·cases xa with
    |none=>exact absurd (hxnone rfl) hn2
    |some ad=>
     obtain ⟨L',g1,g2,g3⟩:=hgrown s3 m 0 hSR hnew hD
     refine ⟨L',_,_,g1,g2,g3,?_⟩
     rw [hxd,show V.den L V.nils=.slice none 0 0 from rfl]
     have hr:=run_append_nil (P:=P) w st ty elem ie ze hu hie hze ad n2 xc (XE L b2) (by rw [hl2,hse]) (hxsome ad rfl) (by omega) (by omega) (Nat.le_trans (by simpa using hbytes) (by omega:140737488355328≤281474976710656))
     simp only [hb1,Nat.zero_add] at hr ⊢
     simpa using hr
  ·rename_i n es'
   split at h9
   ·rename_i bb bt oo hg0
    obtain ⟨_,c4,h9'⟩:=XA h9
    have hbt:bt=elem:=Nat.beq_eq.mp (XC c4)
    subst hbt
    obtain ⟨s4,hup,h10⟩:=XA h9'
    obtain ⟨⟨m,s5⟩,hnew,h11⟩:=XA h10
    cases h11
    obtain ⟨u1,u2,u3,u4⟩:=upd_ok hup
    obtain ⟨hees,_,t,hg⟩:=contents_osl hc1
    subst hees
    rw [hHs,hg0] at hg
    cases hg
    obtain ⟨q1,q2,q3,q4⟩:=(hSR L (.refl _ _)).ob n _ hg0
    obtain ⟨kmv,kSR⟩:=kill_ok (H':=s4.H.get) (n:=n) hSR u4
    have hD4:∀ n,D n→n<s4.nx∨s'.nx≤n:=by rw [u1];exact hD
    rw [hacnt] at q2
    rcases q4 with ⟨q5,q6,q7⟩|⟨k,cur,q5,qh,q7,q8,q9,q10⟩
    ·
     have hn10:n1=0:=by rw [q2,q6]
     subst hn10
     have hb1:XE L b1=[]:=List.length_eq_zero_iff.1 (by rw [hl1];simp)
     have hda:V.den L (V.osl n ei.size)=.slice none 0 0:=by simp only [V.den,q5]
     by_cases hn2:n2=0
     ·subst hn2
      have hbe:b.flat=[]:=List.length_eq_zero_iff.1 (by rw [hbfl];simp)
      obtain ⟨L',g1,g2,g3⟩:=nil_ok hnew kSR hD4 (by rw [hbc]) hbe
      rw [u1] at g2 g3
      refine ⟨L',w,_,kmv.trans (fun _ h=>h) g1,g2,g3,?_⟩
      rw [hxd,hda]
      cases xa with
      |none=>exact run_append_none w hu hie none 0 0 xc (Nat.le_refl _)
      |some ad=>simp [Builtin.append_,run_underlying hu,sizeOf,typeInfo,hie,Builtin.lenOf,Builtin.firstCells,loadCells,loadCellsFrom]
     ·cases xa with
      |none=>exact absurd (hxnone rfl) hn2
      |some ad=>
       obtain ⟨L',g1,g2,g3⟩:=hgrown s4 m 0 kSR hnew hD4
       rw [u1] at g2 g3
       refine ⟨L',_,_,kmv.trans (fun _ h=>h) g1,g2,g3,?_⟩
       rw [hxd,hda]
       have hr:=run_append_nil (P:=P) w st ty bt ie ze hu hie hze ad n2 xc (XE L b2) (by rw [hl2,hse]) (hxsome ad rfl) (by omega) (by omega) (Nat.le_trans (by simpa using hbytes) (by omega:140737488355328≤281474976710656))
       simp only [hb1,Nat.zero_add] at hr ⊢
       simpa using hr
    ·have hda:V.den L (V.osl n ei.size)=.slice (some ⟨k,0,none⟩) n1 (L n).cap:=by simp only [V.den,q5,q2]
     rw [hda]
     rw [← q2] at q7
     have htk:cur.toList.take (n1*ei.size)=XE L b1:=by rw [← q10,q2]
     by_cases hroom:n1+n2≤(L n).cap
     ·
      have hfit:n1*ie.size+(XE L b2).length≤cur.size:=by rw [hl2,hse,q9,← Nat.add_mul];exact Nat.mul_le_mul_right _ hroom
      by_cases hxe:xa=none
      ·subst hxe
       have hn2:n2=0:=hxnone rfl
       subst hn2
       have hmv:=moved_ok (w':=w) (li:=⟨some k,0,n1+0,(L n).cap⟩) hSR hg0 rfl q5 hup hnew hD rfl rfl (fun _ _=>rfl) ⟨rfl,rfl,rfl⟩ (by
        intro L' hL' hl
        refine ⟨by rw [hl],by rw [hl];exact hbc,by rw [hl];exact hbfl,.inr ⟨k,cur,by rw [hl],qh,by rw [hl];exact hroom,by rw [hl];exact q8,by rw [hl];exact q9,?_⟩⟩
        rw [hl,hcellB L' hL']
        have:XE L b2=[]:=List.length_eq_zero_iff.1 (by rw [hl2];simp)
        rw [this,List.append_nil];exact htk)
       obtain ⟨L',g1,g2,g3⟩:=hmv
       refine ⟨L',w,_,g1,g2,g3,?_⟩
       rw [hxd]
       exact run_append_none w hu hie _ n1 _ xc q7
      ·obtain ⟨ad,rfl⟩:=Option.ne_none_iff_exists'.1 hxe
       have hr:=run_append_room (P:=P) w st ty bt ie hu hie k n1 (L n).cap cur qh ad n2 xc (XE L b2) (by rw [hl2,hse]) (hxsome ad rfl) hone2 hroom hfit
       have hmv:=moved_ok (w':=w.setRow k (cur.toList.take (n1*ie.size)++XE L b2++cur.toList.drop (n1*ie.size+(XE L b2).length)).toArray) (li:=⟨some k,0,n1+n2,(L n).cap⟩) hSR hg0 rfl q5 hup hnew hD rfl (setRow_size w k _) (fun b hb=>setRow_other w k b _ hb) ⟨rfl,rfl,rfl⟩ (by
        intro L' hL' hl
        refine ⟨by rw [hl],by rw [hl];exact hbc,by rw [hl];exact hbfl,.inr ⟨k,_,by rw [hl],setRow_heap w k cur _ bt _ qh,by rw [hl];exact hroom,by rw [hl];exact q8,?_,?_⟩⟩
        ·rw [hl,List.size_toArray,List.length_append,List.length_append,List.length_take,List.length_drop,Array.length_toList,hl2]
         rw [hl2] at hfit
         rw [hse] at hfit ⊢
         show _=(L n).cap*ei.size
         rw [← q9];omega
        ·rw [hl,hcellB L' hL']
         show List.take ((n1+n2)*ei.size) _=_
         rw [List.toList_toArray,hse,htk,List.take_left' (by rw [List.length_append,hl1,hl2,← Nat.add_mul])])
       obtain ⟨L',g1,g2,g3⟩:=hmv
       refine ⟨L',_,_,g1,g2,g3,?_⟩
       rw [hxd]
       exact hr
     ·cases xa with
      |none=>have:=hxnone rfl;omega
      |some ad=>
       obtain ⟨L',g1,g2,g3⟩:=hgrown s4 m (L n).cap kSR hnew hD4
       rw [u1] at g2 g3
       refine ⟨L',_,_,kmv.trans (fun _ h=>h) g1,g2,g3,?_⟩
       rw [hxd]
       have holds:∀ j u,(XE L b1)[j]?=some u→w.cell? ((⟨k,0,none⟩:Addr).add j)=some u:=by
        intro j u hu'
        have hj:j<n1*ei.size:=by have:=(List.getElem?_eq_some_iff.1 hu').1;rw [hl1] at this;exact this
        rw [← htk,List.getElem?_take_of_lt hj] at hu'
        rw [addr_add]
        simp [World.cell?,qh]
        simpa using hu'
       exact run_append_grow (P:=P) w st ty bt ie ze hu hie hze ⟨k,0,none⟩ n1 (L n).cap (XE L b1) (by rw [hl1,hse]) holds ad n2 xc (XE L b2) (by rw [hl2,hse]) (hxsome ad rfl) (by omega) (by omega) (growslice_fits (by omega) hbytes)
   ·cases h9
  ·cases h9
 ·cases h1
end
end Go.Sx
namespace Go.Sx
section
variable {P:Program} {E:Env}
def LoudOK (_P:Program) (s s':St) (v:V) (H:(D:Nat→Prop)→LM→World→Prop) (run:World→Result Value):Prop:=
 ∀ (D:Nat→Prop) (L:LM) (w:World),H D L w→SR D L s.H.get w→(∀ n,D n→n<s.nx∨s'.nx≤n)→
  ∃ L' w' val,Mv D L s.H.get w L' s'.H.get w'∧SR (Grow D s.nx s'.nx) L' s'.H.get w'∧(∀ L'',Agree (Grow D s.nx s'.nx) L' L''→val=v.den L'')∧run w=.ok val w'
theorem YA {D:Nat→Prop} {n m:Nat} (h:n=m):Grow D n m=D:=by
 subst h
 funext k
 apply propext
 simp only [Grow]
 constructor
 ·rintro (h|h)
  ·exact h
  ·omega
 ·exact .inl
def Gives (r:Result Next) (val:Value) (w:World):Prop:=r=.ok (.value val) w∨(r=.ok .skip w∧val=undef)
theorem loudX_ok (hE:EnvOK P E) {T:Tr V} {op:Op} {s s':St} {v:V} (h:loudX E T op s=some (v,s')) (ho:Obl s'):
  Lg s s'∧Obl s∧∀ (ρ:Operand→Value) (o:Oper),o.op=op→∀ (D:Nat→Prop) (L:LM) (w:World),(∀ x∈op.operands,∀ u,ev T x=some u→∀ L',Agree D L L'→ρ x=u.den L')→
   SR D L s.H.get w→(∀ n,D n→n<s.nx∨s'.nx≤n)→
   ∃ L' w' val,Mv D L s.H.get w L' s'.H.get w'∧SR (Grow D s.nx s'.nx) L' s'.H.get w'∧(∀ L'',Agree (Grow D s.nx s'.nx) L' L''→val=v.den L'')∧Gives ((execOp ρ o).run P w) val w':=by
 cases op with
 |alloc t=>
  simp only [loudX] at h
  obtain ⟨ti,hti,h1⟩:=XA h
  obtain ⟨⟨n,s1⟩,hnew,h2⟩:=XA h1
  cases h2
  obtain ⟨i,zv,d,hi,hs,hb,hzv,hzz,hu,hag,hk⟩:=(hE.ty _ _ hti).info
  obtain ⟨n1,n2,n3,n4,n5⟩:=new_ok hnew
  refine ⟨.new hnew,fun x hx=>ho x (by rw [n4];exact hx),fun ρ o he D L w hr hSR hD=>?_⟩
  obtain ⟨L',g1,g2,g3⟩:=boxed_ok (arr:=zv.cells) hnew hSR hD (fun L' _=>hzz L')
  refine ⟨L',_,_,g1,g2,g3,.inl ?_⟩
  simp only [execOp,he,Instr.alloc,Sem.run_bind,run_zero' hi hzv,Result.andThen_ok,newVar,newRow,run_newObj,Sem.run_pure,World.alloc_eq]
 |box t x=>
  simp only [loudX] at h
  obtain ⟨va,h1,h2⟩:=XA h
  obtain ⟨⟨n,s1⟩,hnew,h3⟩:=XA h2
  cases h3
  obtain ⟨n1,n2,n3,n4,n5⟩:=new_ok hnew
  refine ⟨.new hnew,fun x hx=>ho x (by rw [n4];exact hx),fun ρ o he D L w hr hSR hD=>?_⟩
  have hx:=hr x (by simp [Op.operands]) _ h1
  obtain ⟨L',g1,g2,g3⟩:=boxed_ok (arr:=(ρ x).cells) hnew hSR hD (fun L' hL'=>by rw [hx L' hL',cells_den];rfl)
  refine ⟨L',_,_,g1,g2,g3,.inl ?_⟩
  simp only [execOp,he,Instr.box,Sem.run_bind,Result.andThen_ok,newVar,newRow,run_newObj,Sem.run_pure,World.alloc_eq]
 |buildSlice t len ps=>
  simp only [loudX] at h
  obtain ⟨vs,h1,h2⟩:=XA h
  obtain ⟨hlg,hob,hp⟩:=buildSliceX_ok hE h2 ho
  refine ⟨hlg,hob,fun ρ o he D L w hr hSR hD=>?_⟩
  obtain ⟨L',w',val,g1,g2,g3,g4⟩:=hp D L w (ps.map fun (p:Nat×Operand)=>(p.1,ρ p.2)) (by
   intro L' hL'
   have hm:=evs_map h1 (fun x hx u hu=>hr x (by simp only [Op.operands];simpa using hx) u hu L' hL')
   rw [zip_map_den,← hm]
   simp only [Array.toList_map]
   generalize ps.toList=l
   induction l with
   |nil=>rfl
   |cons p l ih=>simp [ih]) hSR hD
  refine ⟨L',w',val,g1,g2,g3,.inl ?_⟩
  simp only [execOp,he]
  rw [show (Array.map (fun (x:Nat×Operand)=>match x with|(i,x)=>(i,ρ x)) ps)=(ps.map fun (p:Nat×Operand)=>(p.1,ρ p.2)) from rfl]
  simp [g4]
 |store t a x=>
  simp only [loudX] at h
  obtain ⟨va,h1,h2⟩:=XA h
  obtain ⟨vx,h3,h4⟩:=XA h2
  obtain ⟨s1,h5,h6⟩:=XA h4
  cases h6
  obtain ⟨hlg,hob,hnx,hp⟩:=storeX_ok hE h5 ho
  refine ⟨hlg,hob,fun ρ o he D L w hr hSR hD=>?_⟩
  obtain ⟨w',g1,g2,g3⟩:=hp D L w (ρ a) (ρ x) (fun L' hL'=>⟨hr a (by simp [Op.operands]) _ h1 L' hL',hr x (by simp [Op.operands]) _ h3 L' hL'⟩) hSR
  refine ⟨L,w',undef,g1,?_,fun _ _=>rfl,.inr ⟨?_,rfl⟩⟩
  ·rw [YA hnx.symm];exact g2
  ·simp [execOp,he,g3]
 |makeSlice t l c=>
  simp only [loudX] at h
  obtain ⟨va,h1,h2⟩:=XA h
  obtain ⟨vx,h3,h4⟩:=XA h2
  obtain ⟨hlg,hob,hp⟩:=makeSliceX_ok hE h4 ho
  refine ⟨hlg,hob,fun ρ o he D L w hr hSR hD=>?_⟩
  obtain ⟨L',w',val,g1,g2,g3,g4⟩:=hp D L w (ρ l) (ρ c) (fun L' hL'=>⟨hr l (by simp [Op.operands]) _ h1 L' hL',hr c (by simp [Op.operands]) _ h3 L' hL'⟩) hSR hD
  exact ⟨L',w',val,g1,g2,g3,.inl (by simp [execOp,he,g4])⟩
 |call c=>
  simp only [loudX] at h
  obtain ⟨callee,args,argTypes⟩:=c
  split at h
  ·rename_i hc
   simp only at hc
   subst hc
   split at h
   ·rename_i a x st xt hargs htys
    simp only at hargs htys
    have ha:args=#[a,x]:=by apply Array.ext';simpa using hargs
    have hty:argTypes=#[st,xt]:=by apply Array.ext';simpa using htys
    subst ha hty
    obtain ⟨_,c1,h0⟩:=XA h
    obtain ⟨va,h1,h2⟩:=XA h0
    obtain ⟨vx,h3,h4⟩:=XA h2
    have hst:st=xt:=Nat.beq_eq.mp (XC c1)
    subst hst
    obtain ⟨hlg,hob,hp⟩:=appendX_ok hE h4 ho
    refine ⟨hlg,hob,fun ρ o he D L w hr hSR hD=>?_⟩
    obtain ⟨L',w',val,g1,g2,g3,g4⟩:=hp D L w o.type (ρ a) (ρ x) (fun L' hL'=>⟨hr a (by simp [Op.operands,Call.operands]) _ h1 L' hL',hr x (by simp [Op.operands,Call.operands]) _ h3 L' hL'⟩) hSR hD
    exact ⟨L',w',val,g1,g2,g3,.inl (by simp [execOp,he,resolve,invoke,builtin,g4])⟩
   ·cases h
  ·cases h
 |_=>simp [loudX] at h
end
end Go.Sx
