/- Rows of whole numbers that are handed on: nil, whole, or a part; a call that only reads them. -/
import Derived.Test.YtpnpmkdijmeddaaGreatSxY
import Derived.KernelRfl
set_option maxRecDepth 100000
namespace Go.Sx
section
variable {P:Program}
structure Gh (s s':St) (D:Nat→Prop) (L L':LM) (w:World):Prop where
 le:s.nx≤s'.nx
 agree:Agree D L L'
 sr:SR (Grow D s.nx s'.nx) L' s'.H.get w
 sub:∀ n o b,s'.H.get n=some o→o.isRo=false→(L' n).blk=some b→∃ m om,s.H.get m=some om∧om.isRo=false∧(L m).blk=some b
 ro:∀ n o,s'.H.get n=some o→o.isRo=true→s.H.get n=some o
theorem Gh.of_same {s s':St} {D:Nat→Prop} {L:LM} {w:World} (h:Same s s') (hSR:SR D L s.H.get w):Gh s s' D L L w:=by
 refine ⟨by rw [h.nx];exact Nat.le_refl _,.refl _ _,?_,fun n o b ho hr hb=>⟨n,o,by rw [← h.H];exact ho,hr,hb⟩,fun n o ho _=>by rw [← h.H];exact ho⟩
 rw [YA h.nx.symm,h.H];exact hSR
theorem grow_grow {D:Nat→Prop} {a b c:Nat} (h1:a≤b) (h2:b≤c):Grow (Grow D a b) b c=Grow D a c:=by
 funext n
 apply propext
 simp only [Grow]
 constructor
 ·rintro ((h|h)|h)
  ·exact .inl h
  ·exact .inr ⟨h.1,by omega⟩
  ·exact .inr ⟨by omega,h.2⟩
 ·rintro (h|h)
  ·exact .inl (.inl h)
  ·by_cases hb:n<b
   ·exact .inl (.inr ⟨h.1,hb⟩)
   ·exact .inr ⟨by omega,h.2⟩
theorem Gh.trans {s s1 s2:St} {D:Nat→Prop} {L L1 L2:LM} {w:World} (h:Gh s s1 D L L1 w) (k:Gh s1 s2 (Grow D s.nx s1.nx) L1 L2 w):Gh s s2 D L L2 w:=by
 refine ⟨Nat.le_trans h.le k.le,h.agree.trans (k.agree.mono fun n hn=>.inl hn),?_,fun n o b ho hr hb=>?_,fun n o ho hr=>h.ro n o (k.ro n o ho hr) hr⟩
 ·have:=k.sr
  rw [grow_grow h.le k.le] at this
  exact this
 ·obtain ⟨m,om,g1,g2,g3⟩:=k.sub n o b ho hr hb
  exact h.sub m om b g1 g2 g3
theorem YB.gh {f:FuncId} {args args':List V} {s s1 s':St} {v:V} (h:YB P f args' s1 v s') (hle:s.nx≤s1.nx) (hle':s1.nx≤s'.nx)
  (hg:∀ (D:Nat→Prop) (L:LM) (w:World),SR D L s.H.get w→(∀ n,D n→n<s.nx∨s1.nx≤n)→(∀ L',Agree D L L'→args.map (V.den L')=args.map (V.den L))→∃ L1,Gh s s1 D L L1 w∧∀ L',Agree (Grow D s.nx s1.nx) L1 L'→args'.map (V.den L')=args.map (V.den L)):YB P f args s v s':=by
 intro D L w kind cs av hSR hav hD
 obtain ⟨L1,g1,g2⟩:=hg D L w hSR (fun n hn=>(hD n hn).imp id fun h=>by omega) (fun L' hL'=>by rw [← hav L' hL',← hav L (.refl _ _)])
 obtain ⟨L',w',val,M,S,hv,fr',hst,hlv⟩:=h (Grow D s.nx s1.nx) L1 w kind cs av g1.sr (fun L' hL'=>by rw [hav L (.refl _ _),g2 L' hL']) (fun n hn=>by
  rcases hn with hn|hn
  ·exact (hD n hn).imp (fun h=>by omega) id
  ·exact .inl hn.2)
 rw [grow_grow hle hle'] at S hv
 refine ⟨L',w',val,⟨g1.agree.trans (M.agree.mono fun n hn=>.inl hn),M.size,fun b hb hn=>M.frame b hb fun n o ho hr hbl=>?_,fun n o b ho hr hb=>?_,M.os,M.tape,M.output,fun n o ho hr=>g1.ro n o (M.ro n o ho hr) hr⟩,S,hv,fr',hst,hlv⟩
 ·obtain ⟨m,om,k1,k2,k3⟩:=g1.sub n o b ho hr hbl
  exact hn m om k1 k2 k3
 ·rcases M.sub n o b ho hr hb with h4|⟨m,om,k1,k2,k3⟩
  ·exact .inl h4
  ·exact .inr (g1.sub m om b k1 k2 k3)
theorem gh_new {s s':St} {k:IntKind} {t:TypeId} {g:Nat} (h:s.new (.mem (.words k []) t (some 1))=some (g,s')) {D:Nat→Prop} {L:LM} {w:World} (hSR:SR D L s.H.get w) (hD:∀ n,D n→n<s.nx∨s'.nx≤n):
  ∃ L',Gh s s' D L L' w∧L' g=⟨none,0,0,0⟩:=by
 obtain ⟨n1,n2,n3,n4,n5⟩:=new_ok h
 subst n1
 have hnD:¬ D s.nx:=fun h=>by rcases hD _ h with h|h<;>omega
 refine ⟨fun m=>if m=s.nx then ⟨none,0,0,0⟩ else L m,⟨by omega,fun n hn=>?_,?_,fun n o b ho hr hb=>?_,fun n o ho hr=>?_⟩,by simp⟩
 ·have:n≠s.nx:=fun e=>hnD (e ▸ hn)
  simp [this]
 ·intro L' hL'
  have g0:L' s.nx=⟨none,0,0,0⟩:=by have:=hL' s.nx (.inr ⟨Nat.le_refl _,by omega⟩);simpa using this.symm
  have gA:Agree D L L':=fun n hn=>by
   have h1:=hL' n (.inl hn)
   have h2:n≠s.nx:=fun e=>hnD (e ▸ hn)
   simpa [h2] using h1
  have hR:=hSR L' gA
  refine ⟨fun n o ho=>?_,fun n m on om hn hm hne hr hb=>?_⟩
  ·rw [n5] at ho
   by_cases hn:n=s.nx
   ·subst hn
    rw [if_pos rfl] at ho
    cases ho
    exact ⟨by rw [g0],by rw [g0];rfl,by rw [g0];rfl,.inl ⟨by rw [g0],by rw [g0],by rw [g0]⟩⟩
   ·rw [if_neg hn] at ho
    exact hR.ob n o ho
  ·rw [n5] at hn hm
   by_cases h1:n=s.nx
   ·subst h1;rw [g0] at hb;exact absurd rfl hb
   ·rw [if_neg h1] at hn
    by_cases h2:m=s.nx
    ·subst h2;rw [g0];exact hb
    ·rw [if_neg h2] at hm
     exact hR.inj n m on om hn hm hne hr hb
 ·rw [n5] at ho
  by_cases hn:n=s.nx
  ·subst hn
   simp at hb
  ·rw [if_neg hn] at ho
   simp only [if_neg hn] at hb
   exact ⟨n,o,ho,hr,hb⟩
 ·rw [n5] at ho
  by_cases hn:n=s.nx
  ·rw [if_pos hn] at ho;cases ho;cases hr
  ·rw [if_neg hn] at ho;exact ho
def nrm (k:IntKind) (t:TypeId) (v:V) (s:St):Option ((Nat×Nat×Nat×Nat×List Int)×St):=
 match v with
 |.nils=>(s.new (.mem (.words k []) t (some 1))).bind fun (g,s1)=>some ((g,0,0,0,[]),s1)
 |.osl n es=>match s.H.get n with
  |some (.mem (.words k' ws) t' (some e))=>(chk (decide (k=k'∧t=t'∧es=1∧e=1))).bind fun _=>some ((n,0,0,ws.length,ws),s)
  |_=>none
 |.osv n es b st ln=>match s.H.get n with
  |some (.mem (.words k' ws) t' (some e))=>(chk (decide (k=k'∧t=t'∧es=1∧e=1))).bind fun _=>(need (decide (st+ln≤ws.length)) s).bind fun s1=>some ((n,b,st,ln,ws),s1)
  |_=>none
 |_=>none
theorem nrm_ok {k:IntKind} {t:TypeId} {v:V} {s s':St} {n b st ln:Nat} {ws:List Int} (h:nrm k t v s=some ((n,b,st,ln,ws),s')) (ho:Obl s'):
  Lg s s'∧Obl s∧s'.H.get n=some (.mem (.words k ws) t (some 1))∧st+ln≤ws.length∧(∀ m o,m≠n→s.H.get m=some o→s'.H.get m=some o)∧
  ∀ (D:Nat→Prop) (L:LM) (w:World),SR D L s.H.get w→(∀ n,D n→n<s.nx∨s'.nx≤n)→∃ L',Gh s s' D L L' w∧∀ L'',Agree (Grow D s.nx s'.nx) L' L''→(V.osv n 1 b st ln).den L''=v.den L:=by
 unfold nrm at h
 split at h
 ·obtain ⟨⟨g,s1⟩,h1,h2⟩:=XA h
  cases h2
  obtain ⟨n1,n2,n3,n4,n5⟩:=new_ok h1
  refine ⟨.new h1,by unfold Obl at ho ⊢;rw [n4] at ho;exact ho,by rw [n5,n1,if_pos rfl],Nat.le_refl _,fun m o e hm=>?_,fun D L w hSR hD=>?_⟩
  ·rw [n5,if_neg (by rw [← n1];exact e)];exact hm
  ·obtain ⟨L',g1,g2⟩:=gh_new h1 hSR hD
   refine ⟨L',g1,fun L'' hL''=>?_⟩
   have:L'' n=⟨none,0,0,0⟩:=by rw [← hL'' n (.inr (by rw [n1];exact ⟨Nat.le_refl _,by omega⟩)),g2]
   simp [V.den,this]
 ·rename_i n' es
  split at h
  ·rename_i k' ws' t' e hg
   obtain ⟨_,h1,h2⟩:=XA h
   cases h2
   have hd:k=k'∧t=t'∧es=1∧e=1:=of_decide_eq_true (XC h1)
   obtain ⟨rfl,rfl,rfl,rfl⟩:=hd
   refine ⟨.refl _,ho,hg,by omega,fun m o _ hm=>hm,fun D L w hSR hD=>⟨L,.of_same ⟨rfl,rfl,rfl⟩ hSR,fun L'' hL''=>?_⟩⟩
   rw [YA rfl] at hL''
   have hn:=hSR.live hg
   obtain ⟨q1,q2,q3,q4⟩:=(hSR L (.refl _ _)).ob n _ hg
   have e0:L'' n=L n:=(hL'' n hn).symm
   simp only [V.den,e0]
   have hc:ws.length=(L n).len:=q2
   rcases q4 with ⟨q5,q6,q7⟩|⟨kk,cur,q5,_⟩
   ·rw [q5];simp only [q7];rw [hc,q6]
   ·rw [q5];simp only [hc]
    by_cases h0:(L n).cap=0<;>simp [h0]
  ·cases h
 ·rename_i n' es b' st' ln'
  split at h
  ·rename_i k' ws' t' e hg
   obtain ⟨_,h1,h2⟩:=XA h
   obtain ⟨s1,h3,h4⟩:=XA h2
   cases h4
   have hd:k=k'∧t=t'∧es=1∧e=1:=of_decide_eq_true (XC h1)
   obtain ⟨rfl,rfl,rfl,rfl⟩:=hd
   obtain ⟨hd2,hq⟩:=XI h3 ho
   refine ⟨.of_same hq.1,hq.2,by rw [hq.1.H];exact hg,of_decide_eq_true hd2,fun m o _ hm=>by rw [hq.1.H];exact hm,fun D L w hSR hD=>⟨L,.of_same hq.1 hSR,fun L'' hL''=>?_⟩⟩
   rw [YA hq.1.nx.symm] at hL''
   have hn:=hSR.live hg
   have e0:L'' n=L n:=(hL'' n hn).symm
   simp only [V.den,e0]
  ·cases h
 ·cases h
theorem embedRO {f:FuncId} {ac:List V} {l:List (Option Ob)} {vc:V} (h:YD P f ac l.length (hO l) vc l.length (hO l)) (hall:∀ m,m<l.length→∃ o,(l[m]?).join=some o)
  (hobs:obsOK (fun m=>Nat.blt m l.length) 0 l=true) (hac:XQ (fun m=>Nat.blt m l.length) (ac.map some)=true)
  {s:St} {args:List V} {v:V} (πl:List Nat) (hlen:πl.length=l.length) (hπ:∀ m o,(l[m]?).join=some o→s.H.get (πf πl m)=some (o.ren (πf πl))) (hd:πl.Nodup) (hargs:args=ac.map (V.ren (πf πl)))
  (hv:v=vc.ren (ext (πf πl) l.length s.nx)):YB P f args s v s:=by
 have hb:(fun m=>Nat.blt m l.length)=(fun m=>decide (m<l.length)):=by
  funext m
  cases hb:Nat.blt m l.length with
  |true=>exact (decide_eq_true (Nat.blt_eq.mp hb)).symm
  |false=>refine (decide_eq_false fun hlt=>?_).symm;rw [Nat.blt_eq.mpr hlt] at hb;cases hb
 rw [hb] at hobs hac
 refine embed h (by omega) (fun m hm=>?_) (fun m hm=>?_) (fun m hm=>rfl) (fun m o' ho=>?_) (fun v hv=>?_) (πf πl) hπ (fun m n hm hn hne=>?_) hargs hv (by omega) (fun n=>?_)
 ·simp only [hO,List.getElem?_eq_none hm];rfl
 ·obtain ⟨o',ho⟩:=hall m hm
  have:=XP l 0 hobs m o' ho
  exact ⟨o',ho,this.1,this.2.2⟩
 ·have:=XP _ 0 hobs m o' ho
  exact ⟨this.1,by simpa using this.2.1⟩
 ·obtain ⟨i,hi⟩:=List.getElem?_of_mem hv
  exact liveNames_ok _ hac i v (by simp [hi])
 ·have hm':m<πl.length:=by omega
  have hn':n<πl.length:=by omega
  simp only [πf,List.getD_eq_getElem?_getD,List.getElem?_eq_getElem hm',List.getElem?_eq_getElem hn',Option.getD_some]
  intro he
  exact hne ((List.getElem_inj hd).1 he)
 ·rw [if_neg (by omega)]
end
end Go.Sx
namespace Go.Sx
abbrev far:Nat:=1000000000
def bodyOf (fn:Func):Code:=fn.body.getD .skip
theorem ghost_slots {J:Nat→V} {sl:List (Option V)} {k g es:Nat} (h:sl[k]?=some (some .nils)) (hl:sl.length<big) (u:Nat):
  GhV g es (((trO (slots J 0 sl)).get u).getD XJ) (((trO (slots J 0 (sl.set k (some (.osl g es))))).get u).getD XJ):=by
 have hk:k<sl.length:=(List.getElem?_eq_some_iff.1 h).1
 rw [trO_get _ (by rw [XZ];exact hl),trO_get _ (by rw [XZ];simpa using hl),slots_get,slots_get]
 by_cases hu:u=k
 ·subst hu
  rw [h,List.getElem?_set_self hk]
  exact .inr ⟨rfl,rfl⟩
 ·rw [List.getElem?_set_ne (Ne.symm hu)]
  exact .inl rfl
theorem hO_snoc {l:List (Option Ob)} {o:Ob}:hO (l++[some o]) l.length=some o∧∀ m,m≠l.length→hO (l++[some o]) m=hO l m:=by
 refine ⟨by simp [hO],fun m hm=>?_⟩
 simp only [hO]
 by_cases h:m<l.length
 ·rw [List.getElem?_append_left h]
 ·rw [List.getElem?_eq_none (l:=l) (by omega),List.getElem?_eq_none (by simp;omega)]
theorem XM {x:Int} (h1:-9223372036854775808≤x) (h2:x<9223372036854775808):IntKind.i64.wrap x=x:=by
 simp only [IntKind.wrap,IntKind.bits,IntKind.signed]
 by_cases h:0≤x
 ·have e:x % 2 ^ 64=x:=by omega
  simp;omega
 ·have e:x % 2 ^ 64=x+18446744073709551616:=by omega
  simp;omega
theorem p_ok {l':List (Option Ob)} {n0:Nat} {k:Nat} (hk:l'.length=k) (hall:∀ m,m<k→∃ o,(l'[m]?).join=some o):∀ m,(fun m=>Nat.blt m k) m=true→m<l'.length∧(m<n0∨∃ o,(l'[m]?).join=some o):=fun m hm=>by
 have h:m<k:=Nat.blt_eq.mp hm
 exact ⟨by omega,.inr (hall m h)⟩
theorem XD {l:List Bool}:allB l=true↔∀ b∈l,b=true:=by
 refine ⟨allB_ok,fun h=>?_⟩
 induction l with
 |nil=>rfl
 |cons x l ih=>
  simp only [allB]
  rw [h x (List.mem_cons_self ..)]
  exact ih fun b hb=>h b (List.mem_cons_of_mem _ hb)
theorem blt_fun {k:Nat}:(fun m=>Nat.blt m k)=(fun m=>decide (m<k)):=by
 funext m
 cases hb:Nat.blt m k with
 |true=>exact (decide_eq_true (Nat.blt_eq.mp hb)).symm
 |false=>refine (decide_eq_false fun hlt=>?_).symm;rw [Nat.blt_eq.mpr hlt] at hb;cases hb
theorem chk_dec {p:Prop} [Decidable p] {u:Unit} (h:chk (decide p)=some u):p:=of_decide_eq_true (XC h)
theorem embed0 {P:Program} {f:FuncId} {ac:List V} {l:List (Option Ob)} {vc:V} (h:YD P f ac l.length (hO l) vc l.length (hO l)) (hall:∀ m,m<l.length→∃ o,(l[m]?).join=some o)
  (hobs:obsOK (fun m=>Nat.blt m l.length) 0 l=true) (hac:XQ (fun m=>Nat.blt m l.length) (ac.map some)=true)
  {s s1:St} {args:List V} {v:V} (πl:List Nat) (hlen:πl.length=l.length) (hπ:∀ m o,(l[m]?).join=some o→s.H.get (πf πl m)=some (o.ren (πf πl))) (hd:πl.Nodup) (hargs:args=ac.map (V.ren (πf πl)))
  (hs1:Same s s1) (hv:v=vc.ren (ext (πf πl) l.length s.nx)):YB P f args s v s1:=by
 rw [blt_fun] at hobs hac
 refine embed h (by omega) (fun m hm=>?_) (fun m hm=>?_) (fun m hm=>rfl) (fun m o' ho=>?_) (fun v hv=>?_) (πf πl) hπ (fun m n hm hn hne=>?_) hargs hv (by rw [hs1.nx];omega) (fun n=>?_)
 ·simp only [hO,List.getElem?_eq_none hm];rfl
 ·obtain ⟨o',ho⟩:=hall m hm
  have:=XP l 0 hobs m o' ho
  exact ⟨o',ho,this.1,this.2.2⟩
 ·have:=XP _ 0 hobs m o' ho
  exact ⟨this.1,by simpa using this.2.1⟩
 ·obtain ⟨i,hi⟩:=List.getElem?_of_mem hv
  exact liveNames_ok _ hac i v (by simp [hi])
 ·have hm':m<πl.length:=by omega
  have hn':n<πl.length:=by omega
  simp only [πf,List.getD_eq_getElem?_getD,List.getElem?_eq_getElem hm',List.getElem?_eq_getElem hn',Option.getD_some]
  intro he
  exact hne ((List.getElem_inj hd).1 he)
 ·rw [hs1.nx,hs1.H,if_neg (by omega)]
theorem XY {x:Int} (h1:0≤x) (h2:x<18446744073709551616):IntKind.u64.wrap x=x:=by
 simp only [IntKind.wrap,IntKind.bits,IntKind.signed]
 have e:x % 2 ^ 64=x:=by omega
 simp;omega
theorem and_mask (m:Nat) (x:Int) (hx:0≤x) (hx2:x<18446744073709551616) (hm:m≤64):((BitVec.ofInt 64 x &&& BitVec.ofInt 64 ((2:Int) ^ m - 1)).toNat:Int)=x % 2 ^ m:=by
 obtain ⟨k,rfl⟩:=Int.eq_ofNat_of_zero_le hx
 have e1:(BitVec.ofInt 64 (k:Int)).toNat=k:=by simp;omega
 have hp:(1:Int)≤2 ^ m:=by exact_mod_cast Nat.one_le_two_pow
 have e2:(BitVec.ofInt 64 ((2:Int) ^ m - 1)).toNat=2 ^ m - 1:=by
  rw [BitVec.toNat_ofInt]
  have:(2:Nat) ^ m≤2 ^ 64:=Nat.pow_le_pow_right (by decide) hm
  have h4:=Nat.one_le_two_pow (n:=m)
  have h3:((2:Int) ^ m - 1)=((2 ^ m - 1:Nat):Int):=by
   rw [Int.natCast_sub h4];simp
  rw [h3]
  generalize 2 ^ m=q at *
  omega
 rw [BitVec.toNat_and,e1,e2,Nat.and_two_pow_sub_one_eq_mod]
 rw [Int.natCast_emod,Int.natCast_pow];rfl
theorem or_add (a b:Int) (k:Nat) (ha:0≤a) (ha2:a<2 ^ k) (hb:0≤b) (_hk:k≤64) (hs:a+b*2 ^ k<18446744073709551616):((BitVec.ofInt 64 a ||| BitVec.ofInt 64 (b*2 ^ k)).toNat:Int)=a+b*2 ^ k:=by
 obtain ⟨x,rfl⟩:=Int.eq_ofNat_of_zero_le ha
 obtain ⟨y,rfl⟩:=Int.eq_ofNat_of_zero_le hb
 have hx:x<2 ^ k:=by
  have h:((x:Nat):Int)<((2 ^ k:Nat):Int):=by rw [Int.natCast_pow];exact ha2
  exact Int.ofNat_lt.mp h
 have hy:((y:Int)*2 ^ k)=((y*2 ^ k:Nat):Int):=by rw [Int.natCast_mul,Int.natCast_pow];rfl
 have hs':x+y*2 ^ k<18446744073709551616:=by rw [hy] at hs;omega
 have e1:(BitVec.ofInt 64 (x:Int)).toNat=x:=by simp;omega
 have e2:(BitVec.ofInt 64 ((y:Int)*2 ^ k)).toNat=y*2 ^ k:=by
  rw [BitVec.toNat_ofInt,hy];omega
 rw [BitVec.toNat_or,e1,e2,Nat.mul_comm,Nat.or_comm,← Nat.two_pow_add_eq_or_of_lt hx]
 rw [hy,Nat.mul_comm];omega
theorem nodup_le:∀ (n:Nat) (l:List Nat),l.Nodup→(∀ x∈l,x<n)→l.length≤n:=by
 intro n
 induction n with
 |zero=>intro l _ h;cases l with
  |nil=>simp
  |cons x l=>exact absurd (h x (List.mem_cons_self ..)) (by omega)
 |succ n ih=>
  intro l hd h
  by_cases hn:n∈l
  ·have h1:=ih (l.erase n) (hd.erase n) (fun x hx=>by
    have h2:=(List.Nodup.mem_erase_iff hd).1 hx
    have:=h x h2.2
    omega)
   rw [List.length_erase_of_mem hn] at h1
   omega
  ·have:=ih l hd (fun x hx=>by
    have:=h x hx
    have:x≠n:=fun e=>hn (e ▸ hx)
    omega)
   omega
theorem nodup_int {n:Int} {l:List Int} (hd:l.Nodup) (h:∀ x∈l,0≤x∧x<n):l.length≤n.toNat:=by
 have h1:(l.map Int.toNat).Nodup:=by
  unfold List.Nodup
  rw [List.pairwise_map]
  refine List.Pairwise.imp_of_mem (fun {a b} ha hb hne=>?_) hd
  have:=h a ha;have:=h b hb;omega
 have h2:=nodup_le n.toNat (l.map Int.toNat) h1 (fun x hx=>by
  obtain ⟨y,hy,rfl⟩:=List.mem_map.1 hx
  have:=h y hy;omega)
 simpa using h2
theorem getD_take {ws:List Int} {i k:Nat} (h:i<k):(ws.take k).getD i 0=ws.getD i 0:=by
 simp only [List.getD_eq_getElem?_getD,List.getElem?_take,if_pos h]
theorem XU {ws:List Int} {p q:Nat} {v:Int} (h:p≠q):(ws.set p v).getD q 0=ws.getD q 0:=by
 rw [List.getD_eq_getElem?_getD,List.getElem?_set_ne h,← List.getD_eq_getElem?_getD]
theorem XV {ws:List Int} {p:Nat} {v:Int} (h:p<ws.length):(ws.set p v).getD p 0=v:=by
 rw [List.getD_eq_getElem?_getD,List.getElem?_set_self h];rfl
theorem set_self {ws:List Int} {p:Nat} (h:p<ws.length):ws.set p (ws.getD p 0)=ws:=by
 rw [List.getD_eq_getElem?_getD,List.getElem?_eq_getElem h,Option.getD_some,List.set_getElem_self]
def bits:Nat→Nat→List (Nat×Bool)
 |0,_=>[]
 |k+1,n=>(0,Nat.testBit n k)::bits k n
theorem hO_pad (l:List (Option Ob)) (k:Nat):hO (l++List.replicate k none)=hO l:=by
 funext m
 simp only [hO]
 by_cases h:m<l.length
 ·rw [List.getElem?_append_left h]
 ·rw [List.getElem?_append_right (by omega),List.getElem?_eq_none (l:=l) (by omega),List.getElem?_replicate]
  split<;>rfl
theorem lt_of_hO {l:List (Option Ob)} {m:Nat} {o:Ob} (h:hO l m=some o):m<l.length:=Nat.lt_of_not_le fun hle=>by
 simp only [hO,List.getElem?_eq_none hle] at h;cases h
def allSome:List (Option Ob)→Bool
 |[]=>true
 |some _::l=>allSome l
 |none::_=>false
theorem allSome_ok:∀ {l:List (Option Ob)},allSome l=true→∀ m,m<l.length→∃ o,(l[m]?).join=some o:=by
 intro l
 induction l with
 |nil=>intro _ m hm;exact absurd hm (Nat.not_lt_zero _)
 |cons o l ih=>
  intro h m hm
  cases o with
  |none=>cases h
  |some o=>
   cases m with
   |zero=>exact ⟨o,rfl⟩
   |succ m=>
    obtain ⟨q,hq⟩:=ih h m (by simpa using hm)
    exact ⟨q,by simpa using hq⟩
theorem embed1 {P:Program} {f:FuncId} {ac:List V} {l:List (Option Ob)} {o:Ob} {vc:V} (h:YD P f ac l.length (hO l) vc (l.length+1) (hO (l++[some o]))) (hall:∀ m,m<l.length→∃ o,(l[m]?).join=some o)
  (hobs:obsOK (fun m=>Nat.blt m l.length) 0 l=true) (hobs':obsOK (fun m=>Nat.blt m (l.length+1)) 0 (l++[some o])=true) (hac:XQ (fun m=>Nat.blt m l.length) (ac.map some)=true)
  {s s1 s':St} {args:List V} {v:V} {k:Nat} {on:Ob} (πl:List Nat) (hlen:πl.length=l.length) (hπ:∀ m o,(l[m]?).join=some o→s.H.get (πf πl m)=some (o.ren (πf πl))) (hd:πl.Nodup) (hargs:args=ac.map (V.ren (πf πl)))
  (hs1:Same s s1) (hnew:s1.new on=some (k,s')) (hon:on=o.ren (ext (πf πl) l.length s.nx)) (hv:v=vc.ren (ext (πf πl) l.length s.nx)):YB P f args s v s':=by
 obtain ⟨n1,n2,n3,n4,n5⟩:=new_ok hnew
 rw [blt_fun] at hobs hobs' hac
 have hlt:∀ (m:Nat) (o:Ob),hO l m=some o→m<l.length:=fun m o ho=>Nat.lt_of_not_le fun hle=>by simp only [hO,List.getElem?_eq_none hle] at ho;cases ho
 refine embed h (by omega) (fun m hm=>?_) (fun m hm=>?_) (fun m hm=>?_) (fun m o' ho=>?_) (fun v hv=>?_) (πf πl) hπ (fun m n hm hn hne=>?_) hargs hv (by rw [n2,hs1.nx];omega) (fun n=>?_)
 ·simp only [hO,List.getElem?_eq_none hm];rfl
 ·obtain ⟨o',ho⟩:=hall m hm
  have:=XP l 0 hobs m o' ho
  exact ⟨o',ho,this.1,this.2.2⟩
 ·simp only [hO,List.getElem?_append_left hm]
 ·have:=XP _ 0 hobs' m o' ho
  exact ⟨this.1,by simpa using this.2.1⟩
 ·obtain ⟨i,hi⟩:=List.getElem?_of_mem hv
  exact liveNames_ok _ hac i v (by simp [hi])
 ·have hm':m<πl.length:=by omega
  have hn':n<πl.length:=by omega
  simp only [πf,List.getD_eq_getElem?_getD,List.getElem?_eq_getElem hm',List.getElem?_eq_getElem hn',Option.getD_some]
  intro he
  exact hne ((List.getElem_inj hd).1 he)
 ·rw [n5,n2,hs1.nx,hs1.H]
  by_cases hn:n=s.nx
  ·subst hn
   rw [if_pos rfl,if_pos (by omega)]
   simp [hO,hon]
  ·rw [if_neg hn,if_neg (by omega)]
theorem YB.val {P:Program} {f:FuncId} {args:List V} {s s':St} {v v':V} (h:YB P f args s v s') (hv:∀ (L:LM) (w:World),HR L s'.H.get w→v'.den L=v.den L):YB P f args s v' s':=by
 intro D L w kind cs av hSR hav hD
 obtain ⟨L',w',val,M,S,h1,fr',h2⟩:=h D L w kind cs av hSR hav hD
 exact ⟨L',w',val,M,S,fun L'' hL''=>by rw [h1 L'' hL'',hv L'' w' (S L'' hL'')],fr',h2⟩
theorem YB.after {P:Program} {f:FuncId} {args:List V} {s s1 s2:St} {v v':V} {k:IntKind} {t:TypeId} {g:Nat} (h:YB P f args s v s1) (hle:s.nx≤s1.nx) (hn:s1.new (.mem (.words k []) t (some 1))=some (g,s2)) (hv:∀ L:LM,L g=⟨none,0,0,0⟩→v'.den L=v.den L):YB P f args s v' s2:=by
 intro D L w kind cs av hSR hav hD
 obtain ⟨n1,n2,n3,n4,n5⟩:=new_ok hn
 obtain ⟨L',w',val,M,S,h1,fr',h2⟩:=h D L w kind cs av hSR hav (fun n hn=>(hD n hn).imp id fun h=>by omega)
 obtain ⟨L2,g1,g2⟩:=gh_new hn S (fun n hn=>by
  rcases hn with hn|hn
  ·exact (hD n hn).imp (fun h=>by omega) id
  ·exact .inl hn.2)
 have hgr:Grow (Grow D s.nx s1.nx) s1.nx s2.nx=Grow D s.nx s2.nx:=grow_grow hle (by omega)
 have hsr:=g1.sr
 rw [hgr] at hsr
 refine ⟨L2,w',val,⟨M.agree.trans (g1.agree.mono fun n hn=>.inl hn),M.size,M.frame,fun n o b ho hr hb=>?_,M.os,M.tape,M.output,fun n o ho hr=>M.ro n o (g1.ro n o ho hr) hr⟩,hsr,fun L'' hL''=>?_,fr',h2⟩
 ·obtain ⟨m,om,k1,k2,k3⟩:=g1.sub n o b ho hr hb
  exact M.sub m om b k1 k2 k3
 ·rw [hv L'' (by rw [← hL'' g (.inr (by rw [n1];exact ⟨hle,by omega⟩)),g2])]
  refine h1 L'' fun n hn=>?_
  rw [g1.agree n hn]
  refine hL'' n ?_
  rcases hn with hn|hn
  ·exact .inl hn
  ·exact .inr ⟨hn.1,by omega⟩
theorem osl_osv {L:LM} {w:World} {H:Nat→Option Ob} (h:HR L H w) {n es:Nat} {b:Body} {t:TypeId} (hn:H n=some (.mem b t (some es))):(V.osv n es 0 0 (b.count es)).den L=(V.osl n es).den L:=by
 obtain ⟨q1,q2,q3,q4⟩:=h.ob n _ hn
 simp only [V.den]
 rcases q4 with ⟨q5,q6,q7⟩|⟨kk,cur,q5,_⟩
 ·rw [q5];simp only [q7];rw [q2,q6]
 ·rw [q5];simp only [q2]
  by_cases h0:(L n).cap=0<;>simp [h0]
theorem p_all {l':List (Option Ob)} {n0 k:Nat} (hk:l'.length=k) (h:allSome l'=true):∀ m,(fun m=>Nat.blt m k) m=true→m<l'.length∧(m<n0∨∃ o,(l'[m]?).join=some o):=
 p_ok hk fun m hm=>allSome_ok h m (by omega)
theorem results_three {P:Program} {fn:Func} {t1 t2 t3:Tmp} (h:fn.results=#[.tmp t1,.tmp t2,.tmp t3]) (arr:Array Value) (w:World):(results fn arr).run P w=.ok (.tuple #[arr.getD t1 undef,arr.getD t2 undef,arr.getD t3 undef]) w:=by
 simp [results,h]
theorem callH_of3 {P:Program} {f:FuncId} {fn:Func} {c:Code} {t1 t2 t3:Tmp} (hf:P.funcs[f]?=some fn) (hb:fn.body=some c) (hnt:fn.ntmps<big) (hres:fn.results=#[.tmp t1,.tmp t2,.tmp t3]) {args:List V} (hlen:args.length≤fn.ntmps)
  {n0 n1 hi:Nat} {Hc Hc':Nat→Option Ob} {v1 v2 v3:V} (hnew:∀ m o,Hc' m=some o→m<n1∧o.names (fun n=>decide (n<n1))=true) (hro:∀ m o,Hc' m=some o→o.isRo=true→Hc m=some o) (hv:(V.tup [v1,v2,v3]).names (fun n=>decide (n<n1))=true)
  (h:∀ (L:LM) (w:World) (kind:CallKind) (cs:List Frame) (a:Cf),YC ⟨w,Handed Hc L,n0,L⟩ ⟨f,none,fn.ntmps⟩ (Tr.ofList args) [] Hc n0 hi a→
   ∃ (b:Cf) (T':Tr V) (nx' hi':Nat) (todo:List Item),YC ⟨w,Handed Hc L,n0,L⟩ ⟨f,none,fn.ntmps⟩ T' [] Hc' nx' hi' b∧(T'.get t1).getD XJ=v1∧(T'.get t2).getD XJ=v2∧(T'.get t3).getD XJ=v3∧Steps P (At ⟨f,none,fn.ntmps⟩ none kind cs a [.code c]) (At ⟨f,none,fn.ntmps⟩ none kind cs b todo)∧
    (todo=[]∨∃ k,todo=.code .ret::k)):YD P f args n0 Hc (.tup [v1,v2,v3]) n1 Hc':=by
 intro L w kind cs av hSR hav
 obtain ⟨a,haw,hent,hA⟩:=enter_asrt (hi:=hi) hf hb hnt hlen hSR hav (Handed Hc L) (fun b hb=>.inr hb) kind cs
 obtain ⟨b,T',nx',hi',todo,⟨D,L',g1,g2,g3,g4,g5,g6⟩,e1,e11,e12,e2,e3⟩:=h L w kind cs a hA
 obtain ⟨tt,e4⟩:=leave_steps (P:=P) (fr:=⟨f,none,fn.ntmps⟩) (kind:=kind) (cs:=cs) (b:=b) e3
 have hC:=g2 L' (.refl _ _)
 refine ⟨L',b.w,Value.tuple #[b.arr.getD t1 undef,b.arr.getD t2 undef,b.arr.getD t3 undef],⟨fun m hm=>((g6 m hm).2).symm,g4.size,fun k hk hn=>g4.old k hk ?_,fun n o k ho hr hk=>?_,g4.os,g4.tape,g4.output,hro⟩,?_,?_,_,by rw [hent];exact e2.trans e4,rfl,hC.2.1,rfl,rfl,fn,hf,results_three hres _ _⟩
 ·rintro ⟨m,o,h1,h2,h3⟩
  exact hn m o h1 h2 h3
 ·rcases g5 n o k ho hr hk with h1|⟨m,om,h1,h2,h3⟩
  ·exact .inl h1
  ·exact .inr ⟨m,om,h1,h2,h3⟩
 ·intro L'' hL''
  have h0:=g1 L' (.refl _ _)
  refine ⟨fun m o ho=>ObR_names (p:=fun n=>decide (n<n1)) (fun n hn=>hL'' n (by simpa using hn)) (by simpa using (hnew m o ho).1) (hnew m o ho).2 (h0.ob m o ho),fun n m on om hn hm hne hr hbl=>?_⟩
  rw [← hL'' n (hnew n on hn).1,← hL'' m (hnew m om hm).1]
  rw [← hL'' n (hnew n on hn).1] at hbl
  exact h0.inj n m on om hn hm hne hr hbl
 ·intro L'' hL''
  have h3:=den_names (p:=fun n=>decide (n<n1)) (fun n hn=>hL'' n (by simpa using hn)) _ hv
  rw [← h3,hC.1.2 t1,hC.1.2 t2,hC.1.2 t3,e1,e11,e12]
  rfl
theorem YC.less {β:Base} {fr:Frs} {T:Tr V} {df:List Dfr} {H H':Nat→Option Ob} {nx hi:Nat} {a:Cf} (h:YC β fr T df H nx hi a) (hs:∀ m o,H' m=some o→H m=some o):YC β fr T df H' nx hi a:=by
 obtain ⟨D,L,g1,g2,g3,g4,g5,g6⟩:=h
 exact ⟨D,L,fun L' hL'=>⟨fun n o ho=>(g1 L' hL').ob n o (hs n o ho),fun n m on om hn hm=>(g1 L' hL').inj n m on om (hs n on hn) (hs m om hm)⟩,g2,g3,g4,fun n o b ho=>g5 n o b (hs n o ho),g6⟩
def St.skip (s:St):Option (Nat×St):=(chk (Nat.blt s.nx big)).bind fun _=>some (s.nx,{s with H:=s.H.put s.nx none,nx:=Nat.succ s.nx})
theorem skip_ok {s s':St} {n:Nat} (h:s.skip=some (n,s')):n=s.nx∧s'.nx=s.nx+1∧s'.wr=s.wr∧s'.obl=s.obl∧∀ m,s'.H.get m=if m=s.nx then none else s.H.get m:=by
 unfold St.skip at h
 obtain ⟨_,h0,h⟩:=XA h
 cases h
 have hlt:s.nx<big:=Nat.blt_eq.mp (XC h0)
 exact ⟨rfl,rfl,rfl,rfl,fun m=>Tr.get_put _ _ _ _ hlt⟩
theorem Lg.skip {s s':St} {n:Nat} (h:s.skip=some (n,s')):Lg s s':=by
 obtain ⟨_,h1,h2,_,h3⟩:=skip_ok h
 exact ⟨by omega,[],by rw [h2];rfl,fun m _ hm=>by rw [h3,if_neg (fun e=>hm (by omega))]⟩
theorem embedSkip {P:Program} {f:FuncId} {ac:List V} {l:List (Option Ob)} {vc:V} (h:YD P f ac l.length (hO l) vc (l.length+1) (hO l)) (hall:∀ m,m<l.length→∃ o,(l[m]?).join=some o)
  (hobs:obsOK (fun m=>Nat.blt m l.length) 0 l=true) (hac:XQ (fun m=>Nat.blt m l.length) (ac.map some)=true)
  {s s':St} {args:List V} {v:V} {k:Nat} (πl:List Nat) (hlen:πl.length=l.length) (hπ:∀ m o,(l[m]?).join=some o→s.H.get (πf πl m)=some (o.ren (πf πl))) (hd:πl.Nodup) (hargs:args=ac.map (V.ren (πf πl)))
  (hnew:s.skip=some (k,s')) (hv:v=vc.ren (ext (πf πl) l.length s.nx)):YB P f args s v s':=by
 obtain ⟨n1,n2,n3,n4,n5⟩:=skip_ok hnew
 rw [blt_fun] at hobs hac
 refine embed h (by omega) (fun m hm=>?_) (fun m hm=>?_) (fun m hm=>rfl) (fun m o' ho=>?_) (fun v hv=>?_) (πf πl) hπ (fun m n hm hn hne=>?_) hargs hv (by rw [n2];omega) (fun n=>?_)
 ·simp only [hO,List.getElem?_eq_none hm];rfl
 ·obtain ⟨o',ho⟩:=hall m hm
  have:=XP l 0 hobs m o' ho
  exact ⟨o',ho,this.1,this.2.2⟩
 ·have:=XP _ 0 hobs m o' ho
  exact ⟨this.1,by have h1:=this.2.1;simp at h1;omega⟩
 ·obtain ⟨i,hi⟩:=List.getElem?_of_mem hv
  exact liveNames_ok _ hac i v (by simp [hi])
 ·have hm':m<πl.length:=by omega
  have hn':n<πl.length:=by omega
  simp only [πf,List.getD_eq_getElem?_getD,List.getElem?_eq_getElem hm',List.getElem?_eq_getElem hn',Option.getD_some]
  intro he
  exact hne ((List.getElem_inj hd).1 he)
 ·rw [n5,n2]
  by_cases hn:n=s.nx
  ·subst hn
   rw [if_pos rfl,if_pos (by omega)]
   simp only [hO]
   rw [List.getElem?_eq_none (by omega)];rfl
  ·rw [if_neg hn,if_neg (by omega)]
abbrev SmF:=List V→St→Option (V×St)
def smOf:List (Nat×SmF)→FuncId→Option SmF
 |[],_=>none
 |x::l,f=>cond (Nat.beq f x.1) (some x.2) (smOf l f)
def SmOK (P:Program) (f:FuncId) (F:SmF):Prop:=(∀ args s v s',F args s=some (v,s')→Obl s'→Lg s s'∧Obl s∧YB P f args s v s')∧∀ av w,(callFunc f av).run P w=.ok (.enter f av) w
def AllSm (P:Program):List (Nat×SmF)→Prop
 |[]=>True
 |x::l=>SmOK P x.1 x.2∧AllSm P l
theorem smOf_mem {P:Program}:∀ {l:List (Nat×SmF)} {f:FuncId} {F:SmF},AllSm P l→smOf l f=some F→SmOK P f F:=by
 intro l
 induction l with
 |nil=>intro f F _ h;cases h
 |cons x l ih=>
  intro f F ha h
  simp only [smOf] at h
  cases hb:Nat.beq f x.1 with
  |true=>
   rw [hb] at h
   cases h
   rw [Nat.beq_eq.mp hb];exact ha.1
  |false=>rw [hb] at h;exact ih ha.2 h
theorem sumOK_of {P:Program} {E:Env} {l:List (Nat×SmF)} (hE:E.SM=smOf l) (h:AllSm P l):SumOK P E:=by
 intro f F hf
 rw [hE] at hf
 have hk:=smOf_mem h hf
 intro g args s v s' hc ho
 by_cases hg:g=f
 ·subst hg
  simp only [if_true] at hc
  obtain ⟨a,b,c⟩:=hk.1 _ _ _ _ hc ho
  exact ⟨a,b,c,hk.2⟩
 ·simp only [if_neg hg] at hc;cases hc
end Go.Sx
