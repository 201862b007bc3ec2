/- A heap: is it in order; where does a key belong: contracts. -/
import Derived.Test.YtpnpmkdijmeddaaGreatScD6
import Derived.Test.YtpnpmkdijmeddaaGreatScB2
set_option maxRecDepth 100000
namespace Go.Sx
open Go.Proofs
theorem results_two {P:Program} {fn:Func} {t1 t2:Tmp} (h:fn.results=#[.tmp t1,.tmp t2]) (arr:Array Value) (w:World):(results fn arr).run P w=.ok (.tuple #[arr.getD t1 undef,arr.getD t2 undef]) w:=by
 simp [results,h]
theorem callH_of2 {P:Program} {f:FuncId} {fn:Func} {c:Code} {t1 t2:Tmp} (hf:P.funcs[f]?=some fn) (hb:fn.body=some c) (hnt:fn.ntmps<big) (hres:fn.results=#[.tmp t1,.tmp t2]) {args:List V} (hlen:args.length≤fn.ntmps)
  {n0 n1 hi:Nat} {Hc Hc':Nat→Option Ob} {v1 v2:V} (hnew:∀ m o,Hc' m=some o→m<n1∧o.names (fun n=>decide (n<n1))=true) (hro:∀ m o,Hc' m=some o→o.isRo=true→Hc m=some o) (hv:(V.tup [v1,v2]).names (fun n=>decide (n<n1))=true)
  (h:∀ (L:LM) (w:World) (kind:CallKind) (cs:List Frame) (a:Cf),YC ⟨w,Handed Hc L,n0,L⟩ ⟨f,none,fn.ntmps⟩ (Tr.ofList args) [] Hc n0 hi a→
   ∃ (b:Cf) (T':Tr V) (nx' hi':Nat) (todo:List Item),YC ⟨w,Handed Hc L,n0,L⟩ ⟨f,none,fn.ntmps⟩ T' [] Hc' nx' hi' b∧(T'.get t1).getD XJ=v1∧(T'.get t2).getD XJ=v2∧Steps P (At ⟨f,none,fn.ntmps⟩ none kind cs a [.code c]) (At ⟨f,none,fn.ntmps⟩ none kind cs b todo)∧
    (todo=[]∨∃ k,todo=.code .ret::k)):YD P f args n0 Hc (.tup [v1,v2]) n1 Hc':=by
 intro L w kind cs av hSR hav
 obtain ⟨a,haw,hent,hA⟩:=enter_asrt (hi:=hi) hf hb hnt hlen hSR hav (Handed Hc L) (fun b hb=>.inr hb) kind cs
 obtain ⟨b,T',nx',hi',todo,⟨D,L',g1,g2,g3,g4,g5,g6⟩,e1,e11,e2,e3⟩:=h L w kind cs a hA
 obtain ⟨tt,e4⟩:=leave_steps (P:=P) (fr:=⟨f,none,fn.ntmps⟩) (kind:=kind) (cs:=cs) (b:=b) e3
 have hC:=g2 L' (.refl _ _)
 refine ⟨L',b.w,Value.tuple #[b.arr.getD t1 undef,b.arr.getD t2 undef],⟨fun m hm=>((g6 m hm).2).symm,g4.size,fun k hk hn=>g4.old k hk ?_,fun n o k ho hr hk=>?_,g4.os,g4.tape,g4.output,hro⟩,?_,?_,_,by rw [hent];exact e2.trans e4,rfl,hC.2.1,rfl,rfl,fn,hf,results_two hres _ _⟩
 ·rintro ⟨m,o,h1,h2,h3⟩
  exact hn m o h1 h2 h3
 ·rcases g5 n o k ho hr hk with h1|⟨m,om,h1,h2,h3⟩
  ·exact .inl h1
  ·exact .inr ⟨m,om,h1,h2,h3⟩
 ·intro L'' hL''
  have h0:=g1 L' (.refl _ _)
  refine ⟨fun m o ho=>ObR_names (p:=fun n=>decide (n<n1)) (fun n hn=>hL'' n (by simpa using hn)) (by simpa using (hnew m o ho).1) (hnew m o ho).2 (h0.ob m o ho),fun n m on om hn hm hne hr hbl=>?_⟩
  rw [← hL'' n (hnew n on hn).1,← hL'' m (hnew m om hm).1]
  rw [← hL'' n (hnew n on hn).1] at hbl
  exact h0.inj n m on om hn hm hne hr hbl
 ·intro L'' hL''
  have h3:=den_names (p:=fun n=>decide (n<n1)) (fun n hn=>hL'' n (by simpa using hn)) _ hv
  rw [← h3,hC.1.2 t1,hC.1.2 t2,e1,e11]
  rfl
def shItem:List Sh:=[.int .u64,.int .i64]
def XK (hp:List (List Int)):Ob:=.mem (.rows shItem hp) 56 (some 2)
def partR (hp:List (List Int)) (st ln:Nat):List (List Int):=(hp.drop st).take ln
def keyR (r:List Int):Int:=r.getD 0 0
theorem partR_len {hp:List (List Int)} {st ln:Nat} (h:st+ln≤hp.length):(partR hp st ln).length=ln:=by unfold partR;rw [List.length_take,List.length_drop];omega
theorem partR_get {hp:List (List Int)} {st ln i:Nat} (_h:st+ln≤hp.length) (hi:i<ln):(partR hp st ln).getD i []=hp.getD (st+i) []:=by
 unfold partR
 rw [List.getD_eq_getElem?_getD,List.getD_eq_getElem?_getD,List.getElem?_take,if_pos hi,List.getElem?_drop]
def SrtR (l:List (List Int)):Prop:=l.Pairwise fun a b=>keyR a<keyR b
theorem SrtR.at {l:List (List Int)} (h:SrtR l) {i j:Nat} (hij:i<j) (hj:j<l.length):keyR (l.getD i [])<keyR (l.getD j []):=by
 have:=List.pairwise_iff_getElem.1 h i j (by omega) hj hij
 rw [List.getD_eq_getElem?_getD,List.getElem?_eq_getElem (by omega),List.getD_eq_getElem?_getD,List.getElem?_eq_getElem hj]
 exact this
def atK (w:Int):List (List Int)→Nat
 |[]=>0
 |r::l=>if keyR r<w then atK w l+1 else 0
theorem atK_le (w:Int):∀ l,atK w l≤l.length
 |[]=>Nat.le_refl _
 |r::l=>by
  have:=atK_le w l
  show (if keyR r<w then atK w l+1 else 0)≤l.length+1
  split<;>omega
theorem atK_lt (w:Int):∀ (l:List (List Int)) (i:Nat),i<atK w l→keyR (l.getD i [])<w
 |[],i,h=>absurd h (Nat.not_lt_zero _)
 |r::l,i,h=>by
  have h:i<(if keyR r<w then atK w l+1 else 0):=h
  split at h
  ·rename_i g
   cases i with
   |zero=>exact g
   |succ i=>exact atK_lt w l i (by omega)
  ·omega
theorem atK_ge (w:Int):∀ (l:List (List Int)),atK w l<l.length→¬ keyR (l.getD (atK w l) [])<w
 |[],h=>absurd h (Nat.lt_irrefl _)
 |r::l,h=>by
  by_cases g:keyR r<w
  ·have e:atK w (r::l)=atK w l+1:=if_pos g
   rw [e] at h ⊢
   exact atK_ge w l (by simp at h;omega)
  ·have e:atK w (r::l)=0:=if_neg g
   rw [e];exact g
abbrev frCk:Frs:=⟨146,none,25⟩
abbrev frPc:Frs:=⟨171,none,36⟩
noncomputable def ckBody:Code:=bodyOf Tryz.f146
noncomputable def pcBody:Code:=bodyOf Tryz.f171
noncomputable def todoCk:List Item:=((ctlN G1 (exec G1 400) frCk 12 [.code ckBody] (Tr.ofList [.osv 0 2 0 0 3]) [] ⟨trO [some (XK [[3,0],[5,1],[7,2]])],1,bits 1 0,[],[]⟩).map (·.1)).getD []
noncomputable def todoPc:List Item:=((ctlN G1 (exec G1 400) frPc 7 [.code pcBody] (Tr.ofList [.osv 0 2 0 0 3,.int .u64 5]) [] ⟨trO [some (XK [[3,0],[5,1],[7,2]])],1,[],[],[]⟩).map (·.1)).getD []
def slCk (bs st ln:Nat) (i:Int):List (Option V):=[some (.osv 0 2 bs st ln),none,none,some (.int .i64 i)]++List.replicate 21 none
def slCkE:List (Option V):=[none,none,some (.int .i64 0)]++List.replicate 22 none
def slPc (bs st ln:Nat) (w i:Int):List (Option V):=[some (.osv 0 2 bs st ln),some (.int .u64 w),none,none,none,none,some (.int .i64 i)]++List.replicate 29 none
def slPcE (i:Int) (b:Bool):List (Option V):=[none,none,none,none,some (.int .i64 i),some (.bool b)]++List.replicate 30 none
section
variable {β:Base} {kind:CallKind} {cs:List Frame} {J:Nat→V} {a:Cf} {hp:List (List Int)} {bs st ln:Nat} {w i:Int}
theorem pc1 {fr:Frs} {T:Tr V} {s1:List (Option V)} {t0 t1:List Item} {B:Bool} (hβ:β.n0=1) (hA:YC β fr T [] (hO [some (XK hp)]) 1 far a) (m:Nat) (orc:List (Nat×Bool)) (hB:B=true)
  (hrun:(ctlN G1 (exec G1 400) fr m t0 T [] ⟨trO [some (XK hp)],1,orc,[],[]⟩).map (fun r=>(r.1,look r.2.1 0 s1,r.2.2.1,r.2.2.2.nx,[0].map r.2.2.2.H.get,allB r.2.2.2.obl))=
   some (t1,s1.map (Option.map (V.ren (πf [0]))),[],1,[some (XK hp)].map (Option.map (Ob.ren (πf [0]))),B)) (hnt:(Nat.beq s1.length fr.nt&&(Nat.blt fr.nt big&&XQ (fun m=>Nat.blt m 1) s1))=true):
  ∃ J' b',YC β fr (trO (slots J' 0 s1)) [] (hO [some (XK hp)]) 1 far b'∧Steps PR (At fr none kind cs a t0) (At fr none kind cs b' t1):=by
 simp only [Bool.and_eq_true] at hnt
 exact YC.eval (n:=400) (m:=m) (orc:=orc) (πl:=[0]) (nx':=1) (far:=far) (todo:=t0) (todo':=t1) (l:=[some (XK hp)]) (l':=[some (XK hp)]) (sl':=s1) (B:=B) G1_ok H1_ok kind cs hA
  hrun hB rfl hnt.1 hnt.2.1 rfl rfl (fun m=>Nat.blt m 1) (p_ok rfl live1) (fun m hm=>by rw [hβ] at hm;exact Nat.blt_eq.mpr hm) (by rw [hβ];kernel_rfl) (by kernel_rfl) hnt.2.2
theorem ckLoop (hβ:β.n0=1) (hw:st+ln≤hp.length) (hn:ln≤1024) (hs:SrtR (partR hp st ln)):∀ (d:Nat) (J:Nat→V) (a:Cf) (i:Nat),ln≤i+d→1≤i→i≤1024→YC β frCk (trO (slots J 0 (slCk bs st ln (i:Int)))) [] (hO [some (XK hp)]) 1 far a→
  ∃ J' b',YC β frCk (trO (slots J' 0 slCkE)) [] (hO [some (XK hp)]) 1 far b'∧Steps PR (At frCk none kind cs a todoCk) (At frCk none kind cs b' [.code .ret]):=by
 intro d
 induction d with
 |zero=>
  intro J a i hd h1 hi hA
  exact pc1 (t1:=[.code .ret]) (s1:=slCkE) hβ hA 7 (bits 1 0) (XB (nT (by omega:¬ (i:Int)<(ln:Int))) nilB) (by kernel_rfl) (by kernel_rfl)
 |succ d ih=>
  intro J a i hd h1 hi hA
  by_cases hlt:i<ln
  ·have hw':IntKind.i64.wrap ((i:Int) - 1)=((i - 1:Nat):Int):=by rw [XM (by omega) (by omega)];omega
   have hk:=hs.at (i:=i - 1) (j:=i) (by omega) (by rw [partR_len hw];omega)
   rw [partR_get hw (by omega),partR_get hw hlt] at hk
   have hk':¬ ((hp.getD (st+Int.toNat (i:Int)) []).getD 0 0≤(hp.getD (st+Int.toNat (IntKind.i64.wrap ((i:Int) - 1))) []).getD 0 0):=by
    rw [hw',Int.toNat_natCast,Int.toNat_natCast]
    exact Int.not_le.mpr hk
   obtain ⟨J1,b1,g1,g2⟩:=pc1 (kind:=kind) (cs:=cs) (t1:=todoCk) (s1:=slCk bs st ln (IntKind.i64.wrap ((i:Int)+1))) hβ hA 14 (bits 8 0b11111110)
    (cN hk'<|XB (decide_eq_true (by rw [hw',Int.toNat_natCast];omega:st+Int.toNat (IntKind.i64.wrap ((i:Int) - 1))<hp.length))<|cD hw<|XB (decide_eq_true (by rw [hw'];omega:0≤IntKind.i64.wrap ((i:Int) - 1)∧IntKind.i64.wrap ((i:Int) - 1)<(ln:Int)))<|
     XB (decide_eq_true (by omega:st+Int.toNat (i:Int)<hp.length))<|cD hw<|XB (decide_eq_true (by omega:0≤(i:Int)∧(i:Int)<(ln:Int)))<|XB (decide_eq_true (by omega:(i:Int)<(ln:Int))) nilB) (by kernel_rfl) (by kernel_rfl)
   rw [XM (by omega) (by omega)] at g1
   obtain ⟨J2,b2,g3,g4⟩:=ih J1 b1 (i+1) (by omega) (by omega) (by omega) (by exact_mod_cast g1)
   exact ⟨J2,b2,g3,g2.trans g4⟩
  ·exact pc1 (t1:=[.code .ret]) (s1:=slCkE) hβ hA 7 (bits 1 0) (XB (nT (by omega:¬ (i:Int)<(ln:Int))) nilB) (by kernel_rfl) (by kernel_rfl)
def hasK (l:List (List Int)) (w:Int):Bool:=cond (decide (atK w l<l.length)) (keyR (l.getD (atK w l) [])==w) false
theorem pcLoop (hβ:β.n0=1) (hw:st+ln≤hp.length) (hn:ln≤1024):∀ (d:Nat) (J:Nat→V) (a:Cf) (i:Nat),atK w (partR hp st ln)=i+d→YC β frPc (trO (slots J 0 (slPc bs st ln w (i:Int)))) [] (hO [some (XK hp)]) 1 far a→
  ∃ J' b',YC β frPc (trO (slots J' 0 (slPcE (atK w (partR hp st ln):Nat) (hasK (partR hp st ln) w)))) [] (hO [some (XK hp)]) 1 far b'∧Steps PR (At frPc none kind cs a todoPc) (At frPc none kind cs b' [.code .ret]):=by
 have hle:=atK_le w (partR hp st ln)
 rw [partR_len hw] at hle
 intro d
 induction d with
 |zero=>
  intro J a i hd hA
  have e:atK w (partR hp st ln)=i:=hd
  by_cases hlt:i<ln
  ·have hge:=atK_ge w (partR hp st ln) (by rw [partR_len hw];omega)
   rw [e,partR_get hw hlt] at hge
   have hge':¬ ((hp.getD (st+Int.toNat (i:Int)) []).getD 0 0<w):=by rw [Int.toNat_natCast];exact hge
   have hb:hasK (partR hp st ln) w=((hp.getD (st+Int.toNat (i:Int)) []).getD 0 0==w):=by
    unfold hasK
    rw [e,partR_len hw,decide_eq_true hlt,partR_get hw hlt,Int.toNat_natCast];rfl
   rw [hb,e]
   have a1:(i:Int)<(ln:Int):=by omega
   have a2:0≤(i:Int)∧(i:Int)<(ln:Int):=by omega
   have a3:st+Int.toNat (i:Int)<hp.length:=by omega
   exact pc1 (t1:=[.code .ret]) (s1:=slPcE (i:Int) ((hp.getD (st+Int.toNat (i:Int)) []).getD 0 0==w)) hβ hA 7 (bits 20 0b11111111110111111111)
    (cD a3<|cD hw<|cD a2<|cD a1<|cN hge'<|cD a3<|cD hw<|cD a2<|XB (decide_eq_true a1) nilB) (by kernel_rfl) (by kernel_rfl)
  ·have hb:hasK (partR hp st ln) w=false:=by
    unfold hasK
    rw [e,partR_len hw,decide_eq_false hlt];rfl
   have a1:¬ (i:Int)<(ln:Int):=by omega
   rw [hb,e]
   exact pc1 (t1:=[.code .ret]) (s1:=slPcE (i:Int) false) hβ hA 7 (bits 20 0b0) (cN a1<|XB (nT a1) nilB) (by kernel_rfl) (by kernel_rfl)
 |succ d ih=>
  intro J a i hd hA
  have hlt:i<ln:=by omega
  have hk:=atK_lt w (partR hp st ln) i (by omega)
  rw [partR_get hw hlt] at hk
  have hk':(hp.getD (st+Int.toNat (i:Int)) []).getD 0 0<w:=by rw [Int.toNat_natCast];exact hk
  obtain ⟨J1,b1,g1,g2⟩:=pc1 (kind:=kind) (cs:=cs) (t1:=todoPc) (s1:=slPc bs st ln w (IntKind.i64.wrap ((i:Int)+1))) hβ hA 9 (bits 11 0b11111111111)
   (cD hk'<|XB (decide_eq_true (by omega:st+Int.toNat (i:Int)<hp.length))<|cD hw<|XB (decide_eq_true (by omega:0≤(i:Int)∧(i:Int)<(ln:Int)))<|XB (decide_eq_true (by omega:(i:Int)<(ln:Int))) nilB) (by kernel_rfl) (by kernel_rfl)
  rw [XM (by omega) (by omega)] at g1
  obtain ⟨J2,b2,g3,g4⟩:=ih J1 b1 (i+1) (by omega) (by exact_mod_cast g1)
  exact ⟨J2,b2,g3,g2.trans g4⟩
end
section
variable {hp:List (List Int)} {bs st ln:Nat} {w:Int}
theorem check_call (hw:st+ln≤hp.length) (hn:ln≤1024) (hs:SrtR (partR hp st ln)):YD PR 146 [.osv 0 2 bs st ln] 1 (hO [some (XK hp)]) (.int .i64 0) 1 (hO [some (XK hp)]):=by
 refine callH_of (c:=ckBody) (t:=2) (hi:=far) Tryz.func146 (by kernel_rfl) (Nat.blt_eq.mp (by kernel_rfl)) (by kernel_rfl) (Nat.ble_eq.mp (by kernel_rfl)) (fun m o ho=>?_) (fun m o ho hr=>?_) rfl ?_
 ·have:=XP (p:=fun m=>Nat.blt m 1) [some (XK hp)] 0 (by kernel_rfl) m o ho
  rw [blt_fun] at this
  exact ⟨by simpa using this.2.1,this.2.2⟩
 ·rw [noRo_ok [some (XK hp)] (by kernel_rfl) m o ho] at hr;cases hr
 ·intro L W kind cs a hA
  obtain ⟨J1,b1,h1,h2⟩:=pc1 (kind:=kind) (cs:=cs) (t0:=[.code ckBody]) (t1:=todoCk) (s1:=slCk bs st ln 1) rfl hA 12 (bits 1 0) (XB (nT (by omega:¬ ((ln:Int) > 1024))) nilB) (by kernel_rfl) (by kernel_rfl)
  obtain ⟨J2,b2,h3,h4⟩:=ckLoop (kind:=kind) (cs:=cs) rfl hw hn hs ln J1 b1 1 (by omega) (Nat.le_refl _) (by omega) h1
  exact ⟨b2,_,1,far,_,h3,rfl,h2.trans h4,.inr ⟨[],rfl⟩⟩
theorem place_call (hw:st+ln≤hp.length) (hn:ln≤1024):YD PR 171 [.osv 0 2 bs st ln,.int .u64 w] 1 (hO [some (XK hp)]) (.tup [.int .i64 (atK w (partR hp st ln):Nat),.bool (hasK (partR hp st ln) w)]) 1 (hO [some (XK hp)]):=by
 refine callH_of2 (c:=pcBody) (t1:=4) (t2:=5) (hi:=far) Tryz.func171 (by kernel_rfl) (Nat.blt_eq.mp (by kernel_rfl)) (by kernel_rfl) (Nat.ble_eq.mp (by kernel_rfl)) (fun m o ho=>?_) (fun m o ho hr=>?_) rfl ?_
 ·have:=XP (p:=fun m=>Nat.blt m 1) [some (XK hp)] 0 (by kernel_rfl) m o ho
  rw [blt_fun] at this
  exact ⟨by simpa using this.2.1,this.2.2⟩
 ·rw [noRo_ok [some (XK hp)] (by kernel_rfl) m o ho] at hr;cases hr
 ·intro L W kind cs a hA
  obtain ⟨J1,b1,h1,h2⟩:=pc1 (kind:=kind) (cs:=cs) (t0:=[.code pcBody]) (t1:=todoPc) (s1:=slPc bs st ln w 0) rfl hA 7 [] nilB (by kernel_rfl) (by kernel_rfl)
  obtain ⟨J2,b2,h3,h4⟩:=pcLoop (kind:=kind) (cs:=cs) rfl hw hn (atK w (partR hp st ln)) J1 b1 0 (by omega) h1
  exact ⟨b2,_,1,far,_,h3,rfl,rfl,h2.trans h4,.inr ⟨[],rfl⟩⟩
end
end Go.Sx
namespace Go.Sx
open Go.Proofs
def nrmR (v:V) (s:St):Option ((Nat×Nat×Nat×Nat×List (List Int))×St):=
 match v with
 |.nils=>(s.new (XK [])).bind fun (g,s1)=>some ((g,0,0,0,[]),s1)
 |.osl n es=>match s.H.get n with
  |some (.mem (.rows sh hp) t' (some e))=>(chk (shEq sh shItem)).bind fun _=>(chk (decide (t'=56∧es=2∧e=2))).bind fun _=>some ((n,0,0,hp.length,hp),s)
  |_=>none
 |.osv n es b st ln=>match s.H.get n with
  |some (.mem (.rows sh hp) t' (some e))=>(chk (shEq sh shItem)).bind fun _=>(chk (decide (t'=56∧es=2∧e=2))).bind fun _=>(need (decide (st+ln≤hp.length)) s).bind fun s1=>some ((n,b,st,ln,hp),s1)
  |_=>none
 |_=>none
theorem gh_newR {s s':St} {g:Nat} (h:s.new (XK [])=some (g,s')) {D:Nat→Prop} {L:LM} {w:World} (hSR:SR D L s.H.get w) (hD:∀ n,D n→n<s.nx∨s'.nx≤n):
  ∃ L',Gh s s' D L L' w∧L' g=⟨none,0,0,0⟩:=by
 obtain ⟨n1,n2,n3,n4,n5⟩:=new_ok h
 subst n1
 have hnD:¬ D s.nx:=fun h=>by rcases hD _ h with h|h<;>omega
 refine ⟨fun m=>if m=s.nx then ⟨none,0,0,0⟩ else L m,⟨by omega,fun n hn=>?_,?_,fun n o b ho hr hb=>?_,fun n o ho hr=>?_⟩,by simp⟩
 ·have:n≠s.nx:=fun e=>hnD (e ▸ hn)
  simp [this]
 ·intro L' hL'
  have g0:L' s.nx=⟨none,0,0,0⟩:=by have:=hL' s.nx (.inr ⟨Nat.le_refl _,by omega⟩);simpa using this.symm
  have gA:Agree D L L':=fun n hn=>by
   have h1:=hL' n (.inl hn)
   have h2:n≠s.nx:=fun e=>hnD (e ▸ hn)
   simpa [h2] using h1
  have hR:=hSR L' gA
  refine ⟨fun n o ho=>?_,fun n m on om hn hm hne hr hb=>?_⟩
  ·rw [n5] at ho
   by_cases hn:n=s.nx
   ·subst hn
    rw [if_pos rfl] at ho
    cases ho
    exact ⟨by rw [g0],by rw [g0];rfl,by rw [g0];rfl,.inl ⟨by rw [g0],by rw [g0],by rw [g0]⟩⟩
   ·rw [if_neg hn] at ho
    exact hR.ob n o ho
  ·rw [n5] at hn hm
   by_cases h1:n=s.nx
   ·subst h1;rw [g0] at hb;exact absurd rfl hb
   ·rw [if_neg h1] at hn
    by_cases h2:m=s.nx
    ·subst h2;rw [g0];exact hb
    ·rw [if_neg h2] at hm
     exact hR.inj n m on om hn hm hne hr hb
 ·rw [n5] at ho
  by_cases hn:n=s.nx
  ·subst hn
   simp at hb
  ·rw [if_neg hn] at ho
   simp only [if_neg hn] at hb
   exact ⟨n,o,ho,hr,hb⟩
 ·rw [n5] at ho
  by_cases hn:n=s.nx
  ·rw [if_pos hn] at ho;cases ho;cases hr
  ·rw [if_neg hn] at ho;exact ho
theorem nrmR_ok {v:V} {s s':St} {n b st ln:Nat} {hp:List (List Int)} (h:nrmR v s=some ((n,b,st,ln,hp),s')) (ho:Obl s'):
  Lg s s'∧Obl s∧s'.H.get n=some (XK hp)∧st+ln≤hp.length∧(∀ m o,m≠n→s.H.get m=some o→s'.H.get m=some o)∧
  ∀ (D:Nat→Prop) (L:LM) (w:World),SR D L s.H.get w→(∀ n,D n→n<s.nx∨s'.nx≤n)→∃ L',Gh s s' D L L' w∧∀ L'',Agree (Grow D s.nx s'.nx) L' L''→(V.osv n 2 b st ln).den L''=v.den L:=by
 unfold nrmR at h
 split at h
 ·obtain ⟨⟨g,s1⟩,h1,h2⟩:=XA h
  cases h2
  obtain ⟨n1,n2,n3,n4,n5⟩:=new_ok h1
  refine ⟨.new h1,by unfold Obl at ho ⊢;rw [n4] at ho;exact ho,by rw [n5,n1,if_pos rfl],Nat.le_refl _,fun m o e hm=>?_,fun D L w hSR hD=>?_⟩
  ·rw [n5,if_neg (by rw [← n1];exact e)];exact hm
  ·obtain ⟨L',g1,g2⟩:=gh_newR h1 hSR hD
   refine ⟨L',g1,fun L'' hL''=>?_⟩
   have:L'' n=⟨none,0,0,0⟩:=by rw [← hL'' n (.inr (by rw [n1];exact ⟨Nat.le_refl _,by omega⟩)),g2]
   simp [V.den,this]
 ·rename_i n' es
  split at h
  ·rename_i sh hp' t' e hg
   obtain ⟨_,h0,h⟩:=XA h
   obtain ⟨_,h1,h2⟩:=XA h
   cases h2
   have hd:t'=56∧es=2∧e=2:=of_decide_eq_true (XC h1)
   obtain ⟨rfl,rfl,rfl⟩:=hd
   have hsh:=shEq_ok (XC h0)
   subst hsh
   refine ⟨.refl _,ho,hg,by omega,fun m o _ hm=>hm,fun D L w hSR hD=>⟨L,.of_same ⟨rfl,rfl,rfl⟩ hSR,fun L'' hL''=>?_⟩⟩
   rw [YA rfl] at hL''
   have hn:=hSR.live hg
   obtain ⟨q1,q2,q3,q4⟩:=(hSR L (.refl _ _)).ob n _ hg
   have e0:L'' n=L n:=(hL'' n hn).symm
   simp only [V.den,e0]
   have hc:hp.length=(L n).len:=q2
   rcases q4 with ⟨q5,q6,q7⟩|⟨kk,cur,q5,_⟩
   ·rw [q5];simp only [q7];rw [hc,q6]
   ·rw [q5];simp only [hc]
    by_cases h0:(L n).cap=0<;>simp [h0]
  ·cases h
 ·rename_i n' es b' st' ln'
  split at h
  ·rename_i sh hp' t' e hg
   obtain ⟨_,h0,h⟩:=XA h
   obtain ⟨_,h1,h2⟩:=XA h
   obtain ⟨s1,h3,h4⟩:=XA h2
   cases h4
   have hd:t'=56∧es=2∧e=2:=of_decide_eq_true (XC h1)
   obtain ⟨rfl,rfl,rfl⟩:=hd
   have hsh:=shEq_ok (XC h0)
   subst hsh
   obtain ⟨hd2,hq⟩:=XI h3 ho
   refine ⟨.of_same hq.1,hq.2,by rw [hq.1.H];exact hg,of_decide_eq_true hd2,fun m o _ hm=>by rw [hq.1.H];exact hm,fun D L w hSR hD=>⟨L,.of_same hq.1 hSR,fun L'' hL''=>?_⟩⟩
   rw [YA hq.1.nx.symm] at hL''
   have hn:=hSR.live hg
   have e0:L'' n=L n:=(hL'' n hn).symm
   simp only [V.den,e0]
  ·cases h
 ·cases h
theorem heapCall {f:FuncId} {ex:List V} {v:V} (hex:ex=[]∨∃ k,ex=[.int .u64 k]) (hv:∀ π,v=v.ren π) {n b st ln:Nat} {hp:List (List Int)} {x:V} {s s1 s':St} (hnr:nrmR x s=some ((n,b,st,ln,hp),s1)) (hs:Same s1 s') (_ho:Obl s') (ho1:Obl s1)
  (h:st+ln≤hp.length→YD PR f (.osv 0 2 b st ln::ex) 1 (hO [some (XK hp)]) v 1 (hO [some (XK hp)])):Lg s s'∧Obl s∧YB PR f (x::ex) s v s':=by
 obtain ⟨g1,g2,g3,g4,g5,g6⟩:=nrmR_ok hnr ho1
 refine ⟨g1.trans (.of_same hs),g2,?_⟩
 have e1:s'.nx=s1.nx:=hs.nx
 have e2:s'.H=s1.H:=hs.H
 have hren:∀ π,ex.map (V.ren π)=ex:=by rcases hex with rfl|⟨k,rfl⟩<;>intro π<;>rfl
 have hden:∀ L L',ex.map (V.den L)=ex.map (V.den L'):=by rcases hex with rfl|⟨k,rfl⟩<;>intro L L'<;>rfl
 have hcall:YB PR f (.osv n 2 b st ln::ex) s' v s':=
  embedRO (l:=[some (XK hp)]) (ac:=.osv 0 2 b st ln::ex) (vc:=v) (h g4) (fun m hm=>live1 m hm) (by kernel_rfl) (by rcases hex with rfl|⟨k,rfl⟩<;>rfl) [n] rfl (fun q o ho=>by
   match q,ho with
   |0,ho=>cases ho;rw [e2];exact g3) (by simp) (by simp only [List.map_cons,hren];rfl) (hv _)
 refine YB.gh hcall (by rw [e1];exact g1.le) (Nat.le_refl _) (fun D L w hSR hD hst=>?_)
 rw [e1] at hD
 obtain ⟨L',k1,k2⟩:=g6 D L w hSR hD
 refine ⟨L',⟨by rw [e1];exact k1.le,k1.agree,by rw [e1,e2];exact k1.sr,fun n o b ho=>by rw [e2] at ho;exact k1.sub n o b ho,fun n o ho=>by rw [e2] at ho;exact k1.ro n o ho⟩,fun L'' hL''=>?_⟩
 rw [e1] at hL''
 simp only [List.map_cons,k2 L'' hL'',hden L'' L]
noncomputable def smCheck (args:List V) (s:St):Option (V×St):=
 match args with
 |[x]=>(nrmR x s).bind fun r=>match r with
  |((_,_,st,ln,hp),s1)=>(need (propB (ln≤1024∧SrtR (partR hp st ln))) s1).bind fun s2=>some (.int .i64 0,s2)
 |_=>none
theorem smCheck_sm:SmOK PR 146 smCheck:=by
 refine ⟨fun args s v s' h ho=>?_,Tryz.call146⟩
 unfold smCheck at h
 split at h
 ·rename_i x
  obtain ⟨⟨⟨n,b,st,ln,hp⟩,s1⟩,h1,h2⟩:=XA h
  obtain ⟨s2,h3,h4⟩:=XA h2
  cases h4
  obtain ⟨hd,hq⟩:=XI h3 ho
  have hd:=XF.1 hd
  exact heapCall (.inl rfl) (fun _=>rfl) h1 hq.1 ho hq.2 fun hw=>check_call hw hd.1 hd.2
 ·cases h
noncomputable def smPlace (args:List V) (s:St):Option (V×St):=
 match args with
 |[x,.int .u64 w]=>(nrmR x s).bind fun r=>match r with
  |((_,_,st,ln,hp),s1)=>(need (decide (ln≤1024)) s1).bind fun s2=>some (.tup [.int .i64 (atK w (partR hp st ln):Nat),.bool (hasK (partR hp st ln) w)],s2)
 |_=>none
theorem smPlace_sm:SmOK PR 171 smPlace:=by
 refine ⟨fun args s v s' h ho=>?_,Tryz.call171⟩
 unfold smPlace at h
 split at h
 ·rename_i x w
  obtain ⟨⟨⟨n,b,st,ln,hp⟩,s1⟩,h1,h2⟩:=XA h
  obtain ⟨s2,h3,h4⟩:=XA h2
  cases h4
  obtain ⟨hd,hq⟩:=XI h3 ho
  have hd:=of_decide_eq_true hd
  exact heapCall (.inr ⟨_,rfl⟩) (fun _=>rfl) h1 hq.1 ho hq.2 fun hw=>place_call hw hd
 ·cases h
noncomputable def smsQ2:List (Nat×SmF):=[(146,smCheck),(171,smPlace)]
noncomputable def G2:Env:=envOf tabT tabF (smOf smsQ2) seT imT pzT
theorem G2_ok:EnvOK PR G2:=env_ok _
theorem H2_ok:SumOK PR G2:=sumOK_of rfl ⟨smCheck_sm,smPlace_sm,trivial⟩
end Go.Sx
namespace Go.Sx
open Go.Proofs
theorem eT {b:Bool} (h:b=false):(!b)=true:=by rw [h];rfl
theorem pT {b:Bool} (h:b=true):(!!b)=true:=by rw [h];rfl
section
variable {hp:List (List Int)} {a b w e n x:Int}
def nhArgs (k a b w e n x:Int):List V:=[.osl 0 2,.agg [.int .i64 k,.int .i64 a,.int .i64 b,.int .u64 w],.agg [.int .i64 e,.int .i64 n,.int .u64 x]]
theorem n4T (hS:hp.length≤1024∧SrtR (partR hp 0 hp.length)) (h7:eqL [e,n,x] [7,0,0]=false) (h12:eqL [e,n,x] [12,0,0]=false) (hk:hasK (partR hp 0 hp.length) w=false) (hlt:((hp.length:Nat):Int)<1024) (e0:e=0) (hA:eqL [e,n,x] [0,0,0]=true) (hb1:(∀ z∈(some ((atK w (partR hp 0 hp.length):Nat):Int):Option Int),0≤z)∧(Int.toNat ((atK w (partR hp 0 hp.length):Nat):Int))≤hp.length) (hf:0+(Int.toNat ((atK w (partR hp 0 hp.length):Nat):Int))≤hp.length) (he:([]:List (List Int)).length+(Int.toNat ((atK w (partR hp 0 hp.length):Nat):Int))≤1048576) (hd:([]++(hp.drop 0).take (Int.toNat ((atK w (partR hp 0 hp.length):Nat):Int))).length+1≤1048576) (hb2:(Int.toNat ((atK w (partR hp 0 hp.length):Nat):Int))+(hp.length - (Int.toNat ((atK w (partR hp 0 hp.length):Nat):Int)))≤hp.length) (hc:(([]++(hp.drop 0).take (Int.toNat ((atK w (partR hp 0 hp.length):Nat):Int)))++[[w,a]]).length+(hp.length - (Int.toNat ((atK w (partR hp 0 hp.length):Nat):Int)))≤1048576):YD PR 109 (nhArgs 4 a b w e n x) 1 (hO [some (XK hp)]) (.tup [.osl 1 2,.bool true]) 2 (hO [some (XK hp),some (XK ((([]++(hp.drop 0).take (Int.toNat ((atK w (partR hp 0 hp.length):Nat):Int)))++[[w,a]])++(hp.drop (Int.toNat ((atK w (partR hp 0 hp.length):Nat):Int))).take (hp.length - (Int.toNat ((atK w (partR hp 0 hp.length):Nat):Int)))))]):=
 XH (n:=400) (l:=[some (XK hp)]) (l':=[some (XK hp),some (XK ((([]++(hp.drop 0).take (Int.toNat ((atK w (partR hp 0 hp.length):Nat):Int)))++[[w,a]])++(hp.drop (Int.toNat ((atK w (partR hp 0 hp.length):Nat):Int))).take (hp.length - (Int.toNat ((atK w (partR hp 0 hp.length):Nat):Int)))))]) (orc:=bits 33 0b101111000101011010000111111111111) (πl:=[0,11]) (nx':=12) G2_ok H2_ok (by kernel_rfl) (cD hc<|cD hb2<|cD hb1<|cD hd<|cD he<|cD hf<|cD hb1<|cD hS.1<|XB (qT e0)<|XB (pT hA)<|XB (pT (decide_eq_true hlt))<|XB (eT hk)<|cD hS.1<|XB (XF.2 hS)<|XB (eT h12)<|XB (eT h7)<|XB (XF.2 hS)<| nilB) rfl rfl rfl rfl rfl
theorem n4F (hS:hp.length≤1024∧SrtR (partR hp 0 hp.length)) (h7:eqL [e,n,x] [7,0,0]=false) (h12:eqL [e,n,x] [12,0,0]=false) (hk:hasK (partR hp 0 hp.length) w=false) (hlt:((hp.length:Nat):Int)<1024) (hA:eqL [e,n,x] [0,0,0]=false):YD PR 109 (nhArgs 4 a b w e n x) 1 (hO [some (XK hp)]) (.tup [.nils,.bool false]) 1 (hO [some (XK hp)]):=
 XH (n:=400) (l:=[some (XK hp)]) (l':=[some (XK hp)]) (orc:=bits 21 0b101111000101011010001) (πl:=[0]) (nx':=6) G2_ok H2_ok (by kernel_rfl) (XB (eT hA)<|XB (pT (decide_eq_true hlt))<|XB (eT hk)<|cD hS.1<|XB (XF.2 hS)<|XB (eT h12)<|XB (eT h7)<|XB (XF.2 hS)<| nilB) rfl rfl rfl rfl rfl
theorem n5E (hS:hp.length≤1024∧SrtR (partR hp 0 hp.length)) (hl:((hp.length:Nat):Int)=0) (e0:e≠0) (hA:eqL [e,n,x] [15,0,0]=true) (hz:([]:List (List Int)).length+hp.length≤1048576):YD PR 109 (nhArgs 5 a b w e n x) 1 (hO [some (XK hp)]) (.tup [.osl 1 2,.bool true]) 2 (hO [some (XK hp),some (XK ([]++hp))]):=
 XH (n:=400) (l:=[some (XK hp)]) (l':=[some (XK hp),some (XK ([]++hp))]) (orc:=bits 37 0b1000000001010000000001000000000000001) (πl:=[0,7]) (nx':=8) G2_ok H2_ok (by kernel_rfl) (cD hz<|XB (zT e0)<|XB (zT e0)<|XB (pT hA)<|XB (qT hl)<|cD hS.1<|XB (XF.2 hS)<|XB (XF.2 hS)<| nilB) rfl rfl rfl rfl rfl
theorem n5EF (hS:hp.length≤1024∧SrtR (partR hp 0 hp.length)) (hl:((hp.length:Nat):Int)=0) (hA:eqL [e,n,x] [15,0,0]=false):YD PR 109 (nhArgs 5 a b w e n x) 1 (hO [some (XK hp)]) (.tup [.nils,.bool false]) 1 (hO [some (XK hp)]):=
 XH (n:=400) (l:=[some (XK hp)]) (l':=[some (XK hp)]) (orc:=bits 26 0b10000000010100000000010001) (πl:=[0]) (nx':=6) G2_ok H2_ok (by kernel_rfl) (XB (eT hA)<|XB (qT hl)<|cD hS.1<|XB (XF.2 hS)<|XB (XF.2 hS)<| nilB) rfl rfl rfl rfl rfl
theorem n6E (hS:hp.length≤1024∧SrtR (partR hp 0 hp.length)) (hl:((hp.length:Nat):Int)=0) (e0:e≠0) (hA:eqL [e,n,x] [15,0,0]=true) (hz:([]:List (List Int)).length+hp.length≤1048576):YD PR 109 (nhArgs 6 a b w e n x) 1 (hO [some (XK hp)]) (.tup [.osl 1 2,.bool true]) 2 (hO [some (XK hp),some (XK ([]++hp))]):=
 XH (n:=400) (l:=[some (XK hp)]) (l':=[some (XK hp),some (XK ([]++hp))]) (orc:=bits 36 0b100000000101000011101000000000000001) (πl:=[0,7]) (nx':=8) G2_ok H2_ok (by kernel_rfl) (cD hz<|XB (zT e0)<|XB (zT e0)<|XB (pT hA)<|XB (qT hl)<|cD hS.1<|XB (XF.2 hS)<|XB (XF.2 hS)<| nilB) rfl rfl rfl rfl rfl
theorem n6EF (hS:hp.length≤1024∧SrtR (partR hp 0 hp.length)) (hl:((hp.length:Nat):Int)=0) (hA:eqL [e,n,x] [15,0,0]=false):YD PR 109 (nhArgs 6 a b w e n x) 1 (hO [some (XK hp)]) (.tup [.nils,.bool false]) 1 (hO [some (XK hp)]):=
 XH (n:=400) (l:=[some (XK hp)]) (l':=[some (XK hp)]) (orc:=bits 25 0b1000000001010000111010001) (πl:=[0]) (nx':=6) G2_ok H2_ok (by kernel_rfl) (XB (eT hA)<|XB (qT hl)<|cD hS.1<|XB (XF.2 hS)<|XB (XF.2 hS)<| nilB) rfl rfl rfl rfl rfl
theorem n5T (hS:hp.length≤1024∧SrtR (partR hp 0 hp.length)) (hl:((hp.length:Nat):Int)≠0) (hl0:0<hp.length) (hl1:(0:Int)≤0∧(0:Int)<((hp.length:Nat):Int)) (e0:e=0) (hA:eqL [e,n,x] [0,(hp.getD 0 []).getD 1 0,(hp.getD 0 []).getD 0 0]=true) (hx:(∀ z∈(some 1:Option Int),0≤z)∧1≤hp.length) (hy:1+(hp.length - 1)≤hp.length) (hz:([]:List (List Int)).length+(hp.length - 1)≤1048576):YD PR 109 (nhArgs 5 a b w e n x) 1 (hO [some (XK hp)]) (.tup [.osl 1 2,.bool true]) 2 (hO [some (XK hp),some (XK ([]++(hp.drop 1).take (hp.length - 1)))]):=
 XH (n:=400) (l:=[some (XK hp)]) (l':=[some (XK hp),some (XK ([]++(hp.drop 1).take (hp.length - 1)))]) (orc:=bits 41 0b10000000010100000000001111000011101111111) (πl:=[0,7]) (nx':=8) G2_ok H2_ok (by kernel_rfl) (cD hz<|cD hy<|cD hx<|XB (qT e0)<|XB (qT e0)<|XB (pT hA)<|cD hl0<|cD hl1<|cD hl0<|cD hl1<|XB (zT hl)<|cD hS.1<|XB (XF.2 hS)<|XB (XF.2 hS)<| nilB) rfl rfl rfl rfl rfl
theorem n5F (hS:hp.length≤1024∧SrtR (partR hp 0 hp.length)) (hl:((hp.length:Nat):Int)≠0) (hl0:0<hp.length) (hl1:(0:Int)≤0∧(0:Int)<((hp.length:Nat):Int)) (hA:eqL [e,n,x] [0,(hp.getD 0 []).getD 1 0,(hp.getD 0 []).getD 0 0]=false):YD PR 109 (nhArgs 5 a b w e n x) 1 (hO [some (XK hp)]) (.tup [.nils,.bool false]) 1 (hO [some (XK hp)]):=
 XH (n:=400) (l:=[some (XK hp)]) (l':=[some (XK hp)]) (orc:=bits 30 0b100000000101000000000011110001) (πl:=[0]) (nx':=6) G2_ok H2_ok (by kernel_rfl) (XB (eT hA)<|cD hl0<|cD hl1<|cD hl0<|cD hl1<|XB (zT hl)<|cD hS.1<|XB (XF.2 hS)<|XB (XF.2 hS)<| nilB) rfl rfl rfl rfl rfl
theorem n6T (hS:hp.length≤1024∧SrtR (partR hp 0 hp.length)) (hl:((hp.length:Nat):Int)≠0) (hl0:0<hp.length) (hl1:(0:Int)≤0∧(0:Int)<((hp.length:Nat):Int)) (e0:e=0) (hA:eqL [e,n,x] [0,(hp.getD 0 []).getD 1 0,(hp.getD 0 []).getD 0 0]=true) (hz:([]:List (List Int)).length+hp.length≤1048576):YD PR 109 (nhArgs 6 a b w e n x) 1 (hO [some (XK hp)]) (.tup [.osl 1 2,.bool true]) 2 (hO [some (XK hp),some (XK ([]++hp))]):=
 XH (n:=400) (l:=[some (XK hp)]) (l':=[some (XK hp),some (XK ([]++hp))]) (orc:=bits 38 0b10000000010100001110011110000111011101) (πl:=[0,7]) (nx':=8) G2_ok H2_ok (by kernel_rfl) (cD hz<|XB (qT e0)<|XB (qT e0)<|XB (pT hA)<|cD hl0<|cD hl1<|cD hl0<|cD hl1<|XB (zT hl)<|cD hS.1<|XB (XF.2 hS)<|XB (XF.2 hS)<| nilB) rfl rfl rfl rfl rfl
theorem n6F (hS:hp.length≤1024∧SrtR (partR hp 0 hp.length)) (hl:((hp.length:Nat):Int)≠0) (hl0:0<hp.length) (hl1:(0:Int)≤0∧(0:Int)<((hp.length:Nat):Int)) (hA:eqL [e,n,x] [0,(hp.getD 0 []).getD 1 0,(hp.getD 0 []).getD 0 0]=false):YD PR 109 (nhArgs 6 a b w e n x) 1 (hO [some (XK hp)]) (.tup [.nils,.bool false]) 1 (hO [some (XK hp)]):=
 XH (n:=400) (l:=[some (XK hp)]) (l':=[some (XK hp)]) (orc:=bits 29 0b10000000010100001110011110001) (πl:=[0]) (nx':=6) G2_ok H2_ok (by kernel_rfl) (XB (eT hA)<|cD hl0<|cD hl1<|cD hl0<|cD hl1<|XB (zT hl)<|cD hS.1<|XB (XF.2 hS)<|XB (XF.2 hS)<| nilB) rfl rfl rfl rfl rfl
end
end Go.Sx
namespace Go.Sx
open Go.Proofs
def insR (hp:List (List Int)) (w a:Int):List (List Int):=hp.take (atK w hp)++[[w,a]]++hp.drop (atK w hp)
def nhWant (hp:List (List Int)) (k:Int):List Int:=if k=4 then [0,0,0] else if hp.length=0 then [15,0,0] else [0,(hp.getD 0 []).getD 1 0,(hp.getD 0 []).getD 0 0]
def nhIs (hp:List (List Int)) (k e n x:Int):Bool:=eqL [e,n,x] (nhWant hp k)
def nhHp (hp:List (List Int)) (k w a:Int):List (List Int):=if k=4 then insR hp w a else if k=5 then hp.drop 1 else hp
def NhPre (hp:List (List Int)) (k w e:Int):Prop:=hp.length≤100∧SrtR hp∧(k=4∨k=5∨k=6)∧(e=0∨e=15)∧(k=4→hasK hp w=false)
theorem partR_all (hp:List (List Int)):partR hp 0 hp.length=hp:=by unfold partR;rw [List.drop_zero,List.take_length]
theorem eqLq {a b:List Int}:eqL a b=true↔a=b:=by
 induction a generalizing b with
 |nil=>cases b<;>simp [eqL]
 |cons u l ih=>
  cases b with
  |nil=>simp [eqL]
  |cons v r=>
   simp only [eqL,List.cons.injEq]
   cases huv:(u==v) with
   |true=>rw [cond_true,ih];simp [eq_of_beq huv]
   |false=>
    rw [cond_false]
    constructor
    ·intro h;cases h
    ·rintro ⟨h,_⟩;rw [h,beq_self_eq_true] at huv;cases huv
theorem eqLf {a b:List Int} (h:a≠b):eqL a b=false:=by
 cases hb:eqL a b with
 |false=>rfl
 |true=>exact absurd (eqLq.1 hb) h
section
variable {hp:List (List Int)} {k a b w e n x:Int}
theorem next_T (h:NhPre hp k w e) (hi:nhIs hp k e n x=true):YD PR 109 (nhArgs k a b w e n x) 1 (hO [some (XK hp)]) (.tup [.osl 1 2,.bool true]) 2 (hO [some (XK hp),some (XK (nhHp hp k w a))]):=by
 obtain ⟨h1,h2,hk,he,hw⟩:=h
 have hS:hp.length≤1024∧SrtR (partR hp 0 hp.length):=by rw [partR_all];exact ⟨by omega,h2⟩
 rcases hk with rfl|rfl|rfl
 ·have hq:[e,n,x]=[0,0,0]:=eqLq.1 hi
  have e0:e=0:=by injection hq
  have hat:=atK_le w hp
  have er:nhHp hp 4 w a=(([]++(hp.drop 0).take (Int.toNat ((atK w (partR hp 0 hp.length):Nat):Int)))++[[w,a]])++(hp.drop (Int.toNat ((atK w (partR hp 0 hp.length):Nat):Int))).take (hp.length - (Int.toNat ((atK w (partR hp 0 hp.length):Nat):Int))):=by
   rw [partR_all,Int.toNat_natCast,List.drop_zero,List.nil_append]
   have:(hp.drop (atK w hp)).take (hp.length - atK w hp)=hp.drop (atK w hp):=List.take_of_length_le (by rw [List.length_drop];exact Nat.le_refl _)
   rw [this];rfl
  rw [er]
  exact n4T hS (eqLf fun h=>by injection h;omega) (eqLf fun h=>by injection h;omega) (by rw [partR_all];exact hw rfl) (by omega) e0 hi (by rw [partR_all,Int.toNat_natCast];exact ⟨fun z hz=>by cases hz;omega,hat⟩) (by rw [partR_all,Int.toNat_natCast];omega) (by rw [partR_all,Int.toNat_natCast];simp;omega)
   (by rw [partR_all,Int.toNat_natCast];simp;omega) (by rw [partR_all,Int.toNat_natCast];omega) (by rw [partR_all,Int.toNat_natCast];simp;omega)
 ·by_cases hl:hp.length=0
  ·have hq:eqL [e,n,x] [15,0,0]=true:=by have hi:eqL [e,n,x] (if (5:Int)=4 then _ else if hp.length=0 then [15,0,0] else _)=true:=hi;rw [if_neg (by decide),if_pos hl] at hi;exact hi
   have e0:e=15:=by have:=eqLq.1 hq;injection this
   have er:nhHp hp 5 w a=[]++hp:=by
    have:hp=[]:=List.length_eq_zero_iff.1 hl
    subst this;rfl
   rw [er]
   exact n5E hS (by omega) (by omega) hq (by simp;omega)
  ·have hq:eqL [e,n,x] [0,(hp.getD 0 []).getD 1 0,(hp.getD 0 []).getD 0 0]=true:=by have hi:eqL [e,n,x] (if (5:Int)=4 then _ else if hp.length=0 then [15,0,0] else _)=true:=hi;rw [if_neg (by decide),if_neg hl] at hi;exact hi
   have e0:e=0:=by have:=eqLq.1 hq;injection this
   have er:nhHp hp 5 w a=[]++(hp.drop 1).take (hp.length - 1):=by
    have:(hp.drop 1).take (hp.length - 1)=hp.drop 1:=List.take_of_length_le (by rw [List.length_drop];exact Nat.le_refl _)
    rw [this];rfl
   rw [er]
   exact n5T hS (by omega) (by omega) (by omega) e0 hq ⟨fun z hz=>by cases hz;decide,by omega⟩ (by omega) (by simp;omega)
 ·by_cases hl:hp.length=0
  ·have hq:eqL [e,n,x] [15,0,0]=true:=by have hi:eqL [e,n,x] (if (6:Int)=4 then _ else if hp.length=0 then [15,0,0] else _)=true:=hi;rw [if_neg (by decide),if_pos hl] at hi;exact hi
   have e0:e=15:=by have:=eqLq.1 hq;injection this
   exact n6E hS (by omega) (by omega) hq (by simp;omega)
  ·have hq:eqL [e,n,x] [0,(hp.getD 0 []).getD 1 0,(hp.getD 0 []).getD 0 0]=true:=by have hi:eqL [e,n,x] (if (6:Int)=4 then _ else if hp.length=0 then [15,0,0] else _)=true:=hi;rw [if_neg (by decide),if_neg hl] at hi;exact hi
   have e0:e=0:=by have:=eqLq.1 hq;injection this
   exact n6T hS (by omega) (by omega) (by omega) e0 hq (by simp;omega)
theorem next_F (h:NhPre hp k w e) (hi:nhIs hp k e n x=false):YD PR 109 (nhArgs k a b w e n x) 1 (hO [some (XK hp)]) (.tup [.nils,.bool false]) 1 (hO [some (XK hp)]):=by
 obtain ⟨h1,h2,hk,he,hw⟩:=h
 have hS:hp.length≤1024∧SrtR (partR hp 0 hp.length):=by rw [partR_all];exact ⟨by omega,h2⟩
 unfold nhIs nhWant at hi
 rcases hk with rfl|rfl|rfl
 ·exact n4F hS (eqLf fun h=>by injection h;omega) (eqLf fun h=>by injection h;omega) (by rw [partR_all];exact hw rfl) (by omega) hi
 ·rw [if_neg (by decide)] at hi
  by_cases hl:hp.length=0
  ·rw [if_pos hl] at hi;exact n5EF hS (by omega) hi
  ·rw [if_neg hl] at hi;exact n5F hS (by omega) (by omega) (by omega) hi
 ·rw [if_neg (by decide)] at hi
  by_cases hl:hp.length=0
  ·rw [if_pos hl] at hi;exact n6EF hS (by omega) hi
  ·rw [if_neg hl] at hi;exact n6F hS (by omega) (by omega) (by omega) hi
end
end Go.Sx
namespace Go.Sx
open Go.Proofs
def nhRow (hp:List (List Int)) (k a w e n x:Int):List (List Int):=cond (nhIs hp k e n x) (nhHp hp k w a) []
noncomputable def smNextH (args:List V) (s:St):Option (V×St):=
 match args with
 |[q,.agg [.int .i64 k,.int .i64 a,.int .i64 _,.int .u64 w],.agg [.int .i64 e,.int .i64 n,.int .u64 x]]=>(nrmR q s).bind fun r=>match r with
  |((_,b0,st,ln,hp),s1)=>(need (propB (b0=0∧st=0∧ln=hp.length∧NhPre hp k w e)) s1).bind fun s2=>(s2.new (XK (nhRow hp k a w e n x))).bind fun r2=>match r2 with
   |(m,s3)=>some (.tup [.osv m 2 0 0 (nhRow hp k a w e n x).length,.bool (nhIs hp k e n x)],s3)
 |_=>none
theorem YB.afterR {P:Program} {f:FuncId} {args:List V} {s s1 s2:St} {v v':V} {g:Nat} (h:YB P f args s v s1) (hle:s.nx≤s1.nx) (hn:s1.new (XK [])=some (g,s2)) (hv:∀ L:LM,L g=⟨none,0,0,0⟩→v'.den L=v.den L):YB P f args s v' s2:=by
 intro D L w kind cs av hSR hav hD
 obtain ⟨n1,n2,n3,n4,n5⟩:=new_ok hn
 obtain ⟨L',w',val,M,S,h1,fr',h2⟩:=h D L w kind cs av hSR hav (fun n hn=>(hD n hn).imp id fun h=>by omega)
 obtain ⟨L2,g1,g2⟩:=gh_newR hn S (fun n hn=>by
  rcases hn with hn|hn
  ·exact (hD n hn).imp (fun h=>by omega) id
  ·exact .inl hn.2)
 have hgr:Grow (Grow D s.nx s1.nx) s1.nx s2.nx=Grow D s.nx s2.nx:=grow_grow hle (by omega)
 have hsr:=g1.sr
 rw [hgr] at hsr
 refine ⟨L2,w',val,⟨M.agree.trans (g1.agree.mono fun n hn=>.inl hn),M.size,M.frame,fun n o b ho hr hb=>?_,M.os,M.tape,M.output,fun n o ho hr=>M.ro n o (g1.ro n o ho hr) hr⟩,hsr,fun L'' hL''=>?_,fr',h2⟩
 ·obtain ⟨m,om,k1,k2,k3⟩:=g1.sub n o b ho hr hb
  exact M.sub m om b k1 k2 k3
 ·rw [hv L'' (by rw [← hL'' g (.inr (by rw [n1];exact ⟨hle,by omega⟩)),g2])]
  refine h1 L'' fun n hn=>?_
  rw [g1.agree n hn]
  refine hL'' n ?_
  rcases hn with hn|hn
  ·exact .inl hn
  ·exact .inr ⟨hn.1,by omega⟩
theorem nh_key {s2 s3:St} {q m:Nat} {hp:List (List Int)} {k a bb w e n x:Int} (hg:s2.H.get q=some (XK hp)) (hd:NhPre hp k w e) (hn:s2.new (XK (nhRow hp k a w e n x))=some (m,s3)):
  YB PR 109 [.osl q 2,.agg [.int .i64 k,.int .i64 a,.int .i64 bb,.int .u64 w],.agg [.int .i64 e,.int .i64 n,.int .u64 x]] s2 (.tup [.osv m 2 0 0 (nhRow hp k a w e n x).length,.bool (nhIs hp k e n x)]) s3:=by
 have hst:∀ m o,(([some (XK hp)]:List (Option Ob))[m]?).join=some o→s2.H.get (πf [q] m)=some (o.ren (πf [q])):=fun m o ho=>by
  match m,ho with
  |0,ho=>cases ho;exact hg
 obtain ⟨c1,c2,c3,c4,c5⟩:=new_ok hn
 have c6:=c5 m
 rw [if_pos c1] at c6
 unfold nhRow at hn c6 ⊢
 cases his:nhIs hp k e n x with
 |true=>
  rw [his] at hn c6
  simp only [cond_true] at hn c6 ⊢
  have h1:=embed1 (l:=[some (XK hp)]) (o:=XK (nhHp hp k w a)) (ac:=nhArgs k a bb w e n x) (s:=s2) (s1:=s2) (next_T hd his) (fun m hm=>live1 m hm) rfl rfl rfl [q] rfl hst (by simp) rfl ⟨rfl,rfl,rfl⟩ hn rfl rfl
  refine YB.val h1 fun L W hR=>?_
  have h2:=osl_osv hR (n:=m) (es:=2) (b:=.rows shItem (nhHp hp k w a)) c6
  have h3:(V.osv m 2 0 0 (nhHp hp k w a).length).den L=(V.osl s2.nx 2).den L:=by rw [← c1];exact h2
  show Value.tuple [(V.osv m 2 0 0 (nhHp hp k w a).length).den L,Value.bool true].toArray=Value.tuple [(V.osl s2.nx 2).den L,Value.bool true].toArray
  rw [h3]
 |false=>
  rw [his] at hn
  simp only [cond_false] at hn ⊢
  have h1:=embedRO (l:=[some (XK hp)]) (ac:=nhArgs k a bb w e n x) (s:=s2) (v:=.tup [.nils,.bool false]) (next_F hd his) (fun m hm=>live1 m hm) rfl rfl [q] rfl hst (by simp) rfl rfl
  exact h1.afterR (Nat.le_refl _) hn fun L hL=>by simp [V.den,V.denL,hL]
theorem smNextH_sm:SmOK PR 109 smNextH:=by
 refine ⟨fun args s v s' h ho=>?_,Tryz.call109⟩
 unfold smNextH at h
 split at h
 ·rename_i q k a bb w e n x
  obtain ⟨⟨⟨m,b,st,ln,hp⟩,s1⟩,h1,h2⟩:=XA h
  obtain ⟨s2,h3,h4⟩:=XA h2
  obtain ⟨⟨g,s3⟩,h5,h6⟩:=XA h4
  cases h6
  obtain ⟨n1,n2,n3,n4,n5⟩:=new_ok h5
  have ho2:Obl s2:=by unfold Obl at ho ⊢;rw [n4] at ho;exact ho
  obtain ⟨hd,hq⟩:=XI h3 ho2
  obtain ⟨q1,q2,q3,hd2⟩:=XF.1 hd
  subst q1;subst q2;subst q3
  obtain ⟨g1,g2,g3,g4,g5,g6⟩:=nrmR_ok h1 hq.2
  have e1:s2.nx=s1.nx:=hq.1.nx
  have e2:s2.H=s1.H:=hq.1.H
  refine ⟨(g1.trans (.of_same hq.1)).trans (.new h5),g2,?_⟩
  have hcall:=nh_key (a:=a) (bb:=bb) (q:=m) (by rw [e2];exact g3) hd2 h5
  refine YB.gh hcall (by rw [e1];exact g1.le) (by omega) (fun D L W hSR hD hst=>?_)
  rw [e1] at hD
  obtain ⟨L',k1,k2⟩:=g6 D L W hSR hD
  refine ⟨L',⟨by rw [e1];exact k1.le,k1.agree,by rw [e1,e2];exact k1.sr,fun n o b ho=>by rw [e2] at ho;exact k1.sub n o b ho,fun n o ho=>by rw [e2] at ho;exact k1.ro n o ho⟩,fun L'' hL''=>?_⟩
  rw [e1] at hL''
  have hR:=k1.sr L'' hL''
  have h7:=osl_osv hR (n:=m) (es:=2) (b:=.rows shItem hp) g3
  have h8:(V.osl m 2).den L''=q.den L:=h7.symm.trans (k2 L'' hL'')
  simp only [List.map_cons,List.map_nil,h8]
  rfl
 ·cases h
end Go.Sx
