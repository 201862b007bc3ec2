/- From a function's beginning to its end. -/
import Derived.Test.YtpnpmkdijmeddaaGreatSxTabC
set_option maxRecDepth 100000
namespace Go.Sx
section
variable {P:Program} {E:Env}
def Handed (Hc:Nat→Option Ob) (L:LM) (b:Nat):Prop:=∃ m o,Hc m=some o∧o.isRo=false∧(L m).blk=some b
theorem enter_asrt {f:FuncId} {fn:Func} {c:Code} (hf:P.funcs[f]?=some fn) (hb:fn.body=some c) (hnt:fn.ntmps<big) {args:List V} (hlen:args.length≤fn.ntmps) {n0 hi:Nat} {Hc:Nat→Option Ob} {L:LM} {w:World}
  (hSR:SR (fun n=>n<n0) L Hc w) {av:Array Value} (hav:∀ L',Agree (fun n=>n<n0) L L'→av.toList=args.map (V.den L')) (S:Nat→Prop) (hS:∀ b,Handed Hc L b→w.heap.size≤b∨S b) (kind:CallKind) (cs:List Frame):
  ∃ a:Cf,a.w=w∧lone (Frame.enter P f av kind) cs w=At ⟨f,none,fn.ntmps⟩ none kind cs a [.code c]∧YC ⟨w,S,n0,L⟩ ⟨f,none,fn.ntmps⟩ (Tr.ofList args) [] Hc n0 hi a:=by
 have hsz:av.size=args.length:=by
  have:=congrArg List.length (hav L (.refl _ _))
  simpa using this
 have hctx:CtxR (fun n=>n<n0) L ⟨f,none,fn.ntmps⟩ (Tr.ofList args) [] (av++Array.replicate (fn.ntmps - av.size) undef) [] none:=by
  intro L' hL'
  refine ⟨⟨by simp;omega,fun t=>?_⟩,rfl,rfl⟩
  rw [Tr.get_ofList _ _ (by omega)]
  have hL:=hav L' hL'
  by_cases ht:t<args.length
  ·have h9:av.toList[t]?=some ((args[t]).den L'):=by rw [hL];simp [ht]
   rw [List.getElem?_eq_getElem ht]
   simp only [Option.getD_some]
   rw [Array.getD_eq_getD_getElem?,Array.getElem?_append_left (by omega)]
   rw [Array.getElem?_toList] at h9
   rw [h9];rfl
  ·rw [List.getElem?_eq_none (by omega)]
   rw [Array.getD_eq_getD_getElem?,Array.getElem?_append_right (by omega),Array.getElem?_replicate]
   split<;>rfl
 have hent:Frame.enter P f av kind=frm ⟨f,none,fn.ntmps⟩ none kind (av++Array.replicate (fn.ntmps - av.size) undef) [.code c] []:=by
  simp [Frame.enter,frm,hf,hb]
 refine ⟨⟨av++Array.replicate (fn.ntmps - av.size) undef,[],w⟩,rfl,by rw [hent];rfl,_,L,hSR,hctx,fun n hn=>.inl hn,.refl _ _,?_,fun m hm=>⟨hm,rfl⟩⟩
 intro n o b ho hr hbl
 exact hS b ⟨n,o,ho,hr,hbl⟩
theorem leave_steps {fr:Frs} {kind:CallKind} {cs:List Frame} {b:Cf} {todo:List Item} (h:todo=[]∨∃ k,todo=.code .ret::k):
  ∃ t,Steps P (At fr none kind cs b todo) (lone (Out fr none kind b.arr t b.dv) cs b.w):=by
 rcases h with rfl|⟨k,rfl⟩
 ·exact ⟨_,.one (stepR_end (b:=frm fr none kind #[] [] []) (a:=⟨b.arr,b.dv⟩) rfl)⟩
 ·exact ⟨_,.one (stepR_ret (b:=frm fr none kind #[] [] []) (a:=⟨b.arr,b.dv⟩) rfl)⟩
theorem results_one {fn:Func} {t:Tmp} (h:fn.results=#[.tmp t]) (arr:Array Value) (w:World):(results fn arr).run P w=.ok (arr.getD t undef) w:=by
 simp [results,h]
theorem callH_of {f:FuncId} {fn:Func} {c:Code} {t:Tmp} (hf:P.funcs[f]?=some fn) (hb:fn.body=some c) (hnt:fn.ntmps<big) (hres:fn.results=#[.tmp t]) {args:List V} (hlen:args.length≤fn.ntmps)
  {n0 n1 hi:Nat} {Hc Hc':Nat→Option Ob} {v:V} (hnew:∀ m o,Hc' m=some o→m<n1∧o.names (fun n=>decide (n<n1))=true) (hro:∀ m o,Hc' m=some o→o.isRo=true→Hc m=some o) (hv:v.names (fun n=>decide (n<n1))=true)
  (h:∀ (L:LM) (w:World) (kind:CallKind) (cs:List Frame) (a:Cf),YC ⟨w,Handed Hc L,n0,L⟩ ⟨f,none,fn.ntmps⟩ (Tr.ofList args) [] Hc n0 hi a→
   ∃ (b:Cf) (T':Tr V) (nx' hi':Nat) (todo:List Item),YC ⟨w,Handed Hc L,n0,L⟩ ⟨f,none,fn.ntmps⟩ T' [] Hc' nx' hi' b∧(T'.get t).getD XJ=v∧Steps P (At ⟨f,none,fn.ntmps⟩ none kind cs a [.code c]) (At ⟨f,none,fn.ntmps⟩ none kind cs b todo)∧
    (todo=[]∨∃ k,todo=.code .ret::k)):YD P f args n0 Hc v n1 Hc':=by
 intro L w kind cs av hSR hav
 obtain ⟨a,haw,hent,hA⟩:=enter_asrt (hi:=hi) hf hb hnt hlen hSR hav (Handed Hc L) (fun b hb=>.inr hb) kind cs
 obtain ⟨b,T',nx',hi',todo,⟨D,L',g1,g2,g3,g4,g5,g6⟩,e1,e2,e3⟩:=h L w kind cs a hA
 obtain ⟨tt,e4⟩:=leave_steps (P:=P) (fr:=⟨f,none,fn.ntmps⟩) (kind:=kind) (cs:=cs) (b:=b) e3
 have hC:=g2 L' (.refl _ _)
 refine ⟨L',b.w,b.arr.getD t undef,⟨fun m hm=>((g6 m hm).2).symm,g4.size,fun k hk hn=>g4.old k hk ?_,fun n o k ho hr hk=>?_,g4.os,g4.tape,g4.output,hro⟩,?_,?_,_,by rw [hent];exact e2.trans e4,rfl,hC.2.1,rfl,rfl,fn,hf,results_one hres _ _⟩
 ·rintro ⟨m,o,h1,h2,h3⟩
  exact hn m o h1 h2 h3
 ·rcases g5 n o k ho hr hk with h1|⟨m,om,h1,h2,h3⟩
  ·exact .inl h1
  ·exact .inr ⟨m,om,h1,h2,h3⟩
 ·intro L'' hL''
  have h0:=g1 L' (.refl _ _)
  refine ⟨fun m o ho=>ObR_names (p:=fun n=>decide (n<n1)) (fun n hn=>hL'' n (by simpa using hn)) (by simpa using (hnew m o ho).1) (hnew m o ho).2 (h0.ob m o ho),fun n m on om hn hm hne hr hbl=>?_⟩
  rw [← hL'' n (hnew n on hn).1,← hL'' m (hnew m om hm).1]
  rw [← hL'' n (hnew n on hn).1] at hbl
  exact h0.inj n m on om hn hm hne hr hbl
 ·intro L'' hL''
  rw [hC.1.2 t,e1]
  exact den_names (p:=fun n=>decide (n<n1)) (fun n hn=>hL'' n (by simpa using hn)) v hv
theorem callH_run {f:FuncId} {args:List V} {s s':St} {v vc:V} (h:YB P f args s v s') {n0 n1:Nat} (hn0:s.nx=n0) {Hc:Nat→Option Ob} (hHc:∀ m,s.H.get m=Hc m) {Hc':Nat→Option Ob} (π:Nat→Nat)
  (hπ0:∀ m,m<n0→π m=m) (hπ:∀ m,m<n1→π m<s'.nx) (hinj:∀ m n,m<n1→n<n1→m≠n→π m≠π n)
  (hH:∀ m o,Hc' m=some o→o.plain=true∧m<n1∧o.names (fun n=>decide (n<n1))=true∧s'.H.get (π m)=some (o.ren π)) (hro:∀ m o,Hc' m=some o→o.isRo=true→Hc m=some o)
  (hv:v=vc.ren π) (hvn:vc.names (fun n=>decide (n<n1))=true):YD P f args n0 Hc vc n1 Hc':=by
 have hHc':s.H.get=Hc:=funext hHc
 intro L w kind cs av hSR hav
 rw [← hHc'] at hSR
 obtain ⟨L',w',val,m1,m2,m3,fr',m4,m5⟩:=h (fun n=>n<n0) L w kind cs av hSR hav (fun n hn=>.inl (by rw [hn0];exact hn))
 have hg:∀ m,m<s'.nx→Grow (fun n=>n<n0) s.nx s'.nx m:=fun m hm=>by
  by_cases h1:m<n0
  ·exact .inl h1
  ·exact .inr ⟨by omega,hm⟩
 have hold:∀ m o,Hc' m=some o→o.isRo=false→∀ b,(L' (π m)).blk=some b→w.heap.size≤b∨∃ k ok,Hc k=some ok∧ok.isRo=false∧(L k).blk=some b:=by
  intro m o ho hr b hb
  have:=m1.sub (π m) _ b (hH m o ho).2.2.2 (by rw [isRo_ren];exact hr) hb
  rw [hHc'] at this
  exact this
 refine ⟨fun m=>L' (π m),w',val,⟨fun m hm=>?_,m1.size,?_,fun n o b ho hr hb=>hold n o ho hr b hb,m1.os,m1.tape,m1.output,hro⟩,?_,fun L'' hL''=>?_,fr',m4,m5⟩
 ·show L m=L' (π m)
  rw [hπ0 m hm];exact m1.agree m hm
 ·intro b hb hn
  exact m1.frame b hb (by rw [hHc'];exact hn)
 ·refine m2.take (fun m hm=>hg _ (hπ m hm)) (fun m o ho=>⟨(hH m o ho).1,(hH m o ho).2.1,(hH m o ho).2.2.2⟩) (fun m o L1 L2 ho hA hR=>?_) (fun m n om on hm hn _ hne=>hinj m n (hH m om hm).2.1 (hH n on hn).2.1 hne)
  exact ObR_names (names_lt hA) (by simpa using (hH m o ho).2.1) (hH m o ho).2.2.1 hR
 ·rw [m3 L' (.refl _ _),hv,den_ren]
  exact den_names (names_lt hL'') vc hvn
abbrev Kept (W W':World):Prop:=KeptBut (fun _=>False) W W'
theorem calls_of {f:FuncId} {fn:Func} {c:Code} {t:Tmp} (hf:P.funcs[f]?=some fn) (hb:fn.body=some c) (hnt:fn.ntmps<big) (hres:fn.results=#[.tmp t]) {args:List V} (hlen:args.length≤fn.ntmps)
  {n0 hi:Nat} {Hc:Nat→Option Ob} {L:LM} {w:World} {x:Bool} (hSR:SR (fun n=>n<n0) L Hc w) (hro:∀ m o,Hc m=some o→o.isRo=true) {av:Array Value} (hav:∀ L',Agree (fun n=>n<n0) L L'→av.toList=args.map (V.den L'))
  (h:∀ (cs:List Frame) (a:Cf),YC ⟨w,fun _=>False,n0,L⟩ ⟨f,none,fn.ntmps⟩ (Tr.ofList args) [] Hc n0 hi a→
   ∃ (b:Cf) (T':Tr V) (Hc':Nat→Option Ob) (nx' hi':Nat) (todo:List Item),YC ⟨w,fun _=>False,n0,L⟩ ⟨f,none,fn.ntmps⟩ T' [] Hc' nx' hi' b∧(T'.get t).getD XJ=.bool x∧Steps P (At ⟨f,none,fn.ntmps⟩ none .normal cs a [.code c]) (At ⟨f,none,fn.ntmps⟩ none .normal cs b todo)∧
    (todo=[]∨∃ k,todo=.code .ret::k)):Calls P f av w fun e w'=>e=.returned (.bool x)∧Kept w w':=by
 intro cs
 obtain ⟨a,haw,hent,hA⟩:=enter_asrt (hi:=hi) hf hb hnt hlen hSR hav (fun _=>False) (fun b hb=>by
  obtain ⟨m,o,h1,h2,_⟩:=hb
  rw [hro m o h1] at h2;cases h2) .normal cs
 obtain ⟨b,T',Hc',nx',hi',todo,⟨D,L',g1,g2,g3,g4,g5,g6⟩,e1,e2,e3⟩:=h cs a hA
 obtain ⟨tt,e4⟩:=leave_steps (P:=P) (fr:=⟨f,none,fn.ntmps⟩) (kind:=.normal) (cs:=cs) (b:=b) e3
 have hC:=g2 L' (.refl _ _)
 refine ⟨.returned (.bool x),b.w,_,⟨rfl,g4⟩,by rw [hent];exact e2.trans e4,rfl,rfl,hC.2.1,rfl,fn,hf,?_⟩
 rw [results_one hres]
 have:(Out ⟨f,none,fn.ntmps⟩ none .normal b.arr tt b.dv).tmps=b.arr:=rfl
 rw [this,hC.1.2 t,e1];rfl
end
end Go.Sx
namespace Go.Sx
section
variable {P:Program} {E:Env}
def hO (l:List (Option Ob)) (m:Nat):Option Ob:=(l[m]?).join
def putL {α:Type}:Nat→List (Option α)→Tr α→Tr α
 |_,[],t=>t
 |n,o::l,t=>putL (Nat.succ n) l (t.put n o)
def trO {α:Type} (l:List (Option α)):Tr α:=putL 0 l .nil
theorem putL_get {α:Type}:∀ (l:List (Option α)) (n:Nat) (t:Tr α) (m:Nat),n+l.length<big→(putL n l t).get m=if n≤m∧m<n+l.length then (l[m - n]?).join else t.get m:=by
 intro l
 induction l with
 |nil=>intro n t m _;rw [if_neg (by simp only [List.length_nil];omega)];rfl
 |cons o l ih=>
  intro n t m h
  simp only [List.length_cons] at h
  simp only [putL]
  rw [ih _ _ _ (by simp only [Nat.succ_eq_add_one];omega),Tr.get_put _ _ _ _ (by omega)]
  simp only [Nat.succ_eq_add_one,List.length_cons]
  by_cases h1:m=n
  ·subst h1
   rw [if_neg (by omega),if_pos rfl,if_pos (by omega)]
   simp
  ·by_cases h2:n+1≤m∧m<n+1+l.length
   ·rw [if_pos h2,if_pos (by omega)]
    have e:m - n=(m - (n+1))+1:=by omega
    rw [e,List.getElem?_cons_succ]
   ·rw [if_neg h2,if_neg h1,if_neg (by omega)]
theorem trO_get {α:Type} (l:List (Option α)) (h:l.length<big) (m:Nat):(trO l).get m=(l[m]?).join:=by
 unfold trO
 rw [putL_get _ _ _ _ (by omega)]
 by_cases h1:m<l.length
 ·rw [if_pos (by omega)];simp
 ·rw [if_neg (by omega),List.getElem?_eq_none (by omega)];rfl
def allB:List Bool→Bool
 |[]=>true
 |b::l=>cond b (allB l) false
theorem allB_ok:∀ {l:List Bool},allB l=true→∀ b∈l,b=true:=by
 intro l
 induction l with
 |nil=>intro _ b hb;cases hb
 |cons x l ih=>
  intro h b hb
  simp only [allB] at h
  cases x with
  |false=>cases h
  |true=>
   rcases List.mem_cons.1 hb with rfl|hb
   ·rfl
   ·exact ih h b hb
def πf (πl:List Nat) (m:Nat):Nat:=πl.getD m 0
def idUpto:Nat→List Nat→Nat→Bool
 |0,_,_=>true
 |_+1,[],_=>false
 |k+1,x::l,i=>cond (Nat.beq x i) (idUpto k l (Nat.succ i)) false
theorem idUpto_ok:∀ (k:Nat) (l:List Nat) (i:Nat),idUpto k l i=true→∀ m,m<k→l.getD m 0=i+m:=by
 intro k
 induction k with
 |zero=>intro l i _ m hm;omega
 |succ k ih=>
  intro l i h m hm
  cases l with
  |nil=>cases h
  |cons x l=>
   simp only [idUpto] at h
   cases hx:Nat.beq x i with
   |false=>rw [hx] at h;cases h
   |true=>
    rw [hx] at h
    cases m with
    |zero=>simp;exact Nat.beq_eq.mp hx
    |succ m=>
     have:=ih l (i+1) h m (by omega)
     simp at this ⊢
     omega
def obsOK (p:Nat→Bool):Nat→List (Option Ob)→Bool
 |_,[]=>true
 |i,none::l=>obsOK p (Nat.succ i) l
 |i,some o::l=>cond o.plain (cond (p i) (cond (o.names p) (obsOK p (Nat.succ i) l) false) false) false
theorem XP {p:Nat→Bool}:∀ (l:List (Option Ob)) (i:Nat),obsOK p i l=true→∀ (m:Nat) (o:Ob),(l[m]?).join=some o→o.plain=true∧p (i+m)=true∧o.names p=true:=by
 intro l
 induction l with
 |nil=>intro i _ m o h;simp at h
 |cons x l ih=>
  intro i h m o hm
  cases x with
  |none=>
   simp only [obsOK] at h
   cases m with
   |zero=>simp at hm
   |succ m=>
    have:=ih _ h m o (by simpa using hm)
    rw [show i+(m+1)=i.succ+m by simp only [Nat.succ_eq_add_one];omega];exact this
  |some y=>
   simp only [obsOK] at h
   cases h1:y.plain with
   |false=>rw [h1] at h;cases h
   |true=>
    cases h2:p i with
    |false=>rw [h1,h2] at h;cases h
    |true=>
     cases h3:y.names p with
     |false=>rw [h1,h2,h3] at h;cases h
     |true=>
      rw [h1,h2,h3] at h
      cases m with
      |zero=>simp at hm;subst hm;exact ⟨h1,h2,h3⟩
      |succ m=>
       have:=ih _ h m o (by simpa using hm)
       rw [show i+(m+1)=i.succ+m by simp only [Nat.succ_eq_add_one];omega];exact this
def noRo:List (Option Ob)→Bool
 |[]=>true
 |some o::l=>cond o.isRo false (noRo l)
 |none::l=>noRo l
theorem noRo_ok:∀ (l:List (Option Ob)),noRo l=true→∀ (m:Nat) (o:Ob),(l[m]?).join=some o→o.isRo=false:=by
 intro l
 induction l with
 |nil=>intro _ m o h;simp at h
 |cons x l ih=>
  intro h m o hm
  cases x with
  |none=>cases m with
   |zero=>simp at hm
   |succ m=>exact ih h m o (by simpa using hm)
  |some y=>
   simp only [noRo] at h
   cases hy:y.isRo with
   |true=>rw [hy] at h;cases h
   |false=>
    rw [hy] at h
    cases m with
    |zero=>simp at hm;subst hm;exact hy
    |succ m=>exact ih h m o (by simpa using hm)
def below (n:Nat):List Nat→Bool
 |[]=>true
 |x::l=>cond (Nat.blt x n) (below n l) false
theorem below_ok {n:Nat}:∀ {l:List Nat},below n l=true→∀ x∈l,x<n:=by
 intro l
 induction l with
 |nil=>intro _ x hx;cases hx
 |cons y l ih=>
  intro h x hx
  simp only [below] at h
  cases hy:Nat.blt y n with
  |false=>rw [hy] at h;cases h
  |true=>
   rw [hy] at h
   rcases List.mem_cons.1 hx with rfl|hx
   ·exact Nat.blt_eq.mp hy
   ·exact ih h x hx
def distinct:List Nat→Bool
 |[]=>true
 |x::l=>cond (mem? x l) false (distinct l)
theorem distinct_ok:∀ {l:List Nat},distinct l=true→l.Nodup:=by
 intro l
 induction l with
 |nil=>intro _;exact List.nodup_nil
 |cons x l ih=>
  intro h
  simp only [distinct] at h
  cases hx:mem? x l with
  |true=>rw [hx] at h;cases h
  |false=>
   rw [hx] at h
   refine List.nodup_cons.2 ⟨fun hm=>?_,ih h⟩
   rw [(mem?_iff x l).2 hm] at hx;cases hx
theorem distinct_inj {l:List Nat} (h:distinct l=true) {m n:Nat} (hm:m<l.length) (hn:n<l.length) (hne:m≠n):πf l m≠πf l n:=by
 have hd:=distinct_ok h
 simp only [πf,List.getD_eq_getElem?_getD,List.getElem?_eq_getElem hm,List.getElem?_eq_getElem hn,Option.getD_some]
 intro he
 exact hne ((List.getElem_inj hd).1 he)
def chkP (n0 nx:Nat) (πl:List Nat) (l':List (Option Ob)):Bool:=
 cond (Nat.beq πl.length l'.length) (cond (idUpto n0 πl 0) (cond (below nx πl) (distinct πl) false) false) false
theorem chkP_ok {n0 nx:Nat} {πl:List Nat} {l':List (Option Ob)} (h:chkP n0 nx πl l'=true):πl.length=l'.length∧(∀ m,m<n0→πf πl m=m)∧(∀ m,m<l'.length→πf πl m<nx)∧(∀ m n,m<l'.length→n<l'.length→m≠n→πf πl m≠πf πl n):=by
 unfold chkP at h
 cases h1:Nat.beq πl.length l'.length with
 |false=>rw [h1] at h;cases h
 |true=>
  cases h2:idUpto n0 πl 0 with
  |false=>rw [h1,h2] at h;cases h
  |true=>
   cases h3:below nx πl with
   |false=>rw [h1,h2,h3] at h;cases h
   |true=>
    rw [h1,h2,h3] at h
    have hl:πl.length=l'.length:=Nat.beq_eq.mp h1
    refine ⟨hl,fun m hm=>?_,fun m hm=>?_,fun m n hm hn hne=>distinct_inj h (by omega) (by omega) hne⟩
    ·have:=idUpto_ok _ _ _ h2 m hm
     simpa [πf] using this
    ·have hm':m<πl.length:=by omega
     simp only [πf,List.getD_eq_getElem?_getD,List.getElem?_eq_getElem hm',Option.getD_some]
     exact below_ok h3 _ (List.getElem_mem hm')
theorem map_get {H:Nat→Option Ob} {πl:List Nat} {l':List (Option Ob)} (hlen:πl.length=l'.length) (h:πl.map H=l'.map (Option.map (Ob.ren (πf πl)))):∀ m o,(l'[m]?).join=some o→H (πf πl m)=some (o.ren (πf πl)):=by
 intro m o hm
 have hlt:m<l'.length:=by
  refine Nat.lt_of_not_le fun hle=>?_
  rw [List.getElem?_eq_none hle] at hm;cases hm
 have h1:=congrArg (fun l=>l[m]?) h
 simp only [List.getElem?_map,List.getElem?_eq_getElem hlt,List.getElem?_eq_getElem (show m<πl.length by omega),Option.map_some,Option.some.injEq] at h1
 rw [List.getElem?_eq_getElem hlt] at hm
 have h2:l'[m]=some o:=hm
 rw [h2] at h1
 have h3:πf πl m=πl[m]'(by omega):=by simp [πf,List.getD_eq_getElem?_getD,List.getElem?_eq_getElem (show m<πl.length by omega)]
 rw [h3,h1];rfl
theorem XH (hE:EnvOK P E) (hS:SumOK P E) {n:Nat} {f:FuncId} {args:List V} {l l':List (Option Ob)} {orc:List (Nat×Bool)} {πl:List Nat} {vc:V} {nx':Nat} {B:Bool}
  (hrun:(callX (exec E n) E f args ⟨trO l,l.length,orc,[],[]⟩).map (fun r=>(r.1,r.2.nx,πl.map r.2.H.get,allB r.2.obl))=some (vc.ren (πf πl),nx',l'.map (Option.map (Ob.ren (πf πl))),B)) (hB:B=true)
  (hl0:Nat.blt l.length big=true) (hchk:chkP l.length nx' πl l'=true) (hobs:obsOK (fun m=>Nat.blt m l'.length) 0 l'=true) (hro:noRo l'=true) (hvn:vc.names (fun m=>Nat.blt m l'.length)=true):YD P f args l.length (hO l) vc l'.length (hO l'):=by
 have hl:l.length<big:=Nat.blt_eq.mp hl0
 cases hr:callX (exec E n) E f args ⟨trO l,l.length,orc,[],[]⟩ with
 |none=>rw [hr] at hrun;cases hrun
 |some r=>
  obtain ⟨v,s'⟩:=r
  rw [hr] at hrun
  simp only [Option.map_some,Option.some.injEq,Prod.mk.injEq] at hrun
  obtain ⟨rfl,rfl,h1,h2⟩:=hrun
  obtain ⟨c1,c2,c3,c4⟩:=chkP_ok hchk
  have hp:(fun m=>Nat.blt m l'.length)=(fun m=>decide (m<l'.length)):=by
   funext m
   cases hb:Nat.blt m l'.length with
   |true=>exact (decide_eq_true (Nat.blt_eq.mp hb)).symm
   |false=>refine (decide_eq_false fun hlt=>?_).symm;rw [Nat.blt_eq.mpr hlt] at hb;cases hb
  rw [hp] at hobs hvn
  have hcall:=(call_ok hE hS n f args _ _ _ hr (allB_ok (by rw [h2];exact hB))).2.2.1
  refine callH_run hcall rfl (fun m=>trO_get l hl m) (πf πl) c2 c3 c4 (fun m o ho=>?_) (fun m o ho hr=>?_) rfl hvn
  ·obtain ⟨d1,d2,d3⟩:=XP l' 0 hobs m o ho
   exact ⟨d1,by simpa using d2,d3,map_get c1 h1 m o ho⟩
  ·rw [noRo_ok l' hro m o ho] at hr;cases hr
def slots (J:Nat→V):Nat→List (Option V)→List (Option V)
 |_,[]=>[]
 |i,some v::l=>some v::slots J (Nat.succ i) l
 |i,none::l=>some (J i)::slots J (Nat.succ i) l
theorem slots_get (J:Nat→V):∀ (l:List (Option V)) (i m:Nat),((slots J i l)[m]?).join=match l[m]? with
  |some (some v)=>some v
  |some none=>some (J (i+m))
  |none=>none:=by
 intro l
 induction l with
 |nil=>intro i m;simp [slots]
 |cons x l ih=>
  intro i m
  cases m with
  |zero=>cases x<;>simp [slots]
  |succ m=>
   have e:i+(m+1)=i.succ+m:=by simp only [Nat.succ_eq_add_one];omega
   cases x<;>simp only [slots,List.getElem?_cons_succ]<;>rw [ih,e]
theorem XZ (J:Nat→V):∀ (l:List (Option V)) (i:Nat),(slots J i l).length=l.length:=by
 intro l
 induction l with
 |nil=>intro i;rfl
 |cons x l ih=>intro i;cases x<;>simp [slots,ih]
def XQ (p:Nat→Bool):List (Option V)→Bool
 |[]=>true
 |some v::l=>cond (v.names p) (XQ p l) false
 |none::l=>XQ p l
theorem liveNames_ok {p:Nat→Bool}:∀ (l:List (Option V)),XQ p l=true→∀ (m:Nat) (v:V),l[m]?=some (some v)→v.names p=true:=by
 intro l
 induction l with
 |nil=>intro _ m v h;simp at h
 |cons x l ih=>
  intro h m v hm
  cases x with
  |none=>cases m with
   |zero=>simp at hm
   |succ m=>exact ih h m v (by simpa using hm)
  |some y=>
   simp only [XQ] at h
   cases hy:y.names p with
   |false=>rw [hy] at h;cases h
   |true=>
    rw [hy] at h
    cases m with
    |zero=>simp at hm;subst hm;exact hy
    |succ m=>exact ih h m v (by simpa using hm)
def look (T:Tr V):Nat→List (Option V)→List (Option V)
 |_,[]=>[]
 |i,some _::l=>some ((T.get i).getD XJ)::look T (Nat.succ i) l
 |i,none::l=>none::look T (Nat.succ i) l
theorem look_get (T:Tr V):∀ (l:List (Option V)) (i m:Nat),(look T i l)[m]?=match l[m]? with
  |some (some _)=>some (some ((T.get (i+m)).getD XJ))
  |some none=>some none
  |none=>none:=by
 intro l
 induction l with
 |nil=>intro i m;simp [look]
 |cons x l ih=>
  intro i m
  cases m with
  |zero=>cases x<;>simp [look]
  |succ m=>
   have e:i+(m+1)=i.succ+m:=by simp only [Nat.succ_eq_add_one];omega
   cases x<;>simp only [look,List.getElem?_cons_succ]<;>rw [ih,e]
def getM (H:Nat→Option Ob):List Nat→List Bool→List (Option Ob)
 |[],_=>[]
 |m::ms,[]=>H m::getM H ms []
 |m::ms,b::bs=>cond b (H m) none::getM H ms bs
theorem getM_nil (H:Nat→Option Ob):∀ πl:List Nat,getM H πl []=πl.map H:=by
 intro πl
 induction πl with
 |nil=>rfl
 |cons m ms ih=>simp only [getM,List.map_cons,ih]
theorem getM_get {H:Nat→Option Ob}:∀ (πl:List Nat) (mk:List Bool) (m:Nat) (o:Ob),((getM H πl mk)[m]?).join=some o→H (πf πl m)=some o:=by
 intro πl
 induction πl with
 |nil=>intro mk m o h;simp [getM] at h
 |cons x ms ih=>
  intro mk m o h
  cases mk with
  |nil=>
   cases m with
   |zero=>simpa [getM,πf] using h
   |succ m=>have:=ih [] m o (by simpa [getM] using h);simpa [πf] using this
  |cons b bs=>
   cases m with
   |zero=>cases b<;>simp [getM,πf] at h ⊢;exact h
   |succ m=>have:=ih bs m o (by simpa [getM] using h);simpa [πf] using this
theorem getM_ok {H:Nat→Option Ob} {πl:List Nat} {mk:List Bool} {l':List (Option Ob)} (h:getM H πl mk=l'.map (Option.map (Ob.ren (πf πl)))):∀ m o,(l'[m]?).join=some o→H (πf πl m)=some (o.ren (πf πl)):=by
 intro m o hm
 refine getM_get πl mk m _ ?_
 rw [h]
 cases hl:l'[m]? with
 |none=>rw [hl] at hm;cases hm
 |some q=>
  rw [hl] at hm
  have:q=some o:=hm
  subst this
  simp [hl]
theorem YC.evalR (hE:EnvOK P E) (hS:SumOK P E) {n m:Nat} (kind:CallKind) (cs:List Frame) {β:Base} {fr:Frs} {sl':List (Option V)} {l l' lr:List (Option Ob)} {mk:List Bool} {orc:List (Nat×Bool)} {todo todo':List Item} {πl:List Nat} {nx' hi far:Nat} {B:Bool} {T:Tr V} {a:Cf}
  (hA:YC β fr T [] (hO l) l.length hi a)
  (hrun:(ctlN E (exec E n) fr m todo T [] ⟨trO l,l.length,orc,[],[]⟩).map (fun r=>(r.1,look r.2.1 0 sl',r.2.2.1,r.2.2.2.nx,getM r.2.2.2.H.get πl mk,allB r.2.2.2.obl))=
   some (todo',sl'.map (Option.map (V.ren (πf πl))),[],nx',lr,B)) (hlr:l'.map (Option.map (Ob.ren (πf πl)))=lr) (hB:B=true)
  (hl0:Nat.blt l.length big=true) (hnt0:Nat.beq sl'.length fr.nt=true) (hnt1:Nat.blt fr.nt big=true) (hhi0:Nat.ble nx' hi=true) (hfar0:Nat.ble l'.length far=true) (p:Nat→Bool) (hp:∀ m,p m=true→m<l'.length∧(m<β.n0∨∃ o,(l'[m]?).join=some o)) (hold:∀ m,m<β.n0→p m=true)
  (hchk:chkP β.n0 nx' πl l'=true) (hobs:obsOK p 0 l'=true) (hsl:XQ p sl'=true):
  ∃ (J':Nat→V) (b:Cf),YC β fr (trO (slots J' 0 sl')) [] (hO l') l'.length far b∧Steps P (At fr none kind cs a todo) (At fr none kind cs b todo'):=by
 have hl:l.length<big:=Nat.blt_eq.mp hl0
 have hnt:sl'.length=fr.nt:=Nat.beq_eq.mp hnt0
 have hnt':fr.nt<big:=Nat.blt_eq.mp hnt1
 have hhi:nx'≤hi:=Nat.ble_eq.mp hhi0
 have hfar:l'.length≤far:=Nat.ble_eq.mp hfar0
 cases hr:ctlN E (exec E n) fr m todo T [] ⟨trO l,l.length,orc,[],[]⟩ with
 |none=>rw [hr] at hrun;cases hrun
 |some r=>
  obtain ⟨t',T',df',s'⟩:=r
  rw [hr] at hrun
  simp only [Option.map_some,Option.some.injEq,Prod.mk.injEq] at hrun
  obtain ⟨rfl,h1,rfl,rfl,h2,h3⟩:=hrun
  obtain ⟨c1,c2,c3,c4⟩:=chkP_ok hchk
  have hA':YC β fr T [] (⟨trO l,l.length,orc,[],[]⟩:St).H.get (⟨trO l,l.length,orc,[],[]⟩:St).nx hi a:=by
   have:(trO l).get=hO l:=funext fun m=>trO_get l hl m
   show YC β fr T [] (trO l).get l.length hi a
   rw [this];exact hA
  obtain ⟨b,g1,g2⟩:=hA'.run hE hS (exec_ok hE hS n) kind cs hr (allB_ok (by rw [h3];exact hB)) hhi
  refine ⟨fun t=>((T'.get t).getD XJ).ren (fun n=>far+n),b,?_,g2⟩
  refine g1.take (πf πl) p (fun m hm=>(hp m hm).1) hfar (fun m o ho=>?_) (fun m n om on hm hn _ hne=>?_) (fun m hm=>?_) (fun m hm=>⟨hold m hm,c2 m hm⟩) (fun t ht=>?_) (fun t ht=>?_)
  ·obtain ⟨d1,d2,d3⟩:=XP l' 0 hobs m o ho
   exact ⟨d1,by simpa using d2,d3,getM_ok (h2.trans hlr.symm) m o ho⟩
  ·have lt:∀ m o,hO l' m=some o→m<l'.length:=fun m o ho=>Nat.lt_of_not_le fun hle=>by
    simp only [hO,List.getElem?_eq_none hle] at ho;cases ho
   exact c4 m n (lt m _ hm) (lt n _ hn) hne
  ·rcases (hp m hm).2 with h|⟨o,ho⟩
   ·exact .inl h
   ·exact .inr ⟨_,getM_ok (h2.trans hlr.symm) m o ho⟩
  ·rw [trO_get _ (by rw [XZ];omega),slots_get,List.getElem?_eq_none (by omega)]
  ·rw [trO_get _ (by rw [XZ];omega),slots_get]
   have hts:t<sl'.length:=by omega
   rw [List.getElem?_eq_getElem hts]
   have h4:=congrArg (fun l=>l[t]?) h1
   simp only [look_get,List.getElem?_map,List.getElem?_eq_getElem hts,Nat.zero_add] at h4
   cases hv:sl'[t] with
   |none=>right;simp
   |some v=>
    left
    rw [hv] at h4
    simp only [Option.map_some,Option.some.injEq] at h4
    exact ⟨v,rfl,liveNames_ok sl' hsl t v (by rw [List.getElem?_eq_getElem hts,hv]),h4⟩
theorem YC.eval (hE:EnvOK P E) (hS:SumOK P E) {n m:Nat} (kind:CallKind) (cs:List Frame) {β:Base} {fr:Frs} {sl':List (Option V)} {l l':List (Option Ob)} {orc:List (Nat×Bool)} {todo todo':List Item} {πl:List Nat} {nx' hi far:Nat} {B:Bool} {T:Tr V} {a:Cf}
  (hA:YC β fr T [] (hO l) l.length hi a)
  (hrun:(ctlN E (exec E n) fr m todo T [] ⟨trO l,l.length,orc,[],[]⟩).map (fun r=>(r.1,look r.2.1 0 sl',r.2.2.1,r.2.2.2.nx,πl.map r.2.2.2.H.get,allB r.2.2.2.obl))=
   some (todo',sl'.map (Option.map (V.ren (πf πl))),[],nx',l'.map (Option.map (Ob.ren (πf πl))),B)) (hB:B=true)
  (hl0:Nat.blt l.length big=true) (hnt0:Nat.beq sl'.length fr.nt=true) (hnt1:Nat.blt fr.nt big=true) (hhi0:Nat.ble nx' hi=true) (hfar0:Nat.ble l'.length far=true) (p:Nat→Bool) (hp:∀ m,p m=true→m<l'.length∧(m<β.n0∨∃ o,(l'[m]?).join=some o)) (hold:∀ m,m<β.n0→p m=true)
  (hchk:chkP β.n0 nx' πl l'=true) (hobs:obsOK p 0 l'=true) (hsl:XQ p sl'=true):
  ∃ (J':Nat→V) (b:Cf),YC β fr (trO (slots J' 0 sl')) [] (hO l') l'.length far b∧Steps P (At fr none kind cs a todo) (At fr none kind cs b todo'):=
 YC.evalR (mk:=[]) hE hS kind cs hA (by simp only [getM_nil];exact hrun) rfl hB hl0 hnt0 hnt1 hhi0 hfar0 p hp hold hchk hobs hsl
end
end Go.Sx
namespace Go.Sx
section
variable {P:Program}
theorem renV_lt {n0:Nat} {π π':Nat→Nat} (h:∀ m,m<n0→π' m=π m) (v:V) (hv:v.names (fun n=>decide (n<n0))=true):v.ren π'=v.ren π:=
 ren_names (p:=fun n=>decide (n<n0)) (fun n hn=>h n (by simpa using hn)) v hv
theorem embedW {f:FuncId} {ac:List V} {n0 n1:Nat} {Hc Hc':Nat→Option Ob} {vc:V} (h:YD P f ac n0 Hc vc n1 Hc') (hle:n0≤n1)
  (hsup:∀ m,n0≤m→Hc m=none) (hall:∀ m o,Hc m=some o→o.plain=true∧o.names (fun n=>decide (n<n0))=true)
  (hnew:∀ m o,Hc' m=some o→o.plain=true∧m<n1) (hac:∀ v∈ac,v.names (fun n=>decide (n<n0))=true)
  {s s':St} {args:List V} {v:V} (π:Nat→Nat) (hlive:∀ m,m<n0→∃ o,s.H.get (π m)=some o) (hπ:∀ m o,Hc m=some o→s.H.get (π m)=some (o.ren π)) (hinj:∀ m n om on,Hc m=some om→Hc n=some on→m≠n→π m≠π n)
  (hargs:args=ac.map (V.ren π)) (hv:v=vc.ren (ext π n0 s.nx)) (hnx:s'.nx=s.nx+(n1 - n0))
  (hHn:∀ n,s.nx≤n→n<s'.nx→s'.H.get n=(Hc' (n - s.nx+n0)).map (Ob.ren (ext π n0 s.nx)))
  (hHo:∀ m o,Hc m=some o→s'.H.get (π m)=(Hc' m).map (Ob.ren (ext π n0 s.nx)))
  (hHr:∀ n,¬ (s.nx≤n∧n<s'.nx)→(∀ m o,Hc m=some o→n≠π m)→s'.H.get n=s.H.get n):YB P f args s v s':=by
 intro D L w kind cs av hSR hav hD
 have hlt:∀ m o,Hc m=some o→m<n0:=fun m o ho=>Nat.lt_of_not_le fun hle=>by rw [hsup m hle] at ho;cases ho
 have hDπ:∀ m,m<n0→D (π m):=fun m hm=>by obtain ⟨o,ho⟩:=hlive m hm;exact hSR.live ho
 have hout:∀ n,D n→¬ (s.nx≤n∧n<s'.nx):=fun n hn=>by rcases hD n hn with h|h<;>omega
 have hSRc:SR (fun n=>n<n0) (fun n=>L (π n)) Hc w:=by
  refine hSR.take (fun m hm=>hDπ m hm) (fun m o ho=>?_) (fun m o L1 L2 ho hA hR=>?_) (fun m n om on hm hn _ hne=>hinj m n om on hm hn hne)
  ·exact ⟨(hall m o ho).1,hlt m o ho,hπ m _ ho⟩
  ·exact ObR_names (names_lt hA) (by simpa using hlt m o ho) (hall m o ho).2 hR
 obtain ⟨L1,w',val,M,S,hval,fr',hst,hlv⟩:=h (fun n=>L (π n)) w kind cs av hSRc (by
  intro L' hL'
  rw [hav L (.refl _ _),hargs,List.map_map]
  refine List.map_congr_left fun v hv=>?_
  rw [Function.comp,den_ren]
  exact den_names (names_lt hL') v (hac v hv))
 obtain ⟨π',hπ'⟩:∃ π',π'=ext π n0 s.nx:=⟨_,rfl⟩
 rw [← hπ'] at hv hHn hHo
 have hπlt:∀ m,m<n0→π' m=π m:=fun m hm=>by rw [hπ'];simp [ext,hm]
 have hπge:∀ m,n0≤m→π' m=s.nx+(m - n0):=fun m hm=>by rw [hπ'];simp [ext,Nat.not_lt.2 hm]
 have hren:∀ m o,Hc m=some o→o.ren π'=o.ren π:=by
  intro m o ho
  obtain ⟨h2,h3⟩:=hall m o ho
  cases o with
  |mem b t op=>
   cases b with
   |cells cs=>
    simp only [Ob.names,Body.names] at h3
    simp only [Ob.ren,Body.ren]
    congr 2
    have:∀ l:List V,V.namesL (fun n=>decide (n<n0)) l=true→V.renL π' l=V.renL π l:=by
     intro l
     induction l with
     |nil=>intro _;rfl
     |cons v l ih=>intro hl;simp only [V.namesL,Bool.and_eq_true] at hl;simp only [V.renL,renV_lt hπlt v hl.1,ih hl.2]
    exact this cs h3
   |words k ws=>rfl
   |rows sh rs=>rfl
  |ro k ws=>rfl
  |loop=>cases h2
  |deferred=>cases h2
 obtain ⟨L',hL'⟩:∃ L':LM,L'=fun n=>if s.nx≤n∧n<s'.nx then L1 (n - s.nx+n0) else L n:=⟨_,rfl⟩
 have hL'old:∀ n,¬ (s.nx≤n∧n<s'.nx)→L' n=L n:=fun n hn=>by rw [hL'];simp only [if_neg hn]
 have hL'new:∀ m,n0≤m→m<n1→L' (π' m)=L1 m:=fun m h1 h2=>by
  rw [hL',hπge m h1]
  have:s.nx≤s.nx+(m - n0)∧s.nx+(m - n0)<s'.nx:=⟨by omega,by omega⟩
  simp only [if_pos this]
  congr 1;omega
 have hagr:Agree D L L':=fun n hn=>(hL'old n (hout n hn)).symm
 have hL1:∀ m,m<n1→L1 m=L' (π' m):=by
  intro m hm
  by_cases h1:m<n0
  ·rw [hπlt m h1,hL'old _ (hout _ (hDπ m h1)),← M.agree m h1]
  ·exact (hL'new m (by omega) hm).symm
 have himg:∀ n o,s'.H.get n=some o→(∃ m oc,n=π' m∧m<n1∧Hc' m=some oc∧o=oc.ren π')∨(s.H.get n=some o∧(∀ m o,Hc m=some o→n≠π m)∧¬ (s.nx≤n∧n<s'.nx)):=by
  intro n o ho
  by_cases hn:s.nx≤n∧n<s'.nx
  ·rw [hHn n hn.1 hn.2] at ho
   cases hc:Hc' (n - s.nx+n0) with
   |none=>rw [hc] at ho;cases ho
   |some oc=>
    rw [hc] at ho
    cases ho
    exact .inl ⟨_,oc,by rw [hπge _ (by omega)];omega,by omega,hc,rfl⟩
  ·by_cases hi:∃ m o,Hc m=some o∧n=π m
   ·obtain ⟨m,om,hm,rfl⟩:=hi
    rw [hHo m om hm] at ho
    cases hc:Hc' m with
    |none=>rw [hc] at ho;cases ho
    |some oc=>
     rw [hc] at ho
     cases ho
     have:=hlt m om hm
     exact .inl ⟨m,oc,(hπlt m this).symm,by omega,hc,rfl⟩
   ·have hi':∀ m o,Hc m=some o→n≠π m:=fun m o hm e=>hi ⟨m,o,hm,e⟩
    rw [hHr n hn hi'] at ho
    exact .inr ⟨ho,hi',hn⟩
 have hback:∀ b,(∃ j oj,Hc j=some oj∧oj.isRo=false∧(L (π j)).blk=some b)→∃ m om,s.H.get m=some om∧om.isRo=false∧(L m).blk=some b∧∃ j oj,Hc j=some oj∧m=π j:=by
  rintro b ⟨j,oj,h1,h2,h3⟩
  exact ⟨π j,_,hπ j oj h1,by rw [isRo_ren];exact h2,h3,j,oj,h1,rfl⟩
 have hMv:Mv D L s.H.get w L' s'.H.get w':=by
  refine ⟨hagr,M.size,fun b hb hn=>?_,fun n o b ho hr hb=>?_,M.os,M.tape,M.output,fun n o ho hr=>?_⟩
  ·exact M.frame b hb fun m o ho hr hbl=>hn (π m) _ (hπ m o ho) (by rw [isRo_ren];exact hr) hbl
  ·rcases himg n o ho with ⟨m,oc,rfl,hm,hc,rfl⟩|⟨h1,h2,h3⟩
   ·rw [isRo_ren] at hr
    rw [← hL1 m hm] at hb
    rcases M.sub m oc b hc hr hb with h4|h4
    ·exact .inl h4
    ·obtain ⟨m',om,g1,g2,g3,_⟩:=hback b h4
     exact .inr ⟨m',om,g1,g2,g3⟩
   ·rw [hL'old n h3] at hb
    exact .inr ⟨n,o,h1,hr,hb⟩
  ·rcases himg n o ho with ⟨m,oc,rfl,hm,hc,rfl⟩|⟨h1,h2,h3⟩
   ·rw [isRo_ren] at hr
    have h4:=M.ro m oc hc hr
    rw [hπlt m (hlt m oc h4),hren m oc h4]
    exact hπ m oc h4
   ·exact h1
 have hcore:∀ L'',Agree (Grow D s.nx s'.nx) L' L''→(∀ n,D n→L'' n=L n)∧Agree (fun m=>m<n1) L1 (fun m=>L'' (π' m)):=by
  intro L'' hL''
  have hA:∀ n,D n→L'' n=L n:=fun n hn=>by rw [← hL'' n (.inl hn)];exact (hagr n hn).symm
  refine ⟨hA,fun m hm=>?_⟩
  have hm:m<n1:=hm
  by_cases h1:m<n0
  ·simp only [hπlt m h1,hA _ (hDπ m h1),← M.agree m h1]
  ·have h2:Grow D s.nx s'.nx (π' m):=.inr (by rw [hπge m (by omega)];exact ⟨by omega,by omega⟩)
   show L1 m=L'' (π' m)
   rw [← hL'' _ h2]
   exact hL1 m hm
 refine ⟨L',w',val,hMv,?_,?_,fr',hst,hlv⟩
 ·intro L'' hL''
  obtain ⟨hA,hA1⟩:=hcore L'' hL''
  have hc:=S _ hA1
  have ho0:=hSR L'' (fun n hn=>(hA n hn).symm)
  refine ⟨fun n o ho=>?_,fun n m on om hn hm hne hr hb=>?_⟩
  ·rcases himg n o ho with ⟨m,oc,rfl,hm,hcm,rfl⟩|⟨h1,h2,h3⟩
   ·exact (ObR_ren (hnew m oc hcm).1).2 (hc.ob m oc hcm)
   ·have hDn:=hSR.live h1
    refine (ho0.ob n o h1).keep M.size fun b hb hbl=>M.frame b hbl fun j oj hj hjr hjb=>?_
    have hne:π j≠n:=fun e=>h2 j oj hj e.symm
    have:=ho0.inj (π j) n _ _ (hπ j oj hj) h1 hne (by rw [isRo_ren];exact hjr) (by rw [hA _ (hDπ j (hlt j oj hj)),hjb];simp)
    rw [hA _ (hDπ j (hlt j oj hj)),hjb,hb] at this
    exact this rfl
  ·intro heq
   have mix:∀ (n:Nat) (on om:Ob) (j:Nat),s.H.get n=some on→(∀ i o,Hc i=some o→n≠π i)→Hc' j=some om→j<n1→(on.isRo=false∨om.isRo=false)→(L'' n).blk≠none→(L'' n).blk≠(L'' (π' j)).blk:=by
    intro n on om j hn hni hj hjlt hrr hbn he
    have hDn:=hSR.live hn
    cases hb:(L'' n).blk with
    |none=>exact hbn hb
    |some b=>
     have hblt:=(ho0.ob n on hn).blk_lt hb
     rw [hb] at he
     cases hr:om.isRo with
     |true=>
      rcases hrr with h1|h1
      ·have h2:Hc j=some om:=M.ro j om hj hr
       have hj0:=hlt j om h2
       have h3:=ho0.inj n (π j) _ _ hn (hπ j om h2) (hni j om h2) h1 hbn
       rw [hπlt j hj0] at he
       exact h3 (by rw [hb,he])
      ·rw [hr] at h1;cases h1
     |false=>
      have hb1:(L1 j).blk=some b:=by rw [hA1 j hjlt];exact he.symm
      rcases M.sub j om b hj hr hb1 with h4|h4
      ·omega
      ·obtain ⟨m',om',g1,g2,g3,i,oi,hi,rfl⟩:=hback b h4
       have hilt:=hlt i oi hi
       have h3:=ho0.inj (π i) n _ _ g1 hn (fun e=>hni i oi hi e.symm) g2 (by rw [hA _ (hDπ i hilt),g3];simp)
       rw [hA _ (hDπ i hilt),g3,hb] at h3
       exact h3 rfl
   rcases himg n on hn with ⟨j,oc,rfl,hj,hcj,rfl⟩|⟨h1,h2,h3⟩
   ·rw [isRo_ren] at hr
    rcases himg m om hm with ⟨i,od,rfl,hi,hci,rfl⟩|⟨g1,g2,g3⟩
    ·exact hc.inj j i oc od hcj hci (fun e=>hne (by rw [e])) hr hb heq
    ·exact mix m om oc j g1 g2 hcj hj (.inr hr) (by rw [← heq];exact hb) heq.symm
   ·rcases himg m om hm with ⟨i,od,rfl,hi,hci,rfl⟩|⟨g1,g2,g3⟩
    ·exact mix n on od i h1 h2 hci hi (.inl hr) hb heq
    ·exact ho0.inj n m on om h1 g1 hne hr hb heq
 ·intro L'' hL''
  obtain ⟨hA,hA1⟩:=hcore L'' hL''
  rw [hval _ hA1,hv,den_ren]
end
end Go.Sx
namespace Go.Sx
section
variable {P:Program}
def GhV (g es:Nat) (v v':V):Prop:=v'=v∨(v=.nils∧v'=.osl g es)
inductive GhL (g es:Nat):List V→List V→Prop
 |nil:GhL g es [] []
 |cons {v v':V} {l l':List V}:GhV g es v v'→GhL g es l l'→GhL g es (v::l) (v'::l')
theorem GhV.den {g es:Nat} {v v':V} (h:GhV g es v v') {L:LM} (hg:L g=⟨none,0,0,0⟩):v'.den L=v.den L:=by
 rcases h with rfl|⟨rfl,rfl⟩
 ·rfl
 ·simp [V.den,hg]
theorem GhL.den {g es:Nat} {l l':List V} (h:GhL g es l l') {L:LM} (hg:L g=⟨none,0,0,0⟩):l'.map (V.den L)=l.map (V.den L)∧l'.length=l.length:=by
 induction h with
 |nil=>exact ⟨rfl,rfl⟩
 |cons h1 _ ih=>exact ⟨by simp only [List.map_cons,h1.den hg,ih.1],by simp only [List.length_cons,ih.2]⟩
theorem YC.ghost {β:Base} {fr:Frs} {T T':Tr V} {H H':Nat→Option Ob} {nx hi es:Nat} {a:Cf} {b:Body} {t:TypeId} (hA:YC β fr T [] H nx hi a) (hlt:nx<hi) (hβ:β.n0≤nx) (hb:b.flat=[]) (hc:b.count es=0)
  (hg:H' nx=some (.mem b t (some es))) (hH:∀ m,m≠nx→H' m=H m∨∃ cs cs' t op,H m=some (.mem (.cells cs) t op)∧H' m=some (.mem (.cells cs') t op)∧GhL nx es cs cs')
  (hT:∀ u,GhV nx es ((T.get u).getD XJ) ((T'.get u).getD XJ)):YC β fr T' [] H' (nx+1) hi a:=by
 obtain ⟨D,L,hSR,hC,hD,hk,hf,h0⟩:=hA
 have hnD:¬ D nx:=fun h=>by rcases hD nx h with h|h<;>omega
 obtain ⟨L1,hL1⟩:∃ L1:LM,L1=fun m=>if m=nx then ⟨none,0,0,0⟩ else L m:=⟨_,rfl⟩
 have hag:∀ L',Agree (fun m=>D m∨m=nx) L1 L'→Agree D L L'∧L' nx=⟨none,0,0,0⟩:=by
  intro L' hL'
  refine ⟨fun m hm=>?_,?_⟩
  ·have h1:=hL' m (.inl hm)
   have hne:m≠nx:=fun e=>hnD (e ▸ hm)
   rw [hL1] at h1
   simp only [if_neg hne] at h1
   exact h1
  ·have h1:=hL' nx (.inr rfl)
   rw [hL1] at h1
   simp only [if_true] at h1
   exact h1.symm
 have hob:∀ m o,m≠nx→H' m=some o→∃ oo,H m=some oo∧oo.isRo=o.isRo∧∀ (L':LM) (w:World),L' nx=⟨none,0,0,0⟩→ObR L' w m oo→ObR L' w m o:=by
  intro m o hm ho
  rcases hH m hm with h1|⟨cs,cs',t',op,h1,h2,h3⟩
  ·exact ⟨o,by rw [← h1];exact ho,rfl,fun _ _ _ h=>h⟩
  ·rw [h2] at ho
   cases ho
   refine ⟨_,h1,rfl,fun L' w hg' hR=>?_⟩
   obtain ⟨e1,e2⟩:=h3.den hg'
   have e3:XE L' (.cells cs')=XE L' (.cells cs):=e1
   cases op with
   |none=>simp only [ObR] at hR ⊢;rw [e3];exact hR
   |some es'=>
    simp only [ObR] at hR ⊢
    rw [e3]
    have e4:(Body.cells cs').count es'=(Body.cells cs).count es':=by simp only [Body.count,e2]
    have e5:(Body.cells cs').flat.length=(Body.cells cs).flat.length:=e2
    rw [e4,e5];exact hR
 refine ⟨fun m=>D m∨m=nx,L1,?_,?_,?_,hk,?_,fun m hm=>⟨.inl (h0 m hm).1,?_⟩⟩
 ·intro L' hL'
  obtain ⟨g1,g2⟩:=hag L' hL'
  have hR:=hSR L' g1
  refine ⟨fun m o ho=>?_,fun n m on om hn hm hne hr hbl=>?_⟩
  ·by_cases hm:m=nx
   ·subst hm
    rw [hg] at ho
    cases ho
    refine ⟨by rw [g2],by rw [g2,hc],by rw [g2,hb];simp,.inl ⟨by rw [g2],by rw [g2],by rw [g2]⟩⟩
   ·obtain ⟨oo,h1,_,h2⟩:=hob m o hm ho
    exact h2 L' _ g2 (hR.ob m oo h1)
  ·by_cases h1:n=nx
   ·subst h1;rw [g2] at hbl;exact absurd rfl hbl
   ·by_cases h2:m=nx
    ·subst h2;rw [g2];exact hbl
    ·obtain ⟨o1,e1,e2,_⟩:=hob n on h1 hn
     obtain ⟨o2,e3,_,_⟩:=hob m om h2 hm
     exact hR.inj n m o1 o2 e1 e3 hne (by rw [e2];exact hr) hbl
 ·intro L' hL'
  obtain ⟨g1,g2⟩:=hag L' hL'
  obtain ⟨⟨c1,c2⟩,c3,c4⟩:=hC L' g1
  exact ⟨⟨c1,fun u=>by rw [(hT u).den g2];exact c2 u⟩,c3,c4⟩
 ·intro n hn
  rcases hn with hn|rfl
  ·rcases hD n hn with h|h
   ·exact .inl (by omega)
   ·exact .inr h
  ·exact .inl (by omega)
 ·intro n o b' ho hr hbl
  by_cases h1:n=nx
  ·rw [hL1] at hbl;simp only [if_pos h1] at hbl;cases hbl
  ·obtain ⟨o1,e1,e2,_⟩:=hob n o h1 ho
   rw [hL1] at hbl
   simp only [if_neg h1] at hbl
   exact hf n o1 b' e1 (by rw [e2];exact hr) hbl
 ·rw [hL1]
  have:m≠nx:=by omega
  simp only [if_neg this]
  exact (h0 m hm).2
end
end Go.Sx
