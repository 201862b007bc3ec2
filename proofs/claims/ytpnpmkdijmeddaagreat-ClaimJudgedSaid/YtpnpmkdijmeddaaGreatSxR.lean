/- Code. -/
import Derived.Test.YtpnpmkdijmeddaaGreatSxP
import Derived.AtR
import Derived.RangeFuncRecord
import Derived.Defers
set_option maxRecDepth 100000
namespace Go.Sx
section
variable {P:Program} {E:Env}
structure Cf where
 arr:Array Value
 dv:List Deferred
 w:World
abbrev Rel:=Option Nat→CallKind→List Item→List Frame→Cf→Cf→Prop
def Pc (fr:Frs) (T:Tr V) (df:List Dfr) (s:St) (T':Tr V) (df':List Dfr) (s':St) (R:Rel):Prop:=
 ∀ (D:Nat→Prop) (L:LM) (rv:Option Nat) (kind:CallKind) (k:List Item) (cs:List Frame) (a:Cf),
  SR D L s.H.get a.w→CtxR D L fr T df a.arr a.dv rv→(∀ n,D n→n<s.nx∨s'.nx≤n)→
  ∃ (L':LM) (b:Cf),Mv D L s.H.get a.w L' s'.H.get b.w∧SR (Grow D s.nx s'.nx) L' s'.H.get b.w∧CtxR (Grow D s.nx s'.nx) L' fr T' df' b.arr b.dv rv∧R rv kind k cs a b
variable {fr:Frs} {T T1 T2 T':Tr V} {df df1 df2 df':List Dfr} {s s1 s2 s':St} {R R1 R2 R3:Rel}
theorem Pc.stay (hR:∀ rv kind k cs a,R rv kind k cs a a):Pc fr T df s T df s R:=fun D L rv kind k cs a hSR hC hD=>
 ⟨L,a,.refl _ _ _ _,by rw [YA rfl];exact hSR,by rw [YA rfl];exact hC,hR _ _ _ _ _⟩
theorem Pc.trans (h:Pc fr T df s T1 df1 s1 R1) (g:Pc fr T1 df1 s1 T2 df2 s2 R2) (hl:s.nx≤s1.nx) (hl2:s1.nx≤s2.nx)
  (hR:∀ rv kind k cs a b c,R1 rv kind k cs a b→R2 rv kind k cs b c→R3 rv kind k cs a c):Pc fr T df s T2 df2 s2 R3:=by
 intro D L rv kind k cs a hSR hC hD
 obtain ⟨L1,b,h1,h2,h3,h4⟩:=h D L rv kind k cs a hSR hC (fresh_left hl2 hD)
 obtain ⟨L2,c,g1,g2,g3,g4⟩:=g _ L1 rv kind k cs b h2 h3 (fresh_grow hl hD)
 rw [grow_trans hl hl2] at g2 g3
 exact ⟨L2,c,h1.trans (fun n hn=>.inl hn) g1,g2,g3,hR _ _ _ _ _ _ _ h4 g4⟩
theorem Pc.mono (h:Pc fr T df s T' df' s' R1) (hR:∀ rv kind k cs a b,R1 rv kind k cs a b→R2 rv kind k cs a b):Pc fr T df s T' df' s' R2:=by
 intro D L rv kind k cs a hSR hC hD
 obtain ⟨L1,b,h1,h2,h3,h4⟩:=h D L rv kind k cs a hSR hC hD
 exact ⟨L1,b,h1,h2,h3,hR _ _ _ _ _ _ h4⟩
theorem Pc.atk (h:Pc fr T df s T' df' s' R) (f:List Item→List Item):Pc fr T df s T' df' s' (fun rv kind k=>R rv kind (f k)):=
 fun D L rv kind k cs a=>h D L rv kind (f k) cs a
theorem CtxR.slots {D:Nat→Prop} {L:LM} {arr:Array Value} {dv:List Deferred} {rv:Option Nat} (h:CtxR D L fr T df arr dv rv) (ht:∀ u,(T1.get u).getD XJ=(T.get u).getD XJ):CtxR D L fr T1 df arr dv rv:=by
 intro L' hL'
 obtain ⟨⟨h1,h2⟩,h3,h4⟩:=h L' hL'
 exact ⟨⟨h1,fun u=>by rw [ht];exact h2 u⟩,h3,h4⟩
theorem Pc.same (hs:Same s s1) (ht:∀ u,(T1.get u).getD XJ=(T.get u).getD XJ) (h:Pc fr T1 df s1 T' df' s' R):Pc fr T df s T' df' s' R:=by
 intro D L rv kind k cs a hSR hC hD
 have:=h D L rv kind k cs a (by rw [hs.H];exact hSR) (hC.slots ht) (by rw [hs.nx];exact hD)
 rw [hs.H,hs.nx] at this
 exact this
def At (fr:Frs) (rv:Option Nat) (kind:CallKind) (cs:List Frame) (a:Cf) (todo:List Item):Machine:=lone (frm fr rv kind a.arr todo a.dv) cs a.w
def Arrm (P:Program) (m:Machine) (fr:Frs) (rv:Option Nat) (kind:CallKind) (k:List Item) (cs:List Frame) (b:Cf):Ex→Prop
 |.normal=>Steps P m (At fr rv kind cs b k)
 |.exit id=>∃ k1,Steps P m (At fr rv kind cs b (.code (.exit id)::k1))∧exitTo id k1=exitTo id k
 |.goto l=>∃ k1,Steps P m (At fr rv kind cs b (.code (.goto l)::k1))∧gotoIn l k1=gotoIn l k
 |.ret=>∃ k1,Steps P m (At fr rv kind cs b (.code .ret::k1))
theorem Arrm.of_steps {m m1:Machine} {rv:Option Nat} {kind:CallKind} {k:List Item} {cs:List Frame} {b:Cf} {e:Ex} (h:Steps P m m1) (g:Arrm P m1 fr rv kind k cs b e):Arrm P m fr rv kind k cs b e:=by
 cases e with
 |normal=>exact Steps.trans h g
 |exit id=>obtain ⟨k1,g1,g2⟩:=g;exact ⟨k1,h.trans g1,g2⟩
 |goto l=>obtain ⟨k1,g1,g2⟩:=g;exact ⟨k1,h.trans g1,g2⟩
 |ret=>obtain ⟨k1,g1⟩:=g;exact ⟨k1,h.trans g1⟩
theorem Arrm.plain {m:Machine} {rv:Option Nat} {kind:CallKind} {x:Item} {k:List Item} {cs:List Frame} {b:Cf} {e:Ex} (he:e≠.normal) (hx:x.plain=true) (g:Arrm P m fr rv kind (x::k) cs b e):Arrm P m fr rv kind k cs b e:=by
 cases e with
 |normal=>exact absurd rfl he
 |exit id=>obtain ⟨k1,g1,g2⟩:=g;exact ⟨k1,g1,g2.trans (by cases x<;>simp_all [exitTo,Item.plain])⟩
 |goto l=>obtain ⟨k1,g1,g2⟩:=g;exact ⟨k1,g1,g2.trans (by cases x<;>simp_all [gotoIn,Item.plain])⟩
 |ret=>exact g
def start (c:Code) (k:List Item):List Item:=
 match c with
 |.loop body=>.code body::.inLoop body::k
 |c=>.code c::k
section moves
variable {rv:Option Nat} {kind:CallKind} {k:List Item} {cs:List Frame} {a:Cf}
theorem m_one {t t':List Item} (h:step P (lone ((frm fr rv kind #[] [] []).atR ⟨a.arr,a.dv⟩ t) cs a.w)=.next (lone ((frm fr rv kind #[] [] []).atR ⟨a.arr,a.dv⟩ t') cs a.w)):Steps P (At fr rv kind cs a t) (At fr rv kind cs a t'):=.one h
theorem to_start {c:Code}:Steps P (At fr rv kind cs a (.code c::k)) (At fr rv kind cs a (start c k)):=by
 cases c<;>first|exact .refl _ _|exact m_one stepR_loop
end moves
def CodeOK (P:Program) (fr:Frs) (c:Code) (T:Tr V) (df:List Dfr) (s:St) (e:Ex) (T':Tr V) (df':List Dfr) (s':St):Prop:=
 Pc fr T df s T' df' s' (fun rv kind k cs a b=>Arrm P (At fr rv kind cs a (start c k)) fr rv kind k cs b e)
def CodeAt (P:Program) (fr:Frs) (c:Code) (T:Tr V) (df:List Dfr) (s:St) (e:Ex) (T':Tr V) (df':List Dfr) (s':St):Prop:=
 Pc fr T df s T' df' s' (fun rv kind k cs a b=>Arrm P (At fr rv kind cs a (.code c::k)) fr rv kind k cs b e)
theorem CodeOK.at {c:Code} {e:Ex} (h:CodeOK P fr c T df s e T' df' s'):CodeAt P fr c T df s e T' df' s':=h.mono fun _ _ _ _ _ _ g=>.of_steps to_start g
def XOK (P:Program) (run:X):Prop:=∀ fr c T df s e T' df' s',run fr c T df s=some (e,T',df',s')→Obl s'→Lg s s'∧Obl s∧CodeOK P fr c T df s e T' df' s'
theorem chain {c:Code} {st:List Item→List Item} {e:Ex} (h:Pc fr T df s T1 df1 s1 (fun rv kind k cs a b=>Steps P (At fr rv kind cs a (start c k)) (At fr rv kind cs b (st k)))) (hl:s.nx≤s1.nx)
  (g:Pc fr T1 df1 s1 T2 df2 s2 (fun rv kind k cs a b=>Arrm P (At fr rv kind cs a (st k)) fr rv kind k cs b e)) (hl2:s1.nx≤s2.nx):CodeOK P fr c T df s e T2 df2 s2:=
 h.trans g hl hl2 fun _ _ _ _ _ _ _ h g=>.of_steps h g
theorem Pc.first {m0 m1:List Item→List Item} {e:Ex} (g:Pc fr T df s T2 df2 s2 (fun rv kind k cs a b=>Arrm P (At fr rv kind cs a (m1 k)) fr rv kind k cs b e)) (h:∀ rv kind k cs a,Steps P (At fr rv kind cs a (m0 k)) (At fr rv kind cs a (m1 k))):
  Pc fr T df s T2 df2 s2 (fun rv kind k cs a b=>Arrm P (At fr rv kind cs a (m0 k)) fr rv kind k cs b e):=g.mono fun _ _ _ _ _ _ g=>.of_steps (h _ _ _ _ _) g
theorem ex_normal_or (e:Ex):e=.normal∨e≠.normal:=by cases e<;>simp
theorem seq_ok {run:X} (hr:XOK P run) {x y:Code} {e:Ex} (h:stepX E run fr (.seq x y) T df s=some (e,T',df',s')) (ho:Obl s'):
  Lg s s'∧Obl s∧CodeOK P fr (.seq x y) T df s e T' df' s':=by
 simp only [stepX] at h
 obtain ⟨⟨e1,T1,df1,s1⟩,h1,h2⟩:=XA h
 rcases ex_normal_or e1 with he|he
 ·subst he
  obtain ⟨k1,k2,k3⟩:=hr _ _ _ _ _ _ _ _ _ h2 ho
  obtain ⟨g1,g2,g3⟩:=hr _ _ _ _ _ _ _ _ _ h1 k2
  refine ⟨g1.trans k1,g2,?_⟩
  exact (((g3.at).atk (fun k=>.code y::k)).trans k3.at g1.le k1.le fun rv kind k cs a b c p q=>.of_steps (Steps.trans (m_one stepR_seq) p) q)
 ·have e2:some (e1,T1,df1,s1)=some (e,T',df',s'):=by cases e1<;>first|exact absurd rfl he|exact h2
  cases e2
  obtain ⟨g1,g2,g3⟩:=hr _ _ _ _ _ _ _ _ _ h1 ho
  refine ⟨g1,g2,?_⟩
  exact ((g3.at).atk (fun k=>.code y::k)).mono fun rv kind k cs a b p=>.of_steps (m_one stepR_seq) (.plain (x:=.code y) he rfl p)
theorem settle_get {c:Operand} {t b:Bool} (hev:ev T c=some (.bool t)) (hb:b=t) (u:Nat):((settle T c b).get u).getD XJ=(T.get u).getD XJ:=by
 unfold settle
 cases c with
 |tmp v=>
  simp only
  cases hlt:Nat.blt v big with
  |false=>rfl
  |true=>
   simp only [cond_true]
   rw [Tr.get_put _ _ _ _ (Nat.blt_eq.mp hlt)]
   by_cases hu:u=v
   ·subst hu
    rw [if_pos rfl]
    simp only [ev] at hev
    split at hev
    ·rename_i w hw;cases hev;rw [hw,hb]
    ·simp [XJ] at hev
   ·rw [if_neg hu]
 |const v=>rfl
 |global g=>rfl
 |func f=>rfl
theorem cond_ok {run:X} (hr:XOK P run) {c:Operand} {x y:Code} {e:Ex} (h:stepX E run fr (.cond c x y) T df s=some (e,T',df',s')) (ho:Obl s'):
  Lg s s'∧Obl s∧CodeOK P fr (.cond c x y) T df s e T' df' s':=by
 simp only [stepX] at h
 obtain ⟨v,h1,h2⟩:=XA h
 split at h2
 ·rename_i t
  generalize hd:dec t s=ds at h2
  obtain ⟨b,s1⟩:=ds
  have key:∀ z:Code,(z=if b then x else y)→run fr z (settle T c b) df s1=some (e,T',df',s')→Lg s s'∧Obl s∧CodeOK P fr (.cond c x y) T df s e T' df' s':=by
   intro z hz hrun
   obtain ⟨g1,g2,g3⟩:=hr _ _ _ _ _ _ _ _ _ hrun ho
   obtain ⟨hbt,hq⟩:=dec_ok hd g2
   refine ⟨(Lg.of_same hq.1).trans g1,hq.2,?_⟩
   intro D L rv kind k cs a hSR hC hD
   have hC':=hC L (.refl _ _)
   have hev:evalA a.arr c=.bool t:=by rw [ev_ok hC'.1 h1];rfl
   obtain ⟨L',b',q1,q2,q3,q4⟩:=Pc.same hq.1 (fun u=>settle_get h1 hbt u) g3.at D L rv kind k cs a hSR hC hD
   refine ⟨L',b',q1,q2,q3,.of_steps (m_one ?_) q4⟩
   have hev2:(⟨a.arr,a.dv⟩:Act).eval c=.bool t:=hev
   rw [hz,hbt]
   exact stepR_cond hev2
  cases b with
  |true=>exact key x rfl h2
  |false=>exact key y rfl h2
 ·cases h2
theorem block_ok {run:X} (hr:XOK P run) {id:Nat} {c:Code} {e:Ex} (h:stepX E run fr (.block id c) T df s=some (e,T',df',s')) (ho:Obl s'):
  Lg s s'∧Obl s∧CodeOK P fr (.block id c) T df s e T' df' s':=by
 simp only [stepX] at h
 obtain ⟨⟨e1,T1,df1,s1⟩,h1,h2⟩:=XA h
 have hs:(T1,df1,s1)=(T',df',s'):=by
  cases e1 with
  |exit id'=>
   simp only at h2
   cases hb:Nat.beq id' id<;>rw [hb] at h2<;>simp only [cond_true,cond_false] at h2<;>cases h2<;>rfl
  |_=>cases h2;rfl
 cases hs
 obtain ⟨g1,g2,g3⟩:=hr _ _ _ _ _ _ _ _ _ h1 ho
 refine ⟨g1,g2,((g3.at).atk (fun k=>.inBlock id::k)).mono fun rv kind k cs a b p=>.of_steps (m_one stepR_block) ?_⟩
 cases e1 with
 |normal=>cases h2;exact Steps.trans p (m_one stepR_inBlock)
 |goto l=>
  cases h2
  obtain ⟨k1,p1,p2⟩:=p
  exact ⟨k1,p1,p2⟩
 |ret=>cases h2;exact p
 |exit id'=>
  simp only at h2
  obtain ⟨k1,p1,p2⟩:=p
  cases hb:Nat.beq id' id with
  |true=>
   rw [hb] at h2
   cases h2
   have:id'=id:=Nat.beq_eq.mp hb
   subst this
   have p3:exitTo id' k1=some k:=by rw [p2];simp [exitTo]
   exact p1.trans (m_one (stepR_exit p3))
  |false=>
   rw [hb] at h2
   cases h2
   have hne:¬ (id==id')=true:=by
    intro hh
    have:id'=id:=(by simpa using hh:id=id').symm
    rw [this,Nat.beq_refl] at hb
    cases hb
   refine ⟨k1,p1,p2.trans ?_⟩
   simp only [exitTo]
   rw [if_neg hne]
theorem loop_ok {run:X} (hr:XOK P run) {c:Code} {e:Ex} (h:stepX E run fr (.loop c) T df s=some (e,T',df',s')) (ho:Obl s'):
  Lg s s'∧Obl s∧CodeOK P fr (.loop c) T df s e T' df' s':=by
 simp only [stepX] at h
 obtain ⟨⟨e1,T1,df1,s1⟩,h1,h2⟩:=XA h
 rcases ex_normal_or e1 with he|he
 ·subst he
  obtain ⟨k1,k2,k3⟩:=hr _ _ _ _ _ _ _ _ _ h2 ho
  obtain ⟨g1,g2,g3⟩:=hr _ _ _ _ _ _ _ _ _ h1 k2
  refine ⟨g1.trans k1,g2,?_⟩
  exact (((g3.at).atk (fun k=>.inLoop c::k)).trans k3 g1.le k1.le fun rv kind k cs a b d p q=>.of_steps (Steps.trans p (m_one stepR_inLoop)) q)
 ·have e2:some (e1,T1,df1,s1)=some (e,T',df',s'):=by cases e1<;>first|exact absurd rfl he|exact h2
  cases e2
  obtain ⟨g1,g2,g3⟩:=hr _ _ _ _ _ _ _ _ _ h1 ho
  refine ⟨g1,g2,?_⟩
  exact ((g3.at).atk (fun k=>.inLoop c::k)).mono fun rv kind k cs a b p=>.plain (x:=.inLoop c) he rfl p
theorem stepR_scope {b:Frame} {a:Act} {k:List Item} {cs:List Frame} {w:World} {c:Code}:step P (lone (b.atR a (.code (.scope c)::k)) cs w)=.next (lone (b.atR a (.code c::.inScope c::k)) cs w):=
 step_lone_go (by simp [stepG,stepG.exec,Frame.atR])
theorem stepR_inScope {b:Frame} {a:Act} {k:List Item} {cs:List Frame} {w:World} {c:Code}:step P (lone (b.atR a (.inScope c::k)) cs w)=.next (lone (b.atR a k) cs w):=
 step_lone_go (by simp [stepG,stepG.exec,Frame.atR])
theorem scope_ok' {run:X} (hr:XOK P run) {body:Code}:∀ (n:Nat) (c:Code) (T T':Tr V) (df df':List Dfr) (s s':St) (e:Ex),scopeX run fr body n c T df s=some (e,T',df',s')→Obl s'→
  Lg s s'∧Obl s∧Pc fr T df s T' df' s' (fun rv kind k cs a b=>Arrm P (At fr rv kind cs a (.code c::.inScope body::k)) fr rv kind k cs b e):=by
 intro n
 induction n with
 |zero=>intro c T T' df df' s s' e h;simp [scopeX] at h
 |succ n ih=>
  intro c T T' df df' s s' e h ho
  simp only [scopeX] at h
  obtain ⟨⟨e1,T1,df1,s1⟩,h1,h2⟩:=XA h
  have done:e1=e→T1=T'→df1=df'→s1=s'→(∀ l,e1=.goto l→findLabel body l=none)→Lg s s'∧Obl s∧Pc fr T df s T' df' s' (fun rv kind k cs a b=>Arrm P (At fr rv kind cs a (.code c::.inScope body::k)) fr rv kind k cs b e):=by
   rintro rfl rfl rfl rfl hl
   obtain ⟨g1,g2,g3⟩:=hr _ _ _ _ _ _ _ _ _ h1 ho
   refine ⟨g1,g2,((g3.at).atk (fun k=>.inScope body::k)).mono fun rv kind k cs a b p=>?_⟩
   cases e1 with
   |normal=>exact Steps.trans p (m_one stepR_inScope)
   |exit id=>obtain ⟨k1,p1,p2⟩:=p;exact ⟨k1,p1,p2⟩
   |goto l=>obtain ⟨k1,p1,p2⟩:=p;exact ⟨k1,p1,p2.trans (by simp [gotoIn,hl l rfl])⟩
   |ret=>exact p
  cases e1 with
  |goto l=>
   simp only at h2
   cases hf:findLabel body l with
   |none=>rw [hf] at h2;cases h2;exact done rfl rfl rfl rfl (fun l' h=>by cases h;exact hf)
   |some rest=>
    rw [hf] at h2
    obtain ⟨k1,k2,k3⟩:=ih _ _ _ _ _ _ _ _ h2 ho
    obtain ⟨g1,g2,g3⟩:=hr _ _ _ _ _ _ _ _ _ h1 k2
    refine ⟨g1.trans k1,g2,((g3.at).atk (fun k=>.inScope body::k)).trans k3 g1.le k1.le fun rv kind k cs a b d p q=>?_⟩
    obtain ⟨k1,p1,p2⟩:=p
    have p3:gotoIn l k1=some (.code rest::.inScope body::k):=by rw [p2];simp [gotoIn,hf]
    exact .of_steps (p1.trans (m_one (stepR_goto p3))) q
  |normal=>cases h2;exact done rfl rfl rfl rfl (fun l h=>by cases h)
  |exit id=>cases h2;exact done rfl rfl rfl rfl (fun l h=>by cases h)
  |ret=>cases h2;exact done rfl rfl rfl rfl (fun l h=>by cases h)
theorem scope_ok {run:X} (hr:XOK P run) {c:Code} {e:Ex} (h:stepX E run fr (.scope c) T df s=some (e,T',df',s')) (ho:Obl s'):
  Lg s s'∧Obl s∧CodeOK P fr (.scope c) T df s e T' df' s':=by
 simp only [stepX] at h
 obtain ⟨g1,g2,g3⟩:=scope_ok' hr _ _ _ _ _ _ _ _ _ h ho
 exact ⟨g1,g2,g3.first fun rv kind k cs a=>m_one stepR_scope⟩
theorem region_ok (hE:EnvOK P E) {run:X} (hcf:CfOK P E (callX run E)) (hyf:YfOK P (yieldX run)) {id:Nat} {ops:Array Oper} {draw:Bool} {e:Ex} (h:stepX E run fr (.region id ops draw) T df s=some (e,T',df',s')) (ho:Obl s'):
  Lg s s'∧Obl s∧CodeOK P fr (.region id ops draw) T df s e T' df' s':=by
 simp only [stepX] at h
 cases draw with
 |false=>
  obtain ⟨⟨T1,df1,s1⟩,h1,h2⟩:=XA h
  cases h2
  obtain ⟨g1,g2,g3⟩:=seqOps_ok hE hcf hyf fr ops ops.toList 0 _ _ _ _ _ _ (by simp) h1 ho
  refine ⟨g1,g2,fun D L rv kind k cs a hSR hC hD=>?_⟩
  obtain ⟨L',w',arr',dv',q1,q2,q3,q4⟩:=g3 D L a.w rv kind a.arr k a.dv cs hSR hC hD
  refine ⟨L',⟨arr',dv',w'⟩,q1,q2,q3,?_⟩
  have e1:List.range' 0 ops.toList.length=List.range ops.size:=by rw [List.range_eq_range'];simp
  rw [e1] at q4
  exact Steps.head step_region' (q4.trans (.one step_region_end'))
 |true=>
  obtain ⟨_,h1,h2⟩:=XA h
  obtain ⟨_,h3,h4⟩:=XA h2
  obtain ⟨⟨T1,s1⟩,h5,h6⟩:=XA h4
  cases h6
  obtain ⟨g1,g2,g3⟩:=drawOps_ok (df:=df) hE hE.mixed hcf hyf fr id ops h5 (XC h1) (XC h3) ho
  refine ⟨g1,g2,fun D L rv kind k cs a hSR hC hD=>?_⟩
  obtain ⟨L',w',arr',q1,q2,q3,q4⟩:=g3 D L a.w rv kind a.arr k a.dv cs hSR hC hD
  exact ⟨L',⟨arr',a.dv,w'⟩,q1,q2,q3,q4⟩
end
end Go.Sx
namespace Go.Sx
section
variable {P:Program} {E:Env}
def rsem (arr:Array Value):ResultVar→Sem Value
 |.tmp t=>pure (arr.getD t undef)
 |.cell a t=>do loadVar t (← asAddr (arr.getD a undef))
theorem results_eq (fn:Func) (arr:Array Value):results fn arr=(do let vs ← fn.results.mapM (rsem arr);pure (if h:vs.size=1 then vs[0] else .tuple vs)):=by
 unfold results
 have:(rsem arr)=(fun
  |.tmp t=>pure (arr.getD t undef)
  |.cell a t=>do loadVar t (← asAddr (arr.getD a undef))):=by funext r;cases r<;>rfl
 rw [this]
 rfl
theorem resultsX_ok (hE:EnvOK P E) {nt:Nat} {T:Tr V}:∀ {rs:List ResultVar} {vs:List V} {s s':St},resultsX E T rs s=some (vs,s')→Obl s'→
  Quiet s s'∧∀ (L:LM) (H:Nat→Option Ob) (w:World) (arr:Array Value),H=s.H.get→HR L H w→TmpR L nt T arr→
   (rs.mapM (rsem arr)).run P w=.ok (vs.map (V.den L)) w:=by
 intro rs
 induction rs with
 |nil=>
  intro vs s s' h ho
  simp only [resultsX] at h
  cases h
  exact ⟨.refl ho,fun L H w arr _ _ _=>by simp⟩
 |cons r rs ih=>
  intro vs s s' h ho
  cases r with
  |tmp t=>
   simp only [resultsX] at h
   obtain ⟨⟨vs1,s1⟩,h1,h2⟩:=XA h
   cases h2
   obtain ⟨q,hq⟩:=ih h1 ho
   refine ⟨q,fun L H w arr hH hHR hT=>?_⟩
   have:=hq L H w arr hH hHR hT
   simp only [List.mapM_cons,rsem,Sem.run_bind,Sem.run_pure,Result.andThen_ok,this,List.map_cons]
   rw [hT.2 t]
  |cell a t=>
   simp only [resultsX] at h
   split at h
   ·rename_i av hav
    obtain ⟨⟨v,s1⟩,h1,h2⟩:=XA h
    obtain ⟨⟨vs1,s2⟩,h3,h4⟩:=XA h2
    cases h4
    obtain ⟨q,hq⟩:=ih h3 ho
    obtain ⟨q0,hq0⟩:=loadX_ok hE h1 q.2
    refine ⟨q0.trans q.1,fun L H w arr hH hHR hT=>?_⟩
    have g1:=hq L H w arr (by rw [q0.1.H];exact hH) hHR hT
    have g2:=hq0 L w (fun n idx size off o _ ho=>hHR.ob n o (by rw [hH];exact ho))
    have g3:arr.getD a undef=av.den L:=by rw [hT.2 a,hav];rfl
    simp only [List.mapM_cons,rsem,Sem.run_bind,g3]
    cases av with
    |ptr n idx size off=>
     simp only [V.den,Instr.loadAt,Instr.sureAddr,Sem.run_bind,Sem.run_pure,Result.andThen_ok] at g2
     have g4:(asAddr ((V.ptr n idx size off).den L)).run P w=.ok ⟨(L n).blk.getD 0,(L n).off+(idx*size+off),none⟩ w:=by simp [V.den,asAddr]
     simp only [g4,Sem.run_pure,Result.andThen_ok,g2,g1,List.map_cons]
    |_=>simp [loadX] at h1
   ·cases h
theorem results_ok {nt:Nat} {T:Tr V} (hE:EnvOK P E) {fn:Func} {vs:List V} {s s':St} (h:resultsX E T fn.results.toList s=some (vs,s')) (ho:Obl s'):
  Quiet s s'∧∀ (D:Nat→Prop) (L:LM) (w:World) (arr:Array Value),SR D L s.H.get w→(∀ L',Agree D L L'→TmpR L' nt T arr)→
   ∃ val,(∀ L',Agree D L L'→val=(resultOf vs).den L')∧(results fn arr).run P w=.ok val w:=by
 obtain ⟨q,hq⟩:=resultsX_ok (nt:=nt) hE h ho
 refine ⟨q,fun D L w arr hSR hT=>?_⟩
 have key:∀ L',Agree D L L'→(results fn arr).run P w=.ok ((resultOf vs).den L') w:=by
  intro L' hL'
  have g:=hq L' _ w arr rfl (hSR L' hL') (hT L' hL')
  rw [results_eq,Sem.run_bind,Array.mapM_eq_mapM_toList]
  rw [map_eq_pure_bind,Sem.run_bind,g,Result.andThen_ok,Sem.run_pure,Result.andThen_ok,Sem.run_pure]
  congr 1
  cases vs with
  |nil=>simp [resultOf,V.den,V.denL]
  |cons v vs=>
   cases vs with
   |nil=>simp [resultOf]
   |cons u vs=>simp [resultOf,V.den,denL_eq]
 refine ⟨(resultOf vs).den L,fun L' hL'=>?_,key L (.refl _ _)⟩
 have h1:=key L' hL'
 rw [key L (.refl _ _)] at h1
 injection h1
def Out (fr:Frs) (rv:Option Nat) (kind:CallKind) (arr:Array Value) (todo:List Item) (dv:List Deferred):Frame:={frm fr rv kind arr todo dv with mode:=.returning}
theorem enter_ok (hE:EnvOK P E) {run:X} (hr:XOK P run) {f:FuncId} {args:List V} {s s':St} {fn:Func} {T:Tr V} {df:List Dfr} (h:enterX run E f args s=some (fn,T,df,s')) (ho:Obl s'):
  Lg s s'∧Obl s∧P.funcs[f]?=some fn∧(∀ av w,(callFunc f av).run P w=.ok (.enter f av) w)∧
   ∀ (D:Nat→Prop) (L:LM) (w:World) (kind:CallKind) (cs:List Frame) (av:Array Value),SR D L s.H.get w→(∀ L',Agree D L L'→av.toList=args.map (V.den L'))→(∀ n,D n→n<s.nx∨s'.nx≤n)→
    ∃ L' w' arr dv todo,Mv D L s.H.get w L' s'.H.get w'∧SR (Grow D s.nx s'.nx) L' s'.H.get w'∧CtxR (Grow D s.nx s'.nx) L' ⟨f,none,fn.ntmps⟩ T df arr dv none∧
     Steps P (lone (Frame.enter P f av kind) cs w) (lone (Out ⟨f,none,fn.ntmps⟩ none kind arr todo dv) cs w'):=by
 unfold enterX at h
 obtain ⟨fn',h1,h2⟩:=XA h
 obtain ⟨hf,hcall⟩:=hE.fn _ _ h1
 cases hb:fn'.body with
 |none=>rw [hb] at h2;cases h2
 |some c=>
  rw [hb] at h2
  simp only at h2
  obtain ⟨_,h3,h4⟩:=XA h2
  obtain ⟨_,h5,h6⟩:=XA h4
  obtain ⟨⟨e,T1,df1,s1⟩,h7,h8⟩:=XA h6
  have hnt:fn'.ntmps<big:=Nat.blt_eq.mp (XC h3)
  have hlen:args.length≤fn'.ntmps:=Nat.ble_eq.mp (XC h5)
  have hs:(fn',T1,df1,s1)=(fn,T,df,s'):=by cases e<;>cases h8<;>rfl
  cases hs
  obtain ⟨g1,g2,g3⟩:=hr _ _ _ _ _ _ _ _ _ h7 ho
  refine ⟨g1,g2,hf,hcall,fun D L w kind cs av hSR hav hD=>?_⟩
  have hsz:av.size=args.length:=by
   have:=congrArg List.length (hav L (.refl _ _))
   simpa using this
  have hctx:CtxR D L ⟨f,none,fn.ntmps⟩ (Tr.ofList args) [] (av++Array.replicate (fn.ntmps - av.size) undef) [] none:=by
   intro L' hL'
   refine ⟨⟨by simp;omega,fun t=>?_⟩,rfl,rfl⟩
   rw [Tr.get_ofList _ _ (by omega)]
   have hL:=hav L' hL'
   by_cases ht:t<args.length
   ·have h9:av.toList[t]?=some ((args[t]).den L'):=by rw [hL];simp [ht]
    rw [List.getElem?_eq_getElem ht]
    simp only [Option.getD_some]
    rw [Array.getD_eq_getD_getElem?,Array.getElem?_append_left (by omega)]
    rw [Array.getElem?_toList] at h9
    rw [h9];rfl
   ·rw [List.getElem?_eq_none (by omega)]
    rw [Array.getD_eq_getD_getElem?,Array.getElem?_append_right (by omega),Array.getElem?_replicate]
    split<;>rfl
  obtain ⟨L',b,q1,q2,q3,q4⟩:=g3.at D L none kind [] cs ⟨av++Array.replicate (fn.ntmps - av.size) undef,[],w⟩ hSR hctx hD
  have hent:Frame.enter P f av kind=frm ⟨f,none,fn.ntmps⟩ none kind (av++Array.replicate (fn.ntmps - av.size) undef) [.code c] []:=by
   simp [Frame.enter,frm,hf,hb]
  rw [hent]
  cases e with
  |normal=>exact ⟨L',b.w,b.arr,b.dv,[],q1,q2,q3,Steps.trans q4 (.one (stepR_end (b:=frm ⟨f,none,fn.ntmps⟩ none kind #[] [] []) (a:=⟨b.arr,b.dv⟩) rfl))⟩
  |ret=>
   obtain ⟨k1,q4⟩:=q4
   exact ⟨L',b.w,b.arr,b.dv,_,q1,q2,q3,Steps.trans q4 (.one (stepR_ret (b:=frm ⟨f,none,fn.ntmps⟩ none kind #[] [] []) (a:=⟨b.arr,b.dv⟩) rfl))⟩
  |exit id=>cases h8
  |goto l=>cases h8
theorem callN_ok (hE:EnvOK P E) {run:X} (hr:XOK P run):CfOK P E (callN run E):=by
 intro f args s v s' h ho
 unfold callN at h
 obtain ⟨⟨fn,T,df,s1⟩,h1,h2⟩:=XA h
 cases df with
 |cons d df=>cases h2
 |nil=>
  simp only at h2
  obtain ⟨⟨vs,s2⟩,h3,h4⟩:=XA h2
  cases h4
  obtain ⟨q,hq⟩:=results_ok (nt:=fn.ntmps) hE h3 ho
  obtain ⟨g1,g2,g3,g4,g5⟩:=enter_ok hE hr h1 q.2
  refine ⟨g1.trans (.of_same q.1),g2,?_,g4⟩
  intro D L w kind cs av hSR hav hD
  rw [q.1.nx] at hD
  obtain ⟨L',w',arr,dv,todo,m1,m2,m3,m4⟩:=g5 D L w kind cs av hSR hav hD
  obtain ⟨val,r1,r2⟩:=hq _ L' w' arr m2 (fun L'' hL''=>(m3 L'' hL'').1)
  rw [q.1.H,q.1.nx]
  have hdv:dv=[]:=(m3 L' (.refl _ _)).2.1
  exact ⟨L',w',val,m1,m2,r1,_,m4,rfl,hdv,rfl,rfl,fn,g3,r2⟩
theorem runDefers_ok {cf:CallF} (hcf:CfOK P E cf):∀ (n:Nat) (ds:List Dfr) (s s':St),runDefers cf n ds s=some s'→Obl s'→Lg s s'∧Obl s∧
  ∀ (D:Nat→Prop) (L:LM) (w:World) (fr:Frs) (rv:Option Nat) (kind:CallKind) (cs:List Frame) (arr:Array Value) (todo:List Item) (dv:List Deferred),SR D L s.H.get w→(∀ L',Agree D L L'→dv=ds.map (Dfr.den L'))→(∀ n,D n→n<s.nx∨s'.nx≤n)→
   ∃ L' w',Mv D L s.H.get w L' s'.H.get w'∧SR (Grow D s.nx s'.nx) L' s'.H.get w'∧Steps P (lone (Out fr rv kind arr todo dv) cs w) (lone (Out fr rv kind arr todo []) cs w'):=by
 intro n
 induction n with
 |zero=>intro ds s s' h;simp [runDefers] at h
 |succ n ih=>
  intro ds s s' h ho
  cases ds with
  |nil=>
   simp only [runDefers] at h
   cases h
   refine ⟨.refl _,ho,fun D L w fr rv kind cs arr todo dv hSR hdv hD=>⟨L,w,.refl _ _ _ _,by rw [YA rfl];exact hSR,?_⟩⟩
   have:dv=[]:=hdv L (.refl _ _)
   rw [this]
   exact .refl _ _
  |cons d ds=>
   cases d with
   |collected l=>
    simp only [runDefers] at h
    split at h
    ·rename_i l' hl
     obtain ⟨s1,h1,h2⟩:=XA h
     obtain ⟨g1,g2,g3⟩:=ih _ _ _ h2 ho
     obtain ⟨u1,u2,u3,u4⟩:=upd_ok h1
     refine ⟨(Lg.upd h1).trans g1,by unfold Obl at g2 ⊢;rw [u3] at g2;exact g2,fun D L w fr rv kind cs arr todo dv hSR hdv hD=>?_⟩
     have hDl:=hSR.live hl
     obtain ⟨k,hk1,hk2,hk3⟩:=(hSR L (.refl _ _)).ob _ _ hl
     obtain ⟨m1,m2⟩:=write_mv (w':=w.putObj k (.deferred none)) hSR hl rfl rfl hk1 u4 (by simp) (fun b hb=>World.putObj_heap_other hb) ⟨rfl,rfl,rfl⟩ (by
      intro L' hL' _
      refine ⟨k,by rw [← hL' _ hDl];exact hk1,by rw [← hL' _ hDl];exact hk2,World.putObj_heap_same (Array.getElem?_eq_some_iff.1 hk3).1⟩)
     have hden:∀ L',Agree D L L'→l'.map (Dfr.den L)=l'.map (Dfr.den L'):=by
      intro L' hL'
      obtain ⟨k',e1,e2,e3⟩:=(hSR L' hL').ob _ _ hl
      rw [← hL' _ hDl,hk1] at e1
      cases e1
      rw [hk3] at e3
      simpa using e3
     obtain ⟨L',w',q1,q2,q3⟩:=g3 D L _ fr rv kind cs arr todo (l'.map (Dfr.den L)++ds.map (Dfr.den L)) m2 (by
      intro L' hL'
      rw [List.map_append,hden L' hL']
      have e1:=hdv L (.refl _ _)
      have e2:=hdv L' hL'
      rw [e1] at e2
      simp only [List.map_cons] at e2
      injection e2 with _ e2
      rw [e2]) (by rw [u1];exact hD)
     rw [u1] at q2
     refine ⟨L',w',m1.trans (fun n hn=>hn) q1,q2,.head ?_ q3⟩
     have e1:=hdv L (.refl _ _)
     rw [e1,List.map_cons]
     have hkd:(L l).blk.getD 0=k:=by rw [hk1];rfl
     refine step_collected (fr:=Out fr rv kind arr todo (Dfr.den L (.collected l)::ds.map (Dfr.den L))) (by simp [Out]) (d:=Dfr.den L (.collected l)) (by simp [Out,frm]) (by simp only [Dfr.den,hkd]) (calls:=l'.map (Dfr.den L)) (run_takeDeferred ?_)
     rw [hk3];rfl
    ·cases h
   |call f args caps=>
    simp only [runDefers] at h
    obtain ⟨⟨v,s1⟩,h1,h2⟩:=XA h
    obtain ⟨g1,g2,g3⟩:=ih _ _ _ h2 ho
    obtain ⟨c1,c2,c3,c4⟩:=hcf _ _ _ _ _ h1 g2
    refine ⟨c1.trans g1,c2,fun D L w fr rv kind cs arr todo dv hSR hdv hD=>?_⟩
    have e1:=hdv L (.refl _ _)
    obtain ⟨L1,w1,val,m1,m2,m3,fr',m4,m5⟩:=c3 D L w .deferred (Out fr rv kind arr todo (ds.map (Dfr.den L))::cs) ((args.map (V.den L)).toArray++(caps.map (V.den L)).toArray) hSR (by
     intro L' hL'
     have e2:=hdv L' hL'
     rw [e1] at e2
     simp only [List.map_cons,Dfr.den] at e2
     injection e2 with e2 _
     injection e2 with e2 e3
     injection e2 with _ e2
     have e2':caps.map (V.den L)=caps.map (V.den L'):=by simpa using e2
     have e3':args.map (V.den L)=args.map (V.den L'):=by simpa using e3
     simp [e2',e3']) (fresh_left g1.le hD)
    obtain ⟨L2,w2,q1,q2,q3⟩:=g3 _ L1 w1 fr rv kind cs arr todo (ds.map (Dfr.den L)) m2 (by
     intro L' hL'
     have e2:=hdv L' (m1.agree.trans (hL'.mono fun n hn=>.inl hn))
     rw [e1] at e2
     simp only [List.map_cons] at e2
     injection e2) (fresh_grow c1.le hD)
    rw [grow_trans c1.le g1.le] at q2
    refine ⟨L2,w2,m1.trans (fun n hn=>.inl hn) q1,q2,?_⟩
    rw [e1,List.map_cons]
    refine .head (step_defer (fr:=Out fr rv kind arr todo (Dfr.den L (.call f args caps)::ds.map (Dfr.den L))) (d:=Dfr.den L (.call f args caps)) (fv:=.func f) (cap:=(caps.map (V.den L)).toArray) (by simp [Out]) (by simp [Out,frm]) (by simp only [Dfr.den]) ?_) (m4.trans (.head ?_ q3))
    ·exact c4 _ _
    ·obtain ⟨p1,p2,p3,p4,p5⟩:=m5
     have:=step_going_returned (P:=P) (fr:=fr') (c:=Out fr rv kind arr todo (ds.map (Dfr.den L))) (cs:=cs) (w:=w1) (v:=val) p3 ⟨p1,p2,by rw [p4];exact p5⟩
     exact this
def SumOK (P:Program) (E:Env):Prop:=∀ f F,E.SM f=some F→CfOK P E (fun g args s=>if g=f then F args s else none)
theorem callX_ok (hE:EnvOK P E) (hS:SumOK P E) {run:X} (hr:XOK P run):CfOK P E (callX run E):=by
 intro f args s v s' h ho
 unfold callX at h
 cases hsm:E.SM f with
 |some F=>
  rw [hsm] at h
  exact hS f F hsm f args s v s' (by simp only [if_pos];exact h) ho
 |none=>
  rw [hsm] at h
  simp only at h
  obtain ⟨⟨fn,T,df,s1⟩,h1,h2⟩:=XA h
  cases hdf:df with
  |nil=>
   have:callN run E f args s=some (v,s'):=by
    unfold callN
    rw [h1]
    subst hdf
    exact h2
   exact callN_ok hE hr f args s v s' this ho
  |cons d ds=>
   have h2':((runDefers (callN run E) 1000 df s1).bind fun s2=>(resultsX E T fn.results.toList s2).bind fun (vs,s3)=>some (resultOf vs,s3))=some (v,s'):=by
    simp only [hdf] at h2;rw [hdf];exact h2
   clear h2 hdf
   obtain ⟨s2,h3,h4⟩:=XA h2'
   obtain ⟨⟨vs,s3⟩,h5,h6⟩:=XA h4
   cases h6
   obtain ⟨q,hq⟩:=results_ok (nt:=fn.ntmps) hE h5 ho
   obtain ⟨d1,d2,d3⟩:=runDefers_ok (callN_ok hE hr) _ _ _ _ h3 q.2
   obtain ⟨g1,g2,g3,g4,g5⟩:=enter_ok hE hr h1 d2
   refine ⟨(g1.trans d1).trans (.of_same q.1),g2,?_,g4⟩
   intro D L w kind cs av hSR hav hD
   rw [q.1.nx] at hD
   obtain ⟨L1,w1,arr,dv,todo,m1,m2,m3,m4⟩:=g5 D L w kind cs av hSR hav (fresh_left d1.le hD)
   obtain ⟨L2,w2,n1,n2,n3⟩:=d3 _ L1 w1 ⟨f,none,fn.ntmps⟩ none kind cs arr todo dv m2 (fun L' hL'=>(m3 L' hL').2.1) (fresh_grow g1.le hD)
   rw [grow_trans g1.le d1.le] at n2
   obtain ⟨val,r1,r2⟩:=hq _ L2 w2 arr n2 (fun L'' hL''=>(m3 L'' (n1.agree.trans (hL''.mono fun n hn=>by
    rcases hn with hn|hn
    ·exact .inl hn
    ·exact .inr ⟨hn.1,Nat.lt_of_lt_of_le hn.2 d1.le⟩))).1)
   rw [q.1.H,q.1.nx]
   exact ⟨L2,w2,val,m1.trans (fun n hn=>.inl hn) n1,n2,r1,_,m4.trans n3,rfl,rfl,rfl,rfl,fn,g3,r2⟩
end
end Go.Sx
