/- Tables are right: checked by reckoning. -/
import Derived.Test.YtpnpmkdijmeddaaGreatSxT
import Derived.Laws.StructEq
set_option maxRecDepth 100000
namespace Go.Sx
section
variable {P:Program}
def putAll {α:Type}:List (Nat×α)→Tr α→Tr α
 |[],t=>t
 |(n,x)::l,t=>putAll l (t.put n (some x))
def small {α:Type}:List (Nat×α)→Bool
 |[]=>true
 |(n,_)::l=>cond (Nat.blt n big) (small l) false
theorem putAll_get {α:Type}:∀ (l:List (Nat×α)) (t:Tr α) (m:Nat) (y:α),small l=true→(putAll l t).get m=some y→(m,y)∈l∨t.get m=some y:=by
 intro l
 induction l with
 |nil=>intro t m y _ h;exact .inr h
 |cons p l ih=>
  intro t m y hs h
  obtain ⟨n,x⟩:=p
  simp only [small] at hs
  cases hb:Nat.blt n big with
  |false=>rw [hb] at hs;cases hs
  |true=>
   rw [hb] at hs
   rcases ih _ m y hs h with h1|h1
   ·exact .inl (List.mem_cons_of_mem _ h1)
   ·rw [Tr.get_put _ _ _ _ (Nat.blt_eq.mp hb)] at h1
    by_cases hm:m=n
    ·rw [if_pos hm] at h1;cases h1;subst hm;exact .inl (List.mem_cons_self ..)
    ·rw [if_neg hm] at h1;exact .inr h1
def likeV:V→V→Bool
 |.int k n,.int k' n'=>cond (decide (k=k')) (decide (n=n')) false
 |.bool b,.bool b'=>b==b'
 |.nilp,.nilp=>true
 |.nils,.nils=>true
 |.nilf,.nilf=>true
 |.nili,.nili=>true
 |.str s,.str s'=>decide (s=s')
 |.nilm,.nilm=>true
 |_,_=>false
theorem likeV_ok:∀ {a b:V},likeV a b=true→a=b:=by
 intro a b h
 cases a<;>cases b<;>simp [likeV] at h<;>try rfl
 ·rw [h.1,h.2]
 ·rw [h]
 ·rw [h]
def likeVs:List V→List V→Bool
 |[],[]=>true
 |a::as,b::bs=>cond (likeV a b) (likeVs as bs) false
 |_,_=>false
theorem likeVs_ok:∀ {a b:List V},likeVs a b=true→a=b:=by
 intro a
 induction a with
 |nil=>intro b h;cases b with
  |nil=>rfl
  |cons=>cases h
 |cons x a ih=>intro b h;cases b with
  |nil=>cases h
  |cons y b=>
   simp only [likeVs] at h
   cases hx:likeV x y with
   |false=>rw [hx] at h;cases h
   |true=>rw [hx] at h;rw [likeV_ok hx,ih h]
def szB (P:Program) (t:TypeId) (size:Nat) (ag:Bool):Bool:=
 match P.info? t,P.underlying t with
 |some i,some d=>Nat.beq i.size size&&(isAggD d==ag)
 |_,_=>false
theorem szB_ok {t:TypeId} {size:Nat} {ag:Bool} (h:szB P t size ag=true):Szd P t size ag:=by
 unfold szB at h
 split at h
 ·rename_i i d hi hd
  simp only [Bool.and_eq_true,beq_iff_eq] at h
  exact ⟨i,d,hi,Nat.beq_eq.mp h.1,hd,h.2⟩
 ·cases h
def fsB (P:Program):List Field→List (Nat×Nat×Bool)→Bool
 |[],[]=>true
 |f::fl,(o,sz,ag)::l=>Nat.beq f.offset o&&szB P f.type sz ag&&fsB P fl l
 |_,_=>false
theorem fsB_ok:∀ {fl:List Field} {l:List (Nat×Nat×Bool)},fsB P fl l=true→fl.length=l.length∧∀ (i o sz:Nat) (ag:Bool),l[i]?=some (o,sz,ag)→∃ f:Field,fl[i]?=some f∧f.offset=o∧Szd P f.type sz ag:=by
 intro fl
 induction fl with
 |nil=>intro l h;cases l with
  |nil=>exact ⟨rfl,fun i o sz ag h=>by simp at h⟩
  |cons=>cases h
 |cons f fl ih=>
  intro l h
  cases l with
  |nil=>cases h
  |cons x l=>
   obtain ⟨o,sz,ag⟩:=x
   simp only [fsB,Bool.and_eq_true] at h
   obtain ⟨h1,h2⟩:=ih h.2
   refine ⟨by simp [h1],fun i o' sz' ag' hi=>?_⟩
   cases i with
   |zero=>
    simp at hi
    obtain ⟨rfl,rfl,rfl⟩:=hi
    exact ⟨f,rfl,Nat.beq_eq.mp h.1.1,szB_ok h.1.2⟩
   |succ i=>simp at hi;simpa using h2 i o' sz' ag' hi
def kdB (P:Program):TypeDesc→Kd→Bool
 |.struct fields,.struct fs=>fsB P fields.toList fs
 |.array n e,.arr n' es ag=>Nat.beq n n'&&szB P e es ag
 |.slice e,.slice e'=>Nat.beq e e'
 |.int k,.intk k'=>decide (k=k')
 |.bool,.bool=>true
 |.pointer e,.ptr=>match P.info? e with
  |some i=>!(Nat.beq i.size 0)
  |none=>false
 |.func _ _ _,.func=>true
 |.interface _,.iface=>true
 |_,.other=>true
 |_,_=>false
theorem kdB_ok {d:TypeDesc} {k:Kd} (h:kdB P d k=true):KdR P d k:=by
 cases k with
 |struct fs=>
  cases d<;>simp only [kdB] at h<;>try cases h
  rename_i fields
  obtain ⟨h1,h2⟩:=fsB_ok h
  exact ⟨fields,rfl,by simpa using h1,fun i o sz ag hi=>by simpa using h2 i o sz ag hi⟩
 |arr n es ag=>
  cases d<;>simp only [kdB] at h<;>try cases h
  simp only [Bool.and_eq_true] at h
  exact ⟨_,by rw [Nat.beq_eq.mp h.1],szB_ok h.2⟩
 |slice e=>
  cases d<;>simp only [kdB] at h<;>try cases h
  show _=_
  rw [Nat.beq_eq.mp h]
 |intk k=>
  cases d<;>simp only [kdB] at h<;>try cases h
  show _=_
  rw [of_decide_eq_true h]
 |bool=>cases d<;>simp only [kdB] at h<;>first|rfl|cases h
 |ptr=>
  cases d<;>simp only [kdB] at h<;>try cases h
  split at h
  ·rename_i i hi
   refine ⟨_,i,rfl,hi,fun h0=>?_⟩
   rw [h0] at h
   simp at h
  ·cases h
 |func=>cases d<;>simp only [kdB] at h<;>first|exact ⟨_,_,_,rfl⟩|cases h
 |iface=>cases d<;>simp only [kdB] at h<;>first|exact ⟨_,rfl⟩|cases h
 |other=>trivial
def rowB (ti:TI):Bool:=
 match ti.row with
 |.words k=>Nat.beq ti.size 1&&likeVs ti.zb.flat [.int k 0]
 |.rows sh=>Nat.beq ti.size sh.length&&likeVs ti.zb.flat (shRow sh [])
 |.cells=>true
def tiB (P:Program) (t:TypeId) (ti:TI):Bool:=
 match P.info? t,P.underlying t with
 |some i,some d=>Nat.beq i.size ti.size&&Nat.beq i.bytes ti.bytes&&(match i.zero with
   |some z=>(match ofScalars z.cells.toList with
    |some l=>likeVs l ti.zb.flat
    |none=>false)
   |none=>false)&&(isAggD d==ti.agg)&&kdB P d ti.kind&&Nat.beq ti.zb.flat.length ti.size&&rowB ti
 |_,_=>false
theorem tiB_ok {t:TypeId} {ti:TI} (h:tiB P t ti=true):TIok P t ti:=by
 unfold tiB at h
 split at h
 ·rename_i i d hi hd
  simp only [Bool.and_eq_true,beq_iff_eq] at h
  obtain ⟨⟨⟨⟨⟨⟨h1,h2⟩,h3⟩,h4⟩,h5⟩,h6⟩,h7⟩:=h
  cases hz:i.zero with
  |none=>rw [hz] at h3;cases h3
  |some z=>
   rw [hz] at h3
   simp only at h3
   cases hl:ofScalars z.cells.toList with
   |none=>rw [hl] at h3;cases h3
   |some l=>
    rw [hl] at h3
    have hfl:=likeVs_ok h3
    refine ⟨⟨i,z,d,hi,Nat.beq_eq.mp h1,Nat.beq_eq.mp h2,hz,fun L=>?_,hd,h4,kdB_ok h5⟩,Nat.beq_eq.mp h6,?_⟩
    ·have:=ofScalars_den L _ _ hl
     rw [XE,← hfl]
     exact this.symm
    ·unfold rowB at h7
     cases hr:ti.row with
     |words k=>
      rw [hr] at h7
      simp only [Bool.and_eq_true] at h7
      refine ⟨Nat.beq_eq.mp h7.1,fun L=>?_⟩
      rw [XE,likeVs_ok h7.2];rfl
     |rows sh=>
      rw [hr] at h7
      simp only [Bool.and_eq_true] at h7
      refine ⟨Nat.beq_eq.mp h7.1,fun L=>?_⟩
      rw [XE,likeVs_ok h7.2]
     |cells=>trivial
 ·cases h
def allTy (P:Program):List (Nat×TI)→Bool
 |[]=>true
 |(t,ti)::l=>cond (tiB P t ti) (allTy P l) false
theorem allTy_ok:∀ {l:List (Nat×TI)},allTy P l=true→∀ p∈l,TIok P p.1 p.2:=by
 intro l
 induction l with
 |nil=>intro _ p hp;cases hp
 |cons q l ih=>
  intro h p hp
  simp only [allTy] at h
  cases hq:tiB P q.1 q.2 with
  |false=>rw [hq] at h;cases h
  |true=>
   rw [hq] at h
   rcases List.mem_cons.1 hp with rfl|hp
   ·exact tiB_ok hq
   ·exact ih h p hp
def AllF (P:Program):List (Nat×Func)→Prop
 |[]=>True
 |(f,fn)::l=>(P.funcs[f]?=some fn∧∀ args w,(callFunc f args).run P w=.ok (.enter f args) w)∧AllF P l
theorem AllF.mem:∀ {l:List (Nat×Func)},AllF P l→∀ p∈l,P.funcs[p.1]?=some p.2∧∀ args w,(callFunc p.1 args).run P w=.ok (.enter p.1 args) w:=by
 intro l
 induction l with
 |nil=>intro _ p hp;cases hp
 |cons q l ih=>
  intro h p hp
  rcases List.mem_cons.1 hp with rfl|hp
  ·exact h.1
  ·exact ih h.2 p hp
def flatK (P:Program):Nat→List Field→List IntKind→Bool
 |_,[],[]=>true
 |i,f::fs,k::ks=>cond (f.name != "_") (cond (Nat.beq f.offset i) (match P.underlying f.type with
   |some (.int k')=>cond (decide (k=k')) (flatK P (Nat.succ i) fs ks) false
   |_=>false) false) false
 |_,_,_=>false
def seChk (P:Program) (t:TypeId) (ks:List IntKind):Bool:=
 match P.underlying t with
 |some (.struct fs)=>cond (P.stoodInHeld t) false (cond (P.eqGuardType P.depth t) false (flatK P 0 fs.toList ks))
 |_=>false
theorem intVals_get {ks:List IntKind} {ns:List Int} {i:Nat} {k:IntKind} {n:Int} (h1:ks[i]?=some k) (h2:ns[i]?=some n):(intVals ks ns)[i]?=some (Value.int k n):=by
 have h:(ks.zip ns)[i]?=some (k,n):=List.getElem?_zip_eq_some.2 ⟨h1,h2⟩
 simp [intVals,List.getElem?_map,h]
theorem part_int {t:TypeId} {k:IntKind} (h:P.underlying t=some (.int k)) {cs:Array Value} {i:Nat} {v:Value} (hv:cs[i]?=some v) (w:World):(part t cs i).run P w=.ok v w:=by
 simp only [part,Sem.run_bind,run_isAgg' h,Result.andThen_ok,isAggD]
 simp [hv]
theorem eqFields_ints (ks0:List IntKind) (xs0 ys0:List Int) (d:Nat) (w:World):∀ (fs:List Field) (ks:List IntKind) (xs ys:List Int) (i:Nat),flatK P i fs ks=true→ks0.drop i=ks→xs0.drop i=xs→ys0.drop i=ys→xs.length=ks.length→ys.length=ks.length→
  (Op.eqFields (d+1) (intVals ks0 xs0).toArray (intVals ks0 ys0).toArray fs).run P w=.ok (eqL xs ys) w:=by
 intro fs
 induction fs with
 |nil=>
  intro ks xs ys i h hk hx hy h1 h2
  cases ks with
  |cons k ks=>cases h
  |nil=>
   cases xs with
   |cons _ _=>cases h1
   |nil=>
    cases ys with
    |cons _ _=>cases h2
    |nil=>simp [Op.eqFields,eqL]
 |cons f fs ih=>
  intro ks xs ys i h hk hx hy h1 h2
  cases ks with
  |nil=>cases h
  |cons k ks=>
   cases xs with
   |nil=>cases h1
   |cons x xs=>
    cases ys with
    |nil=>cases h2
    |cons y ys=>
     simp only [flatK] at h
     cases hn:(f.name != "_") with
     |false=>rw [hn] at h;cases h
     |true=>
      cases ho:Nat.beq f.offset i with
      |false=>rw [hn,ho] at h;cases h
      |true=>
       rw [hn,ho] at h
       simp only [cond_true] at h
       split at h
       ·rename_i k' hu
        cases hkk:decide (k=k') with
        |false=>rw [hkk] at h;cases h
        |true=>
         rw [hkk] at h
         have hkk':k=k':=of_decide_eq_true hkk
         subst hkk'
         have ho':f.offset=i:=Nat.beq_eq.mp ho
         have gk:ks0[i]?=some k:=by have:=congrArg (fun l=>l[0]?) hk;simpa using this
         have gx:xs0[i]?=some x:=by have:=congrArg (fun l=>l[0]?) hx;simpa using this
         have gy:ys0[i]?=some y:=by have:=congrArg (fun l=>l[0]?) hy;simpa using this
         have hn':f.name≠ "_":=by simpa using hn
         have d1:ks0.drop (i+1)=ks:=by rw [← List.drop_drop,hk];rfl
         have d2:xs0.drop (i+1)=xs:=by rw [← List.drop_drop,hx];rfl
         have d3:ys0.drop (i+1)=ys:=by rw [← List.drop_drop,hy];rfl
         have p1:((intVals ks0 xs0).toArray)[i]?=some (Value.int k x):=by simpa using intVals_get gk gx
         have p2:((intVals ks0 ys0).toArray)[i]?=some (Value.int k y):=by simpa using intVals_get gk gy
         simp only [Op.eqFields,if_pos hn',Sem.run_bind,ho',part_int hu p1,part_int hu p2,Result.andThen_ok,run_equalIn_int w d f.type k k x y hu,eqL]
         cases hxy:(x==y) with
         |false=>simp
         |true=>
          simp only [Bool.not_true,Bool.false_eq_true,if_false,cond_true]
          exact ih ks xs ys (i+1) h d1 d2 d3 (by simpa using h1) (by simpa using h2)
       ·cases h
theorem SEok_of {t:TypeId} {ks:List IntKind} (h:seChk P t ks=true):SEok P t ks:=by
 unfold seChk at h
 split at h
 ·rename_i fs hu
  cases hs:P.stoodInHeld t with
  |true=>rw [hs] at h;cases h
  |false=>
   cases hg:P.eqGuardType P.depth t with
   |true=>rw [hs,hg] at h;cases h
   |false=>
    rw [hs,hg] at h
    simp only [cond_false] at h
    intro xs ys w h1 h2
    have hf:P.fieldsOf t=fs:=by simp [Program.fieldsOf,hu]
    refine ⟨?_,fun op x y=>run_eqGuard_agg w op t x y _ _ hg⟩
    show (Op.equalIn (9999+1) t _ _).run P w=_
    rw [run_equalIn_struct w 9999 t _ _ (by rw [hf];exact hu) hs,hf]
    exact eqFields_ints ks xs ys 9998 w fs.toList ks xs ys 0 h rfl rfl rfl h1 h2
 ·cases h
def imChk (P:Program) (t:TypeId) (n:String) (f:FuncId):Bool:=
 match P.info? t,P.underlying t with
 |some i,some (.pointer _)=>match i.methods.find? (·.name==n) with
  |some m=>match m.path.toList,m.func with
   |[],some (g,true)=>Nat.beq g f
   |_,_=>false
  |none=>false
 |_,_=>false
def imChkV (P:Program) (t:TypeId) (n:String) (f:FuncId):Bool:=
 match P.info? t,P.underlying t with
 |some i,some (.int _)=>match i.methods.find? (·.name==n) with
  |some m=>match m.path.toList,m.func with
   |[],some (g,false)=>Nat.beq g f
   |_,_=>false
  |none=>false
 |_,_=>false
theorem IMok_ofV {P:Program} {t:TypeId} {n:String} {f:FuncId} (h:imChkV P t n f=true):IMok P t n f:=by
 unfold imChkV at h
 split at h
 ·rename_i i e hi hu
  split at h
  ·rename_i m hm
   split at h
   ·rename_i g hp hf
    have hg:=Nat.eq_of_beq_eq_true h
    subst hg
    intro v w
    have hd:P.types.size+Made.depth=(P.types.size+Made.depth - 1)+1:=by
     have:1≤Made.depth:=by decide
     omega
    rw [hd]
    simp [method,typeInfo,hi,hm,hp,hf,follow,receiverAt,run_und hu,Place.get]
   ·cases h
  ·cases h
 ·cases h
def pzChk (P:Program) (t:TypeId):Bool:=
 match P.info? t,P.underlying t with
 |some i,some (.pointer _)=>match i.zero with
  |some (.pointer none)=>true
  |_=>false
 |_,_=>false
def envOf (tt:List (Nat×TI)) (ft:List (Nat×Func)) (sm:FuncId→Option (List V→St→Option (V×St))) (se:TypeId→Option (List IntKind):=fun _=>none) (im:TypeId→String→Option FuncId:=fun _ _=>none) (pz:TypeId→Bool:=fun _=>false):Env:={FT:=fun f=>(putAll ft .nil).get f,TT:=fun t=>(putAll tt .nil).get t,SM:=sm,SE:=se,IM:=im,PZ:=pz}
theorem envOf_ok {tt:List (Nat×TI)} {ft:List (Nat×Func)} {sm:FuncId→Option (List V→St→Option (V×St))} (hm:P.follows .mixedOrders=true) (ht:small tt=true) (hf:small ft=true) (h1:allTy P tt=true) (h2:AllF P ft) {se:TypeId→Option (List IntKind)} (h3:∀ t ks,se t=some ks→SEok P t ks) {im:TypeId→String→Option FuncId} {pz:TypeId→Bool} (h4:∀ t n f,im t n=some f→IMok P t n f:=by intro _ _ _ h;cases h) (h5:∀ t,pz t=true→PZok P t:=by intro _ h;cases h):EnvOK P (envOf tt ft sm se im pz) where
 im:=h4
 pz:=h5
 se:=h3
 mixed:=hm
 ty:=fun t ti h=>by
  rcases putAll_get _ _ _ _ ht h with h|h
  ·exact allTy_ok h1 _ h
  ·cases h
 fn:=fun f fn h=>by
  rcases putAll_get _ _ _ _ hf h with h|h
  ·exact h2.mem _ h
  ·cases h
end
end Go.Sx
