/- The data of the interpreter: tries, symbolic values, blocks, what they denote. -/
import Derived.Orders
set_option maxRecDepth 100000
namespace Go.Sx
inductive Tr (α:Type) where
 |nil
 |node (v:Option α) (l r:Tr α)
def Tr.get {α:Type}:Tr α→Nat→Option α
 |.nil,_=>none
 |.node v l r,n=>cond (Nat.beq n 0) v (cond (Nat.beq (Nat.mod n 2) 1) (l.get (Nat.div n 2)) (r.get (Nat.div (Nat.sub n 1) 2)))
def Tr.set {α:Type}:Nat→Tr α→Nat→Option α→Tr α
 |0,t,_,_=>t
 |f+1,.nil,n,x=>cond (Nat.beq n 0) (.node x .nil .nil) (cond (Nat.beq (Nat.mod n 2) 1) (.node none (Tr.set f .nil (Nat.div n 2) x) .nil) (.node none .nil (Tr.set f .nil (Nat.div (Nat.sub n 1) 2) x)))
 |f+1,.node v l r,n,x=>cond (Nat.beq n 0) (.node x l r) (cond (Nat.beq (Nat.mod n 2) 1) (.node v (Tr.set f l (Nat.div n 2) x) r) (.node v l (Tr.set f r (Nat.div (Nat.sub n 1) 2) x)))
theorem XG {a b:Nat} (h:¬ a=b):Nat.beq a b=false:=by
 cases hb:Nat.beq a b with
 |false=>rfl
 |true=>exact absurd (Nat.beq_eq.mp hb) h
theorem Tr.get_set_nil {α:Type}:∀ (f:Nat) (n m:Nat) (x:Option α),n+1<2 ^ f→(Tr.set f .nil n x).get m=if m=n then x else none:=by
 intro f
 induction f with
 |zero=>intro n m x h;simp at h
 |succ f ih=>
  intro n m x h
  rw [Nat.pow_succ] at h
  simp only [Tr.set]
  by_cases h0:n=0
  ·subst h0
   simp only [Nat.beq_refl,cond_true,Tr.get]
   by_cases hm:m=0
   ·subst hm;simp
   ·have e:Nat.beq m 0=false:=XG hm
    simp [e,hm]
  ·have e:Nat.beq n 0=false:=XG h0
   simp only [e,cond_false]
   by_cases ho:n % 2=1
   ·have e1:Nat.beq (Nat.mod n 2) 1=true:=by rw [Nat.beq_eq];exact ho
    simp only [e1,cond_true,Tr.get]
    by_cases hm:m=0
    ·subst hm;simp;intro h;omega
    ·have e2:Nat.beq m 0=false:=XG hm
     simp only [e2,cond_false]
     by_cases hmo:m % 2=1
     ·have e3:Nat.beq (Nat.mod m 2) 1=true:=by rw [Nat.beq_eq];exact hmo
      simp only [e3,cond_true]
      show (Tr.set f .nil (n / 2) x).get (m / 2)=_
      rw [ih _ _ _ (by omega)]
      by_cases hh:m=n
      ·subst hh;simp
      ·rw [if_neg hh,if_neg (by omega)]
     ·have e3:Nat.beq (Nat.mod m 2) 1=false:=by
       cases hb:Nat.beq (Nat.mod m 2) 1 with
       |false=>rfl
       |true=>exact absurd (Nat.beq_eq.mp hb) hmo
      simp only [e3,cond_false]
      rw [if_neg (by intro hh;subst hh;omega)]
   ·have e1:Nat.beq (Nat.mod n 2) 1=false:=by
     cases hb:Nat.beq (Nat.mod n 2) 1 with
     |false=>rfl
     |true=>exact absurd (Nat.beq_eq.mp hb) ho
    simp only [e1,cond_false,Tr.get]
    by_cases hm:m=0
    ·subst hm;simp;intro h;omega
    ·have e2:Nat.beq m 0=false:=XG hm
     simp only [e2,cond_false]
     by_cases hmo:m % 2=1
     ·have e3:Nat.beq (Nat.mod m 2) 1=true:=by rw [Nat.beq_eq];exact hmo
      simp only [e3,cond_true]
      rw [if_neg (by intro hh;subst hh;omega)]
     ·have e3:Nat.beq (Nat.mod m 2) 1=false:=by
       cases hb:Nat.beq (Nat.mod m 2) 1 with
       |false=>rfl
       |true=>exact absurd (Nat.beq_eq.mp hb) hmo
      simp only [e3,cond_false]
      show (Tr.set f .nil ((n - 1) / 2) x).get ((m - 1) / 2)=_
      rw [ih _ _ _ (by omega)]
      by_cases hh:m=n
      ·subst hh;simp
      ·rw [if_neg hh,if_neg (by omega)]
theorem Tr.get_set {α:Type}:∀ (f:Nat) (t:Tr α) (n m:Nat) (x:Option α),n+1<2 ^ f→(Tr.set f t n x).get m=if m=n then x else t.get m:=by
 intro f
 induction f with
 |zero=>intro t n m x h;simp at h
 |succ f ih=>
  intro t n m x h
  cases t with
  |nil=>rw [Tr.get_set_nil _ _ _ _ h];simp [Tr.get]
  |node v l r=>
   rw [Nat.pow_succ] at h
   simp only [Tr.set]
   by_cases h0:n=0
   ·subst h0
    simp only [Nat.beq_refl,cond_true,Tr.get]
    by_cases hm:m=0
    ·subst hm;simp
    ·simp [XG hm,hm]
   ·simp only [XG h0,cond_false]
    by_cases ho:n % 2=1
    ·have e1:Nat.beq (Nat.mod n 2) 1=true:=by rw [Nat.beq_eq];exact ho
     simp only [e1,cond_true,Tr.get]
     by_cases hm:m=0
     ·subst hm;simp;intro h;omega
     ·simp only [XG hm,cond_false]
      by_cases hmo:m % 2=1
      ·have e3:Nat.beq (Nat.mod m 2) 1=true:=by rw [Nat.beq_eq];exact hmo
       simp only [e3,cond_true]
       show (Tr.set f l (n / 2) x).get (m / 2)=_
       rw [ih _ _ _ _ (by omega)]
       by_cases hh:m=n
       ·subst hh;simp
       ·rw [if_neg hh,if_neg (by omega)];rfl
      ·have e3:Nat.beq (Nat.mod m 2) 1=false:=XG hmo
       simp only [e3,cond_false]
       rw [if_neg (by intro hh;subst hh;omega)]
    ·have e1:Nat.beq (Nat.mod n 2) 1=false:=XG ho
     simp only [e1,cond_false,Tr.get]
     by_cases hm:m=0
     ·subst hm;simp;intro h;omega
     ·simp only [XG hm,cond_false]
      by_cases hmo:m % 2=1
      ·have e3:Nat.beq (Nat.mod m 2) 1=true:=by rw [Nat.beq_eq];exact hmo
       simp only [e3,cond_true]
       rw [if_neg (by intro hh;subst hh;omega)]
      ·have e3:Nat.beq (Nat.mod m 2) 1=false:=XG hmo
       simp only [e3,cond_false]
       show (Tr.set f r ((n - 1) / 2) x).get ((m - 1) / 2)=_
       rw [ih _ _ _ _ (by omega)]
       by_cases hh:m=n
       ·subst hh;simp
       ·rw [if_neg hh,if_neg (by omega)];rfl
def Tr.put {α:Type} (t:Tr α) (n:Nat) (x:Option α):Tr α:=Tr.set 40 t n x
def big:Nat:=1099511627775
theorem Tr.get_put {α:Type} (t:Tr α) (n m:Nat) (x:Option α) (h:n<big):(t.put n x).get m=if m=n then x else t.get m:=
 Tr.get_set 40 t n m x (by unfold big at h;omega)
def Tr.ofListFrom {α:Type}:Nat→List α→Tr α→Tr α
 |_,[],t=>t
 |n,x::xs,t=>Tr.ofListFrom (Nat.succ n) xs (t.put n (some x))
def Tr.ofList {α:Type} (l:List α):Tr α:=Tr.ofListFrom 0 l .nil
theorem Tr.get_ofListFrom {α:Type}:∀ (l:List α) (n:Nat) (t:Tr α) (m:Nat),n+l.length<big→
  (Tr.ofListFrom n l t).get m=if m<n then t.get m else (l[m - n]?).or (if n+l.length≤m then t.get m else none):=by
 intro l
 induction l with
 |nil=>
  intro n t m h
  simp only [Tr.ofListFrom,List.length_nil,Nat.add_zero,List.getElem?_nil,Option.none_or]
  by_cases h1:m<n
  ·rw [if_pos h1]
  ·rw [if_neg h1,if_pos (by omega)]
 |cons x xs ih=>
  intro n t m h
  simp only [List.length_cons] at h
  simp only [Tr.ofListFrom]
  rw [ih _ _ _ (by simp only [Nat.succ_eq_add_one];omega)]
  rw [Tr.get_put _ _ _ _ (by omega)]
  simp only [Nat.succ_eq_add_one]
  by_cases h1:m<n
  ·rw [if_pos (by omega),if_neg (by omega),if_pos h1]
  ·rw [if_neg h1]
   by_cases h2:m=n
   ·subst h2;simp
   ·rw [if_neg (by omega),if_neg h2]
    have e:m - n=(m - (n+1))+1:=by omega
    rw [e,List.getElem?_cons_succ]
    simp only [List.length_cons]
    congr 1
    by_cases h3:n+1+xs.length≤m
    ·rw [if_pos h3,if_pos (by omega)]
    ·rw [if_neg h3,if_neg (by omega)]
theorem Tr.get_ofList {α:Type} (l:List α) (m:Nat) (h:l.length<big):(Tr.ofList l).get m=l[m]?:=by
 unfold Tr.ofList
 rw [Tr.get_ofListFrom _ _ _ _ (by omega)]
 simp [Tr.get]
inductive V where
 |int (k:IntKind) (n:Int)
 |bool (b:Bool)
 |nilp
 |ptr (n idx size off:Nat)
 |slice (n start es len cap:Nat)
 |nils
 |osl (n es:Nat)
 |osv (n es base start len:Nat)
 |fn (f:FuncId) (first caps:List V)
 |yld (l:Nat)
 |nilf
 |iface (t:TypeId) (v:V)
 |nili
 |agg (cs:List V)
 |tup (vs:List V)
 |str (s:ByteArray)
 |nilm
structure LI where
 blk:Option Nat
 off:Nat
 len:Nat
 cap:Nat
abbrev LM:=Nat→LI
mutual
def V.den (L:LM):V→Value
 |.int k n=>.int k n
 |.bool b=>.bool b
 |.nilp=>.pointer none
 |.ptr n idx size off=>.pointer (some ⟨(L n).blk.getD 0,(L n).off+(idx*size+off),none⟩)
 |.slice n start es len cap=>.slice (some ⟨(L n).blk.getD 0,(L n).off+start*es,none⟩) len cap
 |.nils=>.slice none 0 0
 |.osl n _=>match (L n).blk with
  |none=>.slice none 0 0
  |some b=>.slice (some ⟨b,0,none⟩) (L n).len (L n).cap
 |.osv n es base start len=>match (L n).blk with
  |none=>.slice none len ((L n).cap - start)
  |some b=>.slice (some ⟨b,if (L n).cap=start then base*es else start*es,none⟩) len ((L n).cap - start)
 |.fn f first caps=>.func (.func f) (V.denL L first).toArray (V.denL L caps).toArray
 |.yld l=>.func (.yield ((L l).blk.getD 0)) #[] #[]
 |.nilf=>.nilFunc
 |.iface t v=>.iface t (v.den L)
 |.nili=>.nilIface
 |.agg cs=>.agg (V.denL L cs).toArray
 |.tup vs=>.tuple (V.denL L vs).toArray
 |.str s=>.string s
 |.nilm=>.map none
def V.denL (L:LM):List V→List Value
 |[]=>[]
 |v::vs=>v.den L::V.denL L vs
end
theorem denL_eq (L:LM) (l:List V):V.denL L l=l.map (V.den L):=by
 induction l with
 |nil=>rfl
 |cons v vs ih=>simp [V.denL,ih]
abbrev XJ:V:=.tup []
def V.cells:V→List V
 |.agg cs=>cs
 |v=>[v]
def V.single:V→Bool
 |.agg _=>false
 |.tup _=>false
 |_=>true
inductive Sh where
 |int (k:IntKind)
 |bool
def Sh.mk:Sh→Int→V
 |.int k,n=>.int k n
 |.bool,n=>.bool (decide (n≠0))
def Sh.of:Sh→V→Option Int
 |.int k,.int k' n=>if k=k' then some n else none
 |.bool,.bool b=>some (cond b 1 0)
 |_,_=>none
inductive Body where
 |cells (cs:List V)
 |words (k:IntKind) (ws:List Int)
 |rows (sh:List Sh) (rs:List (List Int))
def shRow:List Sh→List Int→List V
 |[],_=>[]
 |s::ss,[]=>s.mk 0::shRow ss []
 |s::ss,n::ns=>s.mk n::shRow ss ns
def Body.flat:Body→List V
 |.cells cs=>cs
 |.words k ws=>ws.map (V.int k)
 |.rows sh rs=>rs.flatMap (shRow sh)
inductive Dfr where
 |collected (l:Nat)
 |call (f:FuncId) (args caps:List V)
inductive Ob where
 |mem (b:Body) (t:TypeId) (op:Option Nat)
 |ro (k:IntKind) (ws:List Int)
 |loop (st:LoopState) (pend:Option Code) (fn:FuncId) (tmps:Tr V) (nt:Nat) (params:List Tmp) (assign body:Code) (dl:Nat)
 |deferred (ds:Option (List Dfr))
structure St where
 H:Tr Ob
 nx:Nat
 orc:List (Nat×Bool)
 obl:List Bool
 wr:List Nat
end Go.Sx
