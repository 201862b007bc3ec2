/- A Retire: its steps, its contract, its summary. -/
import Derived.Test.YtpnpmkdijmeddaaGreatScA3
set_option maxRecDepth 100000
namespace Go.Sx
open Go.Proofs
def lvs (t:Tw):List V:=[.int .i64 t.top,.int .i64 t.links,.int .i64 t.size,.int .i64 t.gens,.int .i64 t.worn,.int .i64 t.limit,.int .i64 t.at',.int .i64 t.pins,.int .i64 t.cores,.int .i64 t.tops]
structure ReC where
 made:Bool
 err:Int
 t:Tw
 i:Int
def reM (nx:V) (pu:V) (x:ReC):Ob:=.mem (.cells ([nx,.bool x.made,.int .i64 x.err]++lvs x.t++[.int .i64 x.i,pu])) 218 none
def fLook:Nat:=122
def fPush:Nat:=154
def f1:Nat:=175
def f2:Nat:=184
def f3:Nat:=187
structure PuC where
 top:Int
 links:Int
 size:Int
 w:Int
 i:Int
 j:Int
 made:Bool
 dn:Bool
 err:Int
 f:Nat
def puM (x:PuC):Ob:=.mem (.cells [.int .i64 x.top,.int .i64 x.links,.int .i64 x.size,.int .u64 x.w,.int .i64 x.i,.int .i64 x.j,.bool x.made,.bool x.dn,.int .i64 x.err,.fn x.f [] []]) 265 none
def tagN (w:Int):Int:=IntKind.wrap .i64 ((BitVec.ofInt 64 (IntKind.wrap .i64 (rawB w 281474976710655+1)) &&& BitVec.ofInt 64 281474976710655).toNat:Int)
theorem tagN_lt (w:Int):0≤tagN w∧tagN w<281474976710656:=by
 unfold tagN
 have h:(BitVec.ofInt 64 (IntKind.wrap .i64 (rawB w 281474976710655+1)) &&& BitVec.ofInt 64 281474976710655).toNat≤281474976710655:=by
  rw [BitVec.toNat_and]
  exact Nat.le_trans Nat.and_le_right (by decide)
 rw [XM (by omega) (by omega)]
 omega
def turnT (t:Tw) (w:Int):Int:=IntKind.i64.wrap (t.tops+IntKind.i64.wrap ((IntKind.u64.wrap ((BitVec.ofInt 64 w &&& BitVec.ofInt 64 4294967295).toNat:Int)).tmod 3))
def newP (t:Tw) (i w:Int):PuC:=⟨turnT t w,t.links,t.size,0,i,0,true,false,0,f1⟩
theorem newRetire_call {t:Tw} {i:Int} (h1:0≤i) (h2:i<t.size):YD PR 93 [.agg (lvs t),.int .i64 i] 0 (hO []) (.ptr 0 0 0 0) 1 (hO [some (reM (.fn fLook [.ptr 0 0 0 0] []) .nilp ⟨true,0,t,i⟩)]):=
 XH (l:=[]) (l':=[some (reM (.fn fLook [.ptr 0 0 0 0] []) .nilp ⟨true,0,t,i⟩)]) (n:=400) (f:=93) (args:=[.agg (lvs t),.int .i64 i]) (vc:=.ptr 0 0 0 0) (orc:=bits 7 0b0000000) (πl:=[1]) (nx':=2) (B:=allB [!decide (i≥t.size),!decide (i<0)]) FB_ok SB_ok (by kernel_rfl)
  (by rw [decide_eq_false (by omega),decide_eq_false (by omega)];rfl) rfl (by kernel_rfl) (by kernel_rfl) (by kernel_rfl) (by kernel_rfl)
theorem looks_call {x:ReC} {n:Int} {j:MJ} {ws:List Int} (h:XS x.t.at' n ws) (h1:0≤x.i) (h2:x.i<x.t.size):YD PR 94 [.ptr 0 0 0 0,.ptr 1 0 0 0] 3 (hO [some (reM (.fn fLook [.ptr 0 0 0 0] []) .nilp x),some (memM 2 n j),some (XL ws)]) (.bool false) 4
  (hO [some (reM (.fn fPush [.ptr 0 0 0 0] []) (.ptr 3 0 0 0) x),some (memM 2 n (jLd ws x.t.at' j)),some (XL ws),some (puM (newP x.t x.i (ws.getD x.t.at'.toNat 0)))]):=
 XH (l:=[some (reM (.fn fLook [.ptr 0 0 0 0] []) .nilp x),some (memM 2 n j),some (XL ws)]) (l':=[some (reM (.fn fPush [.ptr 0 0 0 0] []) (.ptr 3 0 0 0) x),some (memM 2 n (jLd ws x.t.at' j)),some (XL ws),some (puM (newP x.t x.i (ws.getD x.t.at'.toNat 0)))]) (n:=400) (f:=94) (args:=[.ptr 0 0 0 0,.ptr 1 0 0 0]) (vc:=.bool false) (orc:=bits 13 0b0000011100000) (πl:=[0,1,2,6]) (nx':=7)
  (B:=allB [!decide (x.i≥x.t.size),!decide (x.i<0),decide (XS x.t.at' n ws)]) FB_ok SB_ok (by kernel_rfl)
  (by rw [decide_eq_false (by omega),decide_eq_false (by omega),decide_eq_true h];rfl) rfl (by kernel_rfl) (by kernel_rfl) (by kernel_rfl) (by kernel_rfl)
def pPre (x:PuC) (n:Int) (ws:List Int):Prop:=x.made=true∧x.dn=false∧x.err=0∧XS x.top n ws∧XS (x.links+x.i) n ws∧0≤x.i∧x.i≤65534∧-1≤x.j∧x.j≤65534∧(x.f=f1∨x.f=f2∨x.f=f3)
instance (x:PuC) (n:Int) (ws:List Int):Decidable (pPre x n ws):=inferInstanceAs (Decidable (_∧_))
structure PO where
 x:PuC
 j:MJ
 ws:List Int
def pstC (x:PuC) (j:MJ) (ws:List Int):PO:=
 if x.f=f1 then ⟨{x with w:=ws.getD x.top.toNat 0,j:=indT x.size (ws.getD x.top.toNat 0),f:=f2},jLd ws x.top j,ws⟩
 else if x.f=f2 then ⟨{x with f:=f3},jSt ws (x.links+x.i) (topW x.j 0) j,ws.set (x.links+x.i).toNat (topW x.j 0)⟩
 else ⟨{x with dn:=decide (ws.getD x.top.toNat 0=x.w),f:=f1},jCas ws x.top x.w (topW x.i (tagN x.w)) j,casW ws x.top.toNat x.w (topW x.i (tagN x.w))⟩
def pOver (x:PuC) (ws:List Int):Prop:=x.f=f3∧ws.getD x.top.toNat 0=x.w
instance (x:PuC) (ws:List Int):Decidable (pOver x ws):=inferInstanceAs (Decidable (_∧_))
def rL (nx:V) (r:ReC) (x:PuC) (n:Int) (j:MJ) (ws:List Int):List (Option Ob):=[some (reM nx (.ptr 1 0 0 0) r),some (puM x),some (memM 3 n j),some (XL ws)]
theorem push_call {r:ReC} {x:PuC} {n:Int} {j:MJ} {ws:List Int} (h:pPre x n ws) (ho:¬ pOver x ws):YD PR 94 fArgs 4 (hO (rL (.fn fPush [.ptr 0 0 0 0] []) r x n j ws)) (.bool false) 4
  (hO (rL (.fn fPush [.ptr 0 0 0 0] []) r (pstC x j ws).x n (pstC x j ws).j (pstC x j ws).ws)):=by
 obtain ⟨top,links,size,w,i,k,made,dn,err,f⟩:=x
 obtain ⟨e1,e2,e3,c1,c2,i1,i2,j1,j2,hf⟩:=h
 simp only at e1 e2 e3 c1 c2 i1 i2 j1 j2 hf
 subst e1;subst e2;subst e3
 rcases hf with rfl|rfl|rfl
 ·by_cases hs:rawA (ws.getD top.toNat 0)≥size
  ·have e:pstC ⟨top,links,size,w,i,k,true,false,0,f1⟩ j ws=⟨⟨top,links,size,ws.getD top.toNat 0,i,-1,true,false,0,f2⟩,jLd ws top j,ws⟩:=by
    unfold pstC;rw [if_pos rfl];unfold indT;rw [if_pos hs]
   rw [e]
   exact XH (l:=rL (.fn fPush [.ptr 0 0 0 0] []) r ⟨top,links,size,w,i,k,true,false,0,f1⟩ n j ws) (l':=rL (.fn fPush [.ptr 0 0 0 0] []) r ⟨top,links,size,ws.getD top.toNat 0,i,-1,true,false,0,f2⟩ n (jLd ws top j) ws) (n:=400) (f:=94) (args:=fArgs) (vc:=.bool false) (orc:=bits 23 0b00000100000000000000110) (πl:=[0,1,2,3]) (nx':=6)
    (B:=allB [decide (rawA (ws.getD top.toNat 0)≥size),decide (XS top n ws)]) FB_ok SB_ok (by kernel_rfl) (by rw [decide_eq_true hs,decide_eq_true c1];rfl) rfl (by kernel_rfl) (by kernel_rfl) (by kernel_rfl) (by kernel_rfl)
  ·have e:pstC ⟨top,links,size,w,i,k,true,false,0,f1⟩ j ws=⟨⟨top,links,size,ws.getD top.toNat 0,i,rawA (ws.getD top.toNat 0),true,false,0,f2⟩,jLd ws top j,ws⟩:=by
    unfold pstC;rw [if_pos rfl];unfold indT;rw [if_neg hs]
   rw [e]
   exact XH (l:=rL (.fn fPush [.ptr 0 0 0 0] []) r ⟨top,links,size,w,i,k,true,false,0,f1⟩ n j ws) (l':=rL (.fn fPush [.ptr 0 0 0 0] []) r ⟨top,links,size,ws.getD top.toNat 0,i,rawA (ws.getD top.toNat 0),true,false,0,f2⟩ n (jLd ws top j) ws) (n:=400) (f:=94) (args:=fArgs) (vc:=.bool false) (orc:=bits 23 0b00000100000000000000100) (πl:=[0,1,2,3]) (nx':=6)
    (B:=allB [!decide (rawA (ws.getD top.toNat 0)≥size),decide (XS top n ws)]) FB_ok SB_ok (by kernel_rfl) (by rw [decide_eq_false hs,decide_eq_true c1];rfl) rfl (by kernel_rfl) (by kernel_rfl) (by kernel_rfl) (by kernel_rfl)
 ·have wl:IntKind.i64.wrap (links+i)=links+i:=XM (by have:=c2.1;omega) (by have:=c2.2.1;have:=c2.2.2.1;omega)
  have e:pstC ⟨top,links,size,w,i,k,true,false,0,f2⟩ j ws=⟨⟨top,links,size,w,i,k,true,false,0,f3⟩,jSt ws (IntKind.i64.wrap (links+i)) (topW k 0) j,ws.set (IntKind.i64.wrap (links+i)).toNat (topW k 0)⟩:=by
   unfold pstC;rw [if_neg (show ¬ f2=f1 by decide),if_pos rfl,wl]
  rw [e]
  exact XH (l:=rL (.fn fPush [.ptr 0 0 0 0] []) r ⟨top,links,size,w,i,k,true,false,0,f2⟩ n j ws) (l':=rL (.fn fPush [.ptr 0 0 0 0] []) r ⟨top,links,size,w,i,k,true,false,0,f3⟩ n (jSt ws (IntKind.i64.wrap (links+i)) (topW k 0) j) (ws.set (IntKind.i64.wrap (links+i)).toNat (topW k 0))) (n:=400) (f:=94) (args:=fArgs) (vc:=.bool false) (orc:=bits 23 0b00000100000000000000110) (πl:=[0,1,2,3]) (nx':=4)
   (B:=allB [decide (XS (IntKind.i64.wrap (links+i)) n ws),decide (-1≤k∧k≤65534∧(0:Int)≤0∧(0:Int)<281474976710656)]) FB_ok SB_ok (by kernel_rfl) (by rw [wl,decide_eq_true c2,decide_eq_true ⟨j1,j2,by decide,by decide⟩];rfl) rfl (by kernel_rfl) (by kernel_rfl) (by kernel_rfl) (by kernel_rfl)
 ·have hne:¬ ws.getD top.toNat 0=w:=fun h=>ho ⟨rfl,h⟩
  have e:pstC ⟨top,links,size,w,i,k,true,false,0,f3⟩ j ws=⟨⟨top,links,size,w,i,k,true,false,0,f1⟩,jCas ws top w (topW i (tagN w)) j,casW ws top.toNat w (topW i (tagN w))⟩:=by
   unfold pstC;rw [if_neg (show ¬ f3=f1 by decide),if_neg (show ¬ f3=f2 by decide)];simp only [decide_eq_false hne]
  rw [e]
  exact XH (l:=rL (.fn fPush [.ptr 0 0 0 0] []) r ⟨top,links,size,w,i,k,true,false,0,f3⟩ n j ws) (l':=rL (.fn fPush [.ptr 0 0 0 0] []) r ⟨top,links,size,w,i,k,true,false,0,f1⟩ n (jCas ws top w (topW i (tagN w)) j) (casW ws top.toNat w (topW i (tagN w)))) (n:=400) (f:=94) (args:=fArgs) (vc:=.bool false) (orc:=bits 24 0b000001000000000000001100) (πl:=[0,1,2,3]) (nx':=5)
   (B:=allB [!decide (ws.getD top.toNat 0=w),decide (XS top n ws),decide (-1≤i∧i≤65534∧0≤tagN w∧tagN w<281474976710656)]) FB_ok SB_ok (by kernel_rfl) (by rw [decide_eq_false hne,decide_eq_true c1,decide_eq_true ⟨by omega,i2,(tagN_lt w).1,(tagN_lt w).2⟩];rfl) rfl (by kernel_rfl) (by kernel_rfl) (by kernel_rfl) (by kernel_rfl)
theorem push_callT {r:ReC} {x:PuC} {n:Int} {j:MJ} {ws:List Int} (h:pPre x n ws) (ho:pOver x ws):YD PR 94 fArgs 4 (hO (rL (.fn fPush [.ptr 0 0 0 0] []) r x n j ws)) (.bool true) 4
  (hO (rL .nilf r (pstC x j ws).x n (pstC x j ws).j (pstC x j ws).ws)):=by
 obtain ⟨top,links,size,w,i,k,made,dn,err,f⟩:=x
 obtain ⟨e1,e2,e3,c1,c2,i1,i2,j1,j2,hf⟩:=h
 obtain ⟨h1,h2⟩:=ho
 simp only at e1 e2 e3 c1 c2 i1 i2 j1 j2 h1 h2
 subst e1;subst e2;subst e3;subst h1
 have e:pstC ⟨top,links,size,w,i,k,true,false,0,f3⟩ j ws=⟨⟨top,links,size,w,i,k,true,true,0,f1⟩,jCas ws top w (topW i (tagN w)) j,casW ws top.toNat w (topW i (tagN w))⟩:=by
  unfold pstC;rw [if_neg (show ¬ f3=f1 by decide),if_neg (show ¬ f3=f2 by decide)];simp only [decide_eq_true h2]
 rw [e]
 exact XH (l:=rL (.fn fPush [.ptr 0 0 0 0] []) r ⟨top,links,size,w,i,k,true,false,0,f3⟩ n j ws) (l':=rL .nilf r ⟨top,links,size,w,i,k,true,true,0,f1⟩ n (jCas ws top w (topW i (tagN w)) j) (casW ws top.toNat w (topW i (tagN w)))) (n:=400) (f:=94) (args:=fArgs) (vc:=.bool true) (orc:=bits 24 0b000001000000000000001111) (πl:=[0,1,2,3]) (nx':=5)
  (B:=allB [decide (ws.getD top.toNat 0=w),decide (XS top n ws),decide (-1≤i∧i≤65534∧0≤tagN w∧tagN w<281474976710656)]) FB_ok SB_ok (by kernel_rfl) (by rw [decide_eq_true h2,decide_eq_true c1,decide_eq_true ⟨by omega,i2,(tagN_lt w).1,(tagN_lt w).2⟩];rfl) rfl (by kernel_rfl) (by kernel_rfl) (by kernel_rfl) (by kernel_rfl)
def ptLv:List Pt:=List.replicate 10 (.i .i64)
def lvT (is:List Int):Tw:=Tw.ofL (0::0::0::is)
def gLv (cs:List V):Option Tw:=(matchC ptLv cs).bind fun (is,_,_)=>some (lvT is)
theorem gLv_ok {cs:List V} {t:Tw} (h:gLv cs=some t):cs=lvs t:=by
 unfold gLv at h
 obtain ⟨⟨is,bs,ns⟩,h1,h⟩:=XA h
 cases h
 exact matchC_ok h1
def smNewRetire (args:List V) (s:St):Option (V×St):=
 match args with
 |[.agg cs,.int .i64 i]=>(gLv cs).bind fun t=>(need (decide (0≤i∧i<t.size)) s).bind fun s1=>(memS [] [some (reM (.fn fLook [.ptr 0 0 0 0] []) .nilp ⟨true,0,t,i⟩)] s1).bind fun s2=>some (.ptr s.nx 0 0 0,s2)
 |_=>none
theorem smNewRetire_sm:SmOK PR 93 smNewRetire:=by
 refine ⟨fun args s v s' h ho=>?_,Tryz.call93⟩
 unfold smNewRetire at h
 split at h
 ·simp only [Option.bind_eq_some_iff] at h
  obtain ⟨t,h0,s1,h2,s2,h3,h4⟩:=h
  have:=gLv_ok h0
  subst this
  cases h4
  obtain ⟨hd,hq⟩:=XI h2 (XN h3 ho)
  obtain ⟨d1,d2⟩:=of_decide_eq_true hd
  exact XO (l:=[]) (ac:=[.agg (lvs t),.int .i64 _]) (newRetire_call d1 d2) rfl (by kernel_rfl) (by kernel_rfl) (by kernel_rfl) hq h3 rfl rfl rfl
 ·cases h
def ptRe0:List Pt:=[.fb,.b,.i .i64]++ptLv++[.i .i64,.np]
def ptRe1:List Pt:=[.fb,.b,.i .i64]++ptLv++[.i .i64,.p]
structure RG where
 x:ReC
 f:Nat
 k:Nat
 p:Nat
def rgOf (is:List Int) (bs:List Bool) (ns:List Nat):RG:=⟨⟨bs.headD false,is.headD 0,lvT is.tail,(tlN 11 is).headD 0⟩,ns.headD 0,ns.tail.headD 0,ns.tail.tail.headD 0⟩
def gRe0 (r:Nat) (H:Tr Ob):Option RG:=(gCells 218 ptRe0 (H.get r)).bind fun (is,bs,ns)=>(chk (Nat.beq (ns.headD 0) fLook)).bind fun _=>(chk (Nat.beq (ns.tail.headD 0) r)).bind fun _=>some (rgOf is bs ns)
theorem gRe0_ok {r:Nat} {H:Tr Ob} {g:RG} (h:gRe0 r H=some g):H.get r=some (reM (.fn fLook [.ptr r 0 0 0] []) .nilp g.x):=by
 unfold gRe0 at h
 obtain ⟨⟨is,bs,ns⟩,h1,h⟩:=XA h
 obtain ⟨_,h2,h⟩:=XA h
 obtain ⟨_,h3,h⟩:=XA h
 cases h
 have e2:=Nat.beq_eq.mp (XC h2)
 have e3:=Nat.beq_eq.mp (XC h3)
 have h4:=gCells_ok h1
 rw [h4]
 show some (Ob.mem (Body.cells (.fn (ns.headD 0) [.ptr (ns.tail.headD 0) 0 0 0] []::_)) _ _)=_
 rw [e2,e3];rfl
def gRe1 (r:Nat) (H:Tr Ob):Option RG:=(gCells 218 ptRe1 (H.get r)).bind fun (is,bs,ns)=>(chk (Nat.beq (ns.headD 0) fPush)).bind fun _=>(chk (Nat.beq (ns.tail.headD 0) r)).bind fun _=>some (rgOf is bs ns)
theorem gRe1_ok {r:Nat} {H:Tr Ob} {g:RG} (h:gRe1 r H=some g):H.get r=some (reM (.fn fPush [.ptr r 0 0 0] []) (.ptr g.p 0 0 0) g.x):=by
 unfold gRe1 at h
 obtain ⟨⟨is,bs,ns⟩,h1,h⟩:=XA h
 obtain ⟨_,h2,h⟩:=XA h
 obtain ⟨_,h3,h⟩:=XA h
 cases h
 have e2:=Nat.beq_eq.mp (XC h2)
 have e3:=Nat.beq_eq.mp (XC h3)
 have h4:=gCells_ok h1
 rw [h4]
 show some (Ob.mem (Body.cells (.fn (ns.headD 0) [.ptr (ns.tail.headD 0) 0 0 0] []::_)) _ _)=_
 rw [e2,e3];rfl
def ptPu:List Pt:=[.i .i64,.i .i64,.i .i64,.i .u64,.i .i64,.i .i64,.b,.b,.i .i64,.g]
def gPu (p:Nat) (H:Tr Ob):Option PuC:=(gCells 265 ptPu (H.get p)).bind fun (is,bs,ns)=>some ⟨is.headD 0,is.tail.headD 0,(tlN 2 is).headD 0,(tlN 3 is).headD 0,(tlN 4 is).headD 0,(tlN 5 is).headD 0,bs.headD false,bs.tail.headD false,(tlN 6 is).headD 0,ns.headD 0⟩
theorem gPu_ok {p:Nat} {H:Tr Ob} {g:PuC} (h:gPu p H=some g):H.get p=some (puM g):=by
 unfold gPu at h
 obtain ⟨⟨is,bs,ns⟩,h1,h⟩:=XA h
 cases h
 exact gCells_ok h1
def smRet0 (r m:Nat) (s:St):Option (V×St):=(gRe0 r s.H).bind fun g=>(gMem m s.H).bind fun q=>(need (decide (XS g.x.t.at' q.n q.ws∧0≤g.x.i∧g.x.i<g.x.t.size)) s).bind fun s1=>
 (memS [r,q.m,q.w] [some (reM (.fn fPush [.ptr 0 0 0 0] []) (.ptr 3 0 0 0) g.x),some (memM 2 q.n (jLd q.ws g.x.t.at' q.j)),some (XL q.ws),some (puM (newP g.x.t g.x.i (q.ws.getD g.x.t.at'.toNat 0)))] s1).bind fun s2=>some (.bool false,s2)
def keepP (x y:PuC):PuC:={y with top:=x.top,links:=x.links,size:=x.size,i:=x.i,made:=x.made,err:=x.err}
def smRet1 (r m:Nat) (s:St):Option (V×St):=(gRe1 r s.H).bind fun g=>(gPu g.p s.H).bind fun x=>(gMem m s.H).bind fun q=>(need (decide (pPre x q.n q.ws)) s).bind fun s1=>
 match dec (decide (pOver x q.ws)) s1 with
 |(true,s2)=>(memS [r,g.p,q.m,q.w] (rL .nilf g.x (pstC x q.j q.ws).x q.n (pstC x q.j q.ws).j (pstC x q.j q.ws).ws) s2).bind fun s3=>some (.bool true,s3)
 |(false,s2)=>(memS [r,g.p,q.m,q.w] (rL (.fn fPush [.ptr 0 0 0 0] []) g.x (keepP x (pstC x q.j q.ws).x) q.n (pstC x q.j q.ws).j (pstC x q.j q.ws).ws) s2).bind fun s3=>some (.bool false,s3)
def smRet (args:List V) (s:St):Option (V×St):=
 match args with
 |[.ptr r a b c,.ptr m a' b' c']=>(chk (isZ a b c)).bind fun _=>(chk (isZ a' b' c')).bind fun _=>match gRe0 r s.H with
  |some _=>smRet0 r m s
  |none=>smRet1 r m s
 |_=>none
theorem keepP_eq (x:PuC) (j:MJ) (ws:List Int):keepP x (pstC x j ws).x=(pstC x j ws).x:=by
 unfold keepP pstC
 split
 ·rfl
 ·split<;>rfl
theorem smRet_sm:SmOK PR 94 smRet:=by
 refine ⟨fun args s v s' h ho=>?_,Tryz.call94⟩
 unfold smRet at h
 split at h
 ·simp only [Option.bind_eq_some_iff] at h
  obtain ⟨_,h0,_,h0',h⟩:=h
  obtain ⟨rfl,rfl,rfl⟩:=isZ_ok (XC h0)
  obtain ⟨rfl,rfl,rfl⟩:=isZ_ok (XC h0')
  split at h
  ·unfold smRet0 at h
   simp only [Option.bind_eq_some_iff] at h
   obtain ⟨g,h1,q,h1',s1,h2,s2,h3,h4⟩:=h
   cases h4
   have g1:=gRe0_ok h1
   obtain ⟨q0,q1,q2⟩:=gMem_ok h1'
   subst q0
   obtain ⟨hd,hq⟩:=XI h2 (XN h3 ho)
   obtain ⟨d1,d2,d3⟩:=of_decide_eq_true hd
   exact XO (l:=[some (reM (.fn fLook [.ptr 0 0 0 0] []) .nilp g.x),some (memM 2 q.n q.j),some (XL q.ws)]) (ac:=[.ptr 0 0 0 0,.ptr 1 0 0 0]) (looks_call d1 d2 d3) rfl (by kernel_rfl) (by kernel_rfl) (by kernel_rfl) hq h3 (by simp only [List.map_cons,List.map_nil,g1,q1,q2];rfl) rfl rfl
  ·unfold smRet1 at h
   simp only [Option.bind_eq_some_iff] at h
   obtain ⟨g,h1,x,h1p,q,h1',s1,h2,h⟩:=h
   have g1:=gRe1_ok h1
   have g2:=gPu_ok h1p
   obtain ⟨q0,q1,q2⟩:=gMem_ok h1'
   subst q0
   split at h
   ·rename_i s2 hdec
    simp only [Option.bind_eq_some_iff] at h
    obtain ⟨s3,h3,h4⟩:=h
    cases h4
    obtain ⟨hb,hqd⟩:=dec_ok hdec (XN h3 ho)
    obtain ⟨hd,hq⟩:=XI h2 hqd.2
    exact XO (l:=rL (.fn fPush [.ptr 0 0 0 0] []) g.x x q.n q.j q.ws) (ac:=fArgs) (push_callT (of_decide_eq_true hd) (of_decide_eq_true hb.symm)) rfl (by kernel_rfl) (by kernel_rfl) (by kernel_rfl) (hq.trans hqd.1) h3 (by simp only [List.map_cons,List.map_nil,g1,g2,q1,q2];rfl) rfl rfl
   ·rename_i s2 hdec
    simp only [Option.bind_eq_some_iff] at h
    obtain ⟨s3,h3,h4⟩:=h
    cases h4
    obtain ⟨hb,hqd⟩:=dec_ok hdec (XN h3 ho)
    obtain ⟨hd,hq⟩:=XI h2 hqd.2
    rw [keepP_eq] at h3
    exact XO (l:=rL (.fn fPush [.ptr 0 0 0 0] []) g.x x q.n q.j q.ws) (ac:=fArgs) (push_call (of_decide_eq_true hd) (of_decide_eq_false hb.symm)) rfl (by kernel_rfl) (by kernel_rfl) (by kernel_rfl) (hq.trans hqd.1) h3 (by simp only [List.map_cons,List.map_nil,g1,g2,q1,q2];rfl) rfl rfl
 ·cases h
noncomputable def smsC:List (Nat×SmF):=[(6,smPick),(83,smLoad),(36,smStore),(46,smCas),(92,smAdd),(84,smGetTop),(86,smMarked),(88,smMarks),(178,smPutTop),(47,smNext),(65,smAt),(90,smFStep),(164,smSuccs),(181,smKnown),(182,smPreds),(50,smNewFind),(93,smNewRetire),(94,smRet)]
theorem smsC_ok:AllSm PR smsC:=⟨smPick_sm,smLoad_sm,smStore_sm,smCas_sm,smAdd_sm,smGetTop_sm,smMarked_sm,smMarks_sm,smPutTop_sm,smNext_sm,smAt_sm,smFStep_sm,smSuccs_sm,smKnown_sm,smPreds_sm,smNewFind_sm,smNewRetire_sm,smRet_sm,trivial⟩
noncomputable def FC:Env:=envOf tabT tabF (smOf smsC) seT imT pzT
theorem FC_ok:EnvOK PR FC:=env_ok _
theorem SC_ok:SumOK PR FC:=sumOK_of rfl smsC_ok
end Go.Sx
namespace Go.Sx
deriving instance DecidableEq for Tw
structure InsC where
 t:Tw
 made:Bool
 inn:Bool
 ref:Int
 key:Int
 i:Int
 high:Int
 ln:Int
 lv:Int
 w:Int
 by':Int
 err:Int
def insM (pl re:V) (x:InsC):Ob:=.mem (.cells (x.t.vs++[.bool x.made,.bool x.inn,.int .u64 x.ref,.int .u64 x.key,.int .i64 x.i,.int .i64 x.high,.int .i64 x.ln,.int .i64 x.lv,.int .u64 x.w,pl,re,.int .u64 x.by',.int .i64 x.err])) 189 none
def tp (rs:List (List Int)) (l:Int):Int:=(colC rs 1).getD l.toNat 0
def tk (rs:List (List Int)) (l:Int):Int:=(colC rs 2).getD l.toNat 0
def tsu (rs:List (List Int)) (l:Int):Int:=(colC rs 3).getD l.toNat 0
structure IO' where
 x:InsC
 f:FdC
 rs:List (List Int)
 j:MJ
 ws:List Int
def seekC (x:InsC) (f:FdC) (rs:List (List Int)) (j:MJ) (ws:List Int) (l l':Int):IO':=
 ⟨{x with by':=(fstC f rs j ws).x.by',ln:=if (fstC f rs j ws).x.ln=9 then l' else l},(fstC f rs j ws).x,(fstC f rs j ws).rs,(fstC f rs j ws).j,(fstC f rs j ws).ws⟩
def hgA (x:InsC) (rs:List (List Int)):Int:=nxA x.t (tp rs x.lv) x.lv
def hgOK (x:InsC) (rs:List (List Int)) (ws:List Int):Prop:=ws.getD (hgA x rs).toNat 0=tsu rs x.lv
instance (x:InsC) (rs:List (List Int)) (ws:List Int):Decidable (hgOK x rs ws):=inferInstanceAs (Decidable (_=_))
def hgJ (x:InsC) (rs:List (List Int)) (j:MJ) (ws:List Int):MJ:=jCas ws (hgA x rs) (tsu rs x.lv) x.ref j
def hgW (x:InsC) (rs:List (List Int)) (ws:List Int):List Int:=casW ws (hgA x rs).toNat (tsu rs x.lv) x.ref
def upL (high l:Int):Int:=if l≥high then 9 else 4
def istC (x:InsC) (f:FdC) (rs:List (List Int)) (j:MJ) (ws:List Int):IO':=
 if x.ln=1 then (if (fstC f rs j ws).x.ln=9 then seekC {x with lv:=0} f rs j ws 1 2 else seekC x f rs j ws 1 2)
 else if x.ln=2 then ⟨{x with by':=x.ref,lv:=if x.lv+1<x.high then x.lv+1 else 0,ln:=if x.lv+1<x.high then 2 else 3},f,rs,jSt ws (nxA x.t x.i x.lv) (tsu rs x.lv) j,ws.set (nxA x.t x.i x.lv).toNat (tsu rs x.lv)⟩
 else if x.ln=3 then ⟨if hgOK x rs ws then {x with by':=tk rs x.lv,inn:=true,lv:=1,ln:=upL x.high 1} else {x with by':=tk rs x.lv,ln:=1},f,rs,hgJ x rs j ws,hgW x rs ws⟩
 else if x.ln=4 then ⟨{x with by':=x.ref,w:=ws.getD (nxA x.t x.i x.lv).toNat 0,ln:=if rawM (ws.getD (nxA x.t x.i x.lv).toNat 0) then 9 else if ws.getD (nxA x.t x.i x.lv).toNat 0=tsu rs x.lv then 6 else 5},f,rs,jLd ws (nxA x.t x.i x.lv) j,ws⟩
 else if x.ln=5 then ⟨{x with by':=x.ref,ln:=if ws.getD (nxA x.t x.i x.lv).toNat 0=x.w then 6 else 9},f,rs,jCas ws (nxA x.t x.i x.lv) x.w (tsu rs x.lv) j,casW ws (nxA x.t x.i x.lv).toNat x.w (tsu rs x.lv)⟩
 else if x.ln=6 then ⟨if hgOK x rs ws then {x with by':=tk rs x.lv,lv:=x.lv+1,ln:=upL x.high (x.lv+1)} else {x with by':=tk rs x.lv,ln:=7},f,rs,hgJ x rs j ws,hgW x rs ws⟩
 else if x.ln=7 then seekC x f rs j ws 7 8
 else if x.ln=8 then ⟨{x with by':=x.ref,ln:=if rawM (ws.getD (nxA x.t x.i 0).toNat 0) then 10 else 4},f,rs,jLd ws (nxA x.t x.i 0) j,ws⟩
 else if x.ln=9 then ⟨{x with by':=x.ref,ln:=if rawM (ws.getD (nxA x.t x.i 0).toNat 0) then 10 else 11},f,rs,jLd ws (nxA x.t x.i 0) j,ws⟩
 else if x.ln=10 then seekC x f rs j ws 10 11
 else ⟨{x with by':=x.ref,ln:=if addW ws (ptA x.t x.i 3).toNat 18446744073709551615=0 then 12 else 0},f,rs,jAdd ws (ptA x.t x.i 3) 18446744073709551615 j,ws.set (ptA x.t x.i 3).toNat (addW ws (ptA x.t x.i 3).toNat 18446744073709551615)⟩
def iNF (x:InsC) (rs:List (List Int)) (ws:List Int):Prop:=((x.ln=3∨x.ln=6)∧¬ hgOK x rs ws)∨((x.ln=8∨x.ln=9)∧rawM (ws.getD (nxA x.t x.i 0).toNat 0)=true)
instance (x:InsC) (rs:List (List Int)) (ws:List Int):Decidable (iNF x rs ws):=inferInstanceAs (Decidable (_∨_))
def iNR (x:InsC) (ws:List Int):Prop:=x.ln=11∧addW ws (ptA x.t x.i 3).toNat 18446744073709551615=0
instance (x:InsC) (ws:List Int):Decidable (iNR x ws):=inferInstanceAs (Decidable (_∧_))
def iPre (x:InsC) (f:FdC) (rs:List (List Int)) (n:Int) (ws:List Int):Prop:=
 f.t=x.t∧f.key=x.key∧f.err=0∧x.t.fit n ws∧0≤x.i∧x.i<x.t.size∧1≤x.high∧x.high≤x.t.height∧
 (((x.ln=1∨x.ln=7∨x.ln=10)∧fPre f rs n ws∧f.ln≠9)∨(x.ln=2∧ended f rs∧0≤x.lv∧x.lv<x.high)∨
  ((x.ln=3∨x.ln=6)∧ended f rs∧0≤x.lv∧x.lv<x.high∧(tp rs x.lv=-1∨(0≤tp rs x.lv∧tp rs x.lv<x.t.size)))∨
  ((x.ln=4∨x.ln=5)∧ended f rs∧0≤x.lv∧x.lv<x.high)∨x.ln=8∨x.ln=9∨x.ln=11)
instance (x:InsC) (f:FdC) (rs:List (List Int)) (n:Int) (ws:List Int):Decidable (iPre x f rs n ws):=inferInstanceAs (Decidable (_∧_))
def iA (f n:Nat) (re:V) (x:InsC) (fd:FdC) (rs:List (List Int)) (sz:Int) (j:MJ) (ws:List Int):List (Option Ob):=[some (insM (.ptr f 0 0 0) re x),some (findM 2 fd),some (toldM rs),some (memM n sz j),some (XL ws)]
end Go.Sx
