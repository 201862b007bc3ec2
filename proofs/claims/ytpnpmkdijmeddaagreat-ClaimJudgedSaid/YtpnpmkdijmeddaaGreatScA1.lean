/- A memory's accesses, words, and a tower's cells: contracts and summaries. -/
import Derived.Test.YtpnpmkdijmeddaaGreatSxVc
set_option maxRecDepth 100000
namespace Go.Sx
open Go.Proofs
def jLd (ws:List Int) (at':Int) (j:MJ):MJ:=⟨1,at',ws.getD at'.toNat 0,ws.getD at'.toNat 0,false,IntKind.i64.wrap (j.g+1)⟩
def jSt (ws:List Int) (at' v:Int) (j:MJ):MJ:=⟨2,at',ws.getD at'.toNat 0,v,true,IntKind.i64.wrap (j.g+1)⟩
def casW (ws:List Int) (k:Nat) (a b:Int):List Int:=if ws.getD k 0=a then ws.set k b else ws
def jCas (ws:List Int) (at' a b:Int) (j:MJ):MJ:=⟨3,at',ws.getD at'.toNat 0,if ws.getD at'.toNat 0=a then b else ws.getD at'.toNat 0,decide (ws.getD at'.toNat 0=a),IntKind.i64.wrap (j.g+1)⟩
def addW (ws:List Int) (k:Nat) (v:Int):Int:=IntKind.u64.wrap (ws.getD k 0+v)
def jAdd (ws:List Int) (at' v:Int) (j:MJ):MJ:=⟨4,at',ws.getD at'.toNat 0,addW ws at'.toNat v,true,IntKind.i64.wrap (j.g+1)⟩
def XS (at' n:Int) (ws:List Int):Prop:=0≤at'∧at'<n∧n≤4096∧ws.length=4096
instance (at' n:Int) (ws:List Int):Decidable (XS at' n ws):=inferInstanceAs (Decidable (_∧_))
theorem load_call {at' n:Int} {j:MJ} {ws:List Int} (h:XS at' n ws):YD PR 83 [.ptr 0 0 0 0,.int .i64 at'] 2 (hO [some (memM 1 n j),some (XL ws)]) (.int .u64 (ws.getD at'.toNat 0)) 2 (hO [some (memM 1 n (jLd ws at' j)),some (XL ws)]):=by
 obtain ⟨h1,h2,h3,h4⟩:=h
 have hlt:at'.toNat<ws.length:=by omega
 have e:XL ws=XL (ws.set at'.toNat (ws.getD at'.toNat 0)):=by rw [set_self hlt]
 have:=XH (l:=[some (memM 1 n j),some (XL ws)]) (l':=[some (memM 1 n (jLd ws at' j)),some (XL (ws.set at'.toNat (ws.getD at'.toNat 0)))]) (n:=400) (f:=83) (args:=[.ptr 0 0 0 0,.int .i64 at']) (vc:=.int .u64 (ws.getD at'.toNat 0)) (orc:=bits 25 0b0000000000000010000001111) (πl:=[0,1]) (nx':=5)
  (B:=allB [decide (at'.toNat<ws.length),decide (at'.toNat<ws.length),decide (at'.toNat<ws.length),decide (0≤at'∧at'<4096),!decide (at'≥n),!decide (at'<0)]) F0_ok S0_ok (by kernel_rfl)
  (by
   simp only [XD,List.forall_mem_cons,Bool.not_eq_true',decide_eq_false_iff_not,decide_eq_true_eq]
   exact ⟨hlt,hlt,hlt,by omega,by omega,by omega,fun _ hb=>by cases hb⟩) rfl (by kernel_rfl) (by kernel_rfl) (by kernel_rfl) (by kernel_rfl)
 rw [← e] at this
 exact this
theorem store_call {at' n v:Int} {j:MJ} {ws:List Int} (h:XS at' n ws):YD PR 36 [.ptr 0 0 0 0,.int .i64 at',.int .u64 v] 2 (hO [some (memM 1 n j),some (XL ws)]) XJ 2 (hO [some (memM 1 n (jSt ws at' v j)),some (XL (ws.set at'.toNat v))]):=by
 obtain ⟨h1,h2,h3,h4⟩:=h
 have hlt:at'.toNat<ws.length:=by omega
 exact XH (l:=[some (memM 1 n j),some (XL ws)]) (l':=[some (memM 1 n (jSt ws at' v j)),some (XL (ws.set at'.toNat v))]) (n:=400) (f:=36) (args:=[.ptr 0 0 0 0,.int .i64 at',.int .u64 v]) (vc:=XJ) (orc:=bits 24 0b000000000000001000000111) (πl:=[0,1]) (nx':=5)
  (B:=allB [decide (at'.toNat<ws.length),decide (at'.toNat<ws.length),decide (0≤at'∧at'<4096),!decide (at'≥n),!decide (at'<0)]) F0_ok S0_ok (by kernel_rfl)
  (by
   simp only [XD,List.forall_mem_cons,Bool.not_eq_true',decide_eq_false_iff_not,decide_eq_true_eq]
   exact ⟨hlt,hlt,by omega,by omega,by omega,fun _ hb=>by cases hb⟩) rfl (by kernel_rfl) (by kernel_rfl) (by kernel_rfl) (by kernel_rfl)
theorem cas_call {at' n x y:Int} {j:MJ} {ws:List Int} (h:XS at' n ws):YD PR 46 [.ptr 0 0 0 0,.int .i64 at',.int .u64 x,.int .u64 y] 2 (hO [some (memM 1 n j),some (XL ws)]) (.bool (decide (ws.getD at'.toNat 0=x))) 2 (hO [some (memM 1 n (jCas ws at' x y j)),some (XL (casW ws at'.toNat x y))]):=by
 obtain ⟨h1,h2,h3,h4⟩:=h
 have hlt:at'.toNat<ws.length:=by omega
 by_cases hx:ws.getD at'.toNat 0=x
 ·have e1:jCas ws at' x y j=⟨3,at',ws.getD at'.toNat 0,y,true,IntKind.i64.wrap (j.g+1)⟩:=by unfold jCas;rw [if_pos hx,decide_eq_true hx]
  have e2:casW ws at'.toNat x y=ws.set at'.toNat y:=by unfold casW;rw [if_pos hx]
  rw [e1,e2,decide_eq_true hx]
  exact XH (l:=[some (memM 1 n j),some (XL ws)]) (l':=[some (memM 1 n ⟨3,at',ws.getD at'.toNat 0,y,true,IntKind.i64.wrap (j.g+1)⟩),some (XL (ws.set at'.toNat y))]) (n:=400) (f:=46) (args:=[.ptr 0 0 0 0,.int .i64 at',.int .u64 x,.int .u64 y]) (vc:=.bool true) (orc:=bits 26 0b00000000000000100000011011) (πl:=[0,1]) (nx':=5)
   (B:=allB [decide (at'.toNat<ws.length),decide (at'.toNat<ws.length),!(ws.getD at'.toNat 0 != x),decide (at'.toNat<ws.length),decide (0≤at'∧at'<4096),!decide (at'≥n),!decide (at'<0)]) F0_ok S0_ok (by kernel_rfl)
   (by
    simp only [XD,List.forall_mem_cons,Bool.not_eq_true',decide_eq_false_iff_not,decide_eq_true_eq,bne_eq_false_iff_eq]
    exact ⟨hlt,hlt,hx,hlt,by omega,by omega,by omega,fun _ hb=>by cases hb⟩) rfl (by kernel_rfl) (by kernel_rfl) (by kernel_rfl) (by kernel_rfl)
 ·have e1:jCas ws at' x y j=⟨3,at',ws.getD at'.toNat 0,ws.getD at'.toNat 0,false,IntKind.i64.wrap (j.g+1)⟩:=by unfold jCas;rw [if_neg hx,decide_eq_false hx]
  have e2:casW ws at'.toNat x y=ws.set at'.toNat (ws.getD at'.toNat 0):=by unfold casW;rw [if_neg hx,set_self hlt]
  rw [e1,e2,decide_eq_false hx]
  exact XH (l:=[some (memM 1 n j),some (XL ws)]) (l':=[some (memM 1 n ⟨3,at',ws.getD at'.toNat 0,ws.getD at'.toNat 0,false,IntKind.i64.wrap (j.g+1)⟩),some (XL (ws.set at'.toNat (ws.getD at'.toNat 0)))]) (n:=400) (f:=46) (args:=[.ptr 0 0 0 0,.int .i64 at',.int .u64 x,.int .u64 y]) (vc:=.bool false) (orc:=bits 27 0b000000000000001000000111111) (πl:=[0,1]) (nx':=5)
   (B:=allB [decide (at'.toNat<ws.length),decide (at'.toNat<ws.length),decide (at'.toNat<ws.length),(ws.getD at'.toNat 0 != x),decide (at'.toNat<ws.length),decide (0≤at'∧at'<4096),!decide (at'≥n),!decide (at'<0)]) F0_ok S0_ok (by kernel_rfl)
   (by
    simp only [XD,List.forall_mem_cons,Bool.not_eq_true',decide_eq_false_iff_not,decide_eq_true_eq,bne_iff_ne,ne_eq]
    exact ⟨hlt,hlt,hlt,hx,hlt,by omega,by omega,by omega,fun _ hb=>by cases hb⟩) rfl (by kernel_rfl) (by kernel_rfl) (by kernel_rfl) (by kernel_rfl)
theorem add_call {at' n v:Int} {j:MJ} {ws:List Int} (h:XS at' n ws):YD PR 92 [.ptr 0 0 0 0,.int .i64 at',.int .u64 v] 2 (hO [some (memM 1 n j),some (XL ws)]) (.int .u64 (addW ws at'.toNat v)) 2 (hO [some (memM 1 n (jAdd ws at' v j)),some (XL (ws.set at'.toNat (addW ws at'.toNat v)))]):=by
 obtain ⟨h1,h2,h3,h4⟩:=h
 have hlt:at'.toNat<ws.length:=by omega
 exact XH (l:=[some (memM 1 n j),some (XL ws)]) (l':=[some (memM 1 n (jAdd ws at' v j)),some (XL (ws.set at'.toNat (addW ws at'.toNat v)))]) (n:=400) (f:=92) (args:=[.ptr 0 0 0 0,.int .i64 at',.int .u64 v]) (vc:=.int .u64 (addW ws at'.toNat v)) (orc:=bits 25 0b0000000000000010000001111) (πl:=[0,1]) (nx':=5)
  (B:=allB [decide (at'.toNat<ws.length),decide (at'.toNat<ws.length),decide (at'.toNat<ws.length),decide (0≤at'∧at'<4096),!decide (at'≥n),!decide (at'<0)]) F0_ok S0_ok (by kernel_rfl)
  (by
   simp only [XD,List.forall_mem_cons,Bool.not_eq_true',decide_eq_false_iff_not,decide_eq_true_eq]
   exact ⟨hlt,hlt,hlt,by omega,by omega,by omega,fun _ hb=>by cases hb⟩) rfl (by kernel_rfl) (by kernel_rfl) (by kernel_rfl) (by kernel_rfl)
def ptMem:List Pt:=[.p,.i .i64,.i .i64,.i .i64,.i .u64,.i .u64,.b,.i .i64]
structure MG where
 m:Nat
 w:Nat
 n:Int
 j:MJ
 ws:List Int
def gMem (m:Nat) (H:Tr Ob):Option MG:=
 (gCells 123 ptMem (H.get m)).bind fun (is,bs,ns)=>(gWords .u64 119 none (H.get (ns.headD 0))).bind fun ws=>
  some ⟨m,ns.headD 0,is.headD 0,⟨is.tail.headD 0,is.tail.tail.headD 0,is.tail.tail.tail.headD 0,is.tail.tail.tail.tail.headD 0,bs.headD false,is.tail.tail.tail.tail.tail.headD 0⟩,ws⟩
theorem gMem_ok {m:Nat} {H:Tr Ob} {g:MG} (h:gMem m H=some g):g.m=m∧H.get m=some (memM g.w g.n g.j)∧H.get g.w=some (XL g.ws):=by
 unfold gMem at h
 obtain ⟨⟨is,bs,ns⟩,h1,h⟩:=XA h
 obtain ⟨ws,h2,h⟩:=XA h
 cases h
 exact ⟨rfl,gCells_ok h1,gWords_ok h2⟩
def smLoad (args:List V) (s:St):Option (V×St):=
 match args with
 |[.ptr m a b c,.int .i64 at']=>(chk (isZ a b c)).bind fun _=>(gMem m s.H).bind fun g=>(need (decide (XS at' g.n g.ws)) s).bind fun s1=>
   (memS [g.m,g.w] [some (memM 1 g.n (jLd g.ws at' g.j)),some (XL g.ws)] s1).bind fun s2=>some (.int .u64 (g.ws.getD at'.toNat 0),s2)
 |_=>none
theorem smLoad_sm:SmOK PR 83 smLoad:=by
 refine ⟨fun args s v s' h ho=>?_,Tryz.call83⟩
 unfold smLoad at h
 split at h
 ·simp only [Option.bind_eq_some_iff] at h
  obtain ⟨_,h0,g,h1,s1,h2,s2,h3,h4⟩:=h
  obtain ⟨rfl,rfl,rfl⟩:=isZ_ok (XC h0)
  cases h4
  obtain ⟨g0,g1,g2⟩:=gMem_ok h1
  subst g0
  have ho1:=XN h3 ho
  obtain ⟨hd,hq⟩:=XI h2 ho1
  exact XO (l:=[some (memM 1 g.n g.j),some (XL g.ws)]) (ac:=[.ptr 0 0 0 0,.int .i64 _]) (load_call (of_decide_eq_true hd)) rfl (by kernel_rfl) (by kernel_rfl) (by kernel_rfl) hq h3 (by rw [List.map_cons,List.map_cons,g1,g2];rfl) rfl rfl
 ·cases h
def smStore (args:List V) (s:St):Option (V×St):=
 match args with
 |[.ptr m a b c,.int .i64 at',.int .u64 v]=>(chk (isZ a b c)).bind fun _=>(gMem m s.H).bind fun g=>(need (decide (XS at' g.n g.ws)) s).bind fun s1=>
   (memS [g.m,g.w] [some (memM 1 g.n (jSt g.ws at' v g.j)),some (XL (g.ws.set at'.toNat v))] s1).bind fun s2=>some (XJ,s2)
 |_=>none
theorem smStore_sm:SmOK PR 36 smStore:=by
 refine ⟨fun args s v s' h ho=>?_,Tryz.call36⟩
 unfold smStore at h
 split at h
 ·simp only [Option.bind_eq_some_iff] at h
  obtain ⟨_,h0,g,h1,s1,h2,s2,h3,h4⟩:=h
  obtain ⟨rfl,rfl,rfl⟩:=isZ_ok (XC h0)
  cases h4
  obtain ⟨g0,g1,g2⟩:=gMem_ok h1
  subst g0
  have ho1:=XN h3 ho
  obtain ⟨hd,hq⟩:=XI h2 ho1
  exact XO (l:=[some (memM 1 g.n g.j),some (XL g.ws)]) (ac:=[.ptr 0 0 0 0,.int .i64 _,.int .u64 _]) (store_call (of_decide_eq_true hd)) rfl (by kernel_rfl) (by kernel_rfl) (by kernel_rfl) hq h3 (by rw [List.map_cons,List.map_cons,g1,g2];rfl) rfl rfl
 ·cases h
def smCas (args:List V) (s:St):Option (V×St):=
 match args with
 |[.ptr m a b c,.int .i64 at',.int .u64 x,.int .u64 y]=>(chk (isZ a b c)).bind fun _=>(gMem m s.H).bind fun g=>(need (decide (XS at' g.n g.ws)) s).bind fun s1=>
   (memS [g.m,g.w] [some (memM 1 g.n (jCas g.ws at' x y g.j)),some (XL (casW g.ws at'.toNat x y))] s1).bind fun s2=>some ((.bool (decide (g.ws.getD at'.toNat 0=x))),s2)
 |_=>none
theorem smCas_sm:SmOK PR 46 smCas:=by
 refine ⟨fun args s v s' h ho=>?_,Tryz.call46⟩
 unfold smCas at h
 split at h
 ·simp only [Option.bind_eq_some_iff] at h
  obtain ⟨_,h0,g,h1,s1,h2,s2,h3,h4⟩:=h
  obtain ⟨rfl,rfl,rfl⟩:=isZ_ok (XC h0)
  cases h4
  obtain ⟨g0,g1,g2⟩:=gMem_ok h1
  subst g0
  have ho1:=XN h3 ho
  obtain ⟨hd,hq⟩:=XI h2 ho1
  exact XO (l:=[some (memM 1 g.n g.j),some (XL g.ws)]) (ac:=[.ptr 0 0 0 0,.int .i64 _,.int .u64 _,.int .u64 _]) (cas_call (of_decide_eq_true hd)) rfl (by kernel_rfl) (by kernel_rfl) (by kernel_rfl) hq h3 (by rw [List.map_cons,List.map_cons,g1,g2];rfl) rfl rfl
 ·cases h
def smAdd (args:List V) (s:St):Option (V×St):=
 match args with
 |[.ptr m a b c,.int .i64 at',.int .u64 v]=>(chk (isZ a b c)).bind fun _=>(gMem m s.H).bind fun g=>(need (decide (XS at' g.n g.ws)) s).bind fun s1=>
   (memS [g.m,g.w] [some (memM 1 g.n (jAdd g.ws at' v g.j)),some (XL (g.ws.set at'.toNat (addW g.ws at'.toNat v)))] s1).bind fun s2=>some ((.int .u64 (addW g.ws at'.toNat v)),s2)
 |_=>none
theorem smAdd_sm:SmOK PR 92 smAdd:=by
 refine ⟨fun args s v s' h ho=>?_,Tryz.call92⟩
 unfold smAdd at h
 split at h
 ·simp only [Option.bind_eq_some_iff] at h
  obtain ⟨_,h0,g,h1,s1,h2,s2,h3,h4⟩:=h
  obtain ⟨rfl,rfl,rfl⟩:=isZ_ok (XC h0)
  cases h4
  obtain ⟨g0,g1,g2⟩:=gMem_ok h1
  subst g0
  have ho1:=XN h3 ho
  obtain ⟨hd,hq⟩:=XI h2 ho1
  exact XO (l:=[some (memM 1 g.n g.j),some (XL g.ws)]) (ac:=[.ptr 0 0 0 0,.int .i64 _,.int .u64 _]) (add_call (of_decide_eq_true hd)) rfl (by kernel_rfl) (by kernel_rfl) (by kernel_rfl) hq h3 (by rw [List.map_cons,List.map_cons,g1,g2];rfl) rfl rfl
 ·cases h
def rawM (w:Int):Bool:=Int.fdiv w 9223372036854775808==1
def rawOn (w:Int):Int:=IntKind.wrap .u64 ((BitVec.ofInt 64 w ||| BitVec.ofInt 64 9223372036854775808).toNat:Int)
theorem rawM_mkd {w:Int} (h1:0≤w) (h2:w<18446744073709551616):rawM w=mkdB w:=mkd_eq h1 h2
theorem rawC_off {w:Int} (h1:0≤w) (h2:w<18446744073709551616):rawC w=offW w:=off_eq h1 h2
theorem rawOn_on {w:Int} (h1:0≤w) (h2:w<18446744073709551616):rawOn w=onW w:=on_eq h1 h2
theorem getTop_call {w:Int}:YD PR 84 [.int .u64 w] 0 (hO []) (.tup [.agg [.int .i64 (rawA w),.int .i64 (rawB w 281474976710655)],.int .i64 0]) 0 (hO []):=
 XH (n:=400) (l:=[]) (l':=[]) (orc:=bits 6 0b111111) (πl:=[]) (nx':=5) (B:=allB []) F0_ok S0_ok (by kernel_rfl) rfl rfl (by kernel_rfl) (by kernel_rfl) (by kernel_rfl) (by kernel_rfl)
theorem marked_call {w:Int}:YD PR 86 [.int .u64 w] 0 (hO []) (.bool (rawM w)) 0 (hO []):=
 XH (n:=400) (l:=[]) (l':=[]) (orc:=[]) (πl:=[]) (nx':=0) (B:=allB []) F0_ok S0_ok (by kernel_rfl) rfl rfl (by kernel_rfl) (by kernel_rfl) (by kernel_rfl) (by kernel_rfl)
theorem marksT_call {w:Int}:YD PR 88 [.int .u64 w,.bool true] 0 (hO []) (.int .u64 (rawOn w)) 0 (hO []):=
 XH (n:=400) (l:=[]) (l':=[]) (orc:=[]) (πl:=[]) (nx':=0) (B:=allB []) F0_ok S0_ok (by kernel_rfl) rfl rfl (by kernel_rfl) (by kernel_rfl) (by kernel_rfl) (by kernel_rfl)
theorem marksF_call {w:Int}:YD PR 88 [.int .u64 w,.bool false] 0 (hO []) (.int .u64 (rawC w)) 0 (hO []):=
 XH (n:=400) (l:=[]) (l':=[]) (orc:=[]) (πl:=[]) (nx':=0) (B:=allB []) F0_ok S0_ok (by kernel_rfl) rfl rfl (by kernel_rfl) (by kernel_rfl) (by kernel_rfl) (by kernel_rfl)
theorem putTop_call {i t:Int} (h1:-1≤i) (h2:i≤65534) (h3:0≤t) (h4:t<281474976710656):YD PR 178 [.agg [.int .i64 i,.int .i64 t]] 0 (hO []) (.tup [.int .u64 (topW i t),.int .i64 0]) 0 (hO []):=by
 rw [← rawO_eq h1 h2 h3 h4]
 exact XH (n:=400) (l:=[]) (l':=[]) (orc:=bits 36 0b111110000001111100000000111111111110) (πl:=[]) (nx':=11) (B:=allB [!(decide (t > 281474976710655)),!(decide (t<0)),!(decide (i > 65534)),!(decide (i < -1))]) F0_ok S0_ok (by kernel_rfl) (by
  simp only [XD,List.forall_mem_cons,Bool.not_eq_true',decide_eq_false_iff_not]
  (and_intros<;>first|omega|(intro _ hb;cases hb;done))) rfl (by kernel_rfl) (by kernel_rfl) (by kernel_rfl) (by kernel_rfl)
def smGetTop (args:List V) (s:St):Option (V×St):=
 match args with
 |[.int .u64 w]=>some (.tup [.agg [.int .i64 (rawA w),.int .i64 (rawB w 281474976710655)],.int .i64 0],s)
 |_=>none
theorem smGetTop_sm:SmOK PR 84 smGetTop:=by
 refine ⟨fun args s v s' h ho=>?_,Tryz.call84⟩
 unfold smGetTop at h
 split at h
 ·cases h
  exact ⟨.refl _,ho,embed0 (l:=[]) (getTop_call) (fun m hm=>absurd hm (Nat.not_lt_zero _)) (by kernel_rfl) (by kernel_rfl) [] rfl (fun m o ho=>by simp at ho) List.nodup_nil rfl (.refl _) rfl⟩
 ·cases h
def smMarked (args:List V) (s:St):Option (V×St):=
 match args with
 |[.int .u64 w]=>some (.bool (rawM w),s)
 |_=>none
theorem smMarked_sm:SmOK PR 86 smMarked:=by
 refine ⟨fun args s v s' h ho=>?_,Tryz.call86⟩
 unfold smMarked at h
 split at h
 ·cases h
  exact ⟨.refl _,ho,embed0 (l:=[]) (marked_call) (fun m hm=>absurd hm (Nat.not_lt_zero _)) (by kernel_rfl) (by kernel_rfl) [] rfl (fun m o ho=>by simp at ho) List.nodup_nil rfl (.refl _) rfl⟩
 ·cases h
def smMarks (args:List V) (s:St):Option (V×St):=
 match args with
 |[.int .u64 w,.bool true]=>some (.int .u64 (rawOn w),s)
 |[.int .u64 w,.bool false]=>some (.int .u64 (rawC w),s)
 |_=>none
theorem smMarks_sm:SmOK PR 88 smMarks:=by
 refine ⟨fun args s v s' h ho=>?_,Tryz.call88⟩
 unfold smMarks at h
 split at h
 ·cases h
  exact ⟨.refl _,ho,embed0 (l:=[]) (marksT_call) (fun m hm=>absurd hm (Nat.not_lt_zero _)) (by kernel_rfl) (by kernel_rfl) [] rfl (fun m o ho=>by simp at ho) List.nodup_nil rfl (.refl _) rfl⟩
 ·cases h
  exact ⟨.refl _,ho,embed0 (l:=[]) (marksF_call) (fun m hm=>absurd hm (Nat.not_lt_zero _)) (by kernel_rfl) (by kernel_rfl) [] rfl (fun m o ho=>by simp at ho) List.nodup_nil rfl (.refl _) rfl⟩
 ·cases h
def smPutTop (args:List V) (s:St):Option (V×St):=
 match args with
 |[.agg [.int .i64 i,.int .i64 t]]=>(need (decide (-1≤i∧i≤65534∧0≤t∧t<281474976710656)) s).bind fun s1=>some (.tup [.int .u64 (topW i t),.int .i64 0],s1)
 |_=>none
theorem smPutTop_sm:SmOK PR 178 smPutTop:=by
 refine ⟨fun args s v s' h ho=>?_,Tryz.call178⟩
 unfold smPutTop at h
 split at h
 ·simp only [Option.bind_eq_some_iff] at h
  obtain ⟨s1,g2,g3⟩:=h
  cases g3
  obtain ⟨hd,hq⟩:=XI g2 ho
  obtain ⟨h1,h2,h3,h4⟩:=of_decide_eq_true hd
  exact ⟨Lg.of_same hq.1,hq.2,embed0 (l:=[]) (putTop_call h1 h2 h3 h4) (fun m hm=>absurd hm (Nat.not_lt_zero _)) (by kernel_rfl) (by kernel_rfl) [] rfl (fun m o ho=>by simp at ho) List.nodup_nil rfl hq.1 rfl⟩
 ·cases h
def Tw.ok (t:Tw):Prop:=1≤t.height∧t.height≤4∧1≤t.size∧t.size≤128∧0≤t.nodes∧t.nodes<4096∧0≤t.heads∧t.heads<4096
instance (t:Tw):Decidable t.ok:=inferInstanceAs (Decidable (_∧_))
def nxA (t:Tw) (i l:Int):Int:=if i=-1 then t.heads+l else t.nodes+i*(4+t.height)+(4+l)
def ptA (t:Tw) (i p:Int):Int:=t.nodes+i*(4+t.height)+p
def Tw.has (t:Tw) (i l:Int):Prop:=t.ok∧0≤l∧l<t.height∧(i=-1∨(0≤i∧i<t.size))
instance (t:Tw) (i l:Int):Decidable (t.has i l):=inferInstanceAs (Decidable (_∧_))
def Tw.hasP (t:Tw) (i p:Int):Prop:=t.ok∧0≤p∧p<4+t.height∧0≤i∧i<t.size
instance (t:Tw) (i p:Int):Decidable (t.hasP i p):=inferInstanceAs (Decidable (_∧_))
theorem mul_h {i h:Int} (h1:0≤i) (h2:i<128) (h3:1≤h) (h4:h≤4):0≤i*(4+h)∧i*(4+h)≤1016:=by
 have hc:h=1∨h=2∨h=3∨h=4:=by omega
 rcases hc with rfl|rfl|rfl|rfl<;>omega
theorem next_call {t:Tw} {i l:Int} (h:t.has i l):YD PR 47 [.agg t.vs,.int .i64 i,.int .i64 l] 0 (hO []) (.int .i64 (nxA t i l)) 0 (hO []):=by
 obtain ⟨⟨a1,a2,a3,a4,a5,a6,a7,a8⟩,b1,b2,hi⟩:=h
 have w1:IntKind.wrap .i64 (4+l)=4+l:=XM (by omega) (by omega)
 have w2:IntKind.wrap .i64 (4+t.height)=4+t.height:=XM (by omega) (by omega)
 have w3:IntKind.wrap .i64 (4+l - 4)=l:=by rw [XM (by omega) (by omega)];omega
 by_cases hc:i=-1
 ·subst hc
  have e:nxA t (-1) l=IntKind.wrap .i64 (IntKind.wrap .i64 (t.heads+IntKind.wrap .i64 (0*t.height))+IntKind.wrap .i64 (IntKind.wrap .i64 (4+l) - 4)):=by
   unfold nxA
   rw [w1,w3,if_pos rfl,Int.zero_mul,XM (x:=0) (by decide) (by decide),XM (x:=t.heads+0) (by omega) (by omega),XM (by omega) (by omega)];omega
  rw [e]
  exact XH (n:=400) (l:=[]) (l':=[]) (orc:=bits 43 0b0001111111111111111111000000000000000000000) (πl:=[]) (nx':=6)
   (B:=allB [!decide (IntKind.wrap .i64 (IntKind.wrap .i64 (4+l) - 4)≥t.height),!decide (IntKind.wrap .i64 (IntKind.wrap .i64 (4+l) - 4)<0),!decide (IntKind.wrap .i64 (4+l)≥IntKind.wrap .i64 (4+t.height)),!decide (IntKind.wrap .i64 (4+l)<4),
    !!decide (t.heads<4096),decide (t.heads≥0),decide (t.nodes<4096),decide (t.nodes≥0),decide (t.size≤128),decide (t.size≥1),decide (t.height≤4),decide (t.height≥1),!decide (l≥4),!decide (l<0)]) F0_ok S0_ok (by kernel_rfl)
   (by
    simp only [XD,List.forall_mem_cons,Bool.not_not,Bool.not_eq_true',decide_eq_false_iff_not,decide_eq_true_eq,w1,w2,w3]
    and_intros<;>first|omega|(intro _ hb;cases hb;done)) rfl (by kernel_rfl) (by kernel_rfl) (by kernel_rfl) (by kernel_rfl)
 ·have hi:=hi.resolve_left hc
  obtain ⟨q1,q2⟩:=mul_h (i:=i) (h:=t.height) hi.1 (by omega) a1 a2
  have e:nxA t i l=IntKind.wrap .i64 (IntKind.wrap .i64 (t.nodes+IntKind.wrap .i64 (i*IntKind.wrap .i64 (4+t.height)))+IntKind.wrap .i64 (4+l)):=by
   unfold nxA
   rw [w1,w2,if_neg hc,XM (x:=i*(4+t.height)) (by omega) (by omega),XM (x:=t.nodes+i*(4+t.height)) (by omega) (by omega),XM (by omega) (by omega)]
  rw [e]
  exact XH (n:=400) (l:=[]) (l':=[]) (orc:=bits 37 0b0001111111111111111111010000000000000) (πl:=[]) (nx':=6)
   (B:=allB [!decide (IntKind.wrap .i64 (4+l)≥IntKind.wrap .i64 (4+t.height)),!decide (IntKind.wrap .i64 (4+l)<0),!decide (i≥t.size),!decide (i<0),(i != -1),
    !!decide (t.heads<4096),decide (t.heads≥0),decide (t.nodes<4096),decide (t.nodes≥0),decide (t.size≤128),decide (t.size≥1),decide (t.height≤4),decide (t.height≥1),!decide (l≥4),!decide (l<0)]) F0_ok S0_ok (by kernel_rfl)
   (by
    simp only [XD,List.forall_mem_cons,Bool.not_not,Bool.not_eq_true',decide_eq_false_iff_not,decide_eq_true_eq,bne_iff_ne,ne_eq,w1,w2]
    and_intros<;>first|omega|(intro _ hb;cases hb;done)) rfl (by kernel_rfl) (by kernel_rfl) (by kernel_rfl) (by kernel_rfl)
theorem at_call {t:Tw} {i p:Int} (h:t.hasP i p):YD PR 65 [.agg t.vs,.int .i64 i,.int .i64 p] 0 (hO []) (.int .i64 (ptA t i p)) 0 (hO []):=by
 obtain ⟨⟨a1,a2,a3,a4,a5,a6,a7,a8⟩,b1,b2,hi1,hi2⟩:=h
 have w2:IntKind.wrap .i64 (4+t.height)=4+t.height:=XM (by omega) (by omega)
 obtain ⟨q1,q2⟩:=mul_h (i:=i) (h:=t.height) hi1 (by omega) a1 a2
 have e:ptA t i p=IntKind.wrap .i64 (IntKind.wrap .i64 (t.nodes+IntKind.wrap .i64 (i*IntKind.wrap .i64 (4+t.height)))+p):=by
  unfold ptA
  rw [w2,XM (x:=i*(4+t.height)) (by omega) (by omega),XM (x:=t.nodes+i*(4+t.height)) (by omega) (by omega),XM (by omega) (by omega)]
 rw [e]
 exact XH (n:=400) (l:=[]) (l':=[]) (orc:=bits 34 0b1111111111111111111010000000000000) (πl:=[]) (nx':=5)
  (B:=allB [!decide (p≥IntKind.wrap .i64 (4+t.height)),!decide (p<0),!decide (i≥t.size),!decide (i<0),(i != -1),
   !!decide (t.heads<4096),decide (t.heads≥0),decide (t.nodes<4096),decide (t.nodes≥0),decide (t.size≤128),decide (t.size≥1),decide (t.height≤4),decide (t.height≥1)]) F0_ok S0_ok (by kernel_rfl)
  (by
   simp only [XD,List.forall_mem_cons,Bool.not_not,Bool.not_eq_true',decide_eq_false_iff_not,decide_eq_true_eq,bne_iff_ne,ne_eq,w2]
   and_intros<;>first|omega|(intro _ hb;cases hb;done)) rfl (by kernel_rfl) (by kernel_rfl) (by kernel_rfl) (by kernel_rfl)
def ptTw:List Pt:=List.replicate 13 (.i .i64)
def Tw.ofL (is:List Int):Tw:=⟨is.headD 0,is.tail.headD 0,is.tail.tail.headD 0,is.tail.tail.tail.headD 0,is.tail.tail.tail.tail.headD 0,is.tail.tail.tail.tail.tail.headD 0,is.tail.tail.tail.tail.tail.tail.headD 0,is.tail.tail.tail.tail.tail.tail.tail.headD 0,is.tail.tail.tail.tail.tail.tail.tail.tail.headD 0,
 is.tail.tail.tail.tail.tail.tail.tail.tail.tail.headD 0,is.tail.tail.tail.tail.tail.tail.tail.tail.tail.tail.headD 0,is.tail.tail.tail.tail.tail.tail.tail.tail.tail.tail.tail.headD 0,is.tail.tail.tail.tail.tail.tail.tail.tail.tail.tail.tail.tail.headD 0⟩
def gTw (cs:List V):Option Tw:=(matchC ptTw cs).bind fun (is,_,_)=>some (Tw.ofL is)
theorem gTw_ok {cs:List V} {t:Tw} (h:gTw cs=some t):cs=t.vs:=by
 unfold gTw at h
 obtain ⟨⟨is,bs,ns⟩,h1,h⟩:=XA h
 cases h
 exact matchC_ok h1
def smNext (args:List V) (s:St):Option (V×St):=
 match args with
 |[.agg cs,.int .i64 i,.int .i64 l]=>(gTw cs).bind fun t=>(need (decide (t.has i l)) s).bind fun s1=>some (.int .i64 (nxA t i l),s1)
 |_=>none
theorem smNext_sm:SmOK PR 47 smNext:=by
 refine ⟨fun args s v s' h ho=>?_,Tryz.call47⟩
 unfold smNext at h
 split at h
 ·simp only [Option.bind_eq_some_iff] at h
  obtain ⟨t,h0,s1,h2,h3⟩:=h
  cases h3
  have:=gTw_ok h0
  subst this
  obtain ⟨hd,hq⟩:=XI h2 ho
  exact ⟨Lg.of_same hq.1,hq.2,embed0 (l:=[]) (next_call (of_decide_eq_true hd)) (fun m hm=>absurd hm (Nat.not_lt_zero _)) (by kernel_rfl) (by kernel_rfl) [] rfl (fun m o ho=>by simp at ho) List.nodup_nil rfl hq.1 rfl⟩
 ·cases h
def smAt (args:List V) (s:St):Option (V×St):=
 match args with
 |[.agg cs,.int .i64 i,.int .i64 l]=>(gTw cs).bind fun t=>(need (decide (t.hasP i l)) s).bind fun s1=>some (.int .i64 (ptA t i l),s1)
 |_=>none
theorem smAt_sm:SmOK PR 65 smAt:=by
 refine ⟨fun args s v s' h ho=>?_,Tryz.call65⟩
 unfold smAt at h
 split at h
 ·simp only [Option.bind_eq_some_iff] at h
  obtain ⟨t,h0,s1,h2,h3⟩:=h
  cases h3
  have:=gTw_ok h0
  subst this
  obtain ⟨hd,hq⟩:=XI h2 ho
  exact ⟨Lg.of_same hq.1,hq.2,embed0 (l:=[]) (at_call (of_decide_eq_true hd)) (fun m hm=>absurd hm (Nat.not_lt_zero _)) (by kernel_rfl) (by kernel_rfl) [] rfl (fun m o ho=>by simp at ho) List.nodup_nil rfl hq.1 rfl⟩
 ·cases h
noncomputable def smsA:List (Nat×SmF):=[(6,smPick),(83,smLoad),(36,smStore),(46,smCas),(92,smAdd),(84,smGetTop),(86,smMarked),(88,smMarks),(178,smPutTop),(47,smNext),(65,smAt)]
theorem smsA_ok:AllSm PR smsA:=⟨smPick_sm,smLoad_sm,smStore_sm,smCas_sm,smAdd_sm,smGetTop_sm,smMarked_sm,smMarks_sm,smPutTop_sm,smNext_sm,smAt_sm,trivial⟩
noncomputable def FA:Env:=envOf tabT tabF (smOf smsA) seT imT pzT
theorem FA_ok:EnvOK PR FA:=env_ok _
theorem SA_ok:SumOK PR FA:=sumOK_of rfl smsA_ok
end Go.Sx
namespace Go.Sx
open Go.Proofs
structure FdC where
 t:Tw
 key:Int
 ln:Int
 lv:Int
 pr:Int
 kn:Int
 cu:Int
 w:Int
 by':Int
 made:Bool
 err:Int
def findM (td:Nat) (x:FdC):Ob:=.mem (.cells (x.t.vs++[.int .u64 x.key,.int .i64 x.ln,.int .i64 x.lv,.int .i64 x.pr,.int .u64 x.kn,.int .u64 x.cu,.int .u64 x.w,.osl td 4,.int .u64 x.by',.bool x.made,.int .i64 x.err])) 165 none
def shSpot:List Sh:=[.int .i64,.int .i64,.int .u64,.int .u64]
def toldM (rs:List (List Int)):Ob:=.mem (.rows shSpot rs) 162 (some 4)
def beginC (x:FdC) (rs:List (List Int)) (level:Int):FdC:=
 if level=-1 then {x with ln:=9} else if level=x.t.height - 1 then {x with ln:=1,lv:=level,pr:=-1,kn:=0,cu:=0}
 else {x with ln:=1,lv:=level,pr:=(rs.getD (level+1).toNat []).getD 1 0,kn:=(rs.getD (level+1).toNat []).getD 2 0,cu:=0}
def FdC.ok (x:FdC) (rs:List (List Int)):Prop:=x.t.ok∧(rs.length:Int)=x.t.height∧∀ r∈rs,r.length=4
instance (x:FdC) (rs:List (List Int)):Decidable (x.ok rs):=inferInstanceAs (Decidable (_∧_))
theorem begin_call {x:FdC} {rs:List (List Int)} {level:Int} (h:x.ok rs) (h1:-1≤level) (h2:level<x.t.height):YD PR 117 [.ptr 0 0 0 0,.int .i64 level] 2 (hO [some (findM 1 x),some (toldM rs)]) XJ 2 (hO [some (findM 1 (beginC x rs level)),some (toldM rs)]):=by
 obtain ⟨⟨a1,a2,_⟩,hl,_⟩:=h
 obtain ⟨⟨nodes,heads,height,top,links,size,gens,worn,limit,at',pins,cores,tops⟩,key,ln,lv,pr,kn,cu,w,by',made,err⟩:=x
 simp only at a1 a2 hl h2
 have hh:height=1∨height=2∨height=3∨height=4:=by omega
 rcases hh with rfl|rfl|rfl|rfl
 ·have hc:level=-1∨level=0:=by omega
  rcases hc with rfl|rfl
  ·obtain ⟨r0,rfl⟩:∃ r0,rs=[r0]:=by
    match rs,hl with
    |[r0],_=>exact ⟨r0,rfl⟩
   exact evX (B:=true) F0_ok S0_ok rfl 10 (bits 9 0b100111110) [0,1] (by kernel_rfl) (by kernel_rfl)
  ·obtain ⟨r0,rfl⟩:∃ r0,rs=[r0]:=by
    match rs,hl with
    |[r0],_=>exact ⟨r0,rfl⟩
   exact evX (B:=true) F0_ok S0_ok rfl 10 (bits 3 0b111) [0,1] (by kernel_rfl) (by kernel_rfl)
 ·have hc:level=-1∨level=0∨level=1:=by omega
  rcases hc with rfl|rfl|rfl
  ·obtain ⟨r0,r1,rfl⟩:∃ r0 r1,rs=[r0,r1]:=by
    match rs,hl with
    |[r0,r1],_=>exact ⟨r0,r1,rfl⟩
   exact evX (B:=true) F0_ok S0_ok rfl 11 (bits 17 0b10011111100111110) [0,1] (by kernel_rfl) (by kernel_rfl)
  ·obtain ⟨r0,r1,rfl⟩:∃ r0 r1,rs=[r0,r1]:=by
    match rs,hl with
    |[r0,r1],_=>exact ⟨r0,r1,rfl⟩
   exact evX (B:=true) F0_ok S0_ok rfl 11 (bits 11 0b10011111111) [0,1] (by kernel_rfl) (by kernel_rfl)
  ·obtain ⟨r0,r1,rfl⟩:∃ r0 r1,rs=[r0,r1]:=by
    match rs,hl with
    |[r0,r1],_=>exact ⟨r0,r1,rfl⟩
   exact evX (B:=true) F0_ok S0_ok rfl 10 (bits 3 0b111) [0,1] (by kernel_rfl) (by kernel_rfl)
 ·have hc:level=-1∨level=0∨level=1∨level=2:=by omega
  rcases hc with rfl|rfl|rfl|rfl
  ·obtain ⟨r0,r1,r2,rfl⟩:∃ r0 r1 r2,rs=[r0,r1,r2]:=by
    match rs,hl with
    |[r0,r1,r2],_=>exact ⟨r0,r1,r2,rfl⟩
   exact evX (B:=true) F0_ok S0_ok rfl 12 (bits 25 0b1001111110011111100111110) [0,1] (by kernel_rfl) (by kernel_rfl)
  ·obtain ⟨r0,r1,r2,rfl⟩:∃ r0 r1 r2,rs=[r0,r1,r2]:=by
    match rs,hl with
    |[r0,r1,r2],_=>exact ⟨r0,r1,r2,rfl⟩
   exact evX (B:=true) F0_ok S0_ok rfl 12 (bits 19 0b1001111110011111111) [0,1] (by kernel_rfl) (by kernel_rfl)
  ·obtain ⟨r0,r1,r2,rfl⟩:∃ r0 r1 r2,rs=[r0,r1,r2]:=by
    match rs,hl with
    |[r0,r1,r2],_=>exact ⟨r0,r1,r2,rfl⟩
   exact evX (B:=true) F0_ok S0_ok rfl 11 (bits 11 0b10011111111) [0,1] (by kernel_rfl) (by kernel_rfl)
  ·obtain ⟨r0,r1,r2,rfl⟩:∃ r0 r1 r2,rs=[r0,r1,r2]:=by
    match rs,hl with
    |[r0,r1,r2],_=>exact ⟨r0,r1,r2,rfl⟩
   exact evX (B:=true) F0_ok S0_ok rfl 10 (bits 3 0b111) [0,1] (by kernel_rfl) (by kernel_rfl)
 ·have hc:level=-1∨level=0∨level=1∨level=2∨level=3:=by omega
  rcases hc with rfl|rfl|rfl|rfl|rfl
  ·obtain ⟨r0,r1,r2,r3,rfl⟩:∃ r0 r1 r2 r3,rs=[r0,r1,r2,r3]:=by
    match rs,hl with
    |[r0,r1,r2,r3],_=>exact ⟨r0,r1,r2,r3,rfl⟩
   exact evX (B:=true) F0_ok S0_ok rfl 13 (bits 33 0b100111111001111110011111100111110) [0,1] (by kernel_rfl) (by kernel_rfl)
  ·obtain ⟨r0,r1,r2,r3,rfl⟩:∃ r0 r1 r2 r3,rs=[r0,r1,r2,r3]:=by
    match rs,hl with
    |[r0,r1,r2,r3],_=>exact ⟨r0,r1,r2,r3,rfl⟩
   exact evX (B:=true) F0_ok S0_ok rfl 13 (bits 27 0b100111111001111110011111111) [0,1] (by kernel_rfl) (by kernel_rfl)
  ·obtain ⟨r0,r1,r2,r3,rfl⟩:∃ r0 r1 r2 r3,rs=[r0,r1,r2,r3]:=by
    match rs,hl with
    |[r0,r1,r2,r3],_=>exact ⟨r0,r1,r2,r3,rfl⟩
   exact evX (B:=true) F0_ok S0_ok rfl 12 (bits 19 0b1001111110011111111) [0,1] (by kernel_rfl) (by kernel_rfl)
  ·obtain ⟨r0,r1,r2,r3,rfl⟩:∃ r0 r1 r2 r3,rs=[r0,r1,r2,r3]:=by
    match rs,hl with
    |[r0,r1,r2,r3],_=>exact ⟨r0,r1,r2,r3,rfl⟩
   exact evX (B:=true) F0_ok S0_ok rfl 11 (bits 11 0b10011111111) [0,1] (by kernel_rfl) (by kernel_rfl)
  ·obtain ⟨r0,r1,r2,r3,rfl⟩:∃ r0 r1 r2 r3,rs=[r0,r1,r2,r3]:=by
    match rs,hl with
    |[r0,r1,r2,r3],_=>exact ⟨r0,r1,r2,r3,rfl⟩
   exact evX (B:=true) F0_ok S0_ok rfl 10 (bits 3 0b111) [0,1] (by kernel_rfl) (by kernel_rfl)
def indT (size w:Int):Int:=if rawA w≥size then -1 else rawA w
theorem index_call {x:FdC} {rs:List (List Int)} {w:Int}:YD PR 118 [.ptr 0 0 0 0,.int .u64 w] 2 (hO [some (findM 1 x),some (toldM rs)]) (.int .i64 (indT x.t.size w)) 2 (hO [some (findM 1 x),some (toldM rs)]):=by
 by_cases h:rawA w≥x.t.size
 ·have e:indT x.t.size w=-1:=if_pos h
  rw [e]
  exact XH (l:=[some (findM 1 x),some (toldM rs)]) (l':=[some (findM 1 x),some (toldM rs)]) (n:=400) (f:=118) (args:=[.ptr 0 0 0 0,.int .u64 w]) (vc:=.int .i64 (-1)) (orc:=bits 1 0b1) (πl:=[0,1]) (nx':=3) (B:=allB [decide (rawA w≥x.t.size)]) FA_ok SA_ok (by kernel_rfl) (by rw [decide_eq_true h];rfl) rfl (by kernel_rfl) (by kernel_rfl) (by kernel_rfl) (by kernel_rfl)
 ·have e:indT x.t.size w=rawA w:=if_neg h
  rw [e]
  exact XH (l:=[some (findM 1 x),some (toldM rs)]) (l':=[some (findM 1 x),some (toldM rs)]) (n:=400) (f:=118) (args:=[.ptr 0 0 0 0,.int .u64 w]) (vc:=.int .i64 (rawA w)) (orc:=bits 1 0b0) (πl:=[0,1]) (nx':=3) (B:=allB [!decide (rawA w≥x.t.size)]) FA_ok SA_ok (by kernel_rfl) (by rw [decide_eq_false h];rfl) rfl (by kernel_rfl) (by kernel_rfl) (by kernel_rfl) (by kernel_rfl)
def ptFind:List Pt:=ptTw++[.i .u64,.i .i64,.i .i64,.i .i64,.i .u64,.i .u64,.i .u64,.o 4,.i .u64,.b,.i .i64]
def tlN:Nat→List Int→List Int
 |0,l=>l
 |n+1,l=>tlN n l.tail
structure FG where
 f:Nat
 td:Nat
 x:FdC
 rs:List (List Int)
def gFind (f:Nat) (H:Tr Ob):Option FG:=
 (gCells 165 ptFind (H.get f)).bind fun (is,bs,ns)=>(gRows shSpot 162 (some 4) (H.get (ns.headD 0))).bind fun rs=>
  some ⟨f,ns.headD 0,⟨Tw.ofL is,(tlN 13 is).headD 0,(tlN 14 is).headD 0,(tlN 15 is).headD 0,(tlN 16 is).headD 0,(tlN 17 is).headD 0,(tlN 18 is).headD 0,(tlN 19 is).headD 0,(tlN 20 is).headD 0,bs.headD false,(tlN 21 is).headD 0⟩,rs⟩
theorem gFind_ok {f:Nat} {H:Tr Ob} {g:FG} (h:gFind f H=some g):g.f=f∧H.get f=some (findM g.td g.x)∧H.get g.td=some (toldM g.rs):=by
 unfold gFind at h
 obtain ⟨⟨is,bs,ns⟩,h1,h⟩:=XA h
 obtain ⟨ws,h2,h⟩:=XA h
 cases h
 exact ⟨rfl,gCells_ok h1,gRows_ok h2⟩
def smBegin (args:List V) (s:St):Option (V×St):=
 match args with
 |[.ptr f a b c,.int .i64 level]=>(chk (isZ a b c)).bind fun _=>(gFind f s.H).bind fun g=>(need (decide (g.x.ok g.rs∧-1≤level∧level<g.x.t.height)) s).bind fun s1=>
   (memS [g.f,g.td] [some (findM 1 (beginC g.x g.rs level)),some (toldM g.rs)] s1).bind fun s2=>some (XJ,s2)
 |_=>none
theorem smBegin_sm:SmOK PR 117 smBegin:=by
 refine ⟨fun args s v s' h ho=>?_,Tryz.call117⟩
 unfold smBegin at h
 split at h
 ·simp only [Option.bind_eq_some_iff] at h
  obtain ⟨_,h0,g,h1,s1,h2,s2,h3,h4⟩:=h
  obtain ⟨rfl,rfl,rfl⟩:=isZ_ok (XC h0)
  cases h4
  obtain ⟨g0,g1,g2⟩:=gFind_ok h1
  subst g0
  obtain ⟨hd,hq⟩:=XI h2 (XN h3 ho)
  obtain ⟨d1,d2,d3⟩:=of_decide_eq_true hd
  exact XO (l:=[some (findM 1 g.x),some (toldM g.rs)]) (ac:=[.ptr 0 0 0 0,.int .i64 _]) (begin_call d1 d2 d3) rfl (by kernel_rfl) (by kernel_rfl) (by kernel_rfl) hq h3 (by rw [List.map_cons,List.map_cons,g1,g2];rfl) rfl rfl
 ·cases h
def smIndex (args:List V) (s:St):Option (V×St):=
 match args with
 |[.ptr f a b c,.int .u64 w]=>(chk (isZ a b c)).bind fun _=>(gFind f s.H).bind fun g=>(chk (distinct [g.f,g.td])).bind fun _=>some (.int .i64 (indT g.x.t.size w),s)
 |_=>none
theorem smIndex_sm:SmOK PR 118 smIndex:=by
 refine ⟨fun args s v s' h ho=>?_,Tryz.call118⟩
 unfold smIndex at h
 split at h
 ·simp only [Option.bind_eq_some_iff] at h
  obtain ⟨_,h0,g,h1,_,h2,h4⟩:=h
  obtain ⟨rfl,rfl,rfl⟩:=isZ_ok (XC h0)
  cases h4
  obtain ⟨g0,g1,g2⟩:=gFind_ok h1
  subst g0
  refine ⟨.refl _,ho,embed0 (l:=[some (findM 1 g.x),some (toldM g.rs)]) (ac:=[.ptr 0 0 0 0,.int .u64 _]) index_call (allSome_ok rfl) (by kernel_rfl) (by kernel_rfl) [g.f,g.td] rfl (map_get rfl (by rw [List.map_cons,List.map_cons,g1,g2];rfl)) (distinct_ok (XC h2)) rfl (.refl _) rfl⟩
 ·cases h
noncomputable def smsB:List (Nat×SmF):=[(6,smPick),(83,smLoad),(36,smStore),(46,smCas),(92,smAdd),(84,smGetTop),(86,smMarked),(88,smMarks),(178,smPutTop),(47,smNext),(65,smAt),(117,smBegin),(118,smIndex)]
theorem smsB_ok:AllSm PR smsB:=⟨smPick_sm,smLoad_sm,smStore_sm,smCas_sm,smAdd_sm,smGetTop_sm,smMarked_sm,smMarks_sm,smPutTop_sm,smNext_sm,smAt_sm,smBegin_sm,smIndex_sm,trivial⟩
noncomputable def FB:Env:=envOf tabT tabF (smOf smsB) seT imT pzT
theorem FB_ok:EnvOK PR FB:=env_ok _
theorem SB_ok:SumOK PR FB:=sumOK_of rfl smsB_ok
end Go.Sx
