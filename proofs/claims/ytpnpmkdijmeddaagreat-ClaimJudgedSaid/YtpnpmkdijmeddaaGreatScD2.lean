/- A crew begins: summaries of Place and Fill, places of its loop. -/
import Derived.Test.YtpnpmkdijmeddaaGreatScT5
set_option maxRecDepth 100000
namespace Go.Sx
open Go.Proofs
def smPlc (args:List V) (s:St):Option (V×St):=
 match args with
 |[.int .i64 n,.int .i64 c,.int .i64 h,.int .i64 lim]=>(chk (decide (c=4∧lim=9))).bind fun _=>(need (decide (1≤n∧n≤6∧1≤h∧h≤4)) s).bind fun s1=>some (.tup [.agg (tw n.toNat h.toNat).vs,.int .i64 (szW n.toNat h.toNat)],s1)
 |_=>none
theorem smPlc_sm:SmOK PR 22 smPlc:=by
 refine ⟨fun args s v s' h ho=>?_,Tryz.call22⟩
 unfold smPlc at h
 split at h
 ·rename_i n c hh lim
  simp only [Option.bind_eq_some_iff] at h
  obtain ⟨_,h0,s1,h2,h3⟩:=h
  cases h3
  obtain ⟨rfl,rfl⟩:=chk_dec h0
  obtain ⟨hd,hq⟩:=XI h2 ho
  obtain ⟨d1,d2,d3,d4⟩:=of_decide_eq_true hd
  have e1:n=(n.toNat:Int):=by omega
  have e2:hh=(hh.toNat:Int):=by omega
  have g:Geo n.toNat hh.toNat:=⟨by omega,by omega,by omega,by omega⟩
  have:=plc_call g
  rw [← e1,← e2] at this
  exact ⟨Lg.of_same hq.1,hq.2,embed0 (l:=[]) this (fun m hm=>absurd hm (Nat.not_lt_zero _)) (by kernel_rfl) (by kernel_rfl) [] rfl (fun m o ho=>by simp at ho) List.nodup_nil rfl hq.1 rfl⟩
 ·cases h
def FillPre (t:Tw) (sz:Int) (ws:List Int):Prop:=t=tw t.size.toNat t.height.toNat∧Geo t.size.toNat t.height.toNat∧sz=szW t.size.toNat t.height.toNat∧ws.length=4096
noncomputable def smFill (args:List V) (s:St):Option (V×St):=
 match args with
 |[.agg cs,.ptr m a b c]=>(chk (isZ a b c)).bind fun _=>(gTw cs).bind fun t=>(gMem m s.H).bind fun g=>(need (propB (FillPre t g.n g.ws)) s).bind fun s1=>
   (memS [g.m,g.w] [some (memM 1 g.n (fillJ t.size.toNat t.height.toNat g.ws g.j)),some (XL (fillW t.size.toNat t.height.toNat g.ws))] s1).bind fun s2=>some (XJ,s2)
 |_=>none
theorem smFill_sm:SmOK PR 24 smFill:=by
 refine ⟨fun args s v s' h ho=>?_,Tryz.call24⟩
 unfold smFill at h
 split at h
 ·simp only [Option.bind_eq_some_iff] at h
  obtain ⟨_,h0,t,ht,g,h1,s1,h2,s2,h3,h4⟩:=h
  obtain ⟨rfl,rfl,rfl⟩:=isZ_ok (XC h0)
  cases h4
  have ht:=gTw_ok ht
  subst ht
  obtain ⟨g0,g1,g2⟩:=gMem_ok h1
  subst g0
  have ho1:=XN h3 ho
  obtain ⟨hd,hq⟩:=XI h2 ho1
  obtain ⟨d1,d2,d3,d4⟩:=XF.1 hd
  have hc:=fill_to d2 g.ws g.j d4
  rw [← d1,← d3] at hc
  exact XO (l:=[some (memM 1 g.n g.j),some (XL g.ws)]) (ac:=[.agg t.vs,.ptr 0 0 0 0]) hc rfl (by kernel_rfl) (by kernel_rfl) (by kernel_rfl) hq h3 (by rw [List.map_cons,List.map_cons,g1,g2];rfl) rfl rfl
 ·cases h
noncomputable def smsD:List (Nat×SmF):=[(6,smPick),(36,smStore),(84,smGetTop),(65,smAt),(22,smPlc),(24,smFill)]
theorem smsD_ok:AllSm PR smsD:=⟨smPick_sm,smStore_sm,smGetTop_sm,smAt_sm,smPlc_sm,smFill_sm,trivial⟩
noncomputable def FD:Env:=envOf tabT tabF (smOf smsD) seT imT pzT
theorem FD_ok:EnvOK PR FD:=env_ok _
theorem SD_ok:SumOK PR FD:=sumOK_of rfl smsD_ok
abbrev frBg:Frs:=⟨5,none,120⟩
noncomputable def bgBody:Code:=bodyOf Tryz.f5
def crewB (t:Tw) (k h c f o:V):List V:=t.vs++[.ptr 2 0 0 0,k,h,.nilp,.nils,c,.nilp,f,.nils,.nils,o,.int .i64 0]
def twO (n H:Nat):Ob:=.mem (.cells (tw n H).vs) 37 none
def clO:Ob:=.mem (.cells [.nilp,.nilp]) 58 (some 1)
def fsO:Ob:=.mem (.cells [.nils,.nils,.nils,.nils]) 22 (some 1)
def opO:Ob:=rowI [-1,-1,-1,-1]
def lB0 (zs:List Int) (n H:Nat) (j:MJ) (ws:List Int) (k h:V):List (Option Ob):=[some (.ro .i64 zs),some (.mem (.cells (crewB (tw n H) k h (.osl 4 1) (.osl 5 1) (.osl 6 1))) 47 none),some (memM 3 (szW n H) j),some (XL ws),some clO,some fsO,some opO,some (twO n H)]
def lB (zs:List Int) (n H:Nat) (j:MJ) (ws ks hs:List Int):List (Option Ob):=lB0 zs n H j ws (.osl 8 1) (.osl 9 1)++[some (rowU ks),some (rowI hs)]
def l0 (zs:List Int) (n H:Nat) (j:MJ) (ws ks hs:List Int):List (Option Ob):=[some (.ro .i64 zs),some (.mem (.cells (crewB (tw n H) (.osl 4 1) (.osl 5 1) (.osl 6 1) (.osl 7 1) (.osl 8 1))) 47 none),some (memM 3 (szW n H) j),some (XL ws),some (rowU ks),some (rowI hs),some clO,some fsO,some opO]
def slB (n H:Nat) (x:V) (i:Int):List (Option V):=[some (.int .i64 n),some (.int .i64 H),some x,none,none,none,none,some (.ptr 7 0 0 0),none,some (.ptr 2 0 0 0),none,some (.ptr 1 0 0 0),some (.int .i64 i)]++List.replicate 107 none
end Go.Sx
namespace Go.Sx
open Go.Proofs
noncomputable def todoB:List Item:=((ctlN FD (exec FD 400) frBg 20 [.code bgBody] (Tr.ofList [.int .i64 1,.int .i64 1,.nils]) [] ⟨trO [some (.ro .i64 [])],1,bits 10 0b1000000111,[],[]⟩).map (·.1)).getD []
def kB (v:Int) (n i:Nat):Int:=IntKind.u64.wrap (IntKind.i64.wrap (IntKind.i64.wrap (1+IntKind.i64.wrap (v.tmod 50*n))+i))
def hB (v:Int) (H:Nat):Int:=IntKind.i64.wrap (1+XR (IntKind.i64.wrap (v.tdiv 50)) H)
def bgL (n H i:Nat) (ks hs:List Int):List (Int×Int):=[(ptA (tw n H) i 0,ks.getD i 0),(ptA (tw n H) i 1,i),(ptA (tw n H) i 2,IntKind.u64.wrap (hs.getD i 0)),(ptA (tw n H) i 3,2)]
structure BgPre (n H i:Nat) (ks hs ks1 hs1 ws:List Int):Prop where
 hi:(i:Int)<n
 hk:ks.length+1≤1048576
 hH:0<(H:Int)
 hh:hs.length+1≤1048576
 k1:0≤(i:Int)∧(i:Int)<(ks1.length:Int)
 k2:i<ks1.length
 h1:0≤(i:Int)∧(i:Int)<(hs1.length:Int)
 h2:i<hs1.length
 a1:(H:Int)≥1
 a2:(H:Int)≤4
 a3:(n:Int)≥1
 a4:(n:Int)≤128
 a5:10+2*(n:Int)+H<4096
 a6:(!(!decide (10+2*(n:Int)<4096)))=true
 z:¬ (i:Int)≥n
 g1:¬ hs1.getD i 0<1
 g2:¬ hs1.getD i 0 > (H:Int)
 p0:(tw n H).hasP i 0
 p1:(tw n H).hasP i 1
 p2:(tw n H).hasP i 2
 p3:(tw n H).hasP i 3
 c0:XS (ptA (tw n H) i 0) (szW n H) ws
 c1:XS (ptA (tw n H) i 1) (szW n H) (stW ((bgL n H i ks1 hs1).take 1) ws)
 c2:XS (ptA (tw n H) i 2) (szW n H) (stW ((bgL n H i ks1 hs1).take 2) ws)
 c3:XS (ptA (tw n H) i 3) (szW n H) (stW ((bgL n H i ks1 hs1).take 3) ws)
section
variable {β:Base} {kind:CallKind} {cs:List Frame} {J:Nat→V} {a:Cf} {zs ws ks hs:List Int} {n H:Nat} {j:MJ} {len cap:Nat}
theorem pcD {T:Tr V} {s1:List (Option V)} {t0 t1:List Item} {B:Bool} {l l':List (Option Ob)} {πl:List Nat} (hβ:β.n0=1) (hA:YC β frBg T [] (hO l) l.length far a) (m nx:Nat) (orc:List (Nat×Bool)) (hB:B=true)
  (hrun:(ctlN FD (exec FD 400) frBg m t0 T [] ⟨trO l,l.length,orc,[],[]⟩).map (fun r=>(r.1,look r.2.1 0 s1,r.2.2.1,r.2.2.2.nx,πl.map r.2.2.2.H.get,allB r.2.2.2.obl))=
   some (t1,s1.map (Option.map (V.ren (πf πl))),[],nx,l'.map (Option.map (Ob.ren (πf πl))),B)) (h4:1≤l'.length)
  (hck:(Nat.blt l.length big&&(Nat.beq s1.length frBg.nt&&(Nat.blt frBg.nt big&&(Nat.ble nx far&&(Nat.ble l'.length far&&(allSome l'&&(chkP 1 nx πl l'&&(obsOK (fun m=>Nat.blt m l'.length) 0 l'&&XQ (fun m=>Nat.blt m l'.length) s1))))))))=true):
  ∃ J' b',YC β frBg (trO (slots J' 0 s1)) [] (hO l') l'.length far b'∧Steps PR (At frBg none kind cs a t0) (At frBg none kind cs b' t1):=by
 simp only [Bool.and_eq_true] at hck
 obtain ⟨c1,c2,c3,c4,c5,c6,c7,c8,c9⟩:=hck
 exact YC.eval (n:=400) (far:=far) FD_ok SD_ok kind cs hA hrun hB c1 c2 c3 c4 c5 (fun m=>Nat.blt m l'.length) (p_all rfl c6) (fun m hm=>by rw [hβ] at hm;exact Nat.blt_eq.mpr (by omega)) (by rw [hβ];exact c7) c8 c9
theorem bg_start (hβ:β.n0=1) (hA:YC β frBg (Tr.ofList [.int .i64 n,.int .i64 H,.slice 0 0 1 len cap]) [] (hO [some (.ro .i64 zs)]) 1 far a) (h1:1≤(n:Int)∧(n:Int)≤6∧1≤(H:Int)∧(H:Int)≤4) (h2:¬ szW n H<1) (h3:¬ szW n H > 4096) (h4:FillPre (tw n H) (szW n H) (List.replicate 4096 0)):
  ∃ J' b',YC β frBg (trO (slots J' 0 (slB n H (.slice 0 0 1 len cap) 0))) [] (hO (lB0 zs n H (fillJ n H (List.replicate 4096 0) ⟨0,0,0,0,false,0⟩) (fillW n H (List.replicate 4096 0)) .nils .nils)) 8 far b'∧Steps PR (At frBg none kind cs a [.code bgBody]) (At frBg none kind cs b' todoB):=
 pcD (πl:=[0,7,3,2,4,5,6,1]) (l:=[some (.ro .i64 zs)]) (l':=lB0 zs n H (fillJ n H (List.replicate 4096 0) ⟨0,0,0,0,false,0⟩) (fillW n H (List.replicate 4096 0)) .nils .nils) hβ hA 20 8 (bits 10 0b1000000111) (XB (XF.2 h4)<|cN h3<|cN h2<|cD h1<|nilB) (by kernel_rfl) (Nat.le_of_ble_eq_true rfl) (by kernel_rfl)
theorem bg_startN (hβ:β.n0=1) (hA:YC β frBg (Tr.ofList [.int .i64 n,.int .i64 H,.nils]) [] (hO [some (.ro .i64 zs)]) 1 far a) (h1:1≤(n:Int)∧(n:Int)≤6∧1≤(H:Int)∧(H:Int)≤4) (h2:¬ szW n H<1) (h3:¬ szW n H > 4096) (h4:FillPre (tw n H) (szW n H) (List.replicate 4096 0)):
  ∃ J' b',YC β frBg (trO (slots J' 0 (slB n H (.nils) 0))) [] (hO (lB0 zs n H (fillJ n H (List.replicate 4096 0) ⟨0,0,0,0,false,0⟩) (fillW n H (List.replicate 4096 0)) .nils .nils)) 8 far b'∧Steps PR (At frBg none kind cs a [.code bgBody]) (At frBg none kind cs b' todoB):=
 pcD (πl:=[0,7,3,2,4,5,6,1]) (l:=[some (.ro .i64 zs)]) (l':=lB0 zs n H (fillJ n H (List.replicate 4096 0) ⟨0,0,0,0,false,0⟩) (fillW n H (List.replicate 4096 0)) .nils .nils) hβ hA 20 8 (bits 10 0b1000000111) (XB (XF.2 h4)<|cN h3<|cN h2<|cD h1<|nilB) (by kernel_rfl) (Nat.le_of_ble_eq_true rfl) (by kernel_rfl)
theorem bg_iter0 (hβ:β.n0=1) (hA:YC β frBg (trO (slots J 0 (slB n H (.slice 0 0 1 len cap) 0))) [] (hO (lB zs n H j ws ks hs)) 10 far a) (P:BgPre n H 0 ks hs (ks++[kB (XR (zs.getD 0 0) 1000) n 0]) (hs++[hB (XR (zs.getD 0 0) 1000) H]) ws) (g1:(0:Int)<(len:Int)) (g2:0≤(0:Int)∧(0:Int)<(len:Int)) (g3:0<zs.length):
  ∃ J' b',YC β frBg (trO (slots J' 0 (slB n H (.slice 0 0 1 len cap) 1))) [] (hO (lB zs n H (stJ (bgL n H 0 (ks++[kB (XR (zs.getD 0 0) 1000) n 0]) (hs++[hB (XR (zs.getD 0 0) 1000) H])) ws j) (stW (bgL n H 0 (ks++[kB (XR (zs.getD 0 0) 1000) n 0]) (hs++[hB (XR (zs.getD 0 0) 1000) H])) ws) (ks++[kB (XR (zs.getD 0 0) 1000) n 0]) (hs++[hB (XR (zs.getD 0 0) 1000) H]))) 10 far b'∧Steps PR (At frBg none kind cs a todoB) (At frBg none kind cs b' todoB):=
 pcD (πl:=[0,1,2,3,4,5,6,7,11,13]) (l:=lB zs n H j ws ks hs) (l':=lB zs n H (stJ (bgL n H 0 (ks++[kB (XR (zs.getD 0 0) 1000) n 0]) (hs++[hB (XR (zs.getD 0 0) 1000) H])) ws j) (stW (bgL n H 0 (ks++[kB (XR (zs.getD 0 0) 1000) n 0]) (hs++[hB (XR (zs.getD 0 0) 1000) H])) ws) (ks++[kB (XR (zs.getD 0 0) 1000) n 0]) (hs++[hB (XR (zs.getD 0 0) 1000) H])) hβ hA 81 47 (bits 256 0b1111111111111111111111111111111110111111111111000000111110000000000000111111111110000000000000000000000000000001000000000001111100000000001000000000001101111100000000001000000000001101101111100000000001000000000001101101101111100000000000000000000000000000) (cD P.c3<|cD P.p3<|cD P.c2<|cD P.p2<|cD P.c1<|cD P.p1<|cD P.c0<|cD P.p0<|cN P.z<|cN P.g2<|cN P.g1<|cN P.z<|XB (P.a6)<|cD P.a5<|cD P.a4<|cD P.a3<|cD P.a2<|cD P.a1<|cD P.h2<|cD P.h1<|cD P.k2<|cD P.k1<|cD P.hh<|cD P.hH<|cD P.hk<|cD g3<|cD g2<|cD g1<|cD P.hi<|nilB) (by kernel_rfl) (Nat.le_of_ble_eq_true rfl) (by kernel_rfl)
theorem bg_iter1 (hβ:β.n0=1) (hA:YC β frBg (trO (slots J 0 (slB n H (.slice 0 0 1 len cap) 1))) [] (hO (lB zs n H j ws ks hs)) 10 far a) (P:BgPre n H 1 ks hs (ks++[kB (XR (zs.getD 1 0) 1000) n 1]) (hs++[hB (XR (zs.getD 1 0) 1000) H]) ws) (g1:(1:Int)<(len:Int)) (g2:0≤(1:Int)∧(1:Int)<(len:Int)) (g3:1<zs.length):
  ∃ J' b',YC β frBg (trO (slots J' 0 (slB n H (.slice 0 0 1 len cap) 2))) [] (hO (lB zs n H (stJ (bgL n H 1 (ks++[kB (XR (zs.getD 1 0) 1000) n 1]) (hs++[hB (XR (zs.getD 1 0) 1000) H])) ws j) (stW (bgL n H 1 (ks++[kB (XR (zs.getD 1 0) 1000) n 1]) (hs++[hB (XR (zs.getD 1 0) 1000) H])) ws) (ks++[kB (XR (zs.getD 1 0) 1000) n 1]) (hs++[hB (XR (zs.getD 1 0) 1000) H]))) 10 far b'∧Steps PR (At frBg none kind cs a todoB) (At frBg none kind cs b' todoB):=
 pcD (πl:=[0,1,2,3,4,5,6,7,11,13]) (l:=lB zs n H j ws ks hs) (l':=lB zs n H (stJ (bgL n H 1 (ks++[kB (XR (zs.getD 1 0) 1000) n 1]) (hs++[hB (XR (zs.getD 1 0) 1000) H])) ws j) (stW (bgL n H 1 (ks++[kB (XR (zs.getD 1 0) 1000) n 1]) (hs++[hB (XR (zs.getD 1 0) 1000) H])) ws) (ks++[kB (XR (zs.getD 1 0) 1000) n 1]) (hs++[hB (XR (zs.getD 1 0) 1000) H])) hβ hA 81 47 (bits 256 0b1111111111111111111111111111111110111111111111000000111110000000000000111111111110000000000000000000000000000001000000000001111100000000001000000000001101111100000000001000000000001101101111100000000001000000000001101101101111100000000000000000000000000000) (cD P.c3<|cD P.p3<|cD P.c2<|cD P.p2<|cD P.c1<|cD P.p1<|cD P.c0<|cD P.p0<|cN P.z<|cN P.g2<|cN P.g1<|cN P.z<|XB (P.a6)<|cD P.a5<|cD P.a4<|cD P.a3<|cD P.a2<|cD P.a1<|cD P.h2<|cD P.h1<|cD P.k2<|cD P.k1<|cD P.hh<|cD P.hH<|cD P.hk<|cD g3<|cD g2<|cD g1<|cD P.hi<|nilB) (by kernel_rfl) (Nat.le_of_ble_eq_true rfl) (by kernel_rfl)
theorem bg_iter2 (hβ:β.n0=1) (hA:YC β frBg (trO (slots J 0 (slB n H (.slice 0 0 1 len cap) 2))) [] (hO (lB zs n H j ws ks hs)) 10 far a) (P:BgPre n H 2 ks hs (ks++[kB (XR (zs.getD 2 0) 1000) n 2]) (hs++[hB (XR (zs.getD 2 0) 1000) H]) ws) (g1:(2:Int)<(len:Int)) (g2:0≤(2:Int)∧(2:Int)<(len:Int)) (g3:2<zs.length):
  ∃ J' b',YC β frBg (trO (slots J' 0 (slB n H (.slice 0 0 1 len cap) 3))) [] (hO (lB zs n H (stJ (bgL n H 2 (ks++[kB (XR (zs.getD 2 0) 1000) n 2]) (hs++[hB (XR (zs.getD 2 0) 1000) H])) ws j) (stW (bgL n H 2 (ks++[kB (XR (zs.getD 2 0) 1000) n 2]) (hs++[hB (XR (zs.getD 2 0) 1000) H])) ws) (ks++[kB (XR (zs.getD 2 0) 1000) n 2]) (hs++[hB (XR (zs.getD 2 0) 1000) H]))) 10 far b'∧Steps PR (At frBg none kind cs a todoB) (At frBg none kind cs b' todoB):=
 pcD (πl:=[0,1,2,3,4,5,6,7,11,13]) (l:=lB zs n H j ws ks hs) (l':=lB zs n H (stJ (bgL n H 2 (ks++[kB (XR (zs.getD 2 0) 1000) n 2]) (hs++[hB (XR (zs.getD 2 0) 1000) H])) ws j) (stW (bgL n H 2 (ks++[kB (XR (zs.getD 2 0) 1000) n 2]) (hs++[hB (XR (zs.getD 2 0) 1000) H])) ws) (ks++[kB (XR (zs.getD 2 0) 1000) n 2]) (hs++[hB (XR (zs.getD 2 0) 1000) H])) hβ hA 81 47 (bits 256 0b1111111111111111111111111111111110111111111111000000111110000000000000111111111110000000000000000000000000000001000000000001111100000000001000000000001101111100000000001000000000001101101111100000000001000000000001101101101111100000000000000000000000000000) (cD P.c3<|cD P.p3<|cD P.c2<|cD P.p2<|cD P.c1<|cD P.p1<|cD P.c0<|cD P.p0<|cN P.z<|cN P.g2<|cN P.g1<|cN P.z<|XB (P.a6)<|cD P.a5<|cD P.a4<|cD P.a3<|cD P.a2<|cD P.a1<|cD P.h2<|cD P.h1<|cD P.k2<|cD P.k1<|cD P.hh<|cD P.hH<|cD P.hk<|cD g3<|cD g2<|cD g1<|cD P.hi<|nilB) (by kernel_rfl) (Nat.le_of_ble_eq_true rfl) (by kernel_rfl)
theorem bg_iter3 (hβ:β.n0=1) (hA:YC β frBg (trO (slots J 0 (slB n H (.slice 0 0 1 len cap) 3))) [] (hO (lB zs n H j ws ks hs)) 10 far a) (P:BgPre n H 3 ks hs (ks++[kB (XR (zs.getD 3 0) 1000) n 3]) (hs++[hB (XR (zs.getD 3 0) 1000) H]) ws) (g1:(3:Int)<(len:Int)) (g2:0≤(3:Int)∧(3:Int)<(len:Int)) (g3:3<zs.length):
  ∃ J' b',YC β frBg (trO (slots J' 0 (slB n H (.slice 0 0 1 len cap) 4))) [] (hO (lB zs n H (stJ (bgL n H 3 (ks++[kB (XR (zs.getD 3 0) 1000) n 3]) (hs++[hB (XR (zs.getD 3 0) 1000) H])) ws j) (stW (bgL n H 3 (ks++[kB (XR (zs.getD 3 0) 1000) n 3]) (hs++[hB (XR (zs.getD 3 0) 1000) H])) ws) (ks++[kB (XR (zs.getD 3 0) 1000) n 3]) (hs++[hB (XR (zs.getD 3 0) 1000) H]))) 10 far b'∧Steps PR (At frBg none kind cs a todoB) (At frBg none kind cs b' todoB):=
 pcD (πl:=[0,1,2,3,4,5,6,7,11,13]) (l:=lB zs n H j ws ks hs) (l':=lB zs n H (stJ (bgL n H 3 (ks++[kB (XR (zs.getD 3 0) 1000) n 3]) (hs++[hB (XR (zs.getD 3 0) 1000) H])) ws j) (stW (bgL n H 3 (ks++[kB (XR (zs.getD 3 0) 1000) n 3]) (hs++[hB (XR (zs.getD 3 0) 1000) H])) ws) (ks++[kB (XR (zs.getD 3 0) 1000) n 3]) (hs++[hB (XR (zs.getD 3 0) 1000) H])) hβ hA 81 47 (bits 256 0b1111111111111111111111111111111110111111111111000000111110000000000000111111111110000000000000000000000000000001000000000001111100000000001000000000001101111100000000001000000000001101101111100000000001000000000001101101101111100000000000000000000000000000) (cD P.c3<|cD P.p3<|cD P.c2<|cD P.p2<|cD P.c1<|cD P.p1<|cD P.c0<|cD P.p0<|cN P.z<|cN P.g2<|cN P.g1<|cN P.z<|XB (P.a6)<|cD P.a5<|cD P.a4<|cD P.a3<|cD P.a2<|cD P.a1<|cD P.h2<|cD P.h1<|cD P.k2<|cD P.k1<|cD P.hh<|cD P.hH<|cD P.hk<|cD g3<|cD g2<|cD g1<|cD P.hi<|nilB) (by kernel_rfl) (Nat.le_of_ble_eq_true rfl) (by kernel_rfl)
theorem bg_iter4 (hβ:β.n0=1) (hA:YC β frBg (trO (slots J 0 (slB n H (.slice 0 0 1 len cap) 4))) [] (hO (lB zs n H j ws ks hs)) 10 far a) (P:BgPre n H 4 ks hs (ks++[kB (XR (zs.getD 4 0) 1000) n 4]) (hs++[hB (XR (zs.getD 4 0) 1000) H]) ws) (g1:(4:Int)<(len:Int)) (g2:0≤(4:Int)∧(4:Int)<(len:Int)) (g3:4<zs.length):
  ∃ J' b',YC β frBg (trO (slots J' 0 (slB n H (.slice 0 0 1 len cap) 5))) [] (hO (lB zs n H (stJ (bgL n H 4 (ks++[kB (XR (zs.getD 4 0) 1000) n 4]) (hs++[hB (XR (zs.getD 4 0) 1000) H])) ws j) (stW (bgL n H 4 (ks++[kB (XR (zs.getD 4 0) 1000) n 4]) (hs++[hB (XR (zs.getD 4 0) 1000) H])) ws) (ks++[kB (XR (zs.getD 4 0) 1000) n 4]) (hs++[hB (XR (zs.getD 4 0) 1000) H]))) 10 far b'∧Steps PR (At frBg none kind cs a todoB) (At frBg none kind cs b' todoB):=
 pcD (πl:=[0,1,2,3,4,5,6,7,11,13]) (l:=lB zs n H j ws ks hs) (l':=lB zs n H (stJ (bgL n H 4 (ks++[kB (XR (zs.getD 4 0) 1000) n 4]) (hs++[hB (XR (zs.getD 4 0) 1000) H])) ws j) (stW (bgL n H 4 (ks++[kB (XR (zs.getD 4 0) 1000) n 4]) (hs++[hB (XR (zs.getD 4 0) 1000) H])) ws) (ks++[kB (XR (zs.getD 4 0) 1000) n 4]) (hs++[hB (XR (zs.getD 4 0) 1000) H])) hβ hA 81 47 (bits 256 0b1111111111111111111111111111111110111111111111000000111110000000000000111111111110000000000000000000000000000001000000000001111100000000001000000000001101111100000000001000000000001101101111100000000001000000000001101101101111100000000000000000000000000000) (cD P.c3<|cD P.p3<|cD P.c2<|cD P.p2<|cD P.c1<|cD P.p1<|cD P.c0<|cD P.p0<|cN P.z<|cN P.g2<|cN P.g1<|cN P.z<|XB (P.a6)<|cD P.a5<|cD P.a4<|cD P.a3<|cD P.a2<|cD P.a1<|cD P.h2<|cD P.h1<|cD P.k2<|cD P.k1<|cD P.hh<|cD P.hH<|cD P.hk<|cD g3<|cD g2<|cD g1<|cD P.hi<|nilB) (by kernel_rfl) (Nat.le_of_ble_eq_true rfl) (by kernel_rfl)
theorem bg_iter5 (hβ:β.n0=1) (hA:YC β frBg (trO (slots J 0 (slB n H (.slice 0 0 1 len cap) 5))) [] (hO (lB zs n H j ws ks hs)) 10 far a) (P:BgPre n H 5 ks hs (ks++[kB (XR (zs.getD 5 0) 1000) n 5]) (hs++[hB (XR (zs.getD 5 0) 1000) H]) ws) (g1:(5:Int)<(len:Int)) (g2:0≤(5:Int)∧(5:Int)<(len:Int)) (g3:5<zs.length):
  ∃ J' b',YC β frBg (trO (slots J' 0 (slB n H (.slice 0 0 1 len cap) 6))) [] (hO (lB zs n H (stJ (bgL n H 5 (ks++[kB (XR (zs.getD 5 0) 1000) n 5]) (hs++[hB (XR (zs.getD 5 0) 1000) H])) ws j) (stW (bgL n H 5 (ks++[kB (XR (zs.getD 5 0) 1000) n 5]) (hs++[hB (XR (zs.getD 5 0) 1000) H])) ws) (ks++[kB (XR (zs.getD 5 0) 1000) n 5]) (hs++[hB (XR (zs.getD 5 0) 1000) H]))) 10 far b'∧Steps PR (At frBg none kind cs a todoB) (At frBg none kind cs b' todoB):=
 pcD (πl:=[0,1,2,3,4,5,6,7,11,13]) (l:=lB zs n H j ws ks hs) (l':=lB zs n H (stJ (bgL n H 5 (ks++[kB (XR (zs.getD 5 0) 1000) n 5]) (hs++[hB (XR (zs.getD 5 0) 1000) H])) ws j) (stW (bgL n H 5 (ks++[kB (XR (zs.getD 5 0) 1000) n 5]) (hs++[hB (XR (zs.getD 5 0) 1000) H])) ws) (ks++[kB (XR (zs.getD 5 0) 1000) n 5]) (hs++[hB (XR (zs.getD 5 0) 1000) H])) hβ hA 81 47 (bits 256 0b1111111111111111111111111111111110111111111111000000111110000000000000111111111110000000000000000000000000000001000000000001111100000000001000000000001101111100000000001000000000001101101111100000000001000000000001101101101111100000000000000000000000000000) (cD P.c3<|cD P.p3<|cD P.c2<|cD P.p2<|cD P.c1<|cD P.p1<|cD P.c0<|cD P.p0<|cN P.z<|cN P.g2<|cN P.g1<|cN P.z<|XB (P.a6)<|cD P.a5<|cD P.a4<|cD P.a3<|cD P.a2<|cD P.a1<|cD P.h2<|cD P.h1<|cD P.k2<|cD P.k1<|cD P.hh<|cD P.hH<|cD P.hk<|cD g3<|cD g2<|cD g1<|cD P.hi<|nilB) (by kernel_rfl) (Nat.le_of_ble_eq_true rfl) (by kernel_rfl)
theorem bg_over0 (hβ:β.n0=1) (hA:YC β frBg (trO (slots J 0 (slB n H (.slice 0 0 1 len cap) 0))) [] (hO (lB zs n H j ws ks hs)) 10 far a) (P:BgPre n H 0 ks hs (ks++[kB 0 n 0]) (hs++[hB 0 H]) ws) (g1:¬ (0:Int)<(len:Int)):
  ∃ J' b',YC β frBg (trO (slots J' 0 (slB n H (.slice 0 0 1 len cap) 1))) [] (hO (lB zs n H (stJ (bgL n H 0 (ks++[kB 0 n 0]) (hs++[hB 0 H])) ws j) (stW (bgL n H 0 (ks++[kB 0 n 0]) (hs++[hB 0 H])) ws) (ks++[kB 0 n 0]) (hs++[hB 0 H]))) 10 far b'∧Steps PR (At frBg none kind cs a todoB) (At frBg none kind cs b' todoB):=
 pcD (πl:=[0,1,2,3,4,5,6,7,11,13]) (l:=lB zs n H j ws ks hs) (l':=lB zs n H (stJ (bgL n H 0 (ks++[kB 0 n 0]) (hs++[hB 0 H])) ws j) (stW (bgL n H 0 (ks++[kB 0 n 0]) (hs++[hB 0 H])) ws) (ks++[kB 0 n 0]) (hs++[hB 0 H])) hβ hA 81 47 (bits 253 0b1011111111111111111111111111110111111111111000000111110000000000000111111111110000000000000000000000000000001000000000001111100000000001000000000001101111100000000001000000000001101101111100000000001000000000001101101101111100000000000000000000000000000) (cD P.c3<|cD P.p3<|cD P.c2<|cD P.p2<|cD P.c1<|cD P.p1<|cD P.c0<|cD P.p0<|cN P.z<|cN P.g2<|cN P.g1<|cN P.z<|XB (P.a6)<|cD P.a5<|cD P.a4<|cD P.a3<|cD P.a2<|cD P.a1<|cD P.h2<|cD P.h1<|cD P.k2<|cD P.k1<|cD P.hh<|cD P.hH<|cD P.hk<|cN g1<|cD P.hi<|nilB) (by kernel_rfl) (Nat.le_of_ble_eq_true rfl) (by kernel_rfl)
theorem bg_over1 (hβ:β.n0=1) (hA:YC β frBg (trO (slots J 0 (slB n H (.slice 0 0 1 len cap) 1))) [] (hO (lB zs n H j ws ks hs)) 10 far a) (P:BgPre n H 1 ks hs (ks++[kB 0 n 1]) (hs++[hB 0 H]) ws) (g1:¬ (1:Int)<(len:Int)):
  ∃ J' b',YC β frBg (trO (slots J' 0 (slB n H (.slice 0 0 1 len cap) 2))) [] (hO (lB zs n H (stJ (bgL n H 1 (ks++[kB 0 n 1]) (hs++[hB 0 H])) ws j) (stW (bgL n H 1 (ks++[kB 0 n 1]) (hs++[hB 0 H])) ws) (ks++[kB 0 n 1]) (hs++[hB 0 H]))) 10 far b'∧Steps PR (At frBg none kind cs a todoB) (At frBg none kind cs b' todoB):=
 pcD (πl:=[0,1,2,3,4,5,6,7,11,13]) (l:=lB zs n H j ws ks hs) (l':=lB zs n H (stJ (bgL n H 1 (ks++[kB 0 n 1]) (hs++[hB 0 H])) ws j) (stW (bgL n H 1 (ks++[kB 0 n 1]) (hs++[hB 0 H])) ws) (ks++[kB 0 n 1]) (hs++[hB 0 H])) hβ hA 81 47 (bits 253 0b1011111111111111111111111111110111111111111000000111110000000000000111111111110000000000000000000000000000001000000000001111100000000001000000000001101111100000000001000000000001101101111100000000001000000000001101101101111100000000000000000000000000000) (cD P.c3<|cD P.p3<|cD P.c2<|cD P.p2<|cD P.c1<|cD P.p1<|cD P.c0<|cD P.p0<|cN P.z<|cN P.g2<|cN P.g1<|cN P.z<|XB (P.a6)<|cD P.a5<|cD P.a4<|cD P.a3<|cD P.a2<|cD P.a1<|cD P.h2<|cD P.h1<|cD P.k2<|cD P.k1<|cD P.hh<|cD P.hH<|cD P.hk<|cN g1<|cD P.hi<|nilB) (by kernel_rfl) (Nat.le_of_ble_eq_true rfl) (by kernel_rfl)
theorem bg_over2 (hβ:β.n0=1) (hA:YC β frBg (trO (slots J 0 (slB n H (.slice 0 0 1 len cap) 2))) [] (hO (lB zs n H j ws ks hs)) 10 far a) (P:BgPre n H 2 ks hs (ks++[kB 0 n 2]) (hs++[hB 0 H]) ws) (g1:¬ (2:Int)<(len:Int)):
  ∃ J' b',YC β frBg (trO (slots J' 0 (slB n H (.slice 0 0 1 len cap) 3))) [] (hO (lB zs n H (stJ (bgL n H 2 (ks++[kB 0 n 2]) (hs++[hB 0 H])) ws j) (stW (bgL n H 2 (ks++[kB 0 n 2]) (hs++[hB 0 H])) ws) (ks++[kB 0 n 2]) (hs++[hB 0 H]))) 10 far b'∧Steps PR (At frBg none kind cs a todoB) (At frBg none kind cs b' todoB):=
 pcD (πl:=[0,1,2,3,4,5,6,7,11,13]) (l:=lB zs n H j ws ks hs) (l':=lB zs n H (stJ (bgL n H 2 (ks++[kB 0 n 2]) (hs++[hB 0 H])) ws j) (stW (bgL n H 2 (ks++[kB 0 n 2]) (hs++[hB 0 H])) ws) (ks++[kB 0 n 2]) (hs++[hB 0 H])) hβ hA 81 47 (bits 253 0b1011111111111111111111111111110111111111111000000111110000000000000111111111110000000000000000000000000000001000000000001111100000000001000000000001101111100000000001000000000001101101111100000000001000000000001101101101111100000000000000000000000000000) (cD P.c3<|cD P.p3<|cD P.c2<|cD P.p2<|cD P.c1<|cD P.p1<|cD P.c0<|cD P.p0<|cN P.z<|cN P.g2<|cN P.g1<|cN P.z<|XB (P.a6)<|cD P.a5<|cD P.a4<|cD P.a3<|cD P.a2<|cD P.a1<|cD P.h2<|cD P.h1<|cD P.k2<|cD P.k1<|cD P.hh<|cD P.hH<|cD P.hk<|cN g1<|cD P.hi<|nilB) (by kernel_rfl) (Nat.le_of_ble_eq_true rfl) (by kernel_rfl)
theorem bg_over3 (hβ:β.n0=1) (hA:YC β frBg (trO (slots J 0 (slB n H (.slice 0 0 1 len cap) 3))) [] (hO (lB zs n H j ws ks hs)) 10 far a) (P:BgPre n H 3 ks hs (ks++[kB 0 n 3]) (hs++[hB 0 H]) ws) (g1:¬ (3:Int)<(len:Int)):
  ∃ J' b',YC β frBg (trO (slots J' 0 (slB n H (.slice 0 0 1 len cap) 4))) [] (hO (lB zs n H (stJ (bgL n H 3 (ks++[kB 0 n 3]) (hs++[hB 0 H])) ws j) (stW (bgL n H 3 (ks++[kB 0 n 3]) (hs++[hB 0 H])) ws) (ks++[kB 0 n 3]) (hs++[hB 0 H]))) 10 far b'∧Steps PR (At frBg none kind cs a todoB) (At frBg none kind cs b' todoB):=
 pcD (πl:=[0,1,2,3,4,5,6,7,11,13]) (l:=lB zs n H j ws ks hs) (l':=lB zs n H (stJ (bgL n H 3 (ks++[kB 0 n 3]) (hs++[hB 0 H])) ws j) (stW (bgL n H 3 (ks++[kB 0 n 3]) (hs++[hB 0 H])) ws) (ks++[kB 0 n 3]) (hs++[hB 0 H])) hβ hA 81 47 (bits 253 0b1011111111111111111111111111110111111111111000000111110000000000000111111111110000000000000000000000000000001000000000001111100000000001000000000001101111100000000001000000000001101101111100000000001000000000001101101101111100000000000000000000000000000) (cD P.c3<|cD P.p3<|cD P.c2<|cD P.p2<|cD P.c1<|cD P.p1<|cD P.c0<|cD P.p0<|cN P.z<|cN P.g2<|cN P.g1<|cN P.z<|XB (P.a6)<|cD P.a5<|cD P.a4<|cD P.a3<|cD P.a2<|cD P.a1<|cD P.h2<|cD P.h1<|cD P.k2<|cD P.k1<|cD P.hh<|cD P.hH<|cD P.hk<|cN g1<|cD P.hi<|nilB) (by kernel_rfl) (Nat.le_of_ble_eq_true rfl) (by kernel_rfl)
theorem bg_over4 (hβ:β.n0=1) (hA:YC β frBg (trO (slots J 0 (slB n H (.slice 0 0 1 len cap) 4))) [] (hO (lB zs n H j ws ks hs)) 10 far a) (P:BgPre n H 4 ks hs (ks++[kB 0 n 4]) (hs++[hB 0 H]) ws) (g1:¬ (4:Int)<(len:Int)):
  ∃ J' b',YC β frBg (trO (slots J' 0 (slB n H (.slice 0 0 1 len cap) 5))) [] (hO (lB zs n H (stJ (bgL n H 4 (ks++[kB 0 n 4]) (hs++[hB 0 H])) ws j) (stW (bgL n H 4 (ks++[kB 0 n 4]) (hs++[hB 0 H])) ws) (ks++[kB 0 n 4]) (hs++[hB 0 H]))) 10 far b'∧Steps PR (At frBg none kind cs a todoB) (At frBg none kind cs b' todoB):=
 pcD (πl:=[0,1,2,3,4,5,6,7,11,13]) (l:=lB zs n H j ws ks hs) (l':=lB zs n H (stJ (bgL n H 4 (ks++[kB 0 n 4]) (hs++[hB 0 H])) ws j) (stW (bgL n H 4 (ks++[kB 0 n 4]) (hs++[hB 0 H])) ws) (ks++[kB 0 n 4]) (hs++[hB 0 H])) hβ hA 81 47 (bits 253 0b1011111111111111111111111111110111111111111000000111110000000000000111111111110000000000000000000000000000001000000000001111100000000001000000000001101111100000000001000000000001101101111100000000001000000000001101101101111100000000000000000000000000000) (cD P.c3<|cD P.p3<|cD P.c2<|cD P.p2<|cD P.c1<|cD P.p1<|cD P.c0<|cD P.p0<|cN P.z<|cN P.g2<|cN P.g1<|cN P.z<|XB (P.a6)<|cD P.a5<|cD P.a4<|cD P.a3<|cD P.a2<|cD P.a1<|cD P.h2<|cD P.h1<|cD P.k2<|cD P.k1<|cD P.hh<|cD P.hH<|cD P.hk<|cN g1<|cD P.hi<|nilB) (by kernel_rfl) (Nat.le_of_ble_eq_true rfl) (by kernel_rfl)
theorem bg_over5 (hβ:β.n0=1) (hA:YC β frBg (trO (slots J 0 (slB n H (.slice 0 0 1 len cap) 5))) [] (hO (lB zs n H j ws ks hs)) 10 far a) (P:BgPre n H 5 ks hs (ks++[kB 0 n 5]) (hs++[hB 0 H]) ws) (g1:¬ (5:Int)<(len:Int)):
  ∃ J' b',YC β frBg (trO (slots J' 0 (slB n H (.slice 0 0 1 len cap) 6))) [] (hO (lB zs n H (stJ (bgL n H 5 (ks++[kB 0 n 5]) (hs++[hB 0 H])) ws j) (stW (bgL n H 5 (ks++[kB 0 n 5]) (hs++[hB 0 H])) ws) (ks++[kB 0 n 5]) (hs++[hB 0 H]))) 10 far b'∧Steps PR (At frBg none kind cs a todoB) (At frBg none kind cs b' todoB):=
 pcD (πl:=[0,1,2,3,4,5,6,7,11,13]) (l:=lB zs n H j ws ks hs) (l':=lB zs n H (stJ (bgL n H 5 (ks++[kB 0 n 5]) (hs++[hB 0 H])) ws j) (stW (bgL n H 5 (ks++[kB 0 n 5]) (hs++[hB 0 H])) ws) (ks++[kB 0 n 5]) (hs++[hB 0 H])) hβ hA 81 47 (bits 253 0b1011111111111111111111111111110111111111111000000111110000000000000111111111110000000000000000000000000000001000000000001111100000000001000000000001101111100000000001000000000001101101111100000000001000000000001101101101111100000000000000000000000000000) (cD P.c3<|cD P.p3<|cD P.c2<|cD P.p2<|cD P.c1<|cD P.p1<|cD P.c0<|cD P.p0<|cN P.z<|cN P.g2<|cN P.g1<|cN P.z<|XB (P.a6)<|cD P.a5<|cD P.a4<|cD P.a3<|cD P.a2<|cD P.a1<|cD P.h2<|cD P.h1<|cD P.k2<|cD P.k1<|cD P.hh<|cD P.hH<|cD P.hk<|cN g1<|cD P.hi<|nilB) (by kernel_rfl) (Nat.le_of_ble_eq_true rfl) (by kernel_rfl)
theorem bg_none0 (hβ:β.n0=1) (hA:YC β frBg (trO (slots J 0 (slB n H (.nils) 0))) [] (hO (lB zs n H j ws ks hs)) 10 far a) (P:BgPre n H 0 ks hs (ks++[kB 0 n 0]) (hs++[hB 0 H]) ws):
  ∃ J' b',YC β frBg (trO (slots J' 0 (slB n H (.nils) 1))) [] (hO (lB zs n H (stJ (bgL n H 0 (ks++[kB 0 n 0]) (hs++[hB 0 H])) ws j) (stW (bgL n H 0 (ks++[kB 0 n 0]) (hs++[hB 0 H])) ws) (ks++[kB 0 n 0]) (hs++[hB 0 H]))) 10 far b'∧Steps PR (At frBg none kind cs a todoB) (At frBg none kind cs b' todoB):=
 pcD (πl:=[0,1,2,3,4,5,6,7,11,13]) (l:=lB zs n H j ws ks hs) (l':=lB zs n H (stJ (bgL n H 0 (ks++[kB 0 n 0]) (hs++[hB 0 H])) ws j) (stW (bgL n H 0 (ks++[kB 0 n 0]) (hs++[hB 0 H])) ws) (ks++[kB 0 n 0]) (hs++[hB 0 H])) hβ hA 81 47 (bits 253 0b1011111111111111111111111111110111111111111000000111110000000000000111111111110000000000000000000000000000001000000000001111100000000001000000000001101111100000000001000000000001101101111100000000001000000000001101101101111100000000000000000000000000000) (cD P.c3<|cD P.p3<|cD P.c2<|cD P.p2<|cD P.c1<|cD P.p1<|cD P.c0<|cD P.p0<|cN P.z<|cN P.g2<|cN P.g1<|cN P.z<|XB (P.a6)<|cD P.a5<|cD P.a4<|cD P.a3<|cD P.a2<|cD P.a1<|cD P.h2<|cD P.h1<|cD P.k2<|cD P.k1<|cD P.hh<|cD P.hH<|cD P.hk<|cD P.hi<|nilB) (by kernel_rfl) (Nat.le_of_ble_eq_true rfl) (by kernel_rfl)
theorem bg_none1 (hβ:β.n0=1) (hA:YC β frBg (trO (slots J 0 (slB n H (.nils) 1))) [] (hO (lB zs n H j ws ks hs)) 10 far a) (P:BgPre n H 1 ks hs (ks++[kB 0 n 1]) (hs++[hB 0 H]) ws):
  ∃ J' b',YC β frBg (trO (slots J' 0 (slB n H (.nils) 2))) [] (hO (lB zs n H (stJ (bgL n H 1 (ks++[kB 0 n 1]) (hs++[hB 0 H])) ws j) (stW (bgL n H 1 (ks++[kB 0 n 1]) (hs++[hB 0 H])) ws) (ks++[kB 0 n 1]) (hs++[hB 0 H]))) 10 far b'∧Steps PR (At frBg none kind cs a todoB) (At frBg none kind cs b' todoB):=
 pcD (πl:=[0,1,2,3,4,5,6,7,11,13]) (l:=lB zs n H j ws ks hs) (l':=lB zs n H (stJ (bgL n H 1 (ks++[kB 0 n 1]) (hs++[hB 0 H])) ws j) (stW (bgL n H 1 (ks++[kB 0 n 1]) (hs++[hB 0 H])) ws) (ks++[kB 0 n 1]) (hs++[hB 0 H])) hβ hA 81 47 (bits 253 0b1011111111111111111111111111110111111111111000000111110000000000000111111111110000000000000000000000000000001000000000001111100000000001000000000001101111100000000001000000000001101101111100000000001000000000001101101101111100000000000000000000000000000) (cD P.c3<|cD P.p3<|cD P.c2<|cD P.p2<|cD P.c1<|cD P.p1<|cD P.c0<|cD P.p0<|cN P.z<|cN P.g2<|cN P.g1<|cN P.z<|XB (P.a6)<|cD P.a5<|cD P.a4<|cD P.a3<|cD P.a2<|cD P.a1<|cD P.h2<|cD P.h1<|cD P.k2<|cD P.k1<|cD P.hh<|cD P.hH<|cD P.hk<|cD P.hi<|nilB) (by kernel_rfl) (Nat.le_of_ble_eq_true rfl) (by kernel_rfl)
theorem bg_none2 (hβ:β.n0=1) (hA:YC β frBg (trO (slots J 0 (slB n H (.nils) 2))) [] (hO (lB zs n H j ws ks hs)) 10 far a) (P:BgPre n H 2 ks hs (ks++[kB 0 n 2]) (hs++[hB 0 H]) ws):
  ∃ J' b',YC β frBg (trO (slots J' 0 (slB n H (.nils) 3))) [] (hO (lB zs n H (stJ (bgL n H 2 (ks++[kB 0 n 2]) (hs++[hB 0 H])) ws j) (stW (bgL n H 2 (ks++[kB 0 n 2]) (hs++[hB 0 H])) ws) (ks++[kB 0 n 2]) (hs++[hB 0 H]))) 10 far b'∧Steps PR (At frBg none kind cs a todoB) (At frBg none kind cs b' todoB):=
 pcD (πl:=[0,1,2,3,4,5,6,7,11,13]) (l:=lB zs n H j ws ks hs) (l':=lB zs n H (stJ (bgL n H 2 (ks++[kB 0 n 2]) (hs++[hB 0 H])) ws j) (stW (bgL n H 2 (ks++[kB 0 n 2]) (hs++[hB 0 H])) ws) (ks++[kB 0 n 2]) (hs++[hB 0 H])) hβ hA 81 47 (bits 253 0b1011111111111111111111111111110111111111111000000111110000000000000111111111110000000000000000000000000000001000000000001111100000000001000000000001101111100000000001000000000001101101111100000000001000000000001101101101111100000000000000000000000000000) (cD P.c3<|cD P.p3<|cD P.c2<|cD P.p2<|cD P.c1<|cD P.p1<|cD P.c0<|cD P.p0<|cN P.z<|cN P.g2<|cN P.g1<|cN P.z<|XB (P.a6)<|cD P.a5<|cD P.a4<|cD P.a3<|cD P.a2<|cD P.a1<|cD P.h2<|cD P.h1<|cD P.k2<|cD P.k1<|cD P.hh<|cD P.hH<|cD P.hk<|cD P.hi<|nilB) (by kernel_rfl) (Nat.le_of_ble_eq_true rfl) (by kernel_rfl)
theorem bg_none3 (hβ:β.n0=1) (hA:YC β frBg (trO (slots J 0 (slB n H (.nils) 3))) [] (hO (lB zs n H j ws ks hs)) 10 far a) (P:BgPre n H 3 ks hs (ks++[kB 0 n 3]) (hs++[hB 0 H]) ws):
  ∃ J' b',YC β frBg (trO (slots J' 0 (slB n H (.nils) 4))) [] (hO (lB zs n H (stJ (bgL n H 3 (ks++[kB 0 n 3]) (hs++[hB 0 H])) ws j) (stW (bgL n H 3 (ks++[kB 0 n 3]) (hs++[hB 0 H])) ws) (ks++[kB 0 n 3]) (hs++[hB 0 H]))) 10 far b'∧Steps PR (At frBg none kind cs a todoB) (At frBg none kind cs b' todoB):=
 pcD (πl:=[0,1,2,3,4,5,6,7,11,13]) (l:=lB zs n H j ws ks hs) (l':=lB zs n H (stJ (bgL n H 3 (ks++[kB 0 n 3]) (hs++[hB 0 H])) ws j) (stW (bgL n H 3 (ks++[kB 0 n 3]) (hs++[hB 0 H])) ws) (ks++[kB 0 n 3]) (hs++[hB 0 H])) hβ hA 81 47 (bits 253 0b1011111111111111111111111111110111111111111000000111110000000000000111111111110000000000000000000000000000001000000000001111100000000001000000000001101111100000000001000000000001101101111100000000001000000000001101101101111100000000000000000000000000000) (cD P.c3<|cD P.p3<|cD P.c2<|cD P.p2<|cD P.c1<|cD P.p1<|cD P.c0<|cD P.p0<|cN P.z<|cN P.g2<|cN P.g1<|cN P.z<|XB (P.a6)<|cD P.a5<|cD P.a4<|cD P.a3<|cD P.a2<|cD P.a1<|cD P.h2<|cD P.h1<|cD P.k2<|cD P.k1<|cD P.hh<|cD P.hH<|cD P.hk<|cD P.hi<|nilB) (by kernel_rfl) (Nat.le_of_ble_eq_true rfl) (by kernel_rfl)
theorem bg_none4 (hβ:β.n0=1) (hA:YC β frBg (trO (slots J 0 (slB n H (.nils) 4))) [] (hO (lB zs n H j ws ks hs)) 10 far a) (P:BgPre n H 4 ks hs (ks++[kB 0 n 4]) (hs++[hB 0 H]) ws):
  ∃ J' b',YC β frBg (trO (slots J' 0 (slB n H (.nils) 5))) [] (hO (lB zs n H (stJ (bgL n H 4 (ks++[kB 0 n 4]) (hs++[hB 0 H])) ws j) (stW (bgL n H 4 (ks++[kB 0 n 4]) (hs++[hB 0 H])) ws) (ks++[kB 0 n 4]) (hs++[hB 0 H]))) 10 far b'∧Steps PR (At frBg none kind cs a todoB) (At frBg none kind cs b' todoB):=
 pcD (πl:=[0,1,2,3,4,5,6,7,11,13]) (l:=lB zs n H j ws ks hs) (l':=lB zs n H (stJ (bgL n H 4 (ks++[kB 0 n 4]) (hs++[hB 0 H])) ws j) (stW (bgL n H 4 (ks++[kB 0 n 4]) (hs++[hB 0 H])) ws) (ks++[kB 0 n 4]) (hs++[hB 0 H])) hβ hA 81 47 (bits 253 0b1011111111111111111111111111110111111111111000000111110000000000000111111111110000000000000000000000000000001000000000001111100000000001000000000001101111100000000001000000000001101101111100000000001000000000001101101101111100000000000000000000000000000) (cD P.c3<|cD P.p3<|cD P.c2<|cD P.p2<|cD P.c1<|cD P.p1<|cD P.c0<|cD P.p0<|cN P.z<|cN P.g2<|cN P.g1<|cN P.z<|XB (P.a6)<|cD P.a5<|cD P.a4<|cD P.a3<|cD P.a2<|cD P.a1<|cD P.h2<|cD P.h1<|cD P.k2<|cD P.k1<|cD P.hh<|cD P.hH<|cD P.hk<|cD P.hi<|nilB) (by kernel_rfl) (Nat.le_of_ble_eq_true rfl) (by kernel_rfl)
theorem bg_none5 (hβ:β.n0=1) (hA:YC β frBg (trO (slots J 0 (slB n H (.nils) 5))) [] (hO (lB zs n H j ws ks hs)) 10 far a) (P:BgPre n H 5 ks hs (ks++[kB 0 n 5]) (hs++[hB 0 H]) ws):
  ∃ J' b',YC β frBg (trO (slots J' 0 (slB n H (.nils) 6))) [] (hO (lB zs n H (stJ (bgL n H 5 (ks++[kB 0 n 5]) (hs++[hB 0 H])) ws j) (stW (bgL n H 5 (ks++[kB 0 n 5]) (hs++[hB 0 H])) ws) (ks++[kB 0 n 5]) (hs++[hB 0 H]))) 10 far b'∧Steps PR (At frBg none kind cs a todoB) (At frBg none kind cs b' todoB):=
 pcD (πl:=[0,1,2,3,4,5,6,7,11,13]) (l:=lB zs n H j ws ks hs) (l':=lB zs n H (stJ (bgL n H 5 (ks++[kB 0 n 5]) (hs++[hB 0 H])) ws j) (stW (bgL n H 5 (ks++[kB 0 n 5]) (hs++[hB 0 H])) ws) (ks++[kB 0 n 5]) (hs++[hB 0 H])) hβ hA 81 47 (bits 253 0b1011111111111111111111111111110111111111111000000111110000000000000111111111110000000000000000000000000000001000000000001111100000000001000000000001101111100000000001000000000001101101111100000000001000000000001101101101111100000000000000000000000000000) (cD P.c3<|cD P.p3<|cD P.c2<|cD P.p2<|cD P.c1<|cD P.p1<|cD P.c0<|cD P.p0<|cN P.z<|cN P.g2<|cN P.g1<|cN P.z<|XB (P.a6)<|cD P.a5<|cD P.a4<|cD P.a3<|cD P.a2<|cD P.a1<|cD P.h2<|cD P.h1<|cD P.k2<|cD P.k1<|cD P.hh<|cD P.hH<|cD P.hk<|cD P.hi<|nilB) (by kernel_rfl) (Nat.le_of_ble_eq_true rfl) (by kernel_rfl)
def slD:List (Option V):=List.replicate 6 none++[some (.ptr 1 0 0 0)]++List.replicate 113 none
theorem bg_exit {x:V} {i:Int} (hx:x=.nils∨∃ len cap,x=.slice 0 0 1 len cap) (hβ:β.n0=1) (hA:YC β frBg (trO (slots J 0 (slB n H x i))) [] (hO (lB zs n H j ws ks hs)) 10 far a) (h:¬ i<(n:Int)):
  ∃ J' b',YC β frBg (trO (slots J' 0 slD)) [] (hO (l0 zs n H j ws ks hs)) 9 far b'∧Steps PR (At frBg none kind cs a todoB) (At frBg none kind cs b' [.code .ret]):=by
 rcases hx with rfl|⟨len,cap,rfl⟩ <;>
 exact pcD (πl:=[0,1,2,3,8,9,4,5,6]) (l:=lB zs n H j ws ks hs) (l':=l0 zs n H j ws ks hs) hβ hA 7 10 (bits 1 0b0) (XB (nT h) nilB) (by kernel_rfl) (Nat.le_of_ble_eq_true rfl) (by kernel_rfl)
end
end Go.Sx
