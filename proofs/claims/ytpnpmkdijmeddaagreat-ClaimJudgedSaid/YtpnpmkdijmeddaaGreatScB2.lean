/- A crew over a tower: whose firsts begin anew. Printed by gen_B2.py. -/
import Derived.Test.YtpnpmkdijmeddaaGreatSxZb
set_option maxRecDepth 100000
namespace Go.Sx
open Go.Proofs
def lrN0 (zs:List Int) (σ:CS) (f:Nat→Nat):List (Option Ob):=[some (.ro .i64 zs),some (crewM f σ),some (memM (f 3) σ.sz σ.j),some (XL σ.ws),some (rowU σ.ks),some (rowI σ.hs),
 some (.mem (.cells [ksV (f 27) σ.c0,ksV (f 32) σ.c1]) 58 (some 1)),some (.mem (.cells [.nils,.osl (f 13) 1,.osl (f 14) 1,.osl (f 15) 1]) 22 (some 1)),some (rowI [σ.o0,σ.o1,σ.o2,σ.o3]),
 some (.mem (.cells (allV f σ.io)) 40 (some 1)),some (rowI σ.gt),some (callsOb σ.cl),none,some (rowI σ.f1),some (rowI σ.f2),some (rowI σ.f3),
 oldO σ.io 0,oldO σ.io 1,oldO σ.io 2,oldO σ.io 3,oldO σ.io 4,oldO σ.io 5,
 insO f σ.io,ifdO (f 24) σ.io,itdO σ.io,ireO (f 25) (f 26) σ.io,ipuO σ.io,
 claO (f 28) (f 30) σ.c0,cfdO (f 29) σ.c0,ctdO σ.c0,creO (f 30) (f 31) σ.c0,cpuO σ.c0,
 claO (f 33) (f 35) σ.c1,cfdO (f 34) σ.c1,ctdO σ.c1,creO (f 35) (f 36) σ.c1,cpuO σ.c1,pekO σ.pk]
def lN0 (zs:List Int) (σ:CS):List (Option Ob):=lrN0 zs σ fun m=>m
def lG0 (zs:List Int) (σ:CS):List (Option Ob):=[some (.ro .i64 zs),some (crewM (fun m=>m) σ),some (memM (3) σ.sz σ.j),some (XL σ.ws),some (rowU σ.ks),some (rowI σ.hs),
 some (.mem (.cells [ksV (27) σ.c0,ksV (32) σ.c1]) 58 (some 1)),some (.mem (.cells [.osl 38 1,.osl (13) 1,.osl (14) 1,.osl (15) 1]) 22 (some 1)),some (rowI [σ.o0,σ.o1,σ.o2,σ.o3]),
 some (.mem (.cells (allV (fun m=>m) σ.io)) 40 (some 1)),some (rowI σ.gt),some (callsOb σ.cl),none,some (rowI σ.f1),some (rowI σ.f2),some (rowI σ.f3),
 oldO σ.io 0,oldO σ.io 1,oldO σ.io 2,oldO σ.io 3,oldO σ.io 4,oldO σ.io 5,
 insO (fun m=>m) σ.io,ifdO (24) σ.io,itdO σ.io,ireO (25) (26) σ.io,ipuO σ.io,
 claO (28) (30) σ.c0,cfdO (29) σ.c0,ctdO σ.c0,creO (30) (31) σ.c0,cpuO σ.c0,
 claO (33) (35) σ.c1,cfdO (34) σ.c1,ctdO σ.c1,creO (35) (36) σ.c1,cpuO σ.c1,pekO σ.pk]++[some (rowI [])]
theorem lrn_at0 (zs:List Int) (σ:CS) (f:Nat→Nat):(lN0 zs σ).map (Option.map (Ob.ren f))=lrN0 zs σ f:=by
 have h:=lr_at zs σ f
 have g:∀ m,m≠7→m≠12→((lN0 zs σ).map (Option.map (Ob.ren f)))[m]?=((lA zs σ).map (Option.map (Ob.ren f)))[m]?:=fun m h1 h2=>by
  match m,h1,h2 with
  |0,_,_|1,_,_|2,_,_|3,_,_|4,_,_|5,_,_|6,_,_|8,_,_|9,_,_|10,_,_|11,_,_|13,_,_|14,_,_|15,_,_|16,_,_|17,_,_|18,_,_|19,_,_|20,_,_|21,_,_|22,_,_|23,_,_|24,_,_|25,_,_|26,_,_|27,_,_|28,_,_|29,_,_|30,_,_|31,_,_|32,_,_|33,_,_|34,_,_|35,_,_|36,_,_|37,_,_=>rfl
  |7,h,_=>exact absurd rfl h
  |12,_,h=>exact absurd rfl h
  |m+38,_,_=>rfl
 refine List.ext_getElem? fun m=>?_
 by_cases h1:m=7
 ·subst h1;rfl
 by_cases h2:m=12
 ·subst h2;rfl
 rw [g m h1 h2,h]
 match m,h1,h2 with
 |0,_,_|1,_,_|2,_,_|3,_,_|4,_,_|5,_,_|6,_,_|8,_,_|9,_,_|10,_,_|11,_,_|13,_,_|14,_,_|15,_,_|16,_,_|17,_,_|18,_,_|19,_,_|20,_,_|21,_,_|22,_,_|23,_,_|24,_,_|25,_,_|26,_,_|27,_,_|28,_,_|29,_,_|30,_,_|31,_,_|32,_,_|33,_,_|34,_,_|35,_,_|36,_,_|37,_,_=>rfl
 |7,h,_=>exact absurd rfl h
 |12,_,h=>exact absurd rfl h
 |m+38,_,_=>rfl
def pN0 (σ:CS) (m:Nat):Bool:=cond (Nat.beq m 12) false (pA σ m)
theorem pN0_live (zs:List Int) (σ:CS) (n0:Nat) (m:Nat) (h:pN0 σ m=true):m<(lN0 zs σ).length∧(m<n0∨∃ o,((lN0 zs σ)[m]?).join=some o):=by
 unfold pN0 at h
 cases hb:Nat.beq m 12 with
 |true=>rw [hb] at h;cases h
 |false=>
  rw [hb] at h
  obtain ⟨g1,g2⟩:=pA_live zs σ n0 m h
  refine ⟨g1,g2.imp id fun ⟨o,ho⟩=>?_⟩
  by_cases h7:m=7
  ·subst h7;exact ⟨_,rfl⟩
  ·have hne:m≠12:=fun e=>by subst e;cases hb
   refine ⟨o,?_⟩
   rw [← ho]
   match m,h7,hne with
   |0,_,_|1,_,_|2,_,_|3,_,_|4,_,_|5,_,_|6,_,_|8,_,_|9,_,_|10,_,_|11,_,_|13,_,_|14,_,_|15,_,_|16,_,_|17,_,_|18,_,_|19,_,_|20,_,_|21,_,_|22,_,_|23,_,_|24,_,_|25,_,_|26,_,_|27,_,_|28,_,_|29,_,_|30,_,_|31,_,_|32,_,_|33,_,_|34,_,_|35,_,_|36,_,_|37,_,_=>rfl
   |7,h,_=>exact absurd rfl h
   |12,_,h=>exact absurd rfl h
   |m+38,_,_=>rfl
theorem pN0_old {σ:CS} {n0:Nat} (h:n0=9) (m:Nat) (hm:m<n0):pN0 σ m=true:=by
 have:=pA_old (σ:=σ) h m hm
 unfold pN0
 have e:Nat.beq m 12=false:=XG (by omega)
 rw [e];exact this
theorem obsN0 (zs:List Int) (σ:CS):obsOK (pN0 σ) 0 (lN0 zs σ)=true:=by
 obtain ⟨t,sz,ks,hs,j,ws,f0,f1,f2,f3,gt,cl,o0,o1,o2,o3,ck,io,c0,c1,pk⟩:=σ
 have hall:V.namesL (pN0 ⟨t,sz,ks,hs,j,ws,f0,f1,f2,f3,gt,cl,o0,o1,o2,o3,ck,io,c0,c1,pk⟩) (allV (fun m=>m) io)=true:=by
  unfold allV
  cases hn:isN io with
  |true=>rfl
  |false=>
   refine namesL_app _ _ _ (names_takeN _ _ _ fun i v hi hv=>?_) (by cases io<;>first|rfl|cases hn)
   match i,hv with
   |0,hv|1,hv|2,hv|3,hv|4,hv|5,hv=>cases hv;exact Nat.blt_eq.mpr hi
   |i+6,hv=>simp [oldV] at hv
 have hold:∀ i o,oldO io i=some o→o=opq∧Nat.blt i (isK io)=true:=fun i o h=>by
  unfold oldO at h
  cases hb:Nat.blt i (isK io) with
  |true=>rw [hb] at h;cases h;exact ⟨rfl,rfl⟩
  |false=>rw [hb] at h;cases h
 refine obsOK_of _ _ fun m o ho=>?_
 rw [Nat.zero_add]
 match m,ho with
 |0,ho|2,ho|3,ho|4,ho|5,ho|7,ho|8,ho|10,ho|11,ho|13,ho|14,ho|15,ho=>cases ho;exact ⟨rfl,rfl,rfl⟩
 |12,ho=>cases ho
 |1,ho=>cases ho;refine ⟨rfl,rfl,?_⟩;cases io<;>cases pk<;>rfl
 |6,ho=>cases ho;refine ⟨rfl,rfl,?_⟩;cases c0<;>cases c1<;>rfl
 |9,ho=>cases ho;exact ⟨rfl,rfl,hall⟩
 |16,ho=>obtain ⟨rfl,h⟩:=hold 0 o (by simpa [lN0,lrN0] using ho);exact ⟨rfl,h,rfl⟩
 |17,ho=>obtain ⟨rfl,h⟩:=hold 1 o (by simpa [lN0,lrN0] using ho);exact ⟨rfl,h,rfl⟩
 |18,ho=>obtain ⟨rfl,h⟩:=hold 2 o (by simpa [lN0,lrN0] using ho);exact ⟨rfl,h,rfl⟩
 |19,ho=>obtain ⟨rfl,h⟩:=hold 3 o (by simpa [lN0,lrN0] using ho);exact ⟨rfl,h,rfl⟩
 |20,ho=>obtain ⟨rfl,h⟩:=hold 4 o (by simpa [lN0,lrN0] using ho);exact ⟨rfl,h,rfl⟩
 |21,ho=>obtain ⟨rfl,h⟩:=hold 5 o (by simpa [lN0,lrN0] using ho);exact ⟨rfl,h,rfl⟩
 |22,ho|23,ho|24,ho|25,ho|26,ho=>cases io<;>cases ho<;>exact ⟨rfl,rfl,rfl⟩
 |27,ho|28,ho|29,ho|30,ho|31,ho=>cases c0<;>cases ho<;>exact ⟨rfl,rfl,rfl⟩
 |32,ho|33,ho|34,ho|35,ho|36,ho=>cases c1<;>cases ho<;>exact ⟨rfl,rfl,rfl⟩
 |37,ho=>cases pk<;>cases ho<;>exact ⟨rfl,rfl,rfl⟩
 |m+38,ho=>simp [lN0,lrN0] at ho
theorem regh0 {β:Base} {kind:CallKind} {cs:List Frame} {J:Nat→V} {A:Cf} {zs:List Int} {σ:CS} {len cap:Nat} {i:Int} (hβ:β.n0=9) (hf:σ.f0=[]) (hA:YC β frPl (trO (slots J 0 (slH len cap i))) [] (hO (lN0 zs σ)) 38 far A):
  ∃ J' b',YC β frPl (trO (slots J' 0 (slH len cap i))) [] (hO (lA zs σ)) 38 far b'∧Steps PR (At frPl none kind cs A plH) (At frPl none kind cs b' plH):=by
 have h:=hA.ghost (H':=hO (lG0 zs σ)) (T':=trO (slots J 0 (slH len cap i))) (b:=.words .i64 []) (es:=1) (t:=3) (by decide) (by rw [hβ];decide) rfl rfl rfl (fun m hm=>by
  match m,hm with
  |0,_|1,_|2,_|3,_|4,_|5,_|6,_|8,_|9,_|10,_|11,_|12,_|13,_|14,_|15,_|16,_|17,_|18,_|19,_|20,_|21,_|22,_|23,_|24,_|25,_|26,_|27,_|28,_|29,_|30,_|31,_|32,_|33,_|34,_|35,_|36,_|37,_=>exact .inl rfl
  |7,_=>exact .inr ⟨_,_,_,_,rfl,rfl,.cons (.inr ⟨rfl,rfl⟩)<|.cons (.inl rfl)<|.cons (.inl rfl)<|.cons (.inl rfl)<|.nil⟩
  |38,h=>exact absurd rfl h
  |m+39,_=>exact .inl rfl) (fun u=>.inl rfl)
 obtain ⟨t,sz,ks,hs,j,ws,f0,f1,f2,f3,gt,cl,o0,o1,o2,o3,ck,io,c0,c1,pk⟩:=σ
 simp only at hf
 subst hf
 exact YC.evalX (mk:=[]) (n:=400) (m:=0) (orc:=[]) (πl:=[0,1,2,3,4,5,6,7,8,9,10,11,38,13,14,15,16,17,18,19,20,21,22,23,24,25,26,27,28,29,30,31,32,33,34,35,36,37]) (nx':=39) (hi:=far) (far:=far) (todo:=plH) (todo':=plH) (l:=lG0 zs _) (l':=lA _ _) (lr:=lrAt _ _ (πf [0,1,2,3,4,5,6,7,8,9,10,11,38,13,14,15,16,17,18,19,20,21,22,23,24,25,26,27,28,29,30,31,32,33,34,35,36,37])) (sl':=slH len cap i) (B:=true) (FP_ok 0) (SP_ok 0) _ _ h (by kernel_rfl) (lr_at _ _ _) rfl rfl rfl rfl rfl rfl (pA _) (fun m hm=>pA_live _ _ _ m hm) (pA_old hβ) (by rw [hβ];kernel_rfl) (obsA _ _) (by kernel_rfl)
def lrN1 (zs:List Int) (σ:CS) (f:Nat→Nat):List (Option Ob):=[some (.ro .i64 zs),some (crewM f σ),some (memM (f 3) σ.sz σ.j),some (XL σ.ws),some (rowU σ.ks),some (rowI σ.hs),
 some (.mem (.cells [ksV (f 27) σ.c0,ksV (f 32) σ.c1]) 58 (some 1)),some (.mem (.cells [.osl (f 12) 1,.nils,.osl (f 14) 1,.osl (f 15) 1]) 22 (some 1)),some (rowI [σ.o0,σ.o1,σ.o2,σ.o3]),
 some (.mem (.cells (allV f σ.io)) 40 (some 1)),some (rowI σ.gt),some (callsOb σ.cl),some (rowI σ.f0),none,some (rowI σ.f2),some (rowI σ.f3),
 oldO σ.io 0,oldO σ.io 1,oldO σ.io 2,oldO σ.io 3,oldO σ.io 4,oldO σ.io 5,
 insO f σ.io,ifdO (f 24) σ.io,itdO σ.io,ireO (f 25) (f 26) σ.io,ipuO σ.io,
 claO (f 28) (f 30) σ.c0,cfdO (f 29) σ.c0,ctdO σ.c0,creO (f 30) (f 31) σ.c0,cpuO σ.c0,
 claO (f 33) (f 35) σ.c1,cfdO (f 34) σ.c1,ctdO σ.c1,creO (f 35) (f 36) σ.c1,cpuO σ.c1,pekO σ.pk]
def lN1 (zs:List Int) (σ:CS):List (Option Ob):=lrN1 zs σ fun m=>m
def lG1 (zs:List Int) (σ:CS):List (Option Ob):=[some (.ro .i64 zs),some (crewM (fun m=>m) σ),some (memM (3) σ.sz σ.j),some (XL σ.ws),some (rowU σ.ks),some (rowI σ.hs),
 some (.mem (.cells [ksV (27) σ.c0,ksV (32) σ.c1]) 58 (some 1)),some (.mem (.cells [.osl (12) 1,.osl 38 1,.osl (14) 1,.osl (15) 1]) 22 (some 1)),some (rowI [σ.o0,σ.o1,σ.o2,σ.o3]),
 some (.mem (.cells (allV (fun m=>m) σ.io)) 40 (some 1)),some (rowI σ.gt),some (callsOb σ.cl),some (rowI σ.f0),none,some (rowI σ.f2),some (rowI σ.f3),
 oldO σ.io 0,oldO σ.io 1,oldO σ.io 2,oldO σ.io 3,oldO σ.io 4,oldO σ.io 5,
 insO (fun m=>m) σ.io,ifdO (24) σ.io,itdO σ.io,ireO (25) (26) σ.io,ipuO σ.io,
 claO (28) (30) σ.c0,cfdO (29) σ.c0,ctdO σ.c0,creO (30) (31) σ.c0,cpuO σ.c0,
 claO (33) (35) σ.c1,cfdO (34) σ.c1,ctdO σ.c1,creO (35) (36) σ.c1,cpuO σ.c1,pekO σ.pk]++[some (rowI [])]
theorem lrn_at1 (zs:List Int) (σ:CS) (f:Nat→Nat):(lN1 zs σ).map (Option.map (Ob.ren f))=lrN1 zs σ f:=by
 have h:=lr_at zs σ f
 have g:∀ m,m≠7→m≠13→((lN1 zs σ).map (Option.map (Ob.ren f)))[m]?=((lA zs σ).map (Option.map (Ob.ren f)))[m]?:=fun m h1 h2=>by
  match m,h1,h2 with
  |0,_,_|1,_,_|2,_,_|3,_,_|4,_,_|5,_,_|6,_,_|8,_,_|9,_,_|10,_,_|11,_,_|12,_,_|14,_,_|15,_,_|16,_,_|17,_,_|18,_,_|19,_,_|20,_,_|21,_,_|22,_,_|23,_,_|24,_,_|25,_,_|26,_,_|27,_,_|28,_,_|29,_,_|30,_,_|31,_,_|32,_,_|33,_,_|34,_,_|35,_,_|36,_,_|37,_,_=>rfl
  |7,h,_=>exact absurd rfl h
  |13,_,h=>exact absurd rfl h
  |m+38,_,_=>rfl
 refine List.ext_getElem? fun m=>?_
 by_cases h1:m=7
 ·subst h1;rfl
 by_cases h2:m=13
 ·subst h2;rfl
 rw [g m h1 h2,h]
 match m,h1,h2 with
 |0,_,_|1,_,_|2,_,_|3,_,_|4,_,_|5,_,_|6,_,_|8,_,_|9,_,_|10,_,_|11,_,_|12,_,_|14,_,_|15,_,_|16,_,_|17,_,_|18,_,_|19,_,_|20,_,_|21,_,_|22,_,_|23,_,_|24,_,_|25,_,_|26,_,_|27,_,_|28,_,_|29,_,_|30,_,_|31,_,_|32,_,_|33,_,_|34,_,_|35,_,_|36,_,_|37,_,_=>rfl
 |7,h,_=>exact absurd rfl h
 |13,_,h=>exact absurd rfl h
 |m+38,_,_=>rfl
def pN1 (σ:CS) (m:Nat):Bool:=cond (Nat.beq m 13) false (pA σ m)
theorem pN1_live (zs:List Int) (σ:CS) (n0:Nat) (m:Nat) (h:pN1 σ m=true):m<(lN1 zs σ).length∧(m<n0∨∃ o,((lN1 zs σ)[m]?).join=some o):=by
 unfold pN1 at h
 cases hb:Nat.beq m 13 with
 |true=>rw [hb] at h;cases h
 |false=>
  rw [hb] at h
  obtain ⟨g1,g2⟩:=pA_live zs σ n0 m h
  refine ⟨g1,g2.imp id fun ⟨o,ho⟩=>?_⟩
  by_cases h7:m=7
  ·subst h7;exact ⟨_,rfl⟩
  ·have hne:m≠13:=fun e=>by subst e;cases hb
   refine ⟨o,?_⟩
   rw [← ho]
   match m,h7,hne with
   |0,_,_|1,_,_|2,_,_|3,_,_|4,_,_|5,_,_|6,_,_|8,_,_|9,_,_|10,_,_|11,_,_|12,_,_|14,_,_|15,_,_|16,_,_|17,_,_|18,_,_|19,_,_|20,_,_|21,_,_|22,_,_|23,_,_|24,_,_|25,_,_|26,_,_|27,_,_|28,_,_|29,_,_|30,_,_|31,_,_|32,_,_|33,_,_|34,_,_|35,_,_|36,_,_|37,_,_=>rfl
   |7,h,_=>exact absurd rfl h
   |13,_,h=>exact absurd rfl h
   |m+38,_,_=>rfl
theorem pN1_old {σ:CS} {n0:Nat} (h:n0=9) (m:Nat) (hm:m<n0):pN1 σ m=true:=by
 have:=pA_old (σ:=σ) h m hm
 unfold pN1
 have e:Nat.beq m 13=false:=XG (by omega)
 rw [e];exact this
theorem obsN1 (zs:List Int) (σ:CS):obsOK (pN1 σ) 0 (lN1 zs σ)=true:=by
 obtain ⟨t,sz,ks,hs,j,ws,f0,f1,f2,f3,gt,cl,o0,o1,o2,o3,ck,io,c0,c1,pk⟩:=σ
 have hall:V.namesL (pN1 ⟨t,sz,ks,hs,j,ws,f0,f1,f2,f3,gt,cl,o0,o1,o2,o3,ck,io,c0,c1,pk⟩) (allV (fun m=>m) io)=true:=by
  unfold allV
  cases hn:isN io with
  |true=>rfl
  |false=>
   refine namesL_app _ _ _ (names_takeN _ _ _ fun i v hi hv=>?_) (by cases io<;>first|rfl|cases hn)
   match i,hv with
   |0,hv|1,hv|2,hv|3,hv|4,hv|5,hv=>cases hv;exact Nat.blt_eq.mpr hi
   |i+6,hv=>simp [oldV] at hv
 have hold:∀ i o,oldO io i=some o→o=opq∧Nat.blt i (isK io)=true:=fun i o h=>by
  unfold oldO at h
  cases hb:Nat.blt i (isK io) with
  |true=>rw [hb] at h;cases h;exact ⟨rfl,rfl⟩
  |false=>rw [hb] at h;cases h
 refine obsOK_of _ _ fun m o ho=>?_
 rw [Nat.zero_add]
 match m,ho with
 |0,ho|2,ho|3,ho|4,ho|5,ho|7,ho|8,ho|10,ho|11,ho|12,ho|14,ho|15,ho=>cases ho;exact ⟨rfl,rfl,rfl⟩
 |13,ho=>cases ho
 |1,ho=>cases ho;refine ⟨rfl,rfl,?_⟩;cases io<;>cases pk<;>rfl
 |6,ho=>cases ho;refine ⟨rfl,rfl,?_⟩;cases c0<;>cases c1<;>rfl
 |9,ho=>cases ho;exact ⟨rfl,rfl,hall⟩
 |16,ho=>obtain ⟨rfl,h⟩:=hold 0 o (by simpa [lN1,lrN1] using ho);exact ⟨rfl,h,rfl⟩
 |17,ho=>obtain ⟨rfl,h⟩:=hold 1 o (by simpa [lN1,lrN1] using ho);exact ⟨rfl,h,rfl⟩
 |18,ho=>obtain ⟨rfl,h⟩:=hold 2 o (by simpa [lN1,lrN1] using ho);exact ⟨rfl,h,rfl⟩
 |19,ho=>obtain ⟨rfl,h⟩:=hold 3 o (by simpa [lN1,lrN1] using ho);exact ⟨rfl,h,rfl⟩
 |20,ho=>obtain ⟨rfl,h⟩:=hold 4 o (by simpa [lN1,lrN1] using ho);exact ⟨rfl,h,rfl⟩
 |21,ho=>obtain ⟨rfl,h⟩:=hold 5 o (by simpa [lN1,lrN1] using ho);exact ⟨rfl,h,rfl⟩
 |22,ho|23,ho|24,ho|25,ho|26,ho=>cases io<;>cases ho<;>exact ⟨rfl,rfl,rfl⟩
 |27,ho|28,ho|29,ho|30,ho|31,ho=>cases c0<;>cases ho<;>exact ⟨rfl,rfl,rfl⟩
 |32,ho|33,ho|34,ho|35,ho|36,ho=>cases c1<;>cases ho<;>exact ⟨rfl,rfl,rfl⟩
 |37,ho=>cases pk<;>cases ho<;>exact ⟨rfl,rfl,rfl⟩
 |m+38,ho=>simp [lN1,lrN1] at ho
theorem regh1 {β:Base} {kind:CallKind} {cs:List Frame} {J:Nat→V} {A:Cf} {zs:List Int} {σ:CS} {len cap:Nat} {i:Int} (hβ:β.n0=9) (hf:σ.f1=[]) (hA:YC β frPl (trO (slots J 0 (slH len cap i))) [] (hO (lN1 zs σ)) 38 far A):
  ∃ J' b',YC β frPl (trO (slots J' 0 (slH len cap i))) [] (hO (lA zs σ)) 38 far b'∧Steps PR (At frPl none kind cs A plH) (At frPl none kind cs b' plH):=by
 have h:=hA.ghost (H':=hO (lG1 zs σ)) (T':=trO (slots J 0 (slH len cap i))) (b:=.words .i64 []) (es:=1) (t:=3) (by decide) (by rw [hβ];decide) rfl rfl rfl (fun m hm=>by
  match m,hm with
  |0,_|1,_|2,_|3,_|4,_|5,_|6,_|8,_|9,_|10,_|11,_|12,_|13,_|14,_|15,_|16,_|17,_|18,_|19,_|20,_|21,_|22,_|23,_|24,_|25,_|26,_|27,_|28,_|29,_|30,_|31,_|32,_|33,_|34,_|35,_|36,_|37,_=>exact .inl rfl
  |7,_=>exact .inr ⟨_,_,_,_,rfl,rfl,.cons (.inl rfl)<|.cons (.inr ⟨rfl,rfl⟩)<|.cons (.inl rfl)<|.cons (.inl rfl)<|.nil⟩
  |38,h=>exact absurd rfl h
  |m+39,_=>exact .inl rfl) (fun u=>.inl rfl)
 obtain ⟨t,sz,ks,hs,j,ws,f0,f1,f2,f3,gt,cl,o0,o1,o2,o3,ck,io,c0,c1,pk⟩:=σ
 simp only at hf
 subst hf
 exact YC.evalX (mk:=[]) (n:=400) (m:=0) (orc:=[]) (πl:=[0,1,2,3,4,5,6,7,8,9,10,11,12,38,14,15,16,17,18,19,20,21,22,23,24,25,26,27,28,29,30,31,32,33,34,35,36,37]) (nx':=39) (hi:=far) (far:=far) (todo:=plH) (todo':=plH) (l:=lG1 zs _) (l':=lA _ _) (lr:=lrAt _ _ (πf [0,1,2,3,4,5,6,7,8,9,10,11,12,38,14,15,16,17,18,19,20,21,22,23,24,25,26,27,28,29,30,31,32,33,34,35,36,37])) (sl':=slH len cap i) (B:=true) (FP_ok 0) (SP_ok 0) _ _ h (by kernel_rfl) (lr_at _ _ _) rfl rfl rfl rfl rfl rfl (pA _) (fun m hm=>pA_live _ _ _ m hm) (pA_old hβ) (by rw [hβ];kernel_rfl) (obsA _ _) (by kernel_rfl)
def lrN2 (zs:List Int) (σ:CS) (f:Nat→Nat):List (Option Ob):=[some (.ro .i64 zs),some (crewM f σ),some (memM (f 3) σ.sz σ.j),some (XL σ.ws),some (rowU σ.ks),some (rowI σ.hs),
 some (.mem (.cells [ksV (f 27) σ.c0,ksV (f 32) σ.c1]) 58 (some 1)),some (.mem (.cells [.osl (f 12) 1,.osl (f 13) 1,.nils,.osl (f 15) 1]) 22 (some 1)),some (rowI [σ.o0,σ.o1,σ.o2,σ.o3]),
 some (.mem (.cells (allV f σ.io)) 40 (some 1)),some (rowI σ.gt),some (callsOb σ.cl),some (rowI σ.f0),some (rowI σ.f1),none,some (rowI σ.f3),
 oldO σ.io 0,oldO σ.io 1,oldO σ.io 2,oldO σ.io 3,oldO σ.io 4,oldO σ.io 5,
 insO f σ.io,ifdO (f 24) σ.io,itdO σ.io,ireO (f 25) (f 26) σ.io,ipuO σ.io,
 claO (f 28) (f 30) σ.c0,cfdO (f 29) σ.c0,ctdO σ.c0,creO (f 30) (f 31) σ.c0,cpuO σ.c0,
 claO (f 33) (f 35) σ.c1,cfdO (f 34) σ.c1,ctdO σ.c1,creO (f 35) (f 36) σ.c1,cpuO σ.c1,pekO σ.pk]
def lN2 (zs:List Int) (σ:CS):List (Option Ob):=lrN2 zs σ fun m=>m
def lG2 (zs:List Int) (σ:CS):List (Option Ob):=[some (.ro .i64 zs),some (crewM (fun m=>m) σ),some (memM (3) σ.sz σ.j),some (XL σ.ws),some (rowU σ.ks),some (rowI σ.hs),
 some (.mem (.cells [ksV (27) σ.c0,ksV (32) σ.c1]) 58 (some 1)),some (.mem (.cells [.osl (12) 1,.osl (13) 1,.osl 38 1,.osl (15) 1]) 22 (some 1)),some (rowI [σ.o0,σ.o1,σ.o2,σ.o3]),
 some (.mem (.cells (allV (fun m=>m) σ.io)) 40 (some 1)),some (rowI σ.gt),some (callsOb σ.cl),some (rowI σ.f0),some (rowI σ.f1),none,some (rowI σ.f3),
 oldO σ.io 0,oldO σ.io 1,oldO σ.io 2,oldO σ.io 3,oldO σ.io 4,oldO σ.io 5,
 insO (fun m=>m) σ.io,ifdO (24) σ.io,itdO σ.io,ireO (25) (26) σ.io,ipuO σ.io,
 claO (28) (30) σ.c0,cfdO (29) σ.c0,ctdO σ.c0,creO (30) (31) σ.c0,cpuO σ.c0,
 claO (33) (35) σ.c1,cfdO (34) σ.c1,ctdO σ.c1,creO (35) (36) σ.c1,cpuO σ.c1,pekO σ.pk]++[some (rowI [])]
theorem lrn_at2 (zs:List Int) (σ:CS) (f:Nat→Nat):(lN2 zs σ).map (Option.map (Ob.ren f))=lrN2 zs σ f:=by
 have h:=lr_at zs σ f
 have g:∀ m,m≠7→m≠14→((lN2 zs σ).map (Option.map (Ob.ren f)))[m]?=((lA zs σ).map (Option.map (Ob.ren f)))[m]?:=fun m h1 h2=>by
  match m,h1,h2 with
  |0,_,_|1,_,_|2,_,_|3,_,_|4,_,_|5,_,_|6,_,_|8,_,_|9,_,_|10,_,_|11,_,_|12,_,_|13,_,_|15,_,_|16,_,_|17,_,_|18,_,_|19,_,_|20,_,_|21,_,_|22,_,_|23,_,_|24,_,_|25,_,_|26,_,_|27,_,_|28,_,_|29,_,_|30,_,_|31,_,_|32,_,_|33,_,_|34,_,_|35,_,_|36,_,_|37,_,_=>rfl
  |7,h,_=>exact absurd rfl h
  |14,_,h=>exact absurd rfl h
  |m+38,_,_=>rfl
 refine List.ext_getElem? fun m=>?_
 by_cases h1:m=7
 ·subst h1;rfl
 by_cases h2:m=14
 ·subst h2;rfl
 rw [g m h1 h2,h]
 match m,h1,h2 with
 |0,_,_|1,_,_|2,_,_|3,_,_|4,_,_|5,_,_|6,_,_|8,_,_|9,_,_|10,_,_|11,_,_|12,_,_|13,_,_|15,_,_|16,_,_|17,_,_|18,_,_|19,_,_|20,_,_|21,_,_|22,_,_|23,_,_|24,_,_|25,_,_|26,_,_|27,_,_|28,_,_|29,_,_|30,_,_|31,_,_|32,_,_|33,_,_|34,_,_|35,_,_|36,_,_|37,_,_=>rfl
 |7,h,_=>exact absurd rfl h
 |14,_,h=>exact absurd rfl h
 |m+38,_,_=>rfl
def pN2 (σ:CS) (m:Nat):Bool:=cond (Nat.beq m 14) false (pA σ m)
theorem pN2_live (zs:List Int) (σ:CS) (n0:Nat) (m:Nat) (h:pN2 σ m=true):m<(lN2 zs σ).length∧(m<n0∨∃ o,((lN2 zs σ)[m]?).join=some o):=by
 unfold pN2 at h
 cases hb:Nat.beq m 14 with
 |true=>rw [hb] at h;cases h
 |false=>
  rw [hb] at h
  obtain ⟨g1,g2⟩:=pA_live zs σ n0 m h
  refine ⟨g1,g2.imp id fun ⟨o,ho⟩=>?_⟩
  by_cases h7:m=7
  ·subst h7;exact ⟨_,rfl⟩
  ·have hne:m≠14:=fun e=>by subst e;cases hb
   refine ⟨o,?_⟩
   rw [← ho]
   match m,h7,hne with
   |0,_,_|1,_,_|2,_,_|3,_,_|4,_,_|5,_,_|6,_,_|8,_,_|9,_,_|10,_,_|11,_,_|12,_,_|13,_,_|15,_,_|16,_,_|17,_,_|18,_,_|19,_,_|20,_,_|21,_,_|22,_,_|23,_,_|24,_,_|25,_,_|26,_,_|27,_,_|28,_,_|29,_,_|30,_,_|31,_,_|32,_,_|33,_,_|34,_,_|35,_,_|36,_,_|37,_,_=>rfl
   |7,h,_=>exact absurd rfl h
   |14,_,h=>exact absurd rfl h
   |m+38,_,_=>rfl
theorem pN2_old {σ:CS} {n0:Nat} (h:n0=9) (m:Nat) (hm:m<n0):pN2 σ m=true:=by
 have:=pA_old (σ:=σ) h m hm
 unfold pN2
 have e:Nat.beq m 14=false:=XG (by omega)
 rw [e];exact this
theorem obsN2 (zs:List Int) (σ:CS):obsOK (pN2 σ) 0 (lN2 zs σ)=true:=by
 obtain ⟨t,sz,ks,hs,j,ws,f0,f1,f2,f3,gt,cl,o0,o1,o2,o3,ck,io,c0,c1,pk⟩:=σ
 have hall:V.namesL (pN2 ⟨t,sz,ks,hs,j,ws,f0,f1,f2,f3,gt,cl,o0,o1,o2,o3,ck,io,c0,c1,pk⟩) (allV (fun m=>m) io)=true:=by
  unfold allV
  cases hn:isN io with
  |true=>rfl
  |false=>
   refine namesL_app _ _ _ (names_takeN _ _ _ fun i v hi hv=>?_) (by cases io<;>first|rfl|cases hn)
   match i,hv with
   |0,hv|1,hv|2,hv|3,hv|4,hv|5,hv=>cases hv;exact Nat.blt_eq.mpr hi
   |i+6,hv=>simp [oldV] at hv
 have hold:∀ i o,oldO io i=some o→o=opq∧Nat.blt i (isK io)=true:=fun i o h=>by
  unfold oldO at h
  cases hb:Nat.blt i (isK io) with
  |true=>rw [hb] at h;cases h;exact ⟨rfl,rfl⟩
  |false=>rw [hb] at h;cases h
 refine obsOK_of _ _ fun m o ho=>?_
 rw [Nat.zero_add]
 match m,ho with
 |0,ho|2,ho|3,ho|4,ho|5,ho|7,ho|8,ho|10,ho|11,ho|12,ho|13,ho|15,ho=>cases ho;exact ⟨rfl,rfl,rfl⟩
 |14,ho=>cases ho
 |1,ho=>cases ho;refine ⟨rfl,rfl,?_⟩;cases io<;>cases pk<;>rfl
 |6,ho=>cases ho;refine ⟨rfl,rfl,?_⟩;cases c0<;>cases c1<;>rfl
 |9,ho=>cases ho;exact ⟨rfl,rfl,hall⟩
 |16,ho=>obtain ⟨rfl,h⟩:=hold 0 o (by simpa [lN2,lrN2] using ho);exact ⟨rfl,h,rfl⟩
 |17,ho=>obtain ⟨rfl,h⟩:=hold 1 o (by simpa [lN2,lrN2] using ho);exact ⟨rfl,h,rfl⟩
 |18,ho=>obtain ⟨rfl,h⟩:=hold 2 o (by simpa [lN2,lrN2] using ho);exact ⟨rfl,h,rfl⟩
 |19,ho=>obtain ⟨rfl,h⟩:=hold 3 o (by simpa [lN2,lrN2] using ho);exact ⟨rfl,h,rfl⟩
 |20,ho=>obtain ⟨rfl,h⟩:=hold 4 o (by simpa [lN2,lrN2] using ho);exact ⟨rfl,h,rfl⟩
 |21,ho=>obtain ⟨rfl,h⟩:=hold 5 o (by simpa [lN2,lrN2] using ho);exact ⟨rfl,h,rfl⟩
 |22,ho|23,ho|24,ho|25,ho|26,ho=>cases io<;>cases ho<;>exact ⟨rfl,rfl,rfl⟩
 |27,ho|28,ho|29,ho|30,ho|31,ho=>cases c0<;>cases ho<;>exact ⟨rfl,rfl,rfl⟩
 |32,ho|33,ho|34,ho|35,ho|36,ho=>cases c1<;>cases ho<;>exact ⟨rfl,rfl,rfl⟩
 |37,ho=>cases pk<;>cases ho<;>exact ⟨rfl,rfl,rfl⟩
 |m+38,ho=>simp [lN2,lrN2] at ho
theorem regh2 {β:Base} {kind:CallKind} {cs:List Frame} {J:Nat→V} {A:Cf} {zs:List Int} {σ:CS} {len cap:Nat} {i:Int} (hβ:β.n0=9) (hf:σ.f2=[]) (hA:YC β frPl (trO (slots J 0 (slH len cap i))) [] (hO (lN2 zs σ)) 38 far A):
  ∃ J' b',YC β frPl (trO (slots J' 0 (slH len cap i))) [] (hO (lA zs σ)) 38 far b'∧Steps PR (At frPl none kind cs A plH) (At frPl none kind cs b' plH):=by
 have h:=hA.ghost (H':=hO (lG2 zs σ)) (T':=trO (slots J 0 (slH len cap i))) (b:=.words .i64 []) (es:=1) (t:=3) (by decide) (by rw [hβ];decide) rfl rfl rfl (fun m hm=>by
  match m,hm with
  |0,_|1,_|2,_|3,_|4,_|5,_|6,_|8,_|9,_|10,_|11,_|12,_|13,_|14,_|15,_|16,_|17,_|18,_|19,_|20,_|21,_|22,_|23,_|24,_|25,_|26,_|27,_|28,_|29,_|30,_|31,_|32,_|33,_|34,_|35,_|36,_|37,_=>exact .inl rfl
  |7,_=>exact .inr ⟨_,_,_,_,rfl,rfl,.cons (.inl rfl)<|.cons (.inl rfl)<|.cons (.inr ⟨rfl,rfl⟩)<|.cons (.inl rfl)<|.nil⟩
  |38,h=>exact absurd rfl h
  |m+39,_=>exact .inl rfl) (fun u=>.inl rfl)
 obtain ⟨t,sz,ks,hs,j,ws,f0,f1,f2,f3,gt,cl,o0,o1,o2,o3,ck,io,c0,c1,pk⟩:=σ
 simp only at hf
 subst hf
 exact YC.evalX (mk:=[]) (n:=400) (m:=0) (orc:=[]) (πl:=[0,1,2,3,4,5,6,7,8,9,10,11,12,13,38,15,16,17,18,19,20,21,22,23,24,25,26,27,28,29,30,31,32,33,34,35,36,37]) (nx':=39) (hi:=far) (far:=far) (todo:=plH) (todo':=plH) (l:=lG2 zs _) (l':=lA _ _) (lr:=lrAt _ _ (πf [0,1,2,3,4,5,6,7,8,9,10,11,12,13,38,15,16,17,18,19,20,21,22,23,24,25,26,27,28,29,30,31,32,33,34,35,36,37])) (sl':=slH len cap i) (B:=true) (FP_ok 0) (SP_ok 0) _ _ h (by kernel_rfl) (lr_at _ _ _) rfl rfl rfl rfl rfl rfl (pA _) (fun m hm=>pA_live _ _ _ m hm) (pA_old hβ) (by rw [hβ];kernel_rfl) (obsA _ _) (by kernel_rfl)
def lrN3 (zs:List Int) (σ:CS) (f:Nat→Nat):List (Option Ob):=[some (.ro .i64 zs),some (crewM f σ),some (memM (f 3) σ.sz σ.j),some (XL σ.ws),some (rowU σ.ks),some (rowI σ.hs),
 some (.mem (.cells [ksV (f 27) σ.c0,ksV (f 32) σ.c1]) 58 (some 1)),some (.mem (.cells [.osl (f 12) 1,.osl (f 13) 1,.osl (f 14) 1,.nils]) 22 (some 1)),some (rowI [σ.o0,σ.o1,σ.o2,σ.o3]),
 some (.mem (.cells (allV f σ.io)) 40 (some 1)),some (rowI σ.gt),some (callsOb σ.cl),some (rowI σ.f0),some (rowI σ.f1),some (rowI σ.f2),none,
 oldO σ.io 0,oldO σ.io 1,oldO σ.io 2,oldO σ.io 3,oldO σ.io 4,oldO σ.io 5,
 insO f σ.io,ifdO (f 24) σ.io,itdO σ.io,ireO (f 25) (f 26) σ.io,ipuO σ.io,
 claO (f 28) (f 30) σ.c0,cfdO (f 29) σ.c0,ctdO σ.c0,creO (f 30) (f 31) σ.c0,cpuO σ.c0,
 claO (f 33) (f 35) σ.c1,cfdO (f 34) σ.c1,ctdO σ.c1,creO (f 35) (f 36) σ.c1,cpuO σ.c1,pekO σ.pk]
def lN3 (zs:List Int) (σ:CS):List (Option Ob):=lrN3 zs σ fun m=>m
def lG3 (zs:List Int) (σ:CS):List (Option Ob):=[some (.ro .i64 zs),some (crewM (fun m=>m) σ),some (memM (3) σ.sz σ.j),some (XL σ.ws),some (rowU σ.ks),some (rowI σ.hs),
 some (.mem (.cells [ksV (27) σ.c0,ksV (32) σ.c1]) 58 (some 1)),some (.mem (.cells [.osl (12) 1,.osl (13) 1,.osl (14) 1,.osl 38 1]) 22 (some 1)),some (rowI [σ.o0,σ.o1,σ.o2,σ.o3]),
 some (.mem (.cells (allV (fun m=>m) σ.io)) 40 (some 1)),some (rowI σ.gt),some (callsOb σ.cl),some (rowI σ.f0),some (rowI σ.f1),some (rowI σ.f2),none,
 oldO σ.io 0,oldO σ.io 1,oldO σ.io 2,oldO σ.io 3,oldO σ.io 4,oldO σ.io 5,
 insO (fun m=>m) σ.io,ifdO (24) σ.io,itdO σ.io,ireO (25) (26) σ.io,ipuO σ.io,
 claO (28) (30) σ.c0,cfdO (29) σ.c0,ctdO σ.c0,creO (30) (31) σ.c0,cpuO σ.c0,
 claO (33) (35) σ.c1,cfdO (34) σ.c1,ctdO σ.c1,creO (35) (36) σ.c1,cpuO σ.c1,pekO σ.pk]++[some (rowI [])]
theorem lrn_at3 (zs:List Int) (σ:CS) (f:Nat→Nat):(lN3 zs σ).map (Option.map (Ob.ren f))=lrN3 zs σ f:=by
 have h:=lr_at zs σ f
 have g:∀ m,m≠7→m≠15→((lN3 zs σ).map (Option.map (Ob.ren f)))[m]?=((lA zs σ).map (Option.map (Ob.ren f)))[m]?:=fun m h1 h2=>by
  match m,h1,h2 with
  |0,_,_|1,_,_|2,_,_|3,_,_|4,_,_|5,_,_|6,_,_|8,_,_|9,_,_|10,_,_|11,_,_|12,_,_|13,_,_|14,_,_|16,_,_|17,_,_|18,_,_|19,_,_|20,_,_|21,_,_|22,_,_|23,_,_|24,_,_|25,_,_|26,_,_|27,_,_|28,_,_|29,_,_|30,_,_|31,_,_|32,_,_|33,_,_|34,_,_|35,_,_|36,_,_|37,_,_=>rfl
  |7,h,_=>exact absurd rfl h
  |15,_,h=>exact absurd rfl h
  |m+38,_,_=>rfl
 refine List.ext_getElem? fun m=>?_
 by_cases h1:m=7
 ·subst h1;rfl
 by_cases h2:m=15
 ·subst h2;rfl
 rw [g m h1 h2,h]
 match m,h1,h2 with
 |0,_,_|1,_,_|2,_,_|3,_,_|4,_,_|5,_,_|6,_,_|8,_,_|9,_,_|10,_,_|11,_,_|12,_,_|13,_,_|14,_,_|16,_,_|17,_,_|18,_,_|19,_,_|20,_,_|21,_,_|22,_,_|23,_,_|24,_,_|25,_,_|26,_,_|27,_,_|28,_,_|29,_,_|30,_,_|31,_,_|32,_,_|33,_,_|34,_,_|35,_,_|36,_,_|37,_,_=>rfl
 |7,h,_=>exact absurd rfl h
 |15,_,h=>exact absurd rfl h
 |m+38,_,_=>rfl
def pN3 (σ:CS) (m:Nat):Bool:=cond (Nat.beq m 15) false (pA σ m)
theorem pN3_live (zs:List Int) (σ:CS) (n0:Nat) (m:Nat) (h:pN3 σ m=true):m<(lN3 zs σ).length∧(m<n0∨∃ o,((lN3 zs σ)[m]?).join=some o):=by
 unfold pN3 at h
 cases hb:Nat.beq m 15 with
 |true=>rw [hb] at h;cases h
 |false=>
  rw [hb] at h
  obtain ⟨g1,g2⟩:=pA_live zs σ n0 m h
  refine ⟨g1,g2.imp id fun ⟨o,ho⟩=>?_⟩
  by_cases h7:m=7
  ·subst h7;exact ⟨_,rfl⟩
  ·have hne:m≠15:=fun e=>by subst e;cases hb
   refine ⟨o,?_⟩
   rw [← ho]
   match m,h7,hne with
   |0,_,_|1,_,_|2,_,_|3,_,_|4,_,_|5,_,_|6,_,_|8,_,_|9,_,_|10,_,_|11,_,_|12,_,_|13,_,_|14,_,_|16,_,_|17,_,_|18,_,_|19,_,_|20,_,_|21,_,_|22,_,_|23,_,_|24,_,_|25,_,_|26,_,_|27,_,_|28,_,_|29,_,_|30,_,_|31,_,_|32,_,_|33,_,_|34,_,_|35,_,_|36,_,_|37,_,_=>rfl
   |7,h,_=>exact absurd rfl h
   |15,_,h=>exact absurd rfl h
   |m+38,_,_=>rfl
theorem pN3_old {σ:CS} {n0:Nat} (h:n0=9) (m:Nat) (hm:m<n0):pN3 σ m=true:=by
 have:=pA_old (σ:=σ) h m hm
 unfold pN3
 have e:Nat.beq m 15=false:=XG (by omega)
 rw [e];exact this
theorem obsN3 (zs:List Int) (σ:CS):obsOK (pN3 σ) 0 (lN3 zs σ)=true:=by
 obtain ⟨t,sz,ks,hs,j,ws,f0,f1,f2,f3,gt,cl,o0,o1,o2,o3,ck,io,c0,c1,pk⟩:=σ
 have hall:V.namesL (pN3 ⟨t,sz,ks,hs,j,ws,f0,f1,f2,f3,gt,cl,o0,o1,o2,o3,ck,io,c0,c1,pk⟩) (allV (fun m=>m) io)=true:=by
  unfold allV
  cases hn:isN io with
  |true=>rfl
  |false=>
   refine namesL_app _ _ _ (names_takeN _ _ _ fun i v hi hv=>?_) (by cases io<;>first|rfl|cases hn)
   match i,hv with
   |0,hv|1,hv|2,hv|3,hv|4,hv|5,hv=>cases hv;exact Nat.blt_eq.mpr hi
   |i+6,hv=>simp [oldV] at hv
 have hold:∀ i o,oldO io i=some o→o=opq∧Nat.blt i (isK io)=true:=fun i o h=>by
  unfold oldO at h
  cases hb:Nat.blt i (isK io) with
  |true=>rw [hb] at h;cases h;exact ⟨rfl,rfl⟩
  |false=>rw [hb] at h;cases h
 refine obsOK_of _ _ fun m o ho=>?_
 rw [Nat.zero_add]
 match m,ho with
 |0,ho|2,ho|3,ho|4,ho|5,ho|7,ho|8,ho|10,ho|11,ho|12,ho|13,ho|14,ho=>cases ho;exact ⟨rfl,rfl,rfl⟩
 |15,ho=>cases ho
 |1,ho=>cases ho;refine ⟨rfl,rfl,?_⟩;cases io<;>cases pk<;>rfl
 |6,ho=>cases ho;refine ⟨rfl,rfl,?_⟩;cases c0<;>cases c1<;>rfl
 |9,ho=>cases ho;exact ⟨rfl,rfl,hall⟩
 |16,ho=>obtain ⟨rfl,h⟩:=hold 0 o (by simpa [lN3,lrN3] using ho);exact ⟨rfl,h,rfl⟩
 |17,ho=>obtain ⟨rfl,h⟩:=hold 1 o (by simpa [lN3,lrN3] using ho);exact ⟨rfl,h,rfl⟩
 |18,ho=>obtain ⟨rfl,h⟩:=hold 2 o (by simpa [lN3,lrN3] using ho);exact ⟨rfl,h,rfl⟩
 |19,ho=>obtain ⟨rfl,h⟩:=hold 3 o (by simpa [lN3,lrN3] using ho);exact ⟨rfl,h,rfl⟩
 |20,ho=>obtain ⟨rfl,h⟩:=hold 4 o (by simpa [lN3,lrN3] using ho);exact ⟨rfl,h,rfl⟩
 |21,ho=>obtain ⟨rfl,h⟩:=hold 5 o (by simpa [lN3,lrN3] using ho);exact ⟨rfl,h,rfl⟩
 |22,ho|23,ho|24,ho|25,ho|26,ho=>cases io<;>cases ho<;>exact ⟨rfl,rfl,rfl⟩
 |27,ho|28,ho|29,ho|30,ho|31,ho=>cases c0<;>cases ho<;>exact ⟨rfl,rfl,rfl⟩
 |32,ho|33,ho|34,ho|35,ho|36,ho=>cases c1<;>cases ho<;>exact ⟨rfl,rfl,rfl⟩
 |37,ho=>cases pk<;>cases ho<;>exact ⟨rfl,rfl,rfl⟩
 |m+38,ho=>simp [lN3,lrN3] at ho
theorem regh3 {β:Base} {kind:CallKind} {cs:List Frame} {J:Nat→V} {A:Cf} {zs:List Int} {σ:CS} {len cap:Nat} {i:Int} (hβ:β.n0=9) (hf:σ.f3=[]) (hA:YC β frPl (trO (slots J 0 (slH len cap i))) [] (hO (lN3 zs σ)) 38 far A):
  ∃ J' b',YC β frPl (trO (slots J' 0 (slH len cap i))) [] (hO (lA zs σ)) 38 far b'∧Steps PR (At frPl none kind cs A plH) (At frPl none kind cs b' plH):=by
 have h:=hA.ghost (H':=hO (lG3 zs σ)) (T':=trO (slots J 0 (slH len cap i))) (b:=.words .i64 []) (es:=1) (t:=3) (by decide) (by rw [hβ];decide) rfl rfl rfl (fun m hm=>by
  match m,hm with
  |0,_|1,_|2,_|3,_|4,_|5,_|6,_|8,_|9,_|10,_|11,_|12,_|13,_|14,_|15,_|16,_|17,_|18,_|19,_|20,_|21,_|22,_|23,_|24,_|25,_|26,_|27,_|28,_|29,_|30,_|31,_|32,_|33,_|34,_|35,_|36,_|37,_=>exact .inl rfl
  |7,_=>exact .inr ⟨_,_,_,_,rfl,rfl,.cons (.inl rfl)<|.cons (.inl rfl)<|.cons (.inl rfl)<|.cons (.inr ⟨rfl,rfl⟩)<|.nil⟩
  |38,h=>exact absurd rfl h
  |m+39,_=>exact .inl rfl) (fun u=>.inl rfl)
 obtain ⟨t,sz,ks,hs,j,ws,f0,f1,f2,f3,gt,cl,o0,o1,o2,o3,ck,io,c0,c1,pk⟩:=σ
 simp only at hf
 subst hf
 exact YC.evalX (mk:=[]) (n:=400) (m:=0) (orc:=[]) (πl:=[0,1,2,3,4,5,6,7,8,9,10,11,12,13,14,38,16,17,18,19,20,21,22,23,24,25,26,27,28,29,30,31,32,33,34,35,36,37]) (nx':=39) (hi:=far) (far:=far) (todo:=plH) (todo':=plH) (l:=lG3 zs _) (l':=lA _ _) (lr:=lrAt _ _ (πf [0,1,2,3,4,5,6,7,8,9,10,11,12,13,14,38,16,17,18,19,20,21,22,23,24,25,26,27,28,29,30,31,32,33,34,35,36,37])) (sl':=slH len cap i) (B:=true) (FP_ok 0) (SP_ok 0) _ _ h (by kernel_rfl) (lr_at _ _ _) rfl rfl rfl rfl rfl rfl (pA _) (fun m hm=>pA_live _ _ _ m hm) (pA_old hβ) (by rw [hβ];kernel_rfl) (obsA _ _) (by kernel_rfl)
end Go.Sx
namespace Go.Sx
theorem XB {b:Bool} {l:List Bool} (h:b=true) (h':allB l=true):allB (b::l)=true:=by
 subst h;exact h'
theorem cD {p:Prop} [Decidable p] {l:List Bool} (h:p) (h':allB l=true):allB (decide p::l)=true:=XB (decide_eq_true h) h'
theorem cN {p:Prop} [Decidable p] {l:List Bool} (h:¬ p) (h':allB l=true):allB ((!decide p)::l)=true:=XB (by rw [decide_eq_false h];rfl) h'
theorem nilB:allB []=true:=rfl
theorem nT {p:Prop} [Decidable p] (h:¬ p):(!decide p)=true:=by rw [decide_eq_false h];rfl
theorem n2T {p:Prop} [Decidable p] (h:p):(!!decide p)=true:=by rw [decide_eq_true h];rfl
theorem qT {a b:Int} (h:a=b):(a==b)=true:=beq_iff_eq.2 h
theorem zT {a b:Int} (h:a≠b):(!a==b)=true:=by rw [beq_eq_false_iff_ne.2 h];rfl
theorem bT {a b:Int} (h:a≠b):(a != b)=true:=bne_iff_ne.2 h
theorem cT {a b:Int} (h:a=b):(!a != b)=true:=by rw [bne_eq_false_iff_eq.2 h];rfl
theorem mT {b:Bool} (h:b=true):(!!b)=true:=by rw [h];rfl
theorem q2T {a b:Int} (h:a=b):(!!a==b)=true:=by rw [beq_iff_eq.2 h];rfl
def StA (c:Int) (σ σ':CS):Prop:=StH c σ σ'∧StG c σ σ'
theorem PlPc.of {t t1:List Item} {s s1:List (Option V)} {σ σ':CS} (h:∀ zs,PlPz zs t s t1 s1 σ σ'):PlPc t s t1 s1 σ σ':=fun hβ hA=>h _ hβ hA
def fstL (t:Tw) (sz:Int) (ws:List Int):Int:=if liveW t (ws.take sz.toNat)=[] then -1 else (liveW t (ws.take sz.toNat)).getD 0 0
theorem fstL_E {t:Tw} {sz:Int} {ws:List Int} (h:liveW t (ws.take sz.toNat)=[]):fstL t sz ws=-1:=if_pos h
theorem fstL_L {t:Tw} {sz:Int} {ws:List Int} (h:¬ liveW t (ws.take sz.toNat)=[]):fstL t sz ws=(liveW t (ws.take sz.toNat)).getD 0 0:=if_neg h
theorem tE {t:Tw} {sz o:Int} {ws g:List Int} {R:List Bool} (g0:g.length+1≤1048576) (hlv:lvPre t sz ws) (hl:liveW t (ws.take sz.toNat)=[]) (ho:o≥0) (hR:allB R=true):
  allB (decide (g.length+1≤1048576)::decide (liveW t (List.take (Int.toNat sz) ws)=[])::propB (lvPre t sz ws)::(!decide (o<0))::R)=true:=
 cD g0<|cD hl<|XB (XF.2 hlv)<|XB (nT (by omega)) hR
theorem tL {t:Tw} {sz o:Int} {ws g:List Int} {R:List Bool} (g0:g.length+1≤1048576) (hlv:lvPre t sz ws) (hl:¬ liveW t (ws.take sz.toNat)=[]) (ho:o≥0) (hR:allB R=true):
  allB (decide (g.length+1≤1048576)::decide (0<(liveW t (List.take (Int.toNat sz) ws)).length)::decide ((0:Int)≤0∧(0:Int)<(((liveW t (List.take (Int.toNat sz) ws)).length:Nat):Int)) ::
   (!(((liveW t (List.take (Int.toNat sz) ws)).length:Nat):Int)==0)::(!decide (liveW t (List.take (Int.toNat sz) ws)=[]))::propB (lvPre t sz ws)::(!decide (o<0))::R)=true:=by
 have hln:0<(liveW t (ws.take sz.toNat)).length:=List.length_pos_iff.2 hl
 exact cD g0<|cD hln<|XB (decide_eq_true ⟨by decide,by omega⟩)<|XB (zT (by omega))<|cN hl<|XB (XF.2 hlv)<|XB (nT (by omega)) hR
theorem rH {zs:List Int} {len:Nat} {i c:Int} (hp:XR (zs.getD i.toNat 0) 4=c) (h0:0≤i) (h1:i<(len:Int)) (h2:len=zs.length):
  allB [decide (XR (List.getD zs (Int.toNat i) 0) 4=c),decide (Int.toNat i<List.length zs),decide (0≤i∧i<(len:Int)),decide (i<(len:Int))]=true:=
 cD hp<|cD (by omega)<|XB (decide_eq_true ⟨h0,h1⟩)<|XB (decide_eq_true h1) nilB
theorem rG {σ:CS} {k o:Int} (hk:k<bndC σ) (ho:o≥0):allB [!decide (k≥bndC σ),decide (o≥0)]=true:=
 cN (Int.not_le.mpr hk)<|XB (decide_eq_true ho) nilB
theorem pcA {zs:List Int} {σ σ':CS} {t0 t1:List Item} {s0 s1:List (Option V)} {B:Bool} (c:Int) (mk πl:List Nat) (nx m:Nat) (orc:List (Nat×Bool)) (hB:B=true)
  (hrun:∀ J:Nat→V,(ctlN (FP c) (exec (FP c) 400) frPl m t0 (trO (slots J 0 s0)) [] ⟨trO (lA zs σ),38,orc,[],[]⟩).map (fun r=>(r.1,look r.2.1 0 s1,r.2.2.1,r.2.2.2.nx,getX r.2.2.2.H.get πl mk,allB r.2.2.2.obl))=
   some (t1,s1.map (Option.map (V.ren (πf πl))),[],nx,lrAt zs σ' (πf πl),B))
  (hchk:(chkP 9 nx πl (lA zs σ')&&(XQ (pA σ') s1&&(Nat.beq s1.length frPl.nt&&Nat.ble nx far)))=true):PlPz zs t0 s0 t1 s1 σ σ':=fun {β kind cs J A} hβ hA=>by
 simp only [Bool.and_eq_true] at hchk
 exact YC.evalX (far:=far) (FP_ok c) (SP_ok c) _ _ hA (hrun J) (lr_at _ _ _) hB rfl hchk.2.2.1 rfl hchk.2.2.2 rfl (pA _) (fun m hm=>pA_live _ _ _ m hm) (pA_old hβ) (by rw [hβ];exact hchk.1) (obsA _ _) hchk.2.1
theorem pcN0 {zs:List Int} {σ σ':CS} {len cap:Nat} {i i1:Int} {B:Bool} (mk πl:List Nat) (nx m:Nat) (orc:List (Nat×Bool)) (hB:B=true)
  (hrun:∀ J:Nat→V,(ctlN (FP 0) (exec (FP 0) 400) frPl m plH (trO (slots J 0 (slH len cap i))) [] ⟨trO (lA zs σ),38,orc,[],[]⟩).map (fun r=>(r.1,look r.2.1 0 (slH len cap i1),r.2.2.1,r.2.2.2.nx,getX r.2.2.2.H.get πl mk,allB r.2.2.2.obl))=
   some (plH,(slH len cap i1).map (Option.map (V.ren (πf πl))),[],nx,lrN0 zs σ' (πf πl),B))
  (hchk:(chkP 9 nx πl (lN0 zs σ')&&(XQ (pN0 σ') (slH len cap i1)&&Nat.ble nx far))=true) (hf:σ'.f0=[]):PlPz zs plH (slH len cap i) plH (slH len cap i1) σ σ':=fun {β kind cs J A} hβ hA=>by
 simp only [Bool.and_eq_true] at hchk
 obtain ⟨J1,b1,h1,h2⟩:=YC.evalX (far:=far) (FP_ok 0) (SP_ok 0) _ _ hA (hrun J) (lrn_at0 _ _ _) hB rfl rfl rfl hchk.2.2 rfl (pN0 _) (fun m hm=>pN0_live _ _ _ m hm) (pN0_old hβ) (by rw [hβ];exact hchk.1) (obsN0 _ _) hchk.2.1
 obtain ⟨J2,b2,h3,h4⟩:=regh0 hβ hf h1
 exact ⟨J2,b2,h3,h2.trans h4⟩
theorem pcN1 {zs:List Int} {σ σ':CS} {len cap:Nat} {i i1:Int} {B:Bool} (mk πl:List Nat) (nx m:Nat) (orc:List (Nat×Bool)) (hB:B=true)
  (hrun:∀ J:Nat→V,(ctlN (FP 1) (exec (FP 1) 400) frPl m plH (trO (slots J 0 (slH len cap i))) [] ⟨trO (lA zs σ),38,orc,[],[]⟩).map (fun r=>(r.1,look r.2.1 0 (slH len cap i1),r.2.2.1,r.2.2.2.nx,getX r.2.2.2.H.get πl mk,allB r.2.2.2.obl))=
   some (plH,(slH len cap i1).map (Option.map (V.ren (πf πl))),[],nx,lrN1 zs σ' (πf πl),B))
  (hchk:(chkP 9 nx πl (lN1 zs σ')&&(XQ (pN1 σ') (slH len cap i1)&&Nat.ble nx far))=true) (hf:σ'.f1=[]):PlPz zs plH (slH len cap i) plH (slH len cap i1) σ σ':=fun {β kind cs J A} hβ hA=>by
 simp only [Bool.and_eq_true] at hchk
 obtain ⟨J1,b1,h1,h2⟩:=YC.evalX (far:=far) (FP_ok 1) (SP_ok 1) _ _ hA (hrun J) (lrn_at1 _ _ _) hB rfl rfl rfl hchk.2.2 rfl (pN1 _) (fun m hm=>pN1_live _ _ _ m hm) (pN1_old hβ) (by rw [hβ];exact hchk.1) (obsN1 _ _) hchk.2.1
 obtain ⟨J2,b2,h3,h4⟩:=regh1 hβ hf h1
 exact ⟨J2,b2,h3,h2.trans h4⟩
theorem pcN2 {zs:List Int} {σ σ':CS} {len cap:Nat} {i i1:Int} {B:Bool} (mk πl:List Nat) (nx m:Nat) (orc:List (Nat×Bool)) (hB:B=true)
  (hrun:∀ J:Nat→V,(ctlN (FP 2) (exec (FP 2) 400) frPl m plH (trO (slots J 0 (slH len cap i))) [] ⟨trO (lA zs σ),38,orc,[],[]⟩).map (fun r=>(r.1,look r.2.1 0 (slH len cap i1),r.2.2.1,r.2.2.2.nx,getX r.2.2.2.H.get πl mk,allB r.2.2.2.obl))=
   some (plH,(slH len cap i1).map (Option.map (V.ren (πf πl))),[],nx,lrN2 zs σ' (πf πl),B))
  (hchk:(chkP 9 nx πl (lN2 zs σ')&&(XQ (pN2 σ') (slH len cap i1)&&Nat.ble nx far))=true) (hf:σ'.f2=[]):PlPz zs plH (slH len cap i) plH (slH len cap i1) σ σ':=fun {β kind cs J A} hβ hA=>by
 simp only [Bool.and_eq_true] at hchk
 obtain ⟨J1,b1,h1,h2⟩:=YC.evalX (far:=far) (FP_ok 2) (SP_ok 2) _ _ hA (hrun J) (lrn_at2 _ _ _) hB rfl rfl rfl hchk.2.2 rfl (pN2 _) (fun m hm=>pN2_live _ _ _ m hm) (pN2_old hβ) (by rw [hβ];exact hchk.1) (obsN2 _ _) hchk.2.1
 obtain ⟨J2,b2,h3,h4⟩:=regh2 hβ hf h1
 exact ⟨J2,b2,h3,h2.trans h4⟩
theorem pcN3 {zs:List Int} {σ σ':CS} {len cap:Nat} {i i1:Int} {B:Bool} (mk πl:List Nat) (nx m:Nat) (orc:List (Nat×Bool)) (hB:B=true)
  (hrun:∀ J:Nat→V,(ctlN (FP 3) (exec (FP 3) 400) frPl m plH (trO (slots J 0 (slH len cap i))) [] ⟨trO (lA zs σ),38,orc,[],[]⟩).map (fun r=>(r.1,look r.2.1 0 (slH len cap i1),r.2.2.1,r.2.2.2.nx,getX r.2.2.2.H.get πl mk,allB r.2.2.2.obl))=
   some (plH,(slH len cap i1).map (Option.map (V.ren (πf πl))),[],nx,lrN3 zs σ' (πf πl),B))
  (hchk:(chkP 9 nx πl (lN3 zs σ')&&(XQ (pN3 σ') (slH len cap i1)&&Nat.ble nx far))=true) (hf:σ'.f3=[]):PlPz zs plH (slH len cap i) plH (slH len cap i1) σ σ':=fun {β kind cs J A} hβ hA=>by
 simp only [Bool.and_eq_true] at hchk
 obtain ⟨J1,b1,h1,h2⟩:=YC.evalX (far:=far) (FP_ok 3) (SP_ok 3) _ _ hA (hrun J) (lrn_at3 _ _ _) hB rfl rfl rfl hchk.2.2 rfl (pN3 _) (fun m hm=>pN3_live _ _ _ m hm) (pN3_old hβ) (by rw [hβ];exact hchk.1) (obsN3 _ _) hchk.2.1
 obtain ⟨J2,b2,h3,h4⟩:=regh3 hβ hf h1
 exact ⟨J2,b2,h3,h2.trans h4⟩
end Go.Sx
