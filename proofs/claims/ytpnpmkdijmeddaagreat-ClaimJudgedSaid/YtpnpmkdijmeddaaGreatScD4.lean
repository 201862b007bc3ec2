/- A crew begins: begun's contract. -/
import Derived.Test.YtpnpmkdijmeddaaGreatScD2
import Derived.Test.YtpnpmkdijmeddaaGreatScT5
set_option maxRecDepth 100000
namespace Go.Sx
open Go.Proofs
def vN (x:V) (zs:List Int) (i:Nat):Int:=match x with
 |.slice _ _ _ len _=>if i<len then XR (zs.getD i 0) 1000 else 0
 |_=>0
def kz (x:V) (zs:List Int) (n i:Nat):List Int:=(List.range i).map fun q=>kB (vN x zs q) n q
def hz (x:V) (zs:List Int) (H i:Nat):List Int:=(List.range i).map fun q=>hB (vN x zs q) H
def wz (x:V) (zs:List Int) (n H:Nat):Nat→List Int
 |0=>fillW n H (List.replicate 4096 0)
 |i+1=>stW (bgL n H i (kz x zs n (i+1)) (hz x zs H (i+1))) (wz x zs n H i)
def jz (x:V) (zs:List Int) (n H:Nat):Nat→MJ
 |0=>fillJ n H (List.replicate 4096 0) ⟨0,0,0,0,false,0⟩
 |i+1=>stJ (bgL n H i (kz x zs n (i+1)) (hz x zs H (i+1))) (wz x zs n H i) (jz x zs n H i)
theorem kz_succ {x:V} {zs:List Int} {n i:Nat}:kz x zs n (i+1)=kz x zs n i++[kB (vN x zs i) n i]:=by unfold kz;rw [List.range_succ,List.map_append];rfl
theorem hz_succ {x:V} {zs:List Int} {H i:Nat}:hz x zs H (i+1)=hz x zs H i++[hB (vN x zs i) H]:=by unfold hz;rw [List.range_succ,List.map_append];rfl
theorem kz_len {x:V} {zs:List Int} {n i:Nat}:(kz x zs n i).length=i:=by unfold kz;rw [List.length_map,List.length_range]
theorem hz_len {x:V} {zs:List Int} {n i:Nat}:(hz x zs n i).length=i:=by unfold hz;rw [List.length_map,List.length_range]
theorem pickF_rg (x:Int) {k:Int} (h:0<k) (h':k≤1000):0≤XR x k∧XR x k<k:=by
 have h1:x.tmod k<k:=Int.tmod_lt_of_pos _ h
 have h2:-k<x.tmod k:=by
  have:=Int.tmod_lt_of_pos (-x) h
  rw [Int.neg_tmod] at this
  omega
 unfold XR
 split
 ·rw [XM (by omega) (by omega)];omega
 ·omega
theorem vN_rg (x:V) (zs:List Int) (i:Nat):0≤vN x zs i∧vN x zs i<1000:=by
 unfold vN
 split
 ·split
  ·exact pickF_rg _ (by decide) (by decide)
  ·decide
 ·decide
theorem kB_eq {v:Int} {n i:Nat} (h:0≤v) (hn:n≤6) (hi:i<n):kB v n i=1+v % 50*n+i:=by
 have e:v.tmod 50=v % 50:=Int.tmod_eq_emod_of_nonneg h
 have h2:n=1∨n=2∨n=3∨n=4∨n=5∨n=6:=by omega
 have h0:0≤v % 50*(n:Int)∧v % 50*(n:Int)≤300:=by rcases h2 with rfl|rfl|rfl|rfl|rfl|rfl<;>omega
 unfold kB
 rw [e,XM (x:=v % 50*n) (by omega) (by omega),XM (x:=1+v % 50*n) (by omega) (by omega),XM (by omega) (by omega),XY (by omega) (by omega)]
theorem hB_rg {v:Int} {H:Nat} (h1:1≤H) (h2:H≤4):1≤hB v H∧hB v H≤H:=by
 have:=pickF_rg (IntKind.i64.wrap (v.tdiv 50)) (k:=(H:Int)) (by omega) (by omega)
 unfold hB
 rw [XM (by omega) (by omega)]
 omega
theorem kz_get {x:V} {zs:List Int} {n i q:Nat} (h:q<i):(kz x zs n i).getD q 0=kB (vN x zs q) n q:=by
 unfold kz
 rw [List.getD_eq_getElem?_getD,List.getElem?_map,List.getElem?_range h];rfl
theorem hz_get {x:V} {zs:List Int} {n i q:Nat} (h:q<i):(hz x zs n i).getD q 0=hB (vN x zs q) n:=by
 unfold hz
 rw [List.getD_eq_getElem?_getD,List.getElem?_map,List.getElem?_range h];rfl
theorem stW_len:∀ (l:List (Int×Int)) (ws:List Int),(stW l ws).length=ws.length
 |[],_=>rfl
 |(a,v)::l,ws=>by rw [stW,stW_len l,List.length_set]
theorem wz_len (x:V) (zs:List Int) (n H:Nat):∀ i,(wz x zs n H i).length=4096
 |0=>by rw [wz,fillW,stW_len];exact List.length_replicate
 |i+1=>by rw [wz,stW_len];exact wz_len x zs n H i
section
variable {n H:Nat}
theorem szW_le (g:Geo n H):1≤szW n H∧szW n H≤4096:=by
 obtain ⟨g1,g2,g3,g4⟩:=g
 have h2:n=1∨n=2∨n=3∨n=4∨n=5∨n=6:=by omega
 unfold szW
 rcases h2 with rfl|rfl|rfl|rfl|rfl|rfl<;>omega
theorem pt_in (g:Geo n H) {i:Nat} {p:Int} (hi:i<n) (h0:0≤p) (h1:p<4):(tw n H).hasP i p∧0≤ptA (tw n H) i p∧ptA (tw n H) i p<szW n H:=by
 refine ⟨⟨tw_ok g,h0,?_,by omega,by show (i:Int)<(n:Int);omega⟩,?_⟩
 ·show p<4+(H:Int);omega
 ·unfold ptA szW tw
  obtain ⟨g1,g2,g3,g4⟩:=g
  have h2:n=1∨n=2∨n=3∨n=4∨n=5∨n=6:=by omega
  have h3:i=0∨i=1∨i=2∨i=3∨i=4∨i=5:=by omega
  rcases h2 with rfl|rfl|rfl|rfl|rfl|rfl<;>rcases h3 with rfl|rfl|rfl|rfl|rfl|rfl<;>simp only []<;>omega
theorem bg_pre (g:Geo n H) {x:V} {zs:List Int} {i:Nat} (hi:i<n):BgPre n H i (kz x zs n i) (hz x zs H i) (kz x zs n (i+1)) (hz x zs H (i+1)) (wz x zs n H i):=by
 obtain ⟨g1,g2,g3,g4⟩:=id g
 have hh:=hB_rg (v:=vN x zs i) g3 g4
 have lw:=wz_len x zs n H i
 have hs:=szW_le g
 have P:∀ p:Int,0≤p→p<4→(tw n H).hasP i p∧0≤ptA (tw n H) i p∧ptA (tw n H) i p<szW n H:=fun p h0 h1=>pt_in g hi h0 h1
 have C:∀ (p:Int) (q:Nat),0≤p→p<4→XS (ptA (tw n H) i p) (szW n H) (stW ((bgL n H i (kz x zs n (i+1)) (hz x zs H (i+1))).take q) (wz x zs n H i)):=fun p q h0 h1=>⟨(P p h0 h1).2.1,(P p h0 h1).2.2,hs.2,by rw [stW_len];exact lw⟩
 exact {hi:=by omega,hk:=by rw [kz_len];omega,hH:=by omega,hh:=by rw [hz_len];omega,k1:=by rw [kz_len];omega,k2:=by rw [kz_len];omega,h1:=by rw [hz_len];omega,h2:=by rw [hz_len];omega,a1:=by omega,a2:=by omega,a3:=by omega,a4:=by omega,a5:=by omega,a6:=by rw [decide_eq_true (show 10+2*(n:Int)<4096 by omega)];rfl,z:=by omega,g1:=by rw [hz_get (by omega)];omega,g2:=by rw [hz_get (by omega)];omega,p0:=(P 0 (by decide) (by decide)).1,p1:=(P 1 (by decide) (by decide)).1,p2:=(P 2 (by decide) (by decide)).1,p3:=(P 3 (by decide) (by decide)).1,c0:=C 0 0 (by decide) (by decide),c1:=C 1 1 (by decide) (by decide),c2:=C 2 2 (by decide) (by decide),c3:=C 3 3 (by decide) (by decide)}
variable {β:Base} {kind:CallKind} {cs:List Frame} {J:Nat→V} {a:Cf} {zs ws ks hs:List Int} {j:MJ} {x:V}
def NumV (x:V) (zs:List Int):Prop:=x=.nils∨∃ len cap,len=zs.length∧x=.slice 0 0 1 len cap
theorem bg_turn (g:Geo n H) (hx:NumV x zs) {i:Nat} (hi:i<n) (hβ:β.n0=1) (hA:YC β frBg (trO (slots J 0 (slB n H x i))) [] (hO (lB zs n H (jz x zs n H i) (wz x zs n H i) (kz x zs n i) (hz x zs H i))) 10 far a):
  ∃ J' b',YC β frBg (trO (slots J' 0 (slB n H x ((i+1:Nat):Int)))) [] (hO (lB zs n H (jz x zs n H (i+1)) (wz x zs n H (i+1)) (kz x zs n (i+1)) (hz x zs H (i+1)))) 10 far b'∧Steps PR (At frBg none kind cs a todoB) (At frBg none kind cs b' todoB):=by
 have P:=bg_pre g (x:=x) (zs:=zs) hi
 have g2:=g.2.1
 have h6:i=0∨i=1∨i=2∨i=3∨i=4∨i=5:=by omega
 rw [jz,wz]
 rw [kz_succ,hz_succ] at P ⊢
 revert P hA
 generalize jz x zs n H i=j
 generalize wz x zs n H i=ws
 generalize kz x zs n i=ks
 generalize hz x zs H i=hs
 intro hA P
 rcases hx with rfl|⟨len,cap,hl,rfl⟩
 ·have ev:vN .nils zs i=0:=rfl
  rw [ev] at P ⊢
  rcases h6 with rfl|rfl|rfl|rfl|rfl|rfl
  ·rw [show (((0:Nat)):Int)=0 from rfl] at hA;rw [show ((0+1:Nat):Int)=1 from rfl];exact bg_none0 hβ hA P
  ·rw [show (((1:Nat)):Int)=1 from rfl] at hA;rw [show ((1+1:Nat):Int)=2 from rfl];exact bg_none1 hβ hA P
  ·rw [show (((2:Nat)):Int)=2 from rfl] at hA;rw [show ((2+1:Nat):Int)=3 from rfl];exact bg_none2 hβ hA P
  ·rw [show (((3:Nat)):Int)=3 from rfl] at hA;rw [show ((3+1:Nat):Int)=4 from rfl];exact bg_none3 hβ hA P
  ·rw [show (((4:Nat)):Int)=4 from rfl] at hA;rw [show ((4+1:Nat):Int)=5 from rfl];exact bg_none4 hβ hA P
  ·rw [show (((5:Nat)):Int)=5 from rfl] at hA;rw [show ((5+1:Nat):Int)=6 from rfl];exact bg_none5 hβ hA P
 ·by_cases hc:i<len
  ·have ev:vN (.slice 0 0 1 len cap) zs i=XR (zs.getD i 0) 1000:=if_pos hc
   rw [ev] at P ⊢
   rcases h6 with rfl|rfl|rfl|rfl|rfl|rfl
   ·rw [show (((0:Nat)):Int)=0 from rfl] at hA;rw [show ((0+1:Nat):Int)=1 from rfl];exact bg_iter0 hβ hA P (by omega) (by omega) (by omega)
   ·rw [show (((1:Nat)):Int)=1 from rfl] at hA;rw [show ((1+1:Nat):Int)=2 from rfl];exact bg_iter1 hβ hA P (by omega) (by omega) (by omega)
   ·rw [show (((2:Nat)):Int)=2 from rfl] at hA;rw [show ((2+1:Nat):Int)=3 from rfl];exact bg_iter2 hβ hA P (by omega) (by omega) (by omega)
   ·rw [show (((3:Nat)):Int)=3 from rfl] at hA;rw [show ((3+1:Nat):Int)=4 from rfl];exact bg_iter3 hβ hA P (by omega) (by omega) (by omega)
   ·rw [show (((4:Nat)):Int)=4 from rfl] at hA;rw [show ((4+1:Nat):Int)=5 from rfl];exact bg_iter4 hβ hA P (by omega) (by omega) (by omega)
   ·rw [show (((5:Nat)):Int)=5 from rfl] at hA;rw [show ((5+1:Nat):Int)=6 from rfl];exact bg_iter5 hβ hA P (by omega) (by omega) (by omega)
  ·have ev:vN (.slice 0 0 1 len cap) zs i=0:=if_neg hc
   rw [ev] at P ⊢
   rcases h6 with rfl|rfl|rfl|rfl|rfl|rfl
   ·rw [show (((0:Nat)):Int)=0 from rfl] at hA;rw [show ((0+1:Nat):Int)=1 from rfl];exact bg_over0 hβ hA P (by omega)
   ·rw [show (((1:Nat)):Int)=1 from rfl] at hA;rw [show ((1+1:Nat):Int)=2 from rfl];exact bg_over1 hβ hA P (by omega)
   ·rw [show (((2:Nat)):Int)=2 from rfl] at hA;rw [show ((2+1:Nat):Int)=3 from rfl];exact bg_over2 hβ hA P (by omega)
   ·rw [show (((3:Nat)):Int)=3 from rfl] at hA;rw [show ((3+1:Nat):Int)=4 from rfl];exact bg_over3 hβ hA P (by omega)
   ·rw [show (((4:Nat)):Int)=4 from rfl] at hA;rw [show ((4+1:Nat):Int)=5 from rfl];exact bg_over4 hβ hA P (by omega)
   ·rw [show (((5:Nat)):Int)=5 from rfl] at hA;rw [show ((5+1:Nat):Int)=6 from rfl];exact bg_over5 hβ hA P (by omega)
theorem bg_loop (g:Geo n H) (hx:NumV x zs) (hβ:β.n0=1):∀ (d i:Nat) (J:Nat→V) (a:Cf),n=i+d→YC β frBg (trO (slots J 0 (slB n H x i))) [] (hO (lB zs n H (jz x zs n H i) (wz x zs n H i) (kz x zs n i) (hz x zs H i))) 10 far a→
  ∃ J' b',YC β frBg (trO (slots J' 0 slD)) [] (hO (l0 zs n H (jz x zs n H n) (wz x zs n H n) (kz x zs n n) (hz x zs H n))) 9 far b'∧Steps PR (At frBg none kind cs a todoB) (At frBg none kind cs b' [.code .ret])
 |0,i,J,a,hd,hA=>by
  have e:i=n:=by omega
  subst e
  exact bg_exit (hx.imp id fun ⟨len,cap,_,h⟩=>⟨len,cap,h⟩) hβ hA (by omega)
 |d+1,i,J,a,hd,hA=>by
  obtain ⟨J1,b1,h1,s1⟩:=bg_turn (kind:=kind) (cs:=cs) g hx (by omega) hβ hA
  obtain ⟨J2,b2,h2,s2⟩:=bg_loop g hx hβ d (i+1) J1 b1 (by omega) h1
  exact ⟨J2,b2,h2,s1.trans s2⟩
theorem bg_ghosts {T:Tr V} {A:Cf} (hβ:β.n0=1) (hA:YC β frBg T [] (hO (lB0 zs n H j ws .nils .nils)) 8 far A):YC β frBg T [] (hO (lB zs n H j ws [] [])) 10 far A:=by
 have h1:YC β frBg T [] (hO (lB0 zs n H j ws (.osl 8 1) .nils++[some (rowU [])])) 9 far A:=by
  refine hA.ghost (b:=.words .u64 []) (es:=1) (t:=54) (by decide) (by rw [hβ];decide) rfl rfl rfl (fun m hm=>?_) (fun u=>.inl rfl)
  match m,hm with
  |0,_|2,_|3,_|4,_|5,_|6,_|7,_=>exact .inl rfl
  |1,_=>exact .inr ⟨_,_,_,_,rfl,rfl,by unfold crewB Tw.vs;(repeat (first|exact GhL.nil|refine GhL.cons (by first|exact .inl rfl|exact .inr ⟨rfl,rfl⟩) ?_))⟩
  |m+9,_=>exact .inl rfl
 refine h1.ghost (b:=.words .i64 []) (es:=1) (t:=3) (by decide) (by rw [hβ];decide) rfl rfl rfl (fun m hm=>?_) (fun u=>.inl rfl)
 match m,hm with
 |0,_|2,_|3,_|4,_|5,_|6,_|7,_|8,_=>exact .inl rfl
 |1,_=>exact .inr ⟨_,_,_,_,rfl,rfl,by unfold crewB Tw.vs;(repeat (first|exact GhL.nil|refine GhL.cons (by first|exact .inl rfl|exact .inr ⟨rfl,rfl⟩) ?_))⟩
 |m+10,_=>exact .inl rfl
def BegunTo (a b:Int) (x:V) (zs:List Int) (n H:Nat) (j:MJ) (ws ks hs:List Int):Prop:=
 YD PR 5 [.int .i64 a,.int .i64 b,x] 1 (hO [some (.ro .i64 zs)]) (.ptr 1 0 0 0) 9 (hO (l0 zs n H j ws ks hs))
theorem begun_call (g:Geo n H) (hx:NumV x zs):BegunTo n H x zs n H (jz x zs n H n) (wz x zs n H n) (kz x zs n n) (hz x zs H n):=by
 refine callH_of (c:=bgBody) (t:=6) (hi:=far) Tryz.func5 (by kernel_rfl) (Nat.blt_eq.mp (by kernel_rfl)) (by kernel_rfl) (Nat.ble_eq.mp (by kernel_rfl)) (fun m o ho=>?_) (fun m o ho hr=>?_) rfl ?_
 ·have:=XP (p:=fun m=>Nat.blt m 9) (l0 zs n H (jz x zs n H n) (wz x zs n H n) (kz x zs n n) (hz x zs H n)) 0 (by kernel_rfl) m o ho
  rw [blt_fun] at this
  exact ⟨by simpa using this.2.1,this.2.2⟩
 ·have hm:=lt_of_hO ho
  match m,hm,ho with
  |0,_,ho=>cases ho;rfl
  |1,_,ho|2,_,ho|3,_,ho|4,_,ho|5,_,ho|6,_,ho|7,_,ho|8,_,ho=>cases ho;cases hr
 ·intro L w kind cs a hA
  obtain ⟨g1,g2,g3,g4⟩:=id g
  have hs:=szW_le g
  have h1:1≤(n:Int)∧(n:Int)≤6∧1≤(H:Int)∧(H:Int)≤4:=by omega
  have h4:FillPre (tw n H) (szW n H) (List.replicate 4096 0):=⟨rfl,g,rfl,List.length_replicate⟩
  have hst:∃ J' b',YC ⟨w,Handed (hO [some (.ro .i64 zs)]) L,1,L⟩ frBg (trO (slots J' 0 (slB n H x 0))) [] (hO (lB0 zs n H (fillJ n H (List.replicate 4096 0) ⟨0,0,0,0,false,0⟩) (fillW n H (List.replicate 4096 0)) .nils .nils)) 8 far b'∧Steps PR (At frBg none kind cs a [.code bgBody]) (At frBg none kind cs b' todoB):=by
   rcases hx with rfl|⟨len,cap,hl,rfl⟩
   ·exact bg_startN rfl hA h1 (by omega) (by omega) h4
   ·exact bg_start rfl hA h1 (by omega) (by omega) h4
  obtain ⟨J1,b1,e1,s1⟩:=hst
  obtain ⟨J2,b2,e2,s2⟩:=bg_loop (kind:=kind) (cs:=cs) g hx rfl n 0 J1 b1 (by omega) (bg_ghosts rfl e1)
  exact ⟨b2,_,9,far,_,e2,rfl,s1.trans s2,.inr ⟨[],rfl⟩⟩
end
end Go.Sx
namespace Go.Sx
open Go.Ql (SInv FInv fstep updF XX XW lkd)
structure FR (n H:Nat) (k:Int) (x:FdC) (rs:List (List Int)) (fd:Ql.Fd):Prop where
 t:x.t=tw n H
 key:x.key=k
 made:x.made=true
 err:x.err=0
 rl:rs.length=H
 r4:∀ r∈rs,r.length=4
 ln:x.ln=fd.ln
 lv:x.lv=fd.lv
 pr:x.pr=fd.p
 c:fd.ln=2∨fd.ln=3∨fd.ln=4→x.cu=lnkW fd.c false
 w3:fd.ln=3→x.w=lnkW fd.w true
 w4:fd.ln=4→x.w=lnkW fd.w false
 td:∀ l,l<H→(fd.lv<l∨fd.ln=9)→∃ kn,rs.getD l []=[(l:Int),(fd.told l).1,kn,lnkW (fd.told l).2 false]
section
variable {n H:Nat} {k:Int} {x:FdC} {rs:List (List Int)} {fd:Ql.Fd} {ks hs ws:List Int} {nx:Nat→Int→Int} {mk:Nat→Int→Bool} {j:MJ} {high lev:Int→Nat} {C:Nat→List Int}
theorem FR.ok (F:FR n H k x rs fd) (g:Geo n H):x.ok rs:=⟨by rw [F.t];exact tw_ok g,by rw [F.t,F.rl];rfl,F.r4⟩
theorem rows_set {rs:List (List Int)} {l:Nat} {r:List Int} (h4:∀ r∈rs,r.length=4) (hr:r.length=4):∀ q∈rs.set l r,q.length=4:=fun q hq=>by
 rcases List.mem_or_eq_of_mem_set hq with h|h
 ·exact h4 q h
 ·rw [h];exact hr
theorem getD_setR {rs:List (List Int)} {l m:Nat} {r:List Int} (h:l<rs.length):(rs.set l r).getD m []=if m=l then r else rs.getD m []:=by
 rw [List.getD_eq_getElem?_getD,List.getElem?_set]
 by_cases e:l=m
 ·subst e;rw [if_pos rfl,if_pos h,if_pos rfl];rfl
 ·rw [if_neg e,if_neg (fun h=>e h.symm),List.getD_eq_getElem?_getD]
theorem FR.down (_g:Geo n H) {x':FdC} (hlt:fd.lv<H) (_h9:fd.ln≠9) (t:x'.t=tw n H) (hk:x'.key=k) (hm:x'.made=true) (he:x'.err=0) (rl:rs.length=H) (r4:∀ r∈rs,r.length=4) (lv:x'.lv=fd.lv) (pr:x'.pr=fd.p) (c:x'.cu=lnkW fd.c false)
  (td:∀ l,l<H→fd.lv<l→∃ kn,rs.getD l []=[(l:Int),(fd.told l).1,kn,lnkW (fd.told l).2 false]):
  FR n H k (doneC x' rs j ws).x (doneC x' rs j ws).rs fd.down:=by
 have e0:x'.lv.toNat=fd.lv:=by omega
 have eh:x'.t.height=(H:Int):=by rw [t];rfl
 have htd:∀ l,l<H→fd.lv≤l→∃ kn,(rs.set fd.lv [x'.lv,x'.pr,x'.kn,x'.cu]).getD l []=[(l:Int),(fd.down.told l).1,kn,lnkW (fd.down.told l).2 false]:=fun l hl h=>by
  rw [getD_setR (by rw [rl];exact hlt)]
  show ∃ kn,_=[(l:Int),(if l=fd.lv then (fd.p,fd.c) else fd.told l).1,kn,lnkW (if l=fd.lv then (fd.p,fd.c) else fd.told l).2 false]
  by_cases e:l=fd.lv
  ·rw [if_pos e,if_pos e];exact ⟨x'.kn,by rw [lv,pr,c,e]⟩
  ·rw [if_neg e,if_neg e];exact td l hl (by omega)
 unfold doneC
 rw [e0]
 by_cases z:fd.lv=0
 ·have e1:beginC x' (rs.set fd.lv [x'.lv,x'.pr,x'.kn,x'.cu]) (x'.lv - 1)={x' with ln:=9}:=by unfold beginC;rw [if_pos (by omega)]
  have e2:fd.down.ln=9:=if_pos z
  simp only [e1]
  refine ⟨t,hk,hm,he,by rw [List.length_set];exact rl,rows_set r4 rfl,by rw [e2];rfl,by show x'.lv=((fd.lv - 1:Nat):Int);omega,pr,fun h=>?_,fun h=>?_,fun h=>?_,fun l hl h=>htd l hl (by omega)⟩
  ·rw [e2] at h;omega
  ·rw [e2] at h;omega
  ·rw [e2] at h;omega
 ·have e1:beginC x' (rs.set fd.lv [x'.lv,x'.pr,x'.kn,x'.cu]) (x'.lv - 1)={x' with ln:=1,lv:=x'.lv - 1,pr:=x'.pr,kn:=x'.kn,cu:=0}:=by
   unfold beginC
   rw [if_neg (by omega),if_neg (by rw [eh];omega)]
   have e3:(x'.lv - 1+1).toNat=fd.lv:=by omega
   rw [e3,getD_setR (by rw [rl];exact hlt),if_pos rfl];rfl
  have e2:fd.down.ln=1:=if_neg z
  simp only [e1]
  refine ⟨t,hk,hm,he,by rw [List.length_set];exact rl,rows_set r4 rfl,by rw [e2];rfl,by show x'.lv - 1=((fd.lv - 1:Nat):Int);omega,pr,fun h=>?_,fun h=>?_,fun h=>?_,fun l hl h=>htd l hl ?_⟩
  ·rw [e2] at h;omega
  ·rw [e2] at h;omega
  ·rw [e2] at h;omega
  ·rcases h with h|h
   ·have h:fd.lv - 1<l:=h
    omega
   ·rw [e2] at h;omega
theorem FR.looks (g:Geo n H) {x':FdC} (hlt:fd.lv<H) (h9:fd.ln≠9) (t:x'.t=tw n H) (hk:x'.key=k) (hm:x'.made=true) (he:x'.err=0) (rl:rs.length=H) (r4:∀ r∈rs,r.length=4) (lv:x'.lv=fd.lv) (pr:x'.pr=fd.p) (c:x'.cu=lnkW fd.c false)
  (c0:-1≤fd.c) (c1:fd.c<n) (td:∀ l,l<H→fd.lv<l→∃ kn,rs.getD l []=[(l:Int),(fd.told l).1,kn,lnkW (fd.told l).2 false]):
  FR n H k (looksC x' rs j ws).x (looksC x' rs j ws).rs fd.looks:=by
 have es:x'.t.size=(n:Int):=by rw [t];rfl
 have ei:indT x'.t.size x'.cu=fd.c:=by rw [es,c];exact rI g c0 c1
 unfold looksC Ql.Fd.looks
 rw [ei]
 by_cases e:fd.c=-1
 ·rw [if_pos (by omega),if_pos e]
  exact FR.down g (x':={x' with ln:=2}) hlt h9 t hk hm he rl r4 lv pr c td
 ·rw [if_neg (by omega),if_neg e]
  refine ⟨t,hk,hm,he,rl,r4,rfl,lv,pr,fun _=>c,fun h=>?_,fun h=>?_,fun l hl h=>td l hl ?_⟩
  ·cases h
  ·cases h
  ·rcases h with h|h
   ·exact h
   ·cases h
theorem FR.anew (g:Geo n H) {x':FdC} (t:x'.t=tw n H) (hk:x'.key=k) (hm:x'.made=true) (he:x'.err=0) (rl:rs.length=H) (r4:∀ r∈rs,r.length=4):
  FR n H k (anewC x' rs j ws).x (anewC x' rs j ws).rs (fd.anew H):=by
 obtain ⟨g1,g2,g3,g4⟩:=id g
 have eh:x'.t.height=(H:Int):=by rw [t];rfl
 have e1:beginC x' rs (x'.t.height - 1)={x' with ln:=1,lv:=x'.t.height - 1,pr:=-1,kn:=0,cu:=0}:=by
  unfold beginC
  rw [if_neg (by omega),if_pos rfl]
 unfold anewC
 simp only [e1]
 refine ⟨t,hk,hm,he,rl,r4,rfl,by show x'.t.height - 1=((H - 1:Nat):Int);omega,rfl,fun h=>?_,fun h=>?_,fun h=>?_,fun l hl h=>?_⟩
 ·rcases h with h|h|h<;>cases h
 ·cases h
 ·cases h
 ·rcases h with h|h
  ·have h:H - 1<l:=h
   omega
  ·cases h
theorem lkd_dm {l:Nat} {i:Int} (hl:l<H) (h:lkd (n:Int) lev l i):dm n H l i:=⟨.inr ⟨h.1,h.2.1⟩,hl⟩
theorem pOK_dm {l:Nat} {i:Int} (hl:l<H) (h:Go.Ql.pOK (n:Int) (keyF ks) k lev l i):dm n H l i:=⟨h.imp id fun h=>⟨h.1.1,h.1.2.1⟩,hl⟩
theorem FR.pre (F:FR n H k x rs fd) (g:Geo n H) (hw:ws.length=4096) (I:FInv H n (keyF ks) k nx mk lev fd):fPre x rs (szW n H) ws:=by
 refine ⟨F.ok g,by rw [F.t];exact tw_fit g hw,F.made,?_⟩
 by_cases h9:fd.ln=9
 ·exact .inl (by rw [F.ln,h9];rfl)
 ·refine .inr ⟨by rw [F.lv];omega,by rw [F.t,F.lv];show (fd.lv:Int)<H;have:=I.lt;omega,?_,?_⟩
  ·rw [F.pr,F.t]
   exact (I.pl h9).imp id fun h=>⟨h.1.1,h.1.2.1⟩
  ·by_cases h1:fd.ln=1
   ·exact .inl (by rw [F.ln,h1];rfl)
   ·have h234:fd.ln=2∨fd.ln=3∨fd.ln=4:=by have:=I.ln;omega
    refine .inr ⟨by rw [F.ln];omega,?_⟩
    have hc:=(I.cl h234).1
    rw [F.c h234,F.t]
    show 0≤indT (n:Int) _
    rw [rI g (by have:=hc.1;omega) hc.2.1]
    exact hc.1
theorem FR.step (F:FR n H k x rs fd) (g:Geo n H) (W:WI n H ks hs nx mk ws) (_V:SInv H n (keyF ks) high nx mk lev C) (I:FInv H n (keyF ks) k nx mk lev fd) (h9:fd.ln≠9):
  FR n H k (fstC x rs j ws).x (fstC x rs j ws).rs (fstep H (keyF ks) k nx mk fd).2∧WI n H ks hs (fstep H (keyF ks) k nx mk fd).1 mk (fstC x rs j ws).ws:=by
 obtain ⟨g1,g2,g3,g4⟩:=id g
 have hlt:=I.lt
 have hp:=I.pl h9
 have hdp:dm n H fd.lv fd.p:=pOK_dm hlt hp
 have ep:(nxA x.t x.pr x.lv).toNat=ad n H fd.lv fd.p:=by rw [F.t,F.pr,F.lv];rfl
 have hwp:=W.lk _ _ hdp
 have hrp:=W.rg _ _ hdp
 have htd:∀ l,l<H→fd.lv<l→∃ kn,rs.getD l []=[(l:Int),(fd.told l).1,kn,lnkW (fd.told l).2 false]:=fun l hl h=>F.td l hl (.inl h)
 have esz:x.t.size=(n:Int):=by rw [F.t];rfl
 rcases I.ln with e|e|e|e|e
 ·unfold fstC fstep
  rw [if_pos (show x.ln=1 by rw [F.ln,e];rfl),if_pos e,ep,hwp,rM g hrp.1 hrp.2]
  cases hm:mk fd.lv fd.p with
  |true=>exact ⟨FR.anew g F.t F.key F.made F.err F.rl F.r4,W⟩
  |false=>
   refine ⟨FR.looks (fd:={fd with c:=nx fd.lv fd.p}) g hlt h9 F.t F.key F.made F.err F.rl F.r4 F.lv F.pr rfl hrp.1 hrp.2 htd,?_⟩
   have:∀ (x':FdC) j',(looksC x' rs j' ws).ws=ws:=fun x' j'=>by unfold looksC doneC;split<;>rfl
   show WI n H ks hs nx mk (looksC _ rs _ ws).ws
   rw [this];exact W
 ·have hc:=(I.cl (.inl e)).1
  have hdc:=lkd_dm hlt hc
  have ec:(nxA x.t (indT x.t.size x.cu) x.lv).toNat=ad n H fd.lv fd.c:=by
   rw [esz,F.c (.inl e),rI g (by have:=hc.1;omega) hc.2.1,F.t,F.lv];rfl
  have hrc:=W.rg _ _ hdc
  unfold fstC fstep
  rw [if_neg (show ¬ x.ln=1 by rw [F.ln,e];decide),if_pos (show x.ln=2 by rw [F.ln,e];rfl),if_neg (show ¬ fd.ln=1 by omega),if_pos e,ec,W.lk _ _ hdc,rM g hrc.1 hrc.2]
  refine ⟨⟨F.t,F.key,F.made,F.err,F.rl,F.r4,?_,F.lv,F.pr,fun _=>F.c (.inl e),fun h=>?_,fun h=>?_,fun l hl h=>?_⟩,W⟩
  ·show (if mk fd.lv fd.c=true then (3:Int) else 4)=((if mk fd.lv fd.c=true then 3 else 4:Nat):Int)
   split<;>rfl
  ·have h:(if mk fd.lv fd.c=true then 3 else 4)=3:=h
   show lnkW (nx fd.lv fd.c) (mk fd.lv fd.c)=lnkW (nx fd.lv fd.c) true
   cases hm:mk fd.lv fd.c with
   |true=>rfl
   |false=>rw [hm] at h;cases h
  ·have h:(if mk fd.lv fd.c=true then 3 else 4)=4:=h
   show lnkW (nx fd.lv fd.c) (mk fd.lv fd.c)=lnkW (nx fd.lv fd.c) false
   cases hm:mk fd.lv fd.c with
   |false=>rfl
   |true=>rw [hm] at h;cases h
  ·rcases h with h|h
   ·exact htd l hl h
   ·have h:(if mk fd.lv fd.c=true then 3 else 4)=9:=h
    split at h<;>cases h
 ·have hc:=(I.cl (.inr (.inl e))).1
  obtain ⟨hm3,hw3⟩:=I.l3 e
  have hrc:=W.rg _ _ (lkd_dm hlt hc)
  rw [← hw3] at hrc
  have ew:rawC x.w=lnkW fd.w false:=by rw [F.w3 e];exact rC g hrc.1 hrc.2
  have ecu:=F.c (.inr (.inl e))
  have hiff:ws.getD (ad n H fd.lv fd.p) 0=x.cu↔(nx fd.lv fd.p=fd.c∧mk fd.lv fd.p=false):=by
   rw [hwp,ecu];exact lk_inj g hrp.1 hrp.2 (by have:=hc.1;omega) hc.2.1
  unfold fstC fstep
  rw [if_neg (show ¬ x.ln=1 by rw [F.ln,e];decide),if_neg (show ¬ x.ln=2 by rw [F.ln,e];decide),if_pos (show x.ln=3 by rw [F.ln,e];rfl),if_neg (show ¬ fd.ln=1 by omega),if_neg (show ¬ fd.ln=2 by omega),if_pos e,ep,ew]
  have hlo:∀ (x':FdC) j' ws',(looksC x' rs j' ws').ws=ws':=fun x' j' ws'=>by unfold looksC doneC;split<;>rfl
  by_cases hg:ws.getD (ad n H fd.lv fd.p) 0=x.cu
  ·rw [if_pos hg,if_pos (hiff.1 hg)]
   refine ⟨FR.looks (fd:={fd with c:=fd.w}) g hlt h9 F.t F.key F.made F.err F.rl F.r4 F.lv F.pr rfl hrc.1 hrc.2 htd,?_⟩
   show WI n H ks hs _ mk (looksC _ rs _ _).ws
   rw [hlo]
   unfold casW
   rw [if_pos hg]
   have hW:=W.set (b:=mk fd.lv fd.p) g hdp hrc.1 hrc.2
   have em:up2 mk fd.lv fd.p (mk fd.lv fd.p)=mk:=by
    funext a b
    by_cases h:a=fd.lv∧b=fd.p
    ·obtain ⟨rfl,rfl⟩:=h;exact up2_eq
    ·exact up2_ne h
   rw [em,(hiff.1 hg).2] at hW
   exact hW
  ·rw [if_neg hg,if_neg (fun h=>hg (hiff.2 h))]
   refine ⟨FR.anew g F.t F.key F.made F.err F.rl F.r4,?_⟩
   show WI n H ks hs nx mk (casW ws _ _ _)
   unfold casW
   rw [if_neg hg];exact W
 ·have hc:=(I.cl (.inr (.inr e))).1
  have ecu:=F.c (.inr (.inr e))
  have ei:indT x.t.size x.cu=fd.c:=by rw [esz,ecu,rI g (by have:=hc.1;omega) hc.2.1]
  have ek:(ptA x.t fd.c 0).toNat=pd n H fd.c 0:=by rw [F.t];rfl
  have hlo:∀ (x':FdC) j' ws',(looksC x' rs j' ws').ws=ws':=fun x' j' ws'=>by unfold looksC doneC;split<;>rfl
  unfold fstC fstep
  rw [if_neg (show ¬ x.ln=1 by rw [F.ln,e];decide),if_neg (show ¬ x.ln=2 by rw [F.ln,e];decide),if_neg (show ¬ x.ln=3 by rw [F.ln,e];decide),if_pos (show x.ln=4 by rw [F.ln,e];rfl),if_neg (show ¬ fd.ln=1 by omega),if_neg (show ¬ fd.ln=2 by omega),if_neg (show ¬ fd.ln=3 by omega),if_pos e,ei,ek,W.key _ hc.1 hc.2.1,F.key]
  by_cases hg:keyF ks fd.c≥k
  ·rw [if_pos hg,if_pos hg]
   exact ⟨FR.down g hlt h9 F.t rfl F.made F.err F.rl F.r4 F.lv F.pr ecu htd,W⟩
  ·rw [if_neg hg,if_neg hg]
   have hw4:=I.l4 e
   have hrw:-1≤fd.w∧fd.w<n:=by
    rcases hw4 with h|h
    ·omega
    ·have:=h.1.1;have:=h.1.2.1;omega
   refine ⟨FR.looks (fd:={fd with p:=fd.c,c:=fd.w}) g hlt h9 F.t rfl F.made F.err F.rl F.r4 F.lv rfl (F.w4 e) hrw.1 hrw.2 htd,?_⟩
   show WI n H ks hs nx mk (looksC _ rs _ ws).ws
   rw [hlo];exact W
 ·exact absurd e h9
theorem FR.new (g:Geo n H) {p c w:Int} {td:Nat→Int×Int}:FR n H k (newF (tw n H) k) (newR (tw n H)) (Ql.Fd.anew H ⟨1,0,p,c,w,td⟩):=by
 obtain ⟨g1,g2,g3,g4⟩:=id g
 refine ⟨rfl,rfl,rfl,rfl,?_,fun r hr=>?_,rfl,?_,rfl,fun h=>?_,fun h=>?_,fun h=>?_,fun l hl h=>?_⟩
 ·unfold newR;rw [List.length_replicate];show (H:Int).toNat=H;omega
 ·unfold newR at hr;rw [List.eq_of_mem_replicate hr];rfl
 ·show (H:Int) - 1=((H - 1:Nat):Int);omega
 ·rcases h with h|h|h<;>cases h
 ·cases h
 ·cases h
 ·rcases h with h|h
  ·have h:H - 1<l:=h
   omega
  ·cases h
end
end Go.Sx
namespace Go.Ql
section
variable {H:Nat} {N k:Int} {key:Int→Int} {high:Int→Nat} {nx nx' nx2:Nat→Int→Int} {mk mk' mk2:Nat→Int→Bool} {lev lev' lev2:Int→Nat} {C:Nat→List Int} {x:Fd}
theorem Lv.own {f:Int→Int} {m:Int→Bool} {L:Int→Prop} {C:List Int} (V:Lv key f m L C) {i v:Int} (h0:0≤i) (hi:¬ L i):Lv key (updF f i v) m L C:=
 ⟨Ch.congr (fun z hz=>XW fun e=>by
   subst e
   rcases hz with e|hz
   ·omega
   ·exact hi (V.lnk z hz).2) V.ch,V.srt,V.lnk,V.all,fun j hj=>by
  have:j≠i:=fun e=>by
   subst e
   rcases hj with e|hj
   ·omega
   ·exact hi hj
  rw [XW this];exact V.nxt j hj,V.pos⟩
theorem SInv.own (V:SInv H N key high nx mk lev C) {l:Nat} {i v:Int} (h0:0≤i) (hl:lev i≤l):SInv H N key high (fun m=>if m=l then updF (nx m) i v else nx m) mk lev C:=by
 refine ⟨fun m hm=>?_,V.lh,V.hh,V.hd,V.dn⟩
 by_cases e:m=l
 ·subst e;simp only [if_true];exact (V.lv m hm).own h0 (fun h=>by omega)
 ·simp only [if_neg e];exact V.lv m hm
structure RW (N:Int) (own:Int) (nx:Nat→Int→Int) (mk:Nat→Int→Bool) (lev:Int→Nat) (nx':Nat→Int→Int) (mk':Nat→Int→Bool) (lev':Int→Nat):Prop where
 lv:∀ i,lev i≤lev' i
 lo:∀ k,k≠own→lev' k=lev k
 mm:∀ l i,mk l i=true→mk' l i=true
 fz:∀ l i,lkd N lev l i→mk l i=true→nx' l i=nx l i
 ow:∀ k,0≤k→k≠own→∀ l,lev k≤l→nx' l k=nx l k
 un:∀ k,lev k=0→∀ l,mk' l k=mk l k
theorem RW.refl {own:Int}:RW N own nx mk lev nx mk lev:=⟨fun _=>Nat.le_refl _,fun _ _=>rfl,fun _ _ h=>h,fun _ _ _ _=>rfl,fun _ _ _ _ _=>rfl,fun _ _ _=>rfl⟩
theorem RW.fi {own:Int} (R:RW N own nx mk lev nx' mk' lev') (I:FInv H N key k nx mk lev x):FInv H N key k nx' mk' lev' x:=I.mono R.lv R.mm R.fz
theorem RW.ii {own i:Int} {y:Ins} (R:RW N own nx mk lev nx' mk' lev') (h0:0≤i) (hi:i≠own) (I:IInv H N key high nx mk lev i y):IInv H N key high nx' mk' lev' i y:=
 I.mono (R.lo i hi) R.lv R.mm R.fz (R.ow i h0 hi) (R.un i)
theorem RW.fstep (V:SInv H N key high nx mk lev C) (I:FInv H N key k nx mk lev x) {own:Int}:RW N own nx mk lev (fstep H key k nx mk x).1 mk lev:=by
 refine ⟨fun _=>Nat.le_refl _,fun _ _=>rfl,fun _ _ h=>h,fstep_keeps V I,fun j h0 _ l hl=>?_,fun _ _ _=>rfl⟩
 unfold Ql.fstep
 split
 ·rfl
 ·split
  ·rfl
  ·split
   ·rename_i h3
    split
    ·show (if l=x.lv then updF (nx l) x.p x.w else nx l) j=nx l j
     by_cases e:l=x.lv
     ·rw [if_pos e,XW]
      intro e2
      rcases I.pl (by omega) with h|⟨h,_⟩
      ·omega
      ·have:=h.2.2
       rw [← e2] at this
       omega
     ·rw [if_neg e]
    ·rfl
   ·split<;>rfl
theorem tm_pos (I:FInv H N key k nx mk lev x) (h9:x.ln≠9):1≤tm N key x:=by
 unfold tm
 have hB:Bd N=1+2*N.toNat:=rfl
 rcases I.ln with e|e|e|e|e
 ·rw [if_pos e];omega
 ·rw [if_neg (by omega),if_pos e]
  have hc:=(I.cl (.inl e)).1
  have:=rk_pos (N:=N) (key:=key) hc.1 hc.2.1
  omega
 ·rw [if_neg (by omega),if_neg (by omega),if_neg (by omega)]
  have hc:=(I.cl (.inr (.inl e))).1
  have:=rk_pos (N:=N) (key:=key) hc.1 hc.2.1
  omega
 ·rw [if_neg (by omega),if_neg (by omega),if_neg (by omega)]
  have hc:=(I.cl (.inr (.inr e))).1
  have:=rk_pos (N:=N) (key:=key) hc.1 hc.2.1
  omega
 ·exact absurd e h9
def FL (H:Nat) (N:Int) (key:Int→Int) (nx:Nat→Int→Int) (mk:Nat→Int→Bool) (x:Fd) (b g m:Nat):Prop:=(∃ a,FG H N key nx mk x a∧a+b≤m)∨tm N key x+g≤m
theorem FL_step {b g m:Nat} (V:SInv H N key high nx mk lev C) (I:FInv H N key k nx mk lev x) (h9:x.ln≠9) (hg:H*Bd N+b≤g) (F:FL H N key nx mk x b g (m+1)):
  FL H N key (fstep H key k nx mk x).1 mk (fstep H key k nx mk x).2 b g m:=by
 have hp:=tm_pos I h9
 rcases F with ⟨a,h1,h2⟩|h
 ·obtain ⟨a',rfl⟩:∃ a',a=a'+1:=⟨a - 1,by have:=h1.2.2;omega⟩
  exact .inl ⟨a',FG_step V I h9 h1,by omega⟩
 ·rcases FB_step (m:=tm N key x - 1) V I h9 (by omega) with h3|h3
  ·exact .inr (by omega)
  ·exact .inl ⟨_,h3,by omega⟩
theorem FL_end {b g m:Nat} (F:FL H N key nx mk x b g m):(TG H 0 nx mk x∧b≤m)∨g≤m:=by
 rcases F with ⟨a,h1,h2⟩|h
 ·exact .inl ⟨h1.2.1,by omega⟩
 ·exact .inr (by omega)
theorem FL_new {b g m:Nat} (V:SInv H N key high nx mk lev C) (h:0<H) (hm:H*Bd N+b≤m):FL H N key nx mk (x.anew H) b g m:=.inl ⟨_,FG_anew V h (Nat.le_refl _),hm⟩
theorem TG.own {lo l:Nat} {i v:Int} (T:TG H lo nx mk x) (I:FInv H N key k nx mk lev x) (h0:0≤i) (hl:lev i≤l):TG H lo (fun m=>if m=l then updF (nx m) i v else nx m) mk x:=fun m h1 h2 h3=>by
 refine ⟨?_,(T m h1 h2 h3).2⟩
 show (if m=l then updF (nx m) i v else nx m) (x.told m).1=_
 by_cases e:m=l
 ·rw [if_pos e,XW]
  ·exact (T m h1 h2 h3).1
  ·intro e2
   rcases (I.tld m h2 h3).1 with h|⟨h,_⟩
   ·omega
   ·have:=h.2.2
    rw [e2] at this
    omega
 ·rw [if_neg e];exact (T m h1 h2 h3).1
theorem TG.up {lo l:Nat} {p v:Int} (T:TG H lo nx mk x) (hl:l<lo):TG H lo (fun m=>if m=l then updF (nx m) p v else nx m) mk x:=fun m h1 h2 h3=>by
 refine ⟨?_,(T m h1 h2 h3).2⟩
 show (if m=l then updF (nx m) p v else nx m) (x.told m).1=_
 rw [if_neg (by omega)];exact (T m h1 h2 h3).1
theorem TG.mono {lo lo':Nat} (T:TG H lo nx mk x) (h:lo≤lo'):TG H lo' nx mk x:=fun m h1 h2 h3=>T m (Nat.le_trans h h1) h2 h3
end
end Go.Ql
namespace Go.Sx
open Go.Ql (SInv FInv IInv fstep updF XX XW lkd RW TG liv insK)
theorem Nums.hi {n H:Nat} {ks hs:List Int} (N:Nums n H ks hs) {i:Int} (h0:0≤i) (h1:i<n):(hiF n hs i:Int)=hs.getD i.toNat 0∧1≤hiF n hs i∧hiF n hs i≤H:=by
 have:=N.h1 i h0 h1
 unfold hiF
 rw [if_pos ⟨h0,h1⟩]
 omega
def isLk (n:Nat) (w:Int):Prop:=∃ v,w=lnkW v false∧-1≤v∧v<n
structure IB (n H:Nat) (ks hs:List Int) (i:Int) (x:InsC):Prop where
 t:x.t=tw n H
 made:x.made=true
 err:x.err=0
 ref:x.ref=lnkW i false
 key:x.key=keyF ks i
 xi:x.i=i
 hi:x.high=(hiF n hs i:Int)
 i0:0≤i
 i1:i<n
theorem IB.ki {n H:Nat} {ks hs:List Int} {i:Int} {x y:InsC} (B:IB n H ks hs i x) (h:KI x y):IB n H ks hs i y:=by
 obtain ⟨h1,h2,h3,h4,h5,h6,h7⟩:=h
 exact ⟨h1.trans B.t,h2.trans B.made,h7.trans B.err,h3.trans B.ref,h4.trans B.key,h5.trans B.xi,h6.trans B.hi,B.i0,B.i1⟩
def FBs (n H:Nat) (k:Int) (f:FdC):Prop:=f.t=tw n H∧f.key=k∧f.err=0
theorem FR.fb {n H:Nat} {k:Int} {f:FdC} {rs:List (List Int)} {fd:Ql.Fd} (F:FR n H k f rs fd):FBs n H k f:=⟨F.t,F.key,F.err⟩
structure IR (n H:Nat) (ks hs:List Int) (nx:Nat→Int→Int) (mk:Nat→Int→Bool) (lev:Int→Nat) (i:Int) (x:InsC) (f:FdC) (rs:List (List Int)) (fd:Ql.Fd):Prop where
 B:IB n H ks hs i x
 fb:FBs n H (keyF ks i) f
 ln:1≤x.ln∧x.ln≤11
 lv:0≤x.lv
 I:IInv H n (keyF ks) (hiF n hs) nx mk lev i ⟨x.ln.toNat,x.lv.toNat,0,fd⟩
 F:x.ln≤8∨x.ln=10→FR n H (keyF ks i) f rs fd
 f9:x.ln=1∨x.ln=7∨x.ln=10→fd.ln≠9
 l3:x.ln=3→x.lv=0
 w5:x.ln=5→isLk n x.w
theorem IR.of {n H:Nat} {ks hs:List Int} {nx:Nat→Int→Int} {mk:Nat→Int→Bool} {lev:Int→Nat} {i:Int} {x:InsC} {f:FdC} {rs:List (List Int)} {fd:Ql.Fd} (B:IB n H ks hs i x) (fb:FBs n H (keyF ks i) f) (c l:Nat) (hc:x.ln=c) (hl:x.lv=l) (c1:1≤c) (c2:c≤11)
  (F:c≤8∨c=10→FR n H (keyF ks i) f rs fd∧FInv H n (keyF ks) (keyF ks i) nx mk lev fd) (fe:2≤c∧c≤6∨c=8→fd.ln=9) (f9:c=1∨c=7∨c=10→fd.ln≠9)
  (l0:c≤3→lev i=0∧∀ l,mk l i=false) (st:c=2→l<hiF n hs i∧∀ m,m<l→nx m i=(fd.told m).2) (en:c=3→l=0∧∀ m,m<hiF n hs i→nx m i=(fd.told m).2)
  (up:4≤c∧c≤8→1≤l∧l<hiF n hs i∧lev i=l) (li:c=6→nx l i=(fd.told l).2) (af:4≤c→1≤lev i) (w5:c=5→isLk n x.w):IR n H ks hs nx mk lev i x f rs fd:=by
 have e1:x.ln.toNat=c:=by omega
 have e2:x.lv.toNat=l:=by omega
 refine ⟨B,fb,by omega,by omega,?_,fun h=>(F (by omega)).1,fun h=>f9 (by omega),fun h=>by have:=(en (by omega)).1;omega,fun h=>w5 (by omega)⟩
 rw [e1,e2]
 exact ⟨fun h=>(F (by have h:1≤c∧c≤8∨c=10:=h;omega)).2,fun h=>fe (by have h:2≤c∧c≤6∨c=8:=h;omega),fun h=>l0 (by have h:1≤c∧c≤3:=h;omega),st,fun h=>(en h).2,fun h=>up h,li,af⟩
structure IL (n H:Nat) (ks:List Int) (nx:Nat→Int→Int) (mk:Nat→Int→Bool) (h:Nat) (x:InsC) (fd:Ql.Fd) (m:Nat):Prop where
 l1:x.ln=1→Ql.FL H n (keyF ks) nx mk fd (H*Ql.Bd n+5+4*h) (2*(H*Ql.Bd n)+9+5*h) m
 l2:x.ln=2→(TG H 0 nx mk fd∧H*Ql.Bd n+5+3*h+(h - x.lv.toNat)≤m)∨2*(H*Ql.Bd n)+9+4*h+(h - x.lv.toNat)≤m
 l3:x.ln=3→(TG H 0 nx mk fd∧H*Ql.Bd n+5+3*h≤m)∨2*(H*Ql.Bd n)+9+4*h≤m
 l4:x.ln=4→(TG H x.lv.toNat nx mk fd∧H*Ql.Bd n+7+3*(h - x.lv.toNat)≤m)∨2*(H*Ql.Bd n)+11+3*(h - x.lv.toNat)≤m
 l5:x.ln=5→(TG H x.lv.toNat nx mk fd∧H*Ql.Bd n+6+3*(h - x.lv.toNat)≤m)∨2*(H*Ql.Bd n)+10+3*(h - x.lv.toNat)≤m
 l6:x.ln=6→(TG H x.lv.toNat nx mk fd∧H*Ql.Bd n+5+3*(h - x.lv.toNat)≤m)∨2*(H*Ql.Bd n)+9+3*(h - x.lv.toNat)≤m
 l7:x.ln=7→Ql.FL H n (keyF ks) nx mk fd (H*Ql.Bd n+8+3*(h - x.lv.toNat)) (2*(H*Ql.Bd n)+12+3*(h - x.lv.toNat)) m
 l8:x.ln=8→(TG H x.lv.toNat nx mk fd∧H*Ql.Bd n+8+3*(h - x.lv.toNat)≤m)∨2*(H*Ql.Bd n)+12+3*(h - x.lv.toNat)≤m
 l9:x.ln=9→H*Ql.Bd n+7≤m
 l10:x.ln=10→Ql.FL H n (keyF ks) nx mk fd 6 (H*Ql.Bd n+6) m
 l11:x.ln=11→6≤m
theorem IL.of {n H:Nat} {ks:List Int} {nx:Nat→Int→Int} {mk:Nat→Int→Bool} {h:Nat} {x:InsC} {fd:Ql.Fd} {m:Nat} (c:Nat) (hc:x.ln=c)
  (h1:c=1→Ql.FL H n (keyF ks) nx mk fd (H*Ql.Bd n+5+4*h) (2*(H*Ql.Bd n)+9+5*h) m)
  (h2:c=2→(TG H 0 nx mk fd∧H*Ql.Bd n+5+3*h+(h - x.lv.toNat)≤m)∨2*(H*Ql.Bd n)+9+4*h+(h - x.lv.toNat)≤m)
  (h3:c=3→(TG H 0 nx mk fd∧H*Ql.Bd n+5+3*h≤m)∨2*(H*Ql.Bd n)+9+4*h≤m)
  (h4:c=4→(TG H x.lv.toNat nx mk fd∧H*Ql.Bd n+7+3*(h - x.lv.toNat)≤m)∨2*(H*Ql.Bd n)+11+3*(h - x.lv.toNat)≤m)
  (h5:c=5→(TG H x.lv.toNat nx mk fd∧H*Ql.Bd n+6+3*(h - x.lv.toNat)≤m)∨2*(H*Ql.Bd n)+10+3*(h - x.lv.toNat)≤m)
  (h6:c=6→(TG H x.lv.toNat nx mk fd∧H*Ql.Bd n+5+3*(h - x.lv.toNat)≤m)∨2*(H*Ql.Bd n)+9+3*(h - x.lv.toNat)≤m)
  (h7:c=7→Ql.FL H n (keyF ks) nx mk fd (H*Ql.Bd n+8+3*(h - x.lv.toNat)) (2*(H*Ql.Bd n)+12+3*(h - x.lv.toNat)) m)
  (h8:c=8→(TG H x.lv.toNat nx mk fd∧H*Ql.Bd n+8+3*(h - x.lv.toNat)≤m)∨2*(H*Ql.Bd n)+12+3*(h - x.lv.toNat)≤m)
  (h9:c=9→H*Ql.Bd n+7≤m) (h10:c=10→Ql.FL H n (keyF ks) nx mk fd 6 (H*Ql.Bd n+6) m) (h11:c=11→6≤m):IL n H ks nx mk h x fd m:=
 ⟨fun e=>h1 (by omega),fun e=>h2 (by omega),fun e=>h3 (by omega),fun e=>h4 (by omega),fun e=>h5 (by omega),fun e=>h6 (by omega),fun e=>h7 (by omega),fun e=>h8 (by omega),fun e=>h9 (by omega),fun e=>h10 (by omega),fun e=>h11 (by omega)⟩
def IOut (n H:Nat) (ks hs:List Int) (nx:Nat→Int→Int) (mk:Nat→Int→Bool) (lev:Int→Nat) (C:Nat→List Int) (i:Int) (x:InsC) (fd:Ql.Fd) (x':InsC) (f':FdC) (rs':List (List Int)) (ws':List Int):Prop:=
 ∃ nx' mk' lev' C' fd',WI n H ks hs nx' mk' ws'∧SInv H n (keyF ks) (hiF n hs) nx' mk' lev' C'∧RW n i nx mk lev nx' mk' lev'∧IR n H ks hs nx' mk' lev' i x' f' rs' fd'∧
  ((liv (mk' 0) (C' 0)=liv (mk 0) (C 0)∧(1≤lev' i↔1≤lev i))∨(liv (mk' 0) (C' 0)=insK (keyF ks) i (liv (mk 0) (C 0))∧lev i=0∧mk 0 i=false∧1≤lev' i))∧
  ∀ m,IL n H ks nx mk (hiF n hs i) x fd (m+1)→IL n H ks nx' mk' (hiF n hs i) x' fd' m
section
variable {n H:Nat} {ks hs ws:List Int} {nx:Nat→Int→Int} {mk:Nat→Int→Bool} {lev:Int→Nat} {C:Nat→List Int} {i:Int} {x:InsC} {f:FdC} {rs:List (List Int)} {fd:Ql.Fd} {j:MJ}
theorem FR.told {k:Int} (F:FR n H k f rs fd) {l:Nat} (hl:l<H) (h9:fd.ln=9) {q:Int} (hq:q.toNat=l):tp rs q=(fd.told l).1∧tsu rs q=lnkW (fd.told l).2 false:=by
 obtain ⟨kn,h⟩:=F.td l hl (.inr h9)
 have hlt:l<rs.length:=by rw [F.rl];exact hl
 unfold tp tsu
 rw [hq,colC_get hlt,colC_get hlt,h]
 exact ⟨rfl,rfl⟩
theorem IR.dm (R:IR n H ks hs nx mk lev i x f rs fd) (N:Nums n H ks hs) {l:Nat} (h:l<hiF n hs i):dm n H l i:=⟨.inr ⟨R.B.i0,R.B.i1⟩,by have:=(N.hi R.B.i0 R.B.i1).2.2;omega⟩
theorem IR.ad (R:IR n H ks hs nx mk lev i x f rs fd) {l:Nat} {q:Int} (h:q=l):(nxA x.t x.i q).toNat=ad n H l i:=by rw [R.B.t,R.B.xi,h];rfl
theorem IR.seek (R:IR n H ks hs nx mk lev i x f rs fd) (N:Nums n H ks hs) (W:WI n H ks hs nx mk ws) (V:SInv H n (keyF ks) (hiF n hs) nx mk lev C) (hx:x.ln=1∨x.ln=7∨x.ln=10):
  ∃ C',FR n H (keyF ks i) (fstC f rs j ws).x (fstC f rs j ws).rs (fstep H (keyF ks) (keyF ks i) nx mk fd).2∧WI n H ks hs (fstep H (keyF ks) (keyF ks i) nx mk fd).1 mk (fstC f rs j ws).ws∧SInv H n (keyF ks) (hiF n hs) (fstep H (keyF ks) (keyF ks i) nx mk fd).1 mk lev C'∧
   liv (mk 0) (C' 0)=liv (mk 0) (C 0)∧RW n i nx mk lev (fstep H (keyF ks) (keyF ks i) nx mk fd).1 mk lev∧FInv H n (keyF ks) (keyF ks i) (fstep H (keyF ks) (keyF ks i) nx mk fd).1 mk lev (fstep H (keyF ks) (keyF ks i) nx mk fd).2∧FInv H n (keyF ks) (keyF ks i) nx mk lev fd:=by
 have I:FInv H n (keyF ks) (keyF ks i) nx mk lev fd:=R.I.fi (by show 1≤x.ln.toNat∧x.ln.toNat≤8∨x.ln.toNat=10;omega)
 have h9:=R.f9 hx
 obtain ⟨a1,a2⟩:=(R.F (by omega)).step (j:=j) N.g W V I h9
 obtain ⟨C',b1,b2,b3⟩:=Ql.fstep_ok V I
 obtain ⟨g1,g2,g3,g4⟩:=N.g
 exact ⟨C',a1,a2,b1,b2 0 (by omega),.fstep V I,b3,I⟩
theorem i_l1 (R:IR n H ks hs nx mk lev i x f rs fd) (N:Nums n H ks hs) (W:WI n H ks hs nx mk ws) (V:SInv H n (keyF ks) (hiF n hs) nx mk lev C) (hx:x.ln=1):
  IOut n H ks hs nx mk lev C i x fd (istC x f rs j ws).x (istC x f rs j ws).f (istC x f rs j ws).rs (istC x f rs j ws).ws:=by
 obtain ⟨C',a1,a2,a3,a4,a5,a6,a7⟩:=R.seek (j:=j) N W V (.inl hx)
 have h9:=R.f9 (.inl hx)
 have hl0:=R.I.l0 (by show 1≤x.ln.toNat∧x.ln.toNat≤3;omega)
 have hh:=N.hi R.B.i0 R.B.i1
 have eln:=a1.ln
 have B':=R.B.ki (KI_ist x f rs j ws)
 unfold istC at B' ⊢
 rw [if_pos hx] at B' ⊢
 by_cases e:(fstC f rs j ws).x.ln=9
 ·rw [if_pos e] at B' ⊢
  have e':(fstep H (keyF ks) (keyF ks i) nx mk fd).2.ln=9:=by omega
  refine ⟨_,_,_,C',_,a2,a3,a5,IR.of B' a1.fb 2 0 (if_pos e) rfl (by omega) (by omega) (fun _=>⟨a1,a6⟩) (fun _=>e') (by omega) (fun _=>hl0) (fun _=>⟨by omega,fun m hm=>absurd hm (Nat.not_lt_zero _)⟩) (by omega) (by omega) (by omega) (by omega) (by omega),.inl ⟨a4,Iff.rfl⟩,fun m hm=>?_⟩
  have h1:=Ql.FL_step V a7 h9 (by omega) (hm.l1 hx)
  refine IL.of 2 (if_pos e) (by omega) (fun _=>?_) (by omega) (by omega) (by omega) (by omega) (by omega) (by omega) (by omega) (by omega) (by omega)
  show (_∧_+(hiF n hs i - 0)≤m)∨_+(hiF n hs i - 0)≤m
  rcases Ql.FL_end h1 with ⟨h,h'⟩|h
  ·exact .inl ⟨h,by omega⟩
  ·exact .inr (by omega)
 ·rw [if_neg e] at B' ⊢
  have e':(fstep H (keyF ks) (keyF ks i) nx mk fd).2.ln≠9:=by omega
  obtain ⟨l,hl⟩:∃ l:Nat,x.lv=l:=⟨x.lv.toNat,by have:=R.lv;omega⟩
  refine ⟨_,_,_,C',_,a2,a3,a5,IR.of B' a1.fb 1 l (if_neg e) hl (by omega) (by omega) (fun _=>⟨a1,a6⟩) (by omega) (fun _=>e') (fun _=>hl0) (by omega) (by omega) (by omega) (by omega) (by omega) (by omega),.inl ⟨a4,Iff.rfl⟩,fun m hm=>?_⟩
  have h1:=Ql.FL_step V a7 h9 (by omega) (hm.l1 hx)
  exact IL.of 1 (if_neg e) (fun _=>h1) (by omega) (by omega) (by omega) (by omega) (by omega) (by omega) (by omega) (by omega) (by omega) (by omega)
end
end Go.Sx
