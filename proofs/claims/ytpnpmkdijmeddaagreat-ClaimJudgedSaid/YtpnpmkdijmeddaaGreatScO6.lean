/- can, over a heap: its contract. -/
import Derived.Test.YtpnpmkdijmeddaaGreatScO5
set_option maxRecDepth 100000
namespace Go.Sx
open Go.Proofs
def cnStep (cl:List (List Int)) (f:Nat) (F:List (List Int)) (D N:List Int) (i:Nat):Bool:=
 cond (cond (decide (N.length=0)) true (decide ((i:Int)=N.getD 0 0))) (cond (readyP cl D i) (cond (cnIs cl F i) (canP cl f (cnHp cl F i) (D++[(i:Int)]) (N.drop 1)) false) false) false
theorem canP_succ (cl:List (List Int)) (f:Nat) (F:List (List Int)) (D N:List Int):canP cl (f+1) F D N=cond (cond (decide (N.length=0)) (!(leftP cl.length D)) false) true ((List.range cl.length).any (cnStep cl f F D N)):=rfl
theorem part_whole (l:List Int):part l 0 l.length=l:=by simp [part]
section
variable {β:Base} {kind:CallKind} {cs:List Frame} {J:Nat→V} {a:Cf} {cl F:List (List Int)} {Dw Nw:List Int} {bd sd ld bn sn ln K:Nat}
theorem cnD_eq (i:Int):cnD Dw sd ld i=part Dw sd ld++[i]:=rfl
def CnOut (β:Base) (kind:CallKind) (cs:List Frame) (a:Cf) (cl F:List (List Int)) (Dw Nw:List Int) (bd sd ld bn sn ln i:Nat):Prop:=
 (cnStep cl (cl.length - ld) F (part Dw sd ld) (part Nw sn ln) i=true∧∃ J' b',YC β frCn (trO (slots J' 0 (slCE true))) [] (hO (lCan cl F Dw Nw)) 4 far b'∧Steps PR (At frCn none kind cs a todoC) (At frCn none kind cs b' todoCT))∨
 (cnStep cl (cl.length - ld) F (part Dw sd ld) (part Nw sn ln) i=false∧∃ J' b',YC β frCn (trO (slots J' 0 (slC bd sd ld bn sn ln (IntKind.i64.wrap ((i:Int)+1))))) [] (hO (lCan5 cl F Dw Nw)) 5 far b'∧Steps PR (At frCn none kind cs a todoC) (At frCn none kind cs b' todoC))
theorem cnIter {i:Nat} (hβ:β.n0=4) (hS:SumOK PR (GC K)) (hA:YC β frCn (trO (slots J 0 (slC bd sd ld bn sn ln (i:Int)))) [] (hO (lCan5 cl F Dw Nw)) 5 far a)
  (hd:sd+ld≤Dw.length) (hn:sn+ln≤Nw.length) (hp:CanPre cl F (part Dw sd ld) (part Nw sn ln)) (hK:cl.length+1 - ld≤K+1) (hi:i<cl.length):CnOut β kind cs a cl F Dw Nw bd sd ld bn sn ln i:=by
 have hld:=part_length hd
 have hln:=part_length hn
 have hlen:=hp.len
 rw [hld] at hlen
 have hm:=hp.many
 have hI:(i:Int)<((cl.length:Nat):Int):=by omega
 have hb:ld≤1048576∧cl.length≤1048576∧Ended cl∧0≤(i:Int)∧(i:Int)<((cl.length:Nat):Int):=⟨by omega,by omega,hp.ended,by omega,hI⟩
 have hi2:0≤(i:Int)∧(i:Int)<((cl.length:Nat):Int):=⟨by omega,hI⟩
 have ht:(cl.getD (Int.toNat (i:Int)) []).getD 2 0≥0:=hp.ended i hi
 have hF:0+F.length≤F.length:=by omega
 have hnh:readyP cl (part Dw sd ld) i=true→0=0∧0=0∧F.length=F.length∧NhPre F (cW cl (Int.toNat (i:Int)) 3) (cW cl (Int.toNat (i:Int)) 6) (cW cl (Int.toNat (i:Int)) 7):=fun hr=>⟨rfl,rfl,rfl,hp.nh hi hr⟩
 have hlD:(([]:List Int)++(Dw.drop sd).take ld).length=ld:=hld
 have hfuel:cl.length+1 - (cnD Dw sd ld (i:Int)).length=cl.length - ld:=by rw [cnD_eq];simp only [List.length_append,hld,List.length_singleton];omega
 have hd2:0+ld≤1048576:=by omega
 have hd3:(([]:List Int)++(Dw.drop sd).take ld).length+1≤1048576:=by rw [hlD];omega
 have hF2:0+(cnRow cl F (Int.toNat (i:Int))).length≤(cnRow cl F (Int.toNat (i:Int))).length:=by omega
 have hrow:cnIs cl F i=true→cnRow cl F (Int.toNat (i:Int))=cnHp cl F i:=fun his=>by
  show cnRow cl F i=_
  unfold cnIs at his
  unfold cnRow nhRow
  rw [his];rfl
 by_cases h0:ln=0
 ·have hl0:¬ ((ln:Nat):Int) > 0:=by omega
  have hN:part Nw sn ln=[]:=List.length_eq_zero_iff.1 (by rw [hln,h0])
  have hsel:cond (decide ((part Nw sn ln).length=0)) true (decide ((i:Int)=(part Nw sn ln).getD 0 0))=true:=by rw [decide_eq_true (by rw [hln,h0]),cond_true]
  cases hr:readyP cl (part Dw sd ld) i with
  |false=>exact .inr ⟨by simp only [cnStep,hsel,hr,cond_true,cond_false],cnSkipE hβ hS hA hI hl0 hd hb hr⟩
  |true=>
   cases his:cnIs cl F i with
   |false=>exact .inr ⟨by simp only [cnStep,hsel,hr,his,cond_true,cond_false],cnGoIE hβ hS hA hI hl0 hd hb hr hi2 hi ht hF (hnh hr) his⟩
   |true=>
    have hstep:cnStep cl (cl.length - ld) F (part Dw sd ld) (part Nw sn ln) i=canP cl (cl.length+1 - (cnD Dw sd ld (i:Int)).length) (cnRow cl F (Int.toNat (i:Int))) (part (cnD Dw sd ld (i:Int)) 0 (cnD Dw sd ld (i:Int)).length) (part Nw sn ln):=by
     simp only [cnStep,hsel,hr,his,cond_true]
     rw [hfuel,hrow his,part_whole,hN,cnD_eq];rfl
    have hC:CanPre cl (cnRow cl F (Int.toNat (i:Int))) (part (cnD Dw sd ld (i:Int)) 0 (cnD Dw sd ld (i:Int)).length) (part Nw sn ln):=by
     have:=hp.next hi hr
     rw [hrow his,part_whole,hN,cnD_eq]
     rw [hN] at this
     exact this
    have hCC:=And.intro (rfl:(0:Nat)=0) (And.intro (rfl:(0:Nat)=0) (And.intro (rfl:(cnRow cl F (Int.toNat (i:Int))).length=_) (And.intro hC (show cl.length+1 - (cnD Dw sd ld (i:Int)).length≤K by omega))))
    cases hc:canP cl (cl.length+1 - (cnD Dw sd ld (i:Int)).length) (cnRow cl F (Int.toNat (i:Int))) (part (cnD Dw sd ld (i:Int)) 0 (cnD Dw sd ld (i:Int)).length) (part Nw sn ln) with
    |true=>exact .inl ⟨hstep.trans hc,cnGoTE hβ hS hA hI hl0 hd hb hr hi2 hi ht hF (hnh hr) his hd2 hd3 hF2 hn hCC hc⟩
    |false=>exact .inr ⟨hstep.trans hc,cnGoCE hβ hS hA hI hl0 hd hb hr hi2 hi ht hF (hnh hr) his hd2 hd3 hF2 hn hCC hc⟩
 ·have hl0:((ln:Nat):Int) > 0:=by omega
  have hn0:(0:Int)≤0∧(0:Int)<((ln:Nat):Int):=⟨by omega,by omega⟩
  have hn1:sn+0<Nw.length:=by omega
  have hn2:(∀ z∈(some 1:Option Int),0≤z)∧1≤ln∧sn+ln≤Nw.length:=⟨fun z hz=>by cases hz;omega,by omega,hn⟩
  have hn3:sn+1+(ln - 1)≤Nw.length:=by omega
  have hw:(part Nw sn ln).getD 0 0=Nw.getD (sn+0) 0:=part_getD hn (by omega)
  have hz:decide ((part Nw sn ln).length=0)=false:=decide_eq_false (by rw [hln];exact h0)
  have hN:part Nw (sn+1) (ln - 1)=(part Nw sn ln).drop 1:=by
   simp only [part]
   rw [List.drop_take,List.drop_drop]
  by_cases hq:(i:Int)=Nw.getD (sn+0) 0
  case neg=>exact .inr ⟨by simp only [cnStep,hw,hz,decide_eq_false hq,cond_false],cnSkipN hβ hS hA hI hl0 hn0 hn hn1 hq⟩
  have hsel:cond (decide ((part Nw sn ln).length=0)) true (decide ((i:Int)=(part Nw sn ln).getD 0 0))=true:=by rw [hz,cond_false,hw];exact decide_eq_true hq
  cases hr:readyP cl (part Dw sd ld) i with
  |false=>exact .inr ⟨by simp only [cnStep,hsel,hr,cond_true,cond_false],cnSkipR hβ hS hA hI hl0 hn0 hn hn1 hq hd hb hr⟩
  |true=>
   cases his:cnIs cl F i with
   |false=>exact .inr ⟨by simp only [cnStep,hsel,hr,his,cond_true,cond_false],cnGoIN hβ hS hA hI hl0 hn0 hn hn1 hq hd hb hr hn2 hi2 hi ht hF (hnh hr) his⟩
   |true=>
    have hstep:cnStep cl (cl.length - ld) F (part Dw sd ld) (part Nw sn ln) i=canP cl (cl.length+1 - (cnD Dw sd ld (i:Int)).length) (cnRow cl F (Int.toNat (i:Int))) (part (cnD Dw sd ld (i:Int)) 0 (cnD Dw sd ld (i:Int)).length) (part Nw (sn+1) (ln - 1)):=by
     simp only [cnStep,hsel,hr,his,cond_true]
     rw [hfuel,hrow his,part_whole,hN,cnD_eq]
    have hC:CanPre cl (cnRow cl F (Int.toNat (i:Int))) (part (cnD Dw sd ld (i:Int)) 0 (cnD Dw sd ld (i:Int)).length) (part Nw (sn+1) (ln - 1)):=by
     have:=hp.next hi hr
     rw [hrow his,part_whole,hN,cnD_eq]
     exact this
    have hCC:=And.intro (rfl:(0:Nat)=0) (And.intro (rfl:(0:Nat)=0) (And.intro (rfl:(cnRow cl F (Int.toNat (i:Int))).length=_) (And.intro hC (show cl.length+1 - (cnD Dw sd ld (i:Int)).length≤K by omega))))
    cases hc:canP cl (cl.length+1 - (cnD Dw sd ld (i:Int)).length) (cnRow cl F (Int.toNat (i:Int))) (part (cnD Dw sd ld (i:Int)) 0 (cnD Dw sd ld (i:Int)).length) (part Nw (sn+1) (ln - 1)) with
    |true=>exact .inl ⟨hstep.trans hc,cnGoTN hβ hS hA hI hl0 hn0 hn hn1 hq hd hb hr hn2 hi2 hi ht hF (hnh hr) his hd2 hd3 hF2 hn3 hCC hc⟩
    |false=>exact .inr ⟨hstep.trans hc,cnGoCN hβ hS hA hI hl0 hn0 hn hn1 hq hd hb hr hn2 hi2 hi ht hF (hnh hr) his hd2 hd3 hF2 hn3 hCC hc⟩
theorem cnLoop (hβ:β.n0=4) (hS:SumOK PR (GC K)) (hd:sd+ld≤Dw.length) (hn:sn+ln≤Nw.length) (hp:CanPre cl F (part Dw sd ld) (part Nw sn ln)) (hK:cl.length+1 - ld≤K+1):∀ (d:Nat) (J:Nat→V) (a:Cf) (i:Nat),cl.length=i+d→(∀ q,q<i→cnStep cl (cl.length - ld) F (part Dw sd ld) (part Nw sn ln) q=false)→YC β frCn (trO (slots J 0 (slC bd sd ld bn sn ln (i:Int)))) [] (hO (lCan5 cl F Dw Nw)) 5 far a→
  ∃ J' b' todo,YC β frCn (trO (slots J' 0 (slCE ((List.range cl.length).any (cnStep cl (cl.length - ld) F (part Dw sd ld) (part Nw sn ln)))))) [] (hO (lCan cl F Dw Nw)) 4 far b'∧Steps PR (At frCn none kind cs a todoC) (At frCn none kind cs b' todo)∧∃ k,todo=.code .ret::k:=by
 have hm:=hp.many
 intro d
 induction d with
 |zero=>
  intro J a i hid hno hA
  obtain ⟨J',b',h1,h2⟩:=cnExit (kind:=kind) (cs:=cs) hβ hS hA (by omega)
  have hfa:(List.range cl.length).any (cnStep cl (cl.length - ld) F (part Dw sd ld) (part Nw sn ln))=false:=by
   rw [List.any_eq_false]
   intro q hq
   rw [hno q (by have:=List.mem_range.1 hq;omega)]
   simp
  rw [← hfa] at h1
  exact ⟨J',b',_,h1,h2,[],rfl⟩
 |succ d ih=>
  intro J a i hid hno hA
  rcases cnIter (kind:=kind) (cs:=cs) hβ hS hA hd hn hp hK (by omega) with ⟨ht,J',b',h1,h2⟩|⟨ht,J1,b1,h1,h2⟩
  ·have hfa:(List.range cl.length).any (cnStep cl (cl.length - ld) F (part Dw sd ld) (part Nw sn ln))=true:=by
    rw [List.any_eq_true]
    exact ⟨i,List.mem_range.2 (by omega),ht⟩
   rw [← hfa] at h1
   exact ⟨J',b',_,h1,h2,_,rfl⟩
  ·rw [XM (by omega) (by omega)] at h1
   obtain ⟨J2,b2,todo,h3,h4,h5⟩:=ih J1 b1 (i+1) (by omega) (fun q hq=>by
    by_cases hqi:q=i
    ·subst hqi;exact ht
    ·exact hno q (by omega)) (by exact_mod_cast h1)
   exact ⟨J2,b2,todo,h3,h2.trans h4,h5⟩
theorem can_step (hS:SumOK PR (GC K)) (hd:sd+ld≤Dw.length) (hn:sn+ln≤Nw.length) (hp:CanPre cl F (part Dw sd ld) (part Nw sn ln)) (hK:cl.length+1 - ld≤K+1):
  YD PR 32 (canArgs F.length bd sd ld bn sn ln) 4 (hO (lCan cl F Dw Nw)) (.bool (canP cl (cl.length+1 - ld) F (part Dw sd ld) (part Nw sn ln))) 4 (hO (lCan cl F Dw Nw)):=by
 have hld:=part_length hd
 have hln:=part_length hn
 have hlen:=hp.len
 rw [hld] at hlen
 have hm:=hp.many
 refine callH_of (c:=cnBody) (t:=12) (hi:=far) Tryz.func32 (by kernel_rfl) (Nat.blt_eq.mp (by kernel_rfl)) (by kernel_rfl) (Nat.ble_eq.mp (by kernel_rfl)) (fun m o ho=>?_) (fun m o ho hr=>?_) rfl ?_
 ·have:=XP (p:=fun m=>Nat.blt m 4) (lCan cl F Dw Nw) 0 (by kernel_rfl) m o ho
  rw [blt_fun] at this
  exact ⟨by simpa using this.2.1,this.2.2⟩
 ·rw [noRo_ok (lCan cl F Dw Nw) (by kernel_rfl) m o ho] at hr;cases hr
 ·intro L w kind cs a hA
  have hfu:cl.length+1 - ld=(cl.length - ld)+1:=by omega
  rw [hfu,canP_succ]
  have go:∀ (J1:Nat→V) (b1:Cf),cond (decide ((part Nw sn ln).length=0)) (!(leftP cl.length (part Dw sd ld))) false=false→YC ⟨w,Handed (hO (lCan cl F Dw Nw)) L,4,L⟩ frCn (trO (slots J1 0 (slC bd sd ld bn sn ln 0))) [] (hO (lCan5 cl F Dw Nw)) 5 far b1→Steps PR (At frCn none kind cs a [.code cnBody]) (At frCn none kind cs b1 todoC)→
    ∃ (b:Cf) (T':Tr V) (nx' hi':Nat) (todo:List Item),YC ⟨w,Handed (hO (lCan cl F Dw Nw)) L,4,L⟩ frCn T' [] (hO (lCan cl F Dw Nw)) nx' hi' b∧(T'.get 12).getD XJ=.bool (cond (cond (decide ((part Nw sn ln).length=0)) (!(leftP cl.length (part Dw sd ld))) false) true ((List.range cl.length).any (cnStep cl (cl.length - ld) F (part Dw sd ld) (part Nw sn ln))))∧
     Steps PR (At frCn none kind cs a [.code cnBody]) (At frCn none kind cs b todo)∧(todo=[]∨∃ k,todo=.code .ret::k):=by
   intro J1 b1 hz h1 h2
   obtain ⟨J2,b2,todo,h3,h4,h5⟩:=cnLoop (kind:=kind) (cs:=cs) rfl hS hd hn hp hK cl.length J1 b1 0 (by omega) (fun q hq=>absurd hq (Nat.not_lt_zero _)) h1
   rw [hz]
   exact ⟨b2,_,4,far,todo,h3,rfl,h2.trans h4,.inr h5⟩
  by_cases h0:ln=0
  ·have hz0:decide ((part Nw sn ln).length=0)=true:=by rw [hln,decide_eq_true h0]
   have hbb:ld≤1048576∧cl.length≤1048576∧Ended cl:=⟨by omega,by omega,hp.ended⟩
   cases hl:leftP cl.length (part Dw sd ld) with
   |false=>
    obtain ⟨J1,b1,h1,h2⟩:=cnStD (kind:=kind) (cs:=cs) rfl hS hA (by omega) hd hbb hl
    rw [hz0]
    exact ⟨b1,_,4,far,_,h1,rfl,h2,.inr ⟨_,rfl⟩⟩
   |true=>
    obtain ⟨J1,b1,h1,h2⟩:=cnStL (kind:=kind) (cs:=cs) rfl hS hA (by omega) hd hbb hl
    have:=go J1 b1 (by rw [hz0,hl];rfl) h1 h2
    rw [hl] at this
    exact this
  ·have hz0:decide ((part Nw sn ln).length=0)=false:=by rw [hln,decide_eq_false h0]
   obtain ⟨J1,b1,h1,h2⟩:=cnStN (kind:=kind) (cs:=cs) rfl hS hA (by omega)
   exact go J1 b1 (by rw [hz0];rfl) h1 h2
end
theorem smCan_of {K:Nat} (hK:∀ (cl F:List (List Int)) (Dw Nw:List Int) (bd sd ld bn sn ln:Nat),sd+ld≤Dw.length→sn+ln≤Nw.length→CanPre cl F (part Dw sd ld) (part Nw sn ln)→cl.length+1 - ld≤K→
  YD PR 32 (canArgs F.length bd sd ld bn sn ln) 4 (hO (lCan cl F Dw Nw)) (.bool (canP cl (cl.length+1 - ld) F (part Dw sd ld) (part Nw sn ln))) 4 (hO (lCan cl F Dw Nw))):
  SmOK PR 32 (smCan K):=by
 refine ⟨fun args s v s' h ho=>?_,Tryz.call32⟩
 unfold smCan at h
 split at h
 ·rename_i md room c es f d x
  obtain ⟨cl,h1,h2⟩:=XA h
  obtain ⟨⟨⟨mf,bf,sf,lf,Fw⟩,s1⟩,h3,h4⟩:=XA h2
  obtain ⟨⟨⟨mD,bd,sd,ld,Dw⟩,s2⟩,h5,h6⟩:=XA h4
  obtain ⟨⟨⟨mn,bn,sn,ln,Nw⟩,s3⟩,h7,h8⟩:=XA h6
  obtain ⟨_,h9,h10⟩:=XA h8
  obtain ⟨s4,h11,h12⟩:=XA h10
  cases h12
  obtain ⟨hg,rfl⟩:=rowsOfN_ok h1
  obtain ⟨hd,hq⟩:=XI h11 ho
  obtain ⟨q1,q2,q3,hp,hk⟩:=XF.1 hd
  subst q1;subst q2;subst q3
  have h9':=XC h9
  have hmd:md=2∧room=1:=by
   by_cases e:md=2∧room=1
   ·exact e
   ·rw [decide_eq_false e] at h9';cases h9'
  obtain ⟨rfl,rfl⟩:=hmd
  have hnd:=distinct_ok (show distinct [c,mf,mD,mn]=true from h9')
  simp only [List.nodup_cons,List.mem_cons,List.not_mem_nil,or_false,not_or,not_false_eq_true,List.nodup_nil,and_true] at hnd
  obtain ⟨⟨n1,n2,n3⟩,⟨n4,n5⟩,n6⟩:=hnd
  obtain ⟨a1,a2,a3,a4,a5,a6⟩:=nrm_ok h7 hq.2
  obtain ⟨b1,b2,b3,b4,b5,b6⟩:=nrm_ok h5 a2
  obtain ⟨c1,c2,c3,c4,c5,c6⟩:=nrmR_ok h3 b2
  have e1:s'.nx=s3.nx:=hq.1.nx
  have e2:s'.H=s3.H:=hq.1.H
  refine ⟨((c1.trans b1).trans a1).trans (.of_same hq.1),c2,?_⟩
  have gc:s'.H.get c=some (callsOb cl):=by rw [e2];exact a5 c _ n3 (b5 c _ n2 (c5 c _ n1 hg))
  have gf:s'.H.get mf=some (XK Fw):=by rw [e2];exact a5 mf _ n5 (b5 mf _ n4 c3)
  have gd:s'.H.get mD=some (rowI Dw):=by rw [e2];exact a5 mD _ n6 b3
  have gn:s'.H.get mn=some (rowI Nw):=by rw [e2];exact a3
  have hcall:YB PR 32 [.int .i64 2,.int .i64 1,.osl c 10,.agg [.nils,.osv mf 2 0 0 Fw.length,.nils],.osv mD 1 bd sd ld,.osv mn 1 bn sn ln] s' (.bool (canP cl (cl.length+1 - ld) Fw (part Dw sd ld) (part Nw sn ln))) s':=
   embedRO (l:=lCan cl Fw Dw Nw) (ac:=canArgs Fw.length bd sd ld bn sn ln) (vc:=.bool _) (hK cl Fw Dw Nw bd sd ld bn sn ln b4 a4 hp hk) (fun m hm=>allSome_ok rfl m hm) (by kernel_rfl) (by kernel_rfl) [c,mf,mD,mn] rfl (fun q o ho=>by
    match q,ho with
    |0,ho=>cases ho;exact gc
    |1,ho=>cases ho;exact gf
    |2,ho=>cases ho;exact gd
    |3,ho=>cases ho;exact gn) (by simp;exact ⟨⟨n1,n2,n3⟩,⟨n4,n5⟩,n6⟩) rfl rfl
  have l1:s.nx≤s1.nx:=c1.le
  have l2:s1.nx≤s2.nx:=b1.le
  have l3:s2.nx≤s3.nx:=a1.le
  refine YB.gh hcall (by omega) (Nat.le_refl _) (fun D L w hSR hD hst=>?_)
  obtain ⟨L1,k1,k2⟩:=c6 D L w hSR (fun n hn=>(hD n hn).imp id fun h=>by omega)
  obtain ⟨L2,k3,k4⟩:=b6 _ L1 w k1.sr (fun n hn=>by
   rcases hn with hn|hn
   ·exact (hD n hn).imp (fun h=>by omega) fun h=>by omega
   ·exact .inl hn.2)
  have k13:=k1.trans k3
  obtain ⟨L3,k5,k6⟩:=a6 _ L2 w k13.sr (fun n hn=>by
   rcases hn with hn|hn
   ·exact (hD n hn).imp (fun h=>by omega) fun h=>by omega
   ·exact .inl hn.2)
  have k15:=k13.trans k5
  refine ⟨L3,⟨by omega,k15.agree,by rw [e1,e2];exact k15.sr,fun n o b ho=>by rw [e2] at ho;exact k15.sub n o b ho,fun n o ho=>by rw [e2] at ho;exact k15.ro n o ho⟩,fun L'' hL''=>?_⟩
  rw [e1] at hL''
  have hL2:Agree (Grow D s.nx s2.nx) L2 L'':=fun n hn=>by
   rw [k5.agree n hn]
   refine hL'' n ?_
   rcases hn with hn|hn
   ·exact .inl hn
   ·exact .inr ⟨hn.1,by omega⟩
  have hL1:Agree (Grow D s.nx s1.nx) L1 L'':=fun n hn=>by
   rw [k3.agree n hn]
   refine hL2 n ?_
   rcases hn with hn|hn
   ·exact .inl hn
   ·exact .inr ⟨hn.1,by omega⟩
  have hx:(V.osv mn 1 bn sn ln).den L''=x.den L2:=k6 L'' (by rw [grow_grow (by omega) l3];exact hL'')
  have hd':(V.osv mD 1 bd sd ld).den L''=d.den L1:=k4 L'' (by rw [grow_grow l1 l2];exact hL2)
  have hf':(V.osv mf 2 0 0 Fw.length).den L''=f.den L:=k2 L'' hL1
  have st1:=hst L1 k1.agree
  have st2:=hst L2 k13.agree
  have st3:=hst L'' (fun n hn=>by rw [k15.agree n hn];exact hL'' n (.inl hn))
  simp only [List.map_cons,List.map_nil,List.cons.injEq,and_true] at st1 st2 st3
  rw [st1.2.2.2.2.1] at hd'
  rw [st2.2.2.2.2.2] at hx
  simp only [List.map_cons,List.map_nil,hd',hx,st3.2.2.1]
  simp only [V.den,V.denL] at hf' ⊢
  rw [hf']
 ·cases h
theorem can_all:∀ (K:Nat) (cl F:List (List Int)) (Dw Nw:List Int) (bd sd ld bn sn ln:Nat),sd+ld≤Dw.length→sn+ln≤Nw.length→CanPre cl F (part Dw sd ld) (part Nw sn ln)→cl.length+1 - ld≤K→
  YD PR 32 (canArgs F.length bd sd ld bn sn ln) 4 (hO (lCan cl F Dw Nw)) (.bool (canP cl (cl.length+1 - ld) F (part Dw sd ld) (part Nw sn ln))) 4 (hO (lCan cl F Dw Nw)):=by
 intro K
 induction K with
 |zero=>
  intro cl F Dw Nw bd sd ld bn sn ln hd hn hp hK
  have:=hp.len
  rw [part_length hd] at this
  omega
 |succ K ih=>
  intro cl F Dw Nw bd sd ld bn sn ln hd hn hp hK
  exact can_step (sumOK_of rfl ⟨smLf_sm,smRd_sm,smNextH_sm,smCan_of ih,trivial⟩) hd hn hp hK
theorem smCan_sm (K:Nat):SmOK PR 32 (smCan K):=smCan_of (can_all K)
end Go.Sx
namespace Go.Sx
open Go.Proofs
abbrev frMy:Frs:=⟨30,none,58⟩
noncomputable def myBody:Code:=bodyOf Tryz.f30
def lMy (cl:List (List Int)):List (Option Ob):=[some (callsOb cl)]
def slMy (md room:Int) (i:Int):List (Option V):=[some (.int .i64 md),some (.int .i64 room),some (.osl 0 10),none,none,none,none,some (.int .i64 i)]++List.replicate 50 none
def slMyI (md room:Int) (i k:Int):List (Option V):=[some (.int .i64 md),some (.int .i64 room),some (.osl 0 10),none,none,none,none,some (.int .i64 i),some (.int .i64 k)]++List.replicate 49 none
def slMyE:List (Option V):=[none,none,none,none,none,none,some (.int .i64 0)]++List.replicate 51 none
noncomputable def todoMyO:List Item:=((ctlN G1 (exec G1 400) frMy 20 [.code myBody] (Tr.ofList [.int .i64 2,.int .i64 1,.osl 0 10]) [] ⟨trO (lMy []),1,bits 15 0,[],[]⟩).map (·.1)).getD []
noncomputable def todoMyI:List Item:=((ctlN G1 (exec G1 400) frMy 11 todoMyO (trO (slots (fun _=>.nilp) 0 (slMy 2 1 0))) [] ⟨trO (lMy [[]]),1,bits 1 1,[],[]⟩).map (·.1)).getD []
section
variable {β:Base} {kind:CallKind} {cs:List Frame} {J:Nat→V} {a:Cf} {cl:List (List Int)} {room i k:Int}
theorem myStart (hβ:β.n0=1) (hA:YC β frMy (Tr.ofList [.int .i64 2,.int .i64 room,.osl 0 10]) [] (hO (lMy cl)) 1 far a) (hB:allB [!(decide ((cl.length:Int) > 10)),!(decide (room > 64)),!(decide (room<1))]=true):
  ∃ J' b',YC β frMy (trO (slots J' 0 (slMy 2 room 0))) [] (hO (lMy cl)) 1 far b'∧Steps PR (At frMy none kind cs a [.code myBody]) (At frMy none kind cs b' todoMyO):=
 YC.eval (n:=400) (m:=20) (orc:=bits 15 0b000000000000000) (πl:=[0]) (nx':=1) (far:=far) (todo:=[.code myBody]) (todo':=todoMyO) (l':=lMy cl) (sl':=slMy 2 room 0) G1_ok H1_ok kind cs hA
  (by kernel_rfl) hB rfl rfl rfl rfl rfl (fun m=>Nat.blt m 1) (p_all rfl rfl) (fun m hm=>by rw [hβ] at hm;exact Nat.blt_eq.mpr hm) (by rw [hβ];kernel_rfl) (by kernel_rfl) (by kernel_rfl)
theorem myIn (hβ:β.n0=1) (hA:YC β frMy (trO (slots J 0 (slMy 2 room i))) [] (hO (lMy cl)) 1 far a) (hB:allB [decide (i<(cl.length:Int))]=true):
  ∃ J' b',YC β frMy (trO (slots J' 0 (slMyI 2 room i 0))) [] (hO (lMy cl)) 1 far b'∧Steps PR (At frMy none kind cs a todoMyO) (At frMy none kind cs b' todoMyI):=
 YC.eval (n:=400) (m:=11) (orc:=bits 1 0b1) (πl:=[0]) (nx':=1) (far:=far) (todo:=todoMyO) (todo':=todoMyI) (l':=lMy cl) (sl':=slMyI 2 room i 0) G1_ok H1_ok kind cs hA
  (by kernel_rfl) hB rfl rfl rfl rfl rfl (fun m=>Nat.blt m 1) (p_all rfl rfl) (fun m hm=>by rw [hβ] at hm;exact Nat.blt_eq.mpr hm) (by rw [hβ];kernel_rfl) (by kernel_rfl) (by kernel_rfl)
theorem myExit (hβ:β.n0=1) (hA:YC β frMy (trO (slots J 0 (slMy 2 room i))) [] (hO (lMy cl)) 1 far a) (hB:allB [!(decide (i<(cl.length:Int)))]=true):
  ∃ J' b',YC β frMy (trO (slots J' 0 (slMyE))) [] (hO (lMy cl)) 1 far b'∧Steps PR (At frMy none kind cs a todoMyO) (At frMy none kind cs b' [.code .ret]):=
 YC.eval (n:=400) (m:=7) (orc:=bits 1 0b0) (πl:=[0]) (nx':=1) (far:=far) (todo:=todoMyO) (todo':=[.code .ret]) (l':=lMy cl) (sl':=slMyE) G1_ok H1_ok kind cs hA
  (by kernel_rfl) hB rfl rfl rfl rfl rfl (fun m=>Nat.blt m 1) (p_all rfl rfl) (fun m hm=>by rw [hβ] at hm;exact Nat.blt_eq.mpr hm) (by rw [hβ];kernel_rfl) (by kernel_rfl) (by kernel_rfl)
theorem myIter (hβ:β.n0=1) (hA:YC β frMy (trO (slots J 0 (slMyI 2 room i k))) [] (hO (lMy cl)) 1 far a) (hB:allB [!((cl.getD i.toNat []).getD 0 0==(cl.getD k.toNat []).getD 0 0),decide (k.toNat<cl.length),decide (0≤k∧k<(cl.length:Int)),decide (i.toNat<cl.length),decide (0≤i∧i<(cl.length:Int)),decide (k<i)]=true):
  ∃ J' b',YC β frMy (trO (slots J' 0 (slMyI 2 room i (IntKind.i64.wrap (k+1))))) [] (hO (lMy cl)) 1 far b'∧Steps PR (At frMy none kind cs a todoMyI) (At frMy none kind cs b' todoMyI):=
 YC.eval (n:=400) (m:=14) (orc:=bits 6 0b111110) (πl:=[0]) (nx':=1) (far:=far) (todo:=todoMyI) (todo':=todoMyI) (l':=lMy cl) (sl':=slMyI 2 room i (IntKind.i64.wrap (k+1))) G1_ok H1_ok kind cs hA
  (by kernel_rfl) hB rfl rfl rfl rfl rfl (fun m=>Nat.blt m 1) (p_all rfl rfl) (fun m hm=>by rw [hβ] at hm;exact Nat.blt_eq.mpr hm) (by rw [hβ];kernel_rfl) (by kernel_rfl) (by kernel_rfl)
theorem myBack (hβ:β.n0=1) (hA:YC β frMy (trO (slots J 0 (slMyI 2 room i k))) [] (hO (lMy cl)) 1 far a) (hB:allB [!(decide (k<i))]=true):
  ∃ J' b',YC β frMy (trO (slots J' 0 (slMy 2 room (IntKind.i64.wrap (i+1))))) [] (hO (lMy cl)) 1 far b'∧Steps PR (At frMy none kind cs a todoMyI) (At frMy none kind cs b' todoMyO):=
 YC.eval (n:=400) (m:=8) (orc:=bits 1 0b0) (πl:=[0]) (nx':=1) (far:=far) (todo:=todoMyI) (todo':=todoMyO) (l':=lMy cl) (sl':=slMy 2 room (IntKind.i64.wrap (i+1))) G1_ok H1_ok kind cs hA
  (by kernel_rfl) hB rfl rfl rfl rfl rfl (fun m=>Nat.blt m 1) (p_all rfl rfl) (fun m hm=>by rw [hβ] at hm;exact Nat.blt_eq.mpr hm) (by rw [hβ];kernel_rfl) (by kernel_rfl) (by kernel_rfl)
theorem myLoopI {i:Nat} (hβ:β.n0=1) (hn:cl.length≤10) (hid:∀ q,q<cl.length→∀ p,p<q→(cl.getD p []).getD 0 0≠(cl.getD q []).getD 0 0) (hi:i<cl.length):∀ (d:Nat) (J:Nat→V) (a:Cf) (k:Nat),i=k+d→YC β frMy (trO (slots J 0 (slMyI 2 room (i:Int) (k:Int)))) [] (hO (lMy cl)) 1 far a→
  ∃ J' b',YC β frMy (trO (slots J' 0 (slMy 2 room ((i+1:Nat):Int)))) [] (hO (lMy cl)) 1 far b'∧Steps PR (At frMy none kind cs a todoMyI) (At frMy none kind cs b' todoMyO):=by
 intro d
 induction d with
 |zero=>
  intro J a k hd hA
  obtain ⟨J1,b1,h1,h2⟩:=myBack (kind:=kind) (cs:=cs) hβ hA (by simp only [XD,List.forall_mem_cons];exact ⟨by simp;omega,fun _ hb=>by cases hb⟩)
  rw [XM (by omega) (by omega)] at h1
  exact ⟨J1,b1,by exact_mod_cast h1,h2⟩
 |succ d ih=>
  intro J a k hd hA
  obtain ⟨J1,b1,h1,h2⟩:=myIter (kind:=kind) (cs:=cs) hβ hA (by
   simp only [XD,List.forall_mem_cons,Int.toNat_natCast,decide_eq_true_eq,Bool.not_eq_true',beq_eq_false_iff_ne]
   and_intros<;>first|exact fun h=>hid i hi k (by omega) h.symm|omega|(intro _ hb;cases hb))
  rw [XM (by omega) (by omega)] at h1
  obtain ⟨J2,b2,h3,h4⟩:=ih J1 b1 (k+1) (by omega) (by exact_mod_cast h1)
  exact ⟨J2,b2,h3,h2.trans h4⟩
theorem myLoop (hβ:β.n0=1) (hn:cl.length≤10) (hid:∀ q,q<cl.length→∀ p,p<q→(cl.getD p []).getD 0 0≠(cl.getD q []).getD 0 0):∀ (d:Nat) (J:Nat→V) (a:Cf) (i:Nat),cl.length=i+d→YC β frMy (trO (slots J 0 (slMy 2 room (i:Int)))) [] (hO (lMy cl)) 1 far a→
  ∃ J' b',YC β frMy (trO (slots J' 0 slMyE)) [] (hO (lMy cl)) 1 far b'∧Steps PR (At frMy none kind cs a todoMyO) (At frMy none kind cs b' [.code .ret]):=by
 intro d
 induction d with
 |zero=>
  intro J a i hd hA
  exact myExit hβ hA (by simp only [XD,List.forall_mem_cons];exact ⟨by simp;omega,fun _ hb=>by cases hb⟩)
 |succ d ih=>
  intro J a i hd hA
  obtain ⟨J1,b1,h1,h2⟩:=myIn (kind:=kind) (cs:=cs) hβ hA (by simp only [XD,List.forall_mem_cons];exact ⟨by simp;omega,fun _ hb=>by cases hb⟩)
  obtain ⟨J2,b2,h3,h4⟩:=myLoopI (kind:=kind) (cs:=cs) hβ hn hid (by omega) i J1 b1 0 (by omega) h1
  obtain ⟨J3,b3,h5,h6⟩:=ih J2 b2 (i+1) (by omega) h3
  exact ⟨J3,b3,h5,(h2.trans h4).trans h6⟩
theorem may_call (hr1:1≤room) (hr2:room≤64) (hn:cl.length≤10) (hid:∀ q,q<cl.length→∀ p,p<q→(cl.getD p []).getD 0 0≠(cl.getD q []).getD 0 0):YD PR 30 [.int .i64 2,.int .i64 room,.osl 0 10] 1 (hO (lMy cl)) (.int .i64 0) 1 (hO (lMy cl)):=by
 refine callH_of (c:=myBody) (t:=6) (hi:=far) Tryz.func30 (by kernel_rfl) (Nat.blt_eq.mp (by kernel_rfl)) (by kernel_rfl) (Nat.ble_eq.mp (by kernel_rfl)) (fun m o ho=>?_) (fun m o ho hr=>?_) rfl ?_
 ·have:=XP (p:=fun m=>Nat.blt m 1) (lMy cl) 0 (by kernel_rfl) m o ho
  rw [blt_fun] at this
  exact ⟨by simpa using this.2.1,this.2.2⟩
 ·rw [noRo_ok (lMy cl) (by kernel_rfl) m o ho] at hr;cases hr
 ·intro L w kind cs a hA
  obtain ⟨J1,b1,h1,h2⟩:=myStart (kind:=kind) (cs:=cs) rfl hA (by
   simp only [XD,List.forall_mem_cons,Bool.not_eq_true',decide_eq_false_iff_not]
   and_intros<;>first|omega|(intro _ hb;cases hb))
  obtain ⟨J2,b2,h3,h4⟩:=myLoop (kind:=kind) (cs:=cs) rfl hn hid cl.length J1 b1 0 (by omega) h1
  exact ⟨b2,_,1,far,_,h3,rfl,h2.trans h4,.inr ⟨[],rfl⟩⟩
end
def Named (cl:List (List Int)):Prop:=∀ q,q<cl.length→∀ p,p<q→(cl.getD p []).getD 0 0≠(cl.getD q []).getD 0 0
instance (cl:List (List Int)):Decidable (Named cl):=inferInstanceAs (Decidable (∀ q,q<cl.length→∀ p,p<q→(cl.getD p []).getD 0 0≠(cl.getD q []).getD 0 0))
def smMay (args:List V) (s:St):Option (V×St):=
 match args with
 |[.int .i64 md,.int .i64 room,.osl c es]=>(rowsOfN s c es).bind fun cl=>(chk (decide (md=2))).bind fun _=>(need (decide (1≤room∧room≤64∧cl.length≤10∧Named cl)) s).bind fun s1=>some (.int .i64 0,s1)
 |_=>none
theorem smMay_sm:SmOK PR 30 smMay:=by
 refine ⟨fun args s v s' h ho=>?_,Tryz.call30⟩
 unfold smMay at h
 split at h
 ·rename_i md room c es
  obtain ⟨cl,h1,h2⟩:=XA h
  obtain ⟨_,h3,h4⟩:=XA h2
  obtain ⟨s1,h5,h6⟩:=XA h4
  cases h6
  have hmd:md=2:=of_decide_eq_true (XC h3)
  subst hmd
  obtain ⟨hg,rfl⟩:=rowsOfN_ok h1
  obtain ⟨hd,hq⟩:=XI h5 ho
  obtain ⟨d1,d2,d3,d4⟩:=of_decide_eq_true hd
  refine ⟨.of_same hq.1,hq.2,?_⟩
  have:=embedRO (l:=lMy cl) (ac:=[.int .i64 2,.int .i64 room,.osl 0 10]) (vc:=.int .i64 0) (s:=s') (v:=.int .i64 0) (args:=[.int .i64 2,.int .i64 room,.osl c 10]) (may_call d1 d2 d3 d4) (fun m hm=>allSome_ok rfl m hm) (by kernel_rfl) (by kernel_rfl) [c] rfl (fun q o ho=>by
   match q,ho with
   |0,ho=>cases ho;rw [hq.1.H];exact hg) (by simp) rfl rfl
  refine YB.gh this (by rw [hq.1.nx];exact Nat.le_refl _) (Nat.le_refl _) (fun D L w hSR hD hst=>⟨L,.of_same hq.1 hSR,fun L' hL'=>?_⟩)
  rw [YA hq.1.nx.symm] at hL'
  exact hst L' hL'
 ·cases h
end Go.Sx
