/- can, over a heap: do calls come to an end: what it tells. -/
import Derived.Test.YtpnpmkdijmeddaaGreatScO4a
import Derived.Test.YtpnpmkdijmeddaaGreatScT10
set_option maxRecDepth 100000
namespace Go.Sx
def cW (cl:List (List Int)) (i q:Nat):Int:=(cl.getD i []).getD q 0
def cnIs (cl:List (List Int)) (F:List (List Int)) (i:Nat):Bool:=nhIs F (cW cl i 3) (cW cl i 7) (cW cl i 8) (cW cl i 9)
def cnHp (cl:List (List Int)) (F:List (List Int)) (i:Nat):List (List Int):=nhHp F (cW cl i 3) (cW cl i 6) (cW cl i 4)
def canP (cl:List (List Int)):Nat→List (List Int)→List Int→List Int→Bool
 |0,_,_,_=>false
 |f+1,F,D,N=>cond (cond (decide (N.length=0)) (!(leftP cl.length D)) false) true
  ((List.range cl.length).any fun i=>cond (cond (decide (N.length=0)) true (decide ((i:Int)=N.getD 0 0))) (cond (readyP cl D i)
   (cond (cnIs cl F i) (canP cl f (cnHp cl F i) (D++[(i:Int)]) (N.drop 1)) false) false) false)
structure CanPre (cl:List (List Int)) (F:List (List Int)) (D N:List Int):Prop where
 ended : Ended cl
 many:cl.length≤64
 kinds:∀ i,i<cl.length→(cW cl i 3=4∨cW cl i 3=5∨cW cl i 3=6)∧(cW cl i 7=0∨cW cl i 7=15)
 unl:∀ i k,i<cl.length→k<cl.length→i≠k→cW cl i 3=4→cW cl k 3=4→cW cl i 6≠cW cl k 6
 srt:SrtR F
 fit:F.length≤D.length
 put:∀ r∈F,∃ j:Nat,j<cl.length∧(j:Int)∈D∧cW cl j 3=4∧keyR r=cW cl j 6
 dn:D.Nodup
 dr:∀ x∈D,0≤x∧x<(cl.length:Int)
 nl:N.length≤64
theorem CanPre.len {cl F:List (List Int)} {D N:List Int} (h:CanPre cl F D N):D.length≤cl.length:=by
 have h1:=nodup_leC cl.length (D.map Int.toNat) ?_ ?_
 ·rwa [List.length_map] at h1
 ·refine List.Pairwise.map _ (fun a b h=>h) (List.Pairwise.imp_of_mem (fun {a b} ha hb hne=>?_) h.dn)
  have:=h.dr a ha
  have:=h.dr b hb
  omega
 ·intro i hi
  obtain ⟨a,ha,rfl⟩:=List.mem_map.1 hi
  have:=h.dr a ha
  omega
theorem readyP_notin {cl:List (List Int)} {D:List Int} {i:Nat} (h:readyP cl D i=true):¬ (i:Int)∈D:=by
 intro hD
 unfold readyP at h
 rw [decide_eq_true hD] at h
 cases h
theorem hasK_not {F:List (List Int)} {w:Int} (h:∀ r∈F,keyR r≠w):hasK F w=false:=by
 unfold hasK
 cases hb:decide (atK w F<F.length) with
 |false=>rfl
 |true=>
  have hlt:=of_decide_eq_true hb
  refine beq_eq_false_iff_ne.2 (h _ ?_)
  rw [List.getD_eq_getElem?_getD,List.getElem?_eq_getElem hlt]
  exact List.getElem_mem _
theorem CanPre.nh {cl F:List (List Int)} {D N:List Int} {i:Nat} (h:CanPre cl F D N) (hi:i<cl.length) (hr:readyP cl D i=true):NhPre F (cW cl i 3) (cW cl i 6) (cW cl i 7):=by
 have hl:=h.len
 have hm:=h.many
 have hf:=h.fit
 obtain ⟨k1,k2⟩:=h.kinds i hi
 refine ⟨by omega,h.srt,k1,k2,fun h4=>hasK_not fun r hr2 e=>?_⟩
 obtain ⟨j,j1,j2,j3,j4⟩:=h.put r hr2
 have hne:j≠i:=fun e2=>readyP_notin hr (e2 ▸ j2)
 exact h.unl j i j1 hi hne j3 h4 (j4.symm.trans e)
theorem insR_cons {r:List Int} {l:List (List Int)} {w a:Int}:insR (r::l) w a=if keyR r<w then r::insR l w a else [w,a]::r::l:=by
 unfold insR
 by_cases g:keyR r<w
 ·have e:atK w (r::l)=atK w l+1:=if_pos g
  rw [e,if_pos g];rfl
 ·have e:atK w (r::l)=0:=if_neg g
  rw [e,if_neg g];rfl
theorem mem_insR {l:List (List Int)} {w a:Int} {r:List Int}:r∈insR l w a↔r=[w,a]∨r∈l:=by
 have e:l=l.take (atK w l)++l.drop (atK w l):=(List.take_append_drop _ _).symm
 unfold insR
 constructor
 ·intro h
  rw [e]
  simp only [List.mem_append,List.mem_singleton] at h ⊢
  rcases h with (h|h)|h
  ·exact .inr (.inl h)
  ·exact .inl h
  ·exact .inr (.inr h)
 ·intro h
  rw [e] at h
  simp only [List.mem_append,List.mem_singleton] at h ⊢
  rcases h with h|h|h
  ·exact .inl (.inr h)
  ·exact .inl (.inl h)
  ·exact .inr h
theorem insR_srt {w a:Int}:∀ {l:List (List Int)},SrtR l→(∀ r∈l,keyR r≠w)→SrtR (insR l w a)
 |[],_,_=>List.pairwise_singleton _ _
 |r::l,h,hn=>by
  have h':=List.pairwise_cons.1 h
  rw [insR_cons]
  by_cases g:keyR r<w
  ·rw [if_pos g]
   refine List.pairwise_cons.2 ⟨fun q hq=>?_,insR_srt h'.2 fun q hq=>hn q (by simp [hq])⟩
   rcases mem_insR.1 hq with e|e
   ·rw [e];exact g
   ·exact h'.1 q e
  ·rw [if_neg g]
   have h1:=hn r (by simp)
   have h2:w<keyR r:=by omega
   refine List.pairwise_cons.2 ⟨fun q hq=>?_,h⟩
   show w<keyR q
   rcases List.mem_cons.1 hq with e|e
   ·rw [e];exact h2
   ·have:=h'.1 q e;omega
theorem insR_len {l:List (List Int)} {w a:Int}:(insR l w a).length=l.length+1:=by
 have:=atK_le w l
 unfold insR
 simp
 omega
theorem CanPre.next {cl F:List (List Int)} {D N:List Int} {i:Nat} (h:CanPre cl F D N) (hi:i<cl.length) (hr:readyP cl D i=true):CanPre cl (cnHp cl F i) (D++[(i:Int)]) (N.drop 1):=by
 have hD:=readyP_notin hr
 obtain ⟨k1,k2⟩:=h.kinds i hi
 have hput:∀ r∈cnHp cl F i,r∈F∨(cW cl i 3=4∧keyR r=cW cl i 6):=fun r hr2=>by
  unfold cnHp nhHp at hr2
  by_cases h4:cW cl i 3=4
  ·rw [if_pos h4] at hr2
   rcases mem_insR.1 hr2 with e|e
   ·exact .inr ⟨h4,by rw [e];rfl⟩
   ·exact .inl e
  ·rw [if_neg h4] at hr2
   by_cases h5:cW cl i 3=5
   ·rw [if_pos h5] at hr2;exact .inl (List.mem_of_mem_drop hr2)
   ·rw [if_neg h5] at hr2;exact .inl hr2
 refine ⟨h.ended,h.many,h.kinds,h.unl,?_,?_,fun r hr2=>?_,?_,fun x hx=>?_,by have:=h.nl;simp;omega⟩
 ·unfold cnHp nhHp
  by_cases h4:cW cl i 3=4
  ·rw [if_pos h4]
   refine insR_srt h.srt fun r hr2 e=>?_
   obtain ⟨j,j1,j2,j3,j5⟩:=h.put r hr2
   exact h.unl j i j1 hi (fun e2=>hD (e2 ▸ j2)) j3 h4 (j5.symm.trans e)
  ·rw [if_neg h4]
   by_cases h5:cW cl i 3=5
   ·rw [if_pos h5];exact h.srt.sublist (List.drop_sublist _ _)
   ·rw [if_neg h5];exact h.srt
 ·have hf:=h.fit
  unfold cnHp nhHp
  by_cases h4:cW cl i 3=4
  ·rw [if_pos h4,insR_len];simp;omega
  ·rw [if_neg h4]
   by_cases h5:cW cl i 3=5
   ·rw [if_pos h5];simp;omega
   ·rw [if_neg h5];simp;omega
 ·rcases hput r hr2 with e|⟨h4,e⟩
  ·obtain ⟨j,j1,j2,j3,j5⟩:=h.put r e
   exact ⟨j,j1,List.mem_append_left _ j2,j3,j5⟩
  ·exact ⟨i,hi,by simp,h4,e⟩
 ·refine List.nodup_append.2 ⟨h.dn,by simp,fun x hx y hy=>?_⟩
  rw [List.mem_singleton.1 hy]
  exact fun e=>hD (e ▸ hx)
 ·rcases List.mem_append.1 hx with e|e
  ·exact h.dr x e
  ·rw [List.mem_singleton.1 e];omega
end Go.Sx
namespace Go.Sx
open Go.Proofs
noncomputable def smCan (K:Nat) (args:List V) (s:St):Option (V×St):=
 match args with
 |[.int .i64 md,.int .i64 room,.osl c es,.agg [.nils,f,.nils],d,x]=>(rowsOfN s c es).bind fun cl=>(nrmR f s).bind fun r1=>match r1 with
  |((mf,b0,sf,lf,Fw),s1)=>(nrm .i64 3 d s1).bind fun r2=>match r2 with
   |((mD,_,sd,ld,Dw),s2)=>(nrm .i64 3 x s2).bind fun r3=>match r3 with
    |((mn,_,sn,ln,Nw),s3)=>(chk (cond (decide (md=2∧room=1)) (distinct [c,mf,mD,mn]) false)).bind fun _=>(need (propB (b0=0∧sf=0∧lf=Fw.length∧CanPre cl Fw (part Dw sd ld) (part Nw sn ln)∧cl.length+1 - ld≤K)) s3).bind fun s4=>
     some (.bool (canP cl (cl.length+1 - ld) Fw (part Dw sd ld) (part Nw sn ln)),s4)
 |_=>none
noncomputable def smsQC (K:Nat):List (Nat×SmF):=[(33,smLf),(34,smRd),(109,smNextH),(32,smCan K)]
noncomputable def GC (K:Nat):Env:=envOf tabT tabF (smOf (smsQC K)) seT imT pzT
theorem GC_ok (K:Nat):EnvOK PR (GC K):=env_ok _
def lCan (cl F:List (List Int)) (Dw Nw:List Int):List (Option Ob):=[some (callsOb cl),some (XK F),some (rowI Dw),some (rowI Nw)]
def stOb (lf:Nat):Ob:=.mem (.cells [.nils,.osv 1 2 0 0 lf,.nils]) 78 none
def lCan5 (cl F:List (List Int)) (Dw Nw:List Int):List (Option Ob):=[some (callsOb cl),some (XK F),some (rowI Dw),some (rowI Nw),some (stOb F.length)]
def canArgs (lf:Nat) (bd sd ld bn sn ln:Nat):List V:=[.int .i64 2,.int .i64 1,.osl 0 10,.agg [.nils,.osv 1 2 0 0 lf,.nils],.osv 2 1 bd sd ld,.osv 3 1 bn sn ln]
abbrev frCn:Frs:=⟨32,none,100⟩
noncomputable def cnBody:Code:=bodyOf Tryz.f32
end Go.Sx
namespace Go.Sx
def slC (bd sd ld bn sn ln:Nat) (i:Int):List (Option V):=[some (.int .i64 2),some (.int .i64 1),some (.osl 0 10),none,some (.osv 2 1 bd sd ld),some (.osv 3 1 bn sn ln),none,none,none,some (.ptr 4 0 0 0),none,none,none,some (.int .i64 i)]++List.replicate 86 none
def slCE (b:Bool):List (Option V):=[none,none,none,none,none,none,none,none,none,none,none,none,some (.bool b)]++List.replicate 87 none
def cnRow (cl F:List (List Int)) (i:Nat):List (List Int):=nhRow F (cW cl i 3) (cW cl i 4) (cW cl i 6) (cW cl i 7) (cW cl i 8) (cW cl i 9)
def cnD (Dw:List Int) (sd ld:Nat) (i:Int):List Int:=([]++(Dw.drop sd).take ld)++[i]
noncomputable def todoC:List Item:=((ctlN (GC 0) (exec (GC 0) 400) frCn 12 [.code cnBody] (Tr.ofList (canArgs 0 0 0 0 0 0 1)) [] ⟨trO (lCan [] [] [] [1]),4,bits 6 0b000000,[],[]⟩).map (·.1)).getD []
noncomputable def todoCD:List Item:=((ctlN (GC 0) (exec (GC 0) 400) frCn 8 [.code cnBody] (Tr.ofList (canArgs 0 0 0 0 0 0 0)) [] ⟨trO (lCan [] [] [] [1]),4,bits 7 0b1111111,[],[]⟩).map (·.1)).getD []
noncomputable def todoCT:List Item:=((ctlN (GC 0) (exec (GC 0) 400) frCn 39 todoC (trO (slots (fun _=>.nilp) 0 (slC 0 0 0 0 0 0 0))) [] ⟨trO (lCan5 [[0,1,2,4,0,0,6,0,0,0]] [] [] []),5,bits 60 0b100000000001100011111111111111111111110111111111111111111111,[],[]⟩).map (·.1)).getD []
end Go.Sx
namespace Go.Sx
open Go.Proofs
section
variable {β:Base} {kind:CallKind} {cs:List Frame} {J:Nat→V} {a:Cf} {cl F:List (List Int)} {Dw Nw:List Int} {bd sd ld bn sn ln K:Nat} {i:Nat}
theorem pcC {T:Tr V} {s1:List (Option V)} {t0 t1:List Item} {B:Bool} {l l':List (Option Ob)} {πl:List Nat} (hβ:β.n0=4) (hS:SumOK PR (GC K)) (hA:YC β frCn T [] (hO l) l.length far a) (m nx:Nat) (orc:List (Nat×Bool)) (hB:B=true)
  (hrun:(ctlN (GC K) (exec (GC K) 400) frCn m t0 T [] ⟨trO l,l.length,orc,[],[]⟩).map (fun r=>(r.1,look r.2.1 0 s1,r.2.2.1,r.2.2.2.nx,πl.map r.2.2.2.H.get,allB r.2.2.2.obl))=
   some (t1,s1.map (Option.map (V.ren (πf πl))),[],nx,l'.map (Option.map (Ob.ren (πf πl))),B)) (h4:4≤l'.length)
  (hck:(Nat.blt l.length big&&(Nat.beq s1.length frCn.nt&&(Nat.blt frCn.nt big&&(Nat.ble nx far&&(Nat.ble l'.length far&&(allSome l'&&(chkP 4 nx πl l'&&(obsOK (fun m=>Nat.blt m l'.length) 0 l'&&XQ (fun m=>Nat.blt m l'.length) s1))))))))=true):
  ∃ J' b',YC β frCn (trO (slots J' 0 s1)) [] (hO l') l'.length far b'∧Steps PR (At frCn none kind cs a t0) (At frCn none kind cs b' t1):=by
 simp only [Bool.and_eq_true] at hck
 obtain ⟨c1,c2,c3,c4,c5,c6,c7,c8,c9⟩:=hck
 exact YC.eval (n:=400) (far:=far) (GC_ok K) hS kind cs hA hrun hB c1 c2 c3 c4 c5 (fun m=>Nat.blt m l'.length) (p_all rfl c6) (fun m hm=>by rw [hβ] at hm;exact Nat.blt_eq.mpr (by omega)) (by rw [hβ];exact c7) c8 c9
theorem cnStD (hβ:β.n0=4) (hS:SumOK PR (GC K)) (hA:YC β frCn (Tr.ofList (canArgs F.length bd sd ld bn sn ln)) [] (hO (lCan cl F Dw Nw)) 4 far a) (hl:((ln:Nat):Int)=0) (hd:sd+ld≤Dw.length) (hb:ld≤1048576∧cl.length≤1048576∧Ended cl) (hf:leftP cl.length (part Dw sd ld)=false):
  ∃ J' b',YC β frCn (trO (slots J' 0 (slCE true))) [] (hO (lCan cl F Dw Nw)) 4 far b'∧Steps PR (At frCn none kind cs a ([.code cnBody])) (At frCn none kind cs b' (todoCD)):=
 pcC (πl:=[0,1,2,3]) (l:=lCan cl F Dw Nw) (l':=lCan cl F Dw Nw) hβ hS hA 8 5 (bits 7 0b1111111) (XB (eT hf)<|cD hb<|cD hd<|XB (qT hl)<|nilB) (by kernel_rfl) (Nat.le_of_ble_eq_true rfl) (by kernel_rfl)
theorem cnStL (hβ:β.n0=4) (hS:SumOK PR (GC K)) (hA:YC β frCn (Tr.ofList (canArgs F.length bd sd ld bn sn ln)) [] (hO (lCan cl F Dw Nw)) 4 far a) (hl:((ln:Nat):Int)=0) (hd:sd+ld≤Dw.length) (hb:ld≤1048576∧cl.length≤1048576∧Ended cl) (hf:leftP cl.length (part Dw sd ld)=true):
  ∃ J' b',YC β frCn (trO (slots J' 0 (slC bd sd ld bn sn ln 0))) [] (hO (lCan5 cl F Dw Nw)) 5 far b'∧Steps PR (At frCn none kind cs a ([.code cnBody])) (At frCn none kind cs b' (todoC)):=
 pcC (πl:=[0,1,2,3,4]) (l:=lCan cl F Dw Nw) (l':=lCan5 cl F Dw Nw) hβ hS hA 12 5 (bits 7 0b1111110) (XB (pT hf)<|cD hb<|cD hd<|XB (qT hl)<|nilB) (by kernel_rfl) (Nat.le_of_ble_eq_true rfl) (by kernel_rfl)
theorem cnStN (hβ:β.n0=4) (hS:SumOK PR (GC K)) (hA:YC β frCn (Tr.ofList (canArgs F.length bd sd ld bn sn ln)) [] (hO (lCan cl F Dw Nw)) 4 far a) (hl:((ln:Nat):Int)≠0):
  ∃ J' b',YC β frCn (trO (slots J' 0 (slC bd sd ld bn sn ln 0))) [] (hO (lCan5 cl F Dw Nw)) 5 far b'∧Steps PR (At frCn none kind cs a ([.code cnBody])) (At frCn none kind cs b' (todoC)):=
 pcC (πl:=[0,1,2,3,4]) (l:=lCan cl F Dw Nw) (l':=lCan5 cl F Dw Nw) hβ hS hA 12 5 (bits 6 0b000000) (XB (zT hl)<|nilB) (by kernel_rfl) (Nat.le_of_ble_eq_true rfl) (by kernel_rfl)
theorem cnExit (hβ:β.n0=4) (hS:SumOK PR (GC K)) (hA:YC β frCn (trO (slots J 0 (slC bd sd ld bn sn ln (i:Int)))) [] (hO (lCan5 cl F Dw Nw)) 5 far a) (hi:¬ (i:Int)<((cl.length:Nat):Int)):
  ∃ J' b',YC β frCn (trO (slots J' 0 (slCE false))) [] (hO (lCan cl F Dw Nw)) 4 far b'∧Steps PR (At frCn none kind cs a (todoC)) (At frCn none kind cs b' ([.code .ret])):=
 pcC (πl:=[0,1,2,3]) (l:=lCan5 cl F Dw Nw) (l':=lCan cl F Dw Nw) hβ hS hA 7 5 (bits 1 0b0) (cN hi<|nilB) (by kernel_rfl) (Nat.le_of_ble_eq_true rfl) (by kernel_rfl)
theorem cnSkipE (hβ:β.n0=4) (hS:SumOK PR (GC K)) (hA:YC β frCn (trO (slots J 0 (slC bd sd ld bn sn ln (i:Int)))) [] (hO (lCan5 cl F Dw Nw)) 5 far a) (hi:(i:Int)<((cl.length:Nat):Int)) (hl:¬ ((ln:Nat):Int) > 0) (hd:sd+ld≤Dw.length) (hb:ld≤1048576∧cl.length≤1048576∧Ended cl∧0≤(i:Int)∧(i:Int)<((cl.length:Nat):Int)) (hr:readyP cl (part Dw sd ld) (Int.toNat (i:Int))=false):
  ∃ J' b',YC β frCn (trO (slots J' 0 (slC bd sd ld bn sn ln (IntKind.i64.wrap ((i:Int)+1))))) [] (hO (lCan5 cl F Dw Nw)) 5 far b'∧Steps PR (At frCn none kind cs a (todoC)) (At frCn none kind cs b' (todoC)):=
 pcC (πl:=[0,1,2,3,4]) (l:=lCan5 cl F Dw Nw) (l':=lCan5 cl F Dw Nw) hβ hS hA 14 5 (bits 15 0b100000000001101) (XB (eT hr)<|cD hb<|cD hd<|cN hl<|cD hi<|nilB) (by kernel_rfl) (Nat.le_of_ble_eq_true rfl) (by kernel_rfl)
theorem cnSkipN (hβ:β.n0=4) (hS:SumOK PR (GC K)) (hA:YC β frCn (trO (slots J 0 (slC bd sd ld bn sn ln (i:Int)))) [] (hO (lCan5 cl F Dw Nw)) 5 far a) (hi:(i:Int)<((cl.length:Nat):Int)) (hl:((ln:Nat):Int) > 0) (hn0:(0:Int)≤0∧(0:Int)<((ln:Nat):Int)) (hn:sn+ln≤Nw.length) (hn1:sn+0<Nw.length) (hq:(i:Int)≠Nw.getD (sn+0) 0):
  ∃ J' b',YC β frCn (trO (slots J' 0 (slC bd sd ld bn sn ln (IntKind.i64.wrap ((i:Int)+1))))) [] (hO (lCan5 cl F Dw Nw)) 5 far b'∧Steps PR (At frCn none kind cs a (todoC)) (At frCn none kind cs b' (todoC)):=
 pcC (πl:=[0,1,2,3,4]) (l:=lCan5 cl F Dw Nw) (l':=lCan5 cl F Dw Nw) hβ hS hA 14 5 (bits 16 0b1111111111111111) (XB (bT hq)<|cD hn1<|cD hn<|cD hn0<|cD hl<|cD hi<|nilB) (by kernel_rfl) (Nat.le_of_ble_eq_true rfl) (by kernel_rfl)
theorem cnSkipR (hβ:β.n0=4) (hS:SumOK PR (GC K)) (hA:YC β frCn (trO (slots J 0 (slC bd sd ld bn sn ln (i:Int)))) [] (hO (lCan5 cl F Dw Nw)) 5 far a) (hi:(i:Int)<((cl.length:Nat):Int)) (hl:((ln:Nat):Int) > 0) (hn0:(0:Int)≤0∧(0:Int)<((ln:Nat):Int)) (hn:sn+ln≤Nw.length) (hn1:sn+0<Nw.length) (hq:(i:Int)=Nw.getD (sn+0) 0) (hd:sd+ld≤Dw.length) (hb:ld≤1048576∧cl.length≤1048576∧Ended cl∧0≤(i:Int)∧(i:Int)<((cl.length:Nat):Int)) (hr:readyP cl (part Dw sd ld) (Int.toNat (i:Int))=false):
  ∃ J' b',YC β frCn (trO (slots J' 0 (slC bd sd ld bn sn ln (IntKind.i64.wrap ((i:Int)+1))))) [] (hO (lCan5 cl F Dw Nw)) 5 far b'∧Steps PR (At frCn none kind cs a (todoC)) (At frCn none kind cs b' (todoC)):=
 pcC (πl:=[0,1,2,3,4]) (l:=lCan5 cl F Dw Nw) (l':=lCan5 cl F Dw Nw) hβ hS hA 14 5 (bits 17 0b11111111100001101) (XB (eT hr)<|cD hb<|cD hd<|XB (cT hq)<|cD hn1<|cD hn<|cD hn0<|cD hl<|cD hi<|nilB) (by kernel_rfl) (Nat.le_of_ble_eq_true rfl) (by kernel_rfl)
theorem cnGoIE (hβ:β.n0=4) (hS:SumOK PR (GC K)) (hA:YC β frCn (trO (slots J 0 (slC bd sd ld bn sn ln (i:Int)))) [] (hO (lCan5 cl F Dw Nw)) 5 far a) (hi:(i:Int)<((cl.length:Nat):Int)) (hl:¬ ((ln:Nat):Int) > 0) (hd:sd+ld≤Dw.length) (hb:ld≤1048576∧cl.length≤1048576∧Ended cl∧0≤(i:Int)∧(i:Int)<((cl.length:Nat):Int)) (hr:readyP cl (part Dw sd ld) (Int.toNat (i:Int))=true) (hi2:0≤(i:Int)∧(i:Int)<((cl.length:Nat):Int)) (hi3:Int.toNat (i:Int)<cl.length) (ht:(cl.getD (Int.toNat (i:Int)) []).getD 2 0≥0) (hF:0+F.length≤F.length) (hp:0=0∧0=0∧F.length=F.length∧NhPre F (cW cl (Int.toNat (i:Int)) 3) (cW cl (Int.toNat (i:Int)) 6) (cW cl (Int.toNat (i:Int)) 7)) (hs:cnIs cl F (Int.toNat (i:Int))=false):
  ∃ J' b',YC β frCn (trO (slots J' 0 (slC bd sd ld bn sn ln (IntKind.i64.wrap ((i:Int)+1))))) [] (hO (lCan5 cl F Dw Nw)) 5 far b'∧Steps PR (At frCn none kind cs a (todoC)) (At frCn none kind cs b' (todoC)):=
 pcC (πl:=[0,1,2,3,4]) (l:=lCan5 cl F Dw Nw) (l':=lCan5 cl F Dw Nw) hβ hS hA 49 15 (bits 56 0b10000000000110001111111111111111111111011100000000000000) (XB (eT hs)<|XB (XF.2 hp)<|cD hF<|cD hi3<|cD hi3<|cD hi3<|cD hi3<|cD hi2<|cD ht<|cD hi3<|cD hi3<|cD hi3<|cD hi3<|cD hi3<|cD hi3<|cD hi3<|cD hi3<|cD hi3<|cD hi3<|cD hi2<|cN hl<|XB (pT hr)<|cD hb<|cD hd<|cN hl<|cD hi<|nilB) (by kernel_rfl) (Nat.le_of_ble_eq_true rfl) (by kernel_rfl)
theorem cnGoCE (hβ:β.n0=4) (hS:SumOK PR (GC K)) (hA:YC β frCn (trO (slots J 0 (slC bd sd ld bn sn ln (i:Int)))) [] (hO (lCan5 cl F Dw Nw)) 5 far a) (hi:(i:Int)<((cl.length:Nat):Int)) (hl:¬ ((ln:Nat):Int) > 0) (hd:sd+ld≤Dw.length) (hb:ld≤1048576∧cl.length≤1048576∧Ended cl∧0≤(i:Int)∧(i:Int)<((cl.length:Nat):Int)) (hr:readyP cl (part Dw sd ld) (Int.toNat (i:Int))=true) (hi2:0≤(i:Int)∧(i:Int)<((cl.length:Nat):Int)) (hi3:Int.toNat (i:Int)<cl.length) (ht:(cl.getD (Int.toNat (i:Int)) []).getD 2 0≥0) (hF:0+F.length≤F.length) (hp:0=0∧0=0∧F.length=F.length∧NhPre F (cW cl (Int.toNat (i:Int)) 3) (cW cl (Int.toNat (i:Int)) 6) (cW cl (Int.toNat (i:Int)) 7)) (hs:cnIs cl F (Int.toNat (i:Int))=true) (hd2:0+ld≤1048576) (hd3:([]++(Dw.drop sd).take ld).length+1≤1048576) (hF2:0+(cnRow cl F (Int.toNat (i:Int))).length≤(cnRow cl F (Int.toNat (i:Int))).length) (hn3:sn+ln≤Nw.length) (hC:0=0∧0=0∧(cnRow cl F (Int.toNat (i:Int))).length=(cnRow cl F (Int.toNat (i:Int))).length∧CanPre cl (cnRow cl F (Int.toNat (i:Int))) (part (cnD Dw sd ld (i:Int)) 0 (cnD Dw sd ld (i:Int)).length) (part Nw (sn) (ln))∧cl.length+1 - (cnD Dw sd ld (i:Int)).length≤K) (hc:canP cl (cl.length+1 - (cnD Dw sd ld (i:Int)).length) (cnRow cl F (Int.toNat (i:Int))) (part (cnD Dw sd ld (i:Int)) 0 (cnD Dw sd ld (i:Int)).length) (part Nw (sn) (ln))=false):
  ∃ J' b',YC β frCn (trO (slots J' 0 (slC bd sd ld bn sn ln (IntKind.i64.wrap ((i:Int)+1))))) [] (hO (lCan5 cl F Dw Nw)) 5 far b'∧Steps PR (At frCn none kind cs a (todoC)) (At frCn none kind cs b' (todoC)):=
 pcC (πl:=[0,1,2,3,4]) (l:=lCan5 cl F Dw Nw) (l':=lCan5 cl F Dw Nw) hβ hS hA 49 19 (bits 61 0b1000000000011000111111111111111111111101111111111111111111100) (XB (eT hc)<|XB (XF.2 hC)<|cD hn3<|cD hF2<|cD hd3<|cD hd2<|cD hd<|XB (hs)<|XB (XF.2 hp)<|cD hF<|cD hi3<|cD hi3<|cD hi3<|cD hi3<|cD hi2<|cD ht<|cD hi3<|cD hi3<|cD hi3<|cD hi3<|cD hi3<|cD hi3<|cD hi3<|cD hi3<|cD hi3<|cD hi3<|cD hi2<|cN hl<|XB (pT hr)<|cD hb<|cD hd<|cN hl<|cD hi<|nilB) (by kernel_rfl) (Nat.le_of_ble_eq_true rfl) (by kernel_rfl)
theorem cnGoTE (hβ:β.n0=4) (hS:SumOK PR (GC K)) (hA:YC β frCn (trO (slots J 0 (slC bd sd ld bn sn ln (i:Int)))) [] (hO (lCan5 cl F Dw Nw)) 5 far a) (hi:(i:Int)<((cl.length:Nat):Int)) (hl:¬ ((ln:Nat):Int) > 0) (hd:sd+ld≤Dw.length) (hb:ld≤1048576∧cl.length≤1048576∧Ended cl∧0≤(i:Int)∧(i:Int)<((cl.length:Nat):Int)) (hr:readyP cl (part Dw sd ld) (Int.toNat (i:Int))=true) (hi2:0≤(i:Int)∧(i:Int)<((cl.length:Nat):Int)) (hi3:Int.toNat (i:Int)<cl.length) (ht:(cl.getD (Int.toNat (i:Int)) []).getD 2 0≥0) (hF:0+F.length≤F.length) (hp:0=0∧0=0∧F.length=F.length∧NhPre F (cW cl (Int.toNat (i:Int)) 3) (cW cl (Int.toNat (i:Int)) 6) (cW cl (Int.toNat (i:Int)) 7)) (hs:cnIs cl F (Int.toNat (i:Int))=true) (hd2:0+ld≤1048576) (hd3:([]++(Dw.drop sd).take ld).length+1≤1048576) (hF2:0+(cnRow cl F (Int.toNat (i:Int))).length≤(cnRow cl F (Int.toNat (i:Int))).length) (hn3:sn+ln≤Nw.length) (hC:0=0∧0=0∧(cnRow cl F (Int.toNat (i:Int))).length=(cnRow cl F (Int.toNat (i:Int))).length∧CanPre cl (cnRow cl F (Int.toNat (i:Int))) (part (cnD Dw sd ld (i:Int)) 0 (cnD Dw sd ld (i:Int)).length) (part Nw (sn) (ln))∧cl.length+1 - (cnD Dw sd ld (i:Int)).length≤K) (hc:canP cl (cl.length+1 - (cnD Dw sd ld (i:Int)).length) (cnRow cl F (Int.toNat (i:Int))) (part (cnD Dw sd ld (i:Int)) 0 (cnD Dw sd ld (i:Int)).length) (part Nw (sn) (ln))=true):
  ∃ J' b',YC β frCn (trO (slots J' 0 (slCE true))) [] (hO (lCan cl F Dw Nw)) 4 far b'∧Steps PR (At frCn none kind cs a (todoC)) (At frCn none kind cs b' (todoCT)):=
 pcC (πl:=[0,1,2,3]) (l:=lCan5 cl F Dw Nw) (l':=lCan cl F Dw Nw) hβ hS hA 39 19 (bits 60 0b100000000001100011111111111111111111110111111111111111111111) (XB (hc)<|XB (XF.2 hC)<|cD hn3<|cD hF2<|cD hd3<|cD hd2<|cD hd<|XB (hs)<|XB (XF.2 hp)<|cD hF<|cD hi3<|cD hi3<|cD hi3<|cD hi3<|cD hi2<|cD ht<|cD hi3<|cD hi3<|cD hi3<|cD hi3<|cD hi3<|cD hi3<|cD hi3<|cD hi3<|cD hi3<|cD hi3<|cD hi2<|cN hl<|XB (pT hr)<|cD hb<|cD hd<|cN hl<|cD hi<|nilB) (by kernel_rfl) (Nat.le_of_ble_eq_true rfl) (by kernel_rfl)
theorem cnGoIN (hβ:β.n0=4) (hS:SumOK PR (GC K)) (hA:YC β frCn (trO (slots J 0 (slC bd sd ld bn sn ln (i:Int)))) [] (hO (lCan5 cl F Dw Nw)) 5 far a) (hi:(i:Int)<((cl.length:Nat):Int)) (hl:((ln:Nat):Int) > 0) (hn0:(0:Int)≤0∧(0:Int)<((ln:Nat):Int)) (hn:sn+ln≤Nw.length) (hn1:sn+0<Nw.length) (hq:(i:Int)=Nw.getD (sn+0) 0) (hd:sd+ld≤Dw.length) (hb:ld≤1048576∧cl.length≤1048576∧Ended cl∧0≤(i:Int)∧(i:Int)<((cl.length:Nat):Int)) (hr:readyP cl (part Dw sd ld) (Int.toNat (i:Int))=true) (hn2:(∀ z∈(some 1:Option Int),0≤z)∧1≤ln∧sn+ln≤Nw.length) (hi2:0≤(i:Int)∧(i:Int)<((cl.length:Nat):Int)) (hi3:Int.toNat (i:Int)<cl.length) (ht:(cl.getD (Int.toNat (i:Int)) []).getD 2 0≥0) (hF:0+F.length≤F.length) (hp:0=0∧0=0∧F.length=F.length∧NhPre F (cW cl (Int.toNat (i:Int)) 3) (cW cl (Int.toNat (i:Int)) 6) (cW cl (Int.toNat (i:Int)) 7)) (hs:cnIs cl F (Int.toNat (i:Int))=false):
  ∃ J' b',YC β frCn (trO (slots J' 0 (slC bd sd ld bn sn ln (IntKind.i64.wrap ((i:Int)+1))))) [] (hO (lCan5 cl F Dw Nw)) 5 far b'∧Steps PR (At frCn none kind cs a (todoC)) (At frCn none kind cs b' (todoC)):=
 pcC (πl:=[0,1,2,3,4]) (l:=lCan5 cl F Dw Nw) (l':=lCan5 cl F Dw Nw) hβ hS hA 49 15 (bits 59 0b11111111100001100111111111111111111111111011100000000000000) (XB (eT hs)<|XB (XF.2 hp)<|cD hF<|cD hi3<|cD hi3<|cD hi3<|cD hi3<|cD hi2<|cD ht<|cD hi3<|cD hi3<|cD hi3<|cD hi3<|cD hi3<|cD hi3<|cD hi3<|cD hi3<|cD hi3<|cD hi3<|cD hi2<|cD hn2<|cD hl<|XB (pT hr)<|cD hb<|cD hd<|XB (cT hq)<|cD hn1<|cD hn<|cD hn0<|cD hl<|cD hi<|nilB) (by kernel_rfl) (Nat.le_of_ble_eq_true rfl) (by kernel_rfl)
theorem cnGoCN (hβ:β.n0=4) (hS:SumOK PR (GC K)) (hA:YC β frCn (trO (slots J 0 (slC bd sd ld bn sn ln (i:Int)))) [] (hO (lCan5 cl F Dw Nw)) 5 far a) (hi:(i:Int)<((cl.length:Nat):Int)) (hl:((ln:Nat):Int) > 0) (hn0:(0:Int)≤0∧(0:Int)<((ln:Nat):Int)) (hn:sn+ln≤Nw.length) (hn1:sn+0<Nw.length) (hq:(i:Int)=Nw.getD (sn+0) 0) (hd:sd+ld≤Dw.length) (hb:ld≤1048576∧cl.length≤1048576∧Ended cl∧0≤(i:Int)∧(i:Int)<((cl.length:Nat):Int)) (hr:readyP cl (part Dw sd ld) (Int.toNat (i:Int))=true) (hn2:(∀ z∈(some 1:Option Int),0≤z)∧1≤ln∧sn+ln≤Nw.length) (hi2:0≤(i:Int)∧(i:Int)<((cl.length:Nat):Int)) (hi3:Int.toNat (i:Int)<cl.length) (ht:(cl.getD (Int.toNat (i:Int)) []).getD 2 0≥0) (hF:0+F.length≤F.length) (hp:0=0∧0=0∧F.length=F.length∧NhPre F (cW cl (Int.toNat (i:Int)) 3) (cW cl (Int.toNat (i:Int)) 6) (cW cl (Int.toNat (i:Int)) 7)) (hs:cnIs cl F (Int.toNat (i:Int))=true) (hd2:0+ld≤1048576) (hd3:([]++(Dw.drop sd).take ld).length+1≤1048576) (hF2:0+(cnRow cl F (Int.toNat (i:Int))).length≤(cnRow cl F (Int.toNat (i:Int))).length) (hn3:sn+1+(ln - 1)≤Nw.length) (hC:0=0∧0=0∧(cnRow cl F (Int.toNat (i:Int))).length=(cnRow cl F (Int.toNat (i:Int))).length∧CanPre cl (cnRow cl F (Int.toNat (i:Int))) (part (cnD Dw sd ld (i:Int)) 0 (cnD Dw sd ld (i:Int)).length) (part Nw (sn+1) ((ln - 1)))∧cl.length+1 - (cnD Dw sd ld (i:Int)).length≤K) (hc:canP cl (cl.length+1 - (cnD Dw sd ld (i:Int)).length) (cnRow cl F (Int.toNat (i:Int))) (part (cnD Dw sd ld (i:Int)) 0 (cnD Dw sd ld (i:Int)).length) (part Nw (sn+1) ((ln - 1)))=false):
  ∃ J' b',YC β frCn (trO (slots J' 0 (slC bd sd ld bn sn ln (IntKind.i64.wrap ((i:Int)+1))))) [] (hO (lCan5 cl F Dw Nw)) 5 far b'∧Steps PR (At frCn none kind cs a (todoC)) (At frCn none kind cs b' (todoC)):=
 pcC (πl:=[0,1,2,3,4]) (l:=lCan5 cl F Dw Nw) (l':=lCan5 cl F Dw Nw) hβ hS hA 49 19 (bits 64 0b1111111110000110011111111111111111111111101111111111111111111100) (XB (eT hc)<|XB (XF.2 hC)<|cD hn3<|cD hF2<|cD hd3<|cD hd2<|cD hd<|XB (hs)<|XB (XF.2 hp)<|cD hF<|cD hi3<|cD hi3<|cD hi3<|cD hi3<|cD hi2<|cD ht<|cD hi3<|cD hi3<|cD hi3<|cD hi3<|cD hi3<|cD hi3<|cD hi3<|cD hi3<|cD hi3<|cD hi3<|cD hi2<|cD hn2<|cD hl<|XB (pT hr)<|cD hb<|cD hd<|XB (cT hq)<|cD hn1<|cD hn<|cD hn0<|cD hl<|cD hi<|nilB) (by kernel_rfl) (Nat.le_of_ble_eq_true rfl) (by kernel_rfl)
theorem cnGoTN (hβ:β.n0=4) (hS:SumOK PR (GC K)) (hA:YC β frCn (trO (slots J 0 (slC bd sd ld bn sn ln (i:Int)))) [] (hO (lCan5 cl F Dw Nw)) 5 far a) (hi:(i:Int)<((cl.length:Nat):Int)) (hl:((ln:Nat):Int) > 0) (hn0:(0:Int)≤0∧(0:Int)<((ln:Nat):Int)) (hn:sn+ln≤Nw.length) (hn1:sn+0<Nw.length) (hq:(i:Int)=Nw.getD (sn+0) 0) (hd:sd+ld≤Dw.length) (hb:ld≤1048576∧cl.length≤1048576∧Ended cl∧0≤(i:Int)∧(i:Int)<((cl.length:Nat):Int)) (hr:readyP cl (part Dw sd ld) (Int.toNat (i:Int))=true) (hn2:(∀ z∈(some 1:Option Int),0≤z)∧1≤ln∧sn+ln≤Nw.length) (hi2:0≤(i:Int)∧(i:Int)<((cl.length:Nat):Int)) (hi3:Int.toNat (i:Int)<cl.length) (ht:(cl.getD (Int.toNat (i:Int)) []).getD 2 0≥0) (hF:0+F.length≤F.length) (hp:0=0∧0=0∧F.length=F.length∧NhPre F (cW cl (Int.toNat (i:Int)) 3) (cW cl (Int.toNat (i:Int)) 6) (cW cl (Int.toNat (i:Int)) 7)) (hs:cnIs cl F (Int.toNat (i:Int))=true) (hd2:0+ld≤1048576) (hd3:([]++(Dw.drop sd).take ld).length+1≤1048576) (hF2:0+(cnRow cl F (Int.toNat (i:Int))).length≤(cnRow cl F (Int.toNat (i:Int))).length) (hn3:sn+1+(ln - 1)≤Nw.length) (hC:0=0∧0=0∧(cnRow cl F (Int.toNat (i:Int))).length=(cnRow cl F (Int.toNat (i:Int))).length∧CanPre cl (cnRow cl F (Int.toNat (i:Int))) (part (cnD Dw sd ld (i:Int)) 0 (cnD Dw sd ld (i:Int)).length) (part Nw (sn+1) ((ln - 1)))∧cl.length+1 - (cnD Dw sd ld (i:Int)).length≤K) (hc:canP cl (cl.length+1 - (cnD Dw sd ld (i:Int)).length) (cnRow cl F (Int.toNat (i:Int))) (part (cnD Dw sd ld (i:Int)) 0 (cnD Dw sd ld (i:Int)).length) (part Nw (sn+1) ((ln - 1)))=true):
  ∃ J' b',YC β frCn (trO (slots J' 0 (slCE true))) [] (hO (lCan cl F Dw Nw)) 4 far b'∧Steps PR (At frCn none kind cs a (todoC)) (At frCn none kind cs b' (todoCT)):=
 pcC (πl:=[0,1,2,3]) (l:=lCan5 cl F Dw Nw) (l':=lCan cl F Dw Nw) hβ hS hA 39 19 (bits 63 0b111111111000011001111111111111111111111110111111111111111111111) (XB (hc)<|XB (XF.2 hC)<|cD hn3<|cD hF2<|cD hd3<|cD hd2<|cD hd<|XB (hs)<|XB (XF.2 hp)<|cD hF<|cD hi3<|cD hi3<|cD hi3<|cD hi3<|cD hi2<|cD ht<|cD hi3<|cD hi3<|cD hi3<|cD hi3<|cD hi3<|cD hi3<|cD hi3<|cD hi3<|cD hi3<|cD hi3<|cD hi2<|cD hn2<|cD hl<|XB (pT hr)<|cD hb<|cD hd<|XB (cT hq)<|cD hn1<|cD hn<|cD hn0<|cD hl<|cD hi<|nilB) (by kernel_rfl) (Nat.le_of_ble_eq_true rfl) (by kernel_rfl)
end
end Go.Sx
