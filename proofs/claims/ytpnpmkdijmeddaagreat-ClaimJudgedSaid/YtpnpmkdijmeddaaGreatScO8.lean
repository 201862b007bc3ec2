/- Order: an order of calls, if there is one. -/
import Derived.Test.YtpnpmkdijmeddaaGreatScO6
import Derived.Test.YtpnpmkdijmeddaaGreatScD6
import Derived.Test.YtpnpmkdijmeddaaGreatScA14
set_option maxRecDepth 100000
namespace Go.Sx
open Go.Proofs
noncomputable def smsO (K:Nat):List (Nat×SmF):=[(33,smLf),(34,smRd),(30,smMay),(32,smCan K)]
noncomputable def GO:Env:=envOf tabT tabF (smOf (smsO 100)) seT imT pzT
theorem GO_ok:EnvOK PR GO:=env_ok _
theorem HO_ok:SumOK PR GO:=sumOK_of rfl ⟨smLf_sm,smRd_sm,smMay_sm,smCan_sm 100,trivial⟩
abbrev frOr:Frs:=⟨8,none,66⟩
noncomputable def orBody:Code:=bodyOf Tryz.f8
def st0:Ob:=.mem (.cells [.nils,.nils,.nils]) 78 none
def lOr0 (cl:List (List Int)):List (Option Ob):=[some (callsOb cl),some st0]
def lOr (cl:List (List Int)) (R O:List Int):List (Option Ob):=[some (callsOb cl),some st0,some (rowI R),some (rowI O)]
def slOr (a b:V):List (Option V):=[some (.int .i64 2),some (.int .i64 1),some (.osl 0 10),none,none,none,none,none,none,none,some (.ptr 1 0 0 0),some a,some b]++List.replicate 53 none
def slOrI (k:Int):List (Option V):=[some (.int .i64 2),some (.int .i64 1),some (.osl 0 10),none,none,none,none,none,none,none,some (.ptr 1 0 0 0),some (.osl 2 1),some (.osl 3 1),some (.int .i64 k)]++List.replicate 52 none
def slOrE:List (Option V):=[none,none,none,none,none,none,some (.osl 1 1),some (.bool true),some (.int .i64 0)]++List.replicate 57 none
noncomputable def todoOr:List Item:=((ctlN GO (exec GO 400) frOr 21 [.code orBody] (Tr.ofList [.int .i64 2,.int .i64 1,.osl 0 10]) [] ⟨trO [some (callsOb [])],1,bits 9 0b100000010,[],[]⟩).map (·.1)).getD []
noncomputable def todoOrI:List Item:=((ctlN GO (exec GO 400) frOr 11 todoOr (trO (slots (fun _=>.nilp) 0 (slOr (.osl 2 1) (.osl 3 1)))) [] ⟨trO (lOr [[]] [] []),4,bits 2 3,[],[]⟩).map (·.1)).getD []
section
variable {β:Base} {kind:CallKind} {cs:List Frame} {J:Nat→V} {a:Cf} {cl:List (List Int)} {R O:List Int} {k:Int}
theorem orStart (hβ:β.n0=1) (hA:YC β frOr (Tr.ofList [.int .i64 2,.int .i64 1,.osl 0 10]) [] (hO ([some (callsOb cl)])) 1 far a) (hB:allB [!(!(canP cl (cl.length+1 - 0) [] (part [] 0 0) (part [] 0 0))),propB (0=0∧0=0∧0=([]:List (List Int)).length∧CanPre cl [] (part [] 0 0) (part [] 0 0)∧cl.length+1 - 0≤100),decide ((1:Int)≤1∧(1:Int)≤64∧cl.length≤10∧Named cl)]=true):
  ∃ J' b',YC β frOr (trO (slots J' 0 (slOr .nils .nils))) [] (hO (lOr0 cl)) 2 far b'∧Steps PR (At frOr none kind cs a [.code orBody]) (At frOr none kind cs b' todoOr):=
 YC.eval (n:=400) (m:=21) (orc:=bits 9 0b100000010) (πl:=[0,3]) (nx':=7) (far:=far) (todo:=[.code orBody]) (todo':=todoOr) (l:=[some (callsOb cl)]) (l':=lOr0 cl) (sl':=slOr .nils .nils) GO_ok HO_ok kind cs hA
  (by kernel_rfl) hB rfl rfl rfl rfl rfl (fun m=>Nat.blt m 2) (p_all rfl rfl) (fun m hm=>by rw [hβ] at hm;exact Nat.blt_eq.mpr (by omega)) (by rw [hβ];kernel_rfl) (by kernel_rfl) (by kernel_rfl)
theorem orIn (hβ:β.n0=1) (hA:YC β frOr (trO (slots J 0 (slOr (.osl 2 1) (.osl 3 1)))) [] (hO (lOr cl R O)) 4 far a) (hB:allB [(leftP cl.length (part R 0 R.length)),decide (R.length≤1048576∧cl.length≤1048576∧Ended cl)]=true):
  ∃ J' b',YC β frOr (trO (slots J' 0 (slOrI 0))) [] (hO (lOr cl R O)) 4 far b'∧Steps PR (At frOr none kind cs a todoOr) (At frOr none kind cs b' todoOrI):=
 YC.eval (n:=400) (m:=11) (orc:=bits 2 0b11) (πl:=[0,1,2,3]) (nx':=4) (far:=far) (todo:=todoOr) (todo':=todoOrI) (l:=lOr cl R O) (l':=lOr cl R O) (sl':=slOrI 0) GO_ok HO_ok kind cs hA
  (by kernel_rfl) hB rfl rfl rfl rfl rfl (fun m=>Nat.blt m 4) (p_all rfl rfl) (fun m hm=>by rw [hβ] at hm;exact Nat.blt_eq.mpr (by omega)) (by rw [hβ];kernel_rfl) (by kernel_rfl) (by kernel_rfl)
theorem orExit (hβ:β.n0=1) (hA:YC β frOr (trO (slots J 0 (slOr (.osl 2 1) (.osl 3 1)))) [] (hO (lOr cl R O)) 4 far a) (hB:allB [!(leftP cl.length (part R 0 R.length)),decide (R.length≤1048576∧cl.length≤1048576∧Ended cl)]=true):
  ∃ J' b',YC β frOr (trO (slots J' 0 (slOrE))) [] (hO ([some (callsOb cl),some (rowI O)])) 2 far b'∧Steps PR (At frOr none kind cs a todoOr) (At frOr none kind cs b' [.code .ret]):=
 YC.eval (n:=400) (m:=7) (orc:=bits 2 0b10) (πl:=[0,3]) (nx':=4) (far:=far) (todo:=todoOr) (todo':=[.code .ret]) (l:=lOr cl R O) (l':=[some (callsOb cl),some (rowI O)]) (sl':=slOrE) GO_ok HO_ok kind cs hA
  (by kernel_rfl) hB rfl rfl rfl rfl rfl (fun m=>Nat.blt m 2) (p_all rfl rfl) (fun m hm=>by rw [hβ] at hm;exact Nat.blt_eq.mpr (by omega)) (by rw [hβ];kernel_rfl) (by kernel_rfl) (by kernel_rfl)
theorem orNot (hβ:β.n0=1) (hA:YC β frOr (trO (slots J 0 (slOrI k))) [] (hO (lOr cl R O)) 4 far a) (hB:allB [!(readyP cl (part R 0 R.length) k.toNat),decide (R.length≤1048576∧cl.length≤1048576∧Ended cl∧0≤k∧k<(cl.length:Int))]=true):
  ∃ J' b',YC β frOr (trO (slots J' 0 (slOrI (IntKind.i64.wrap (k+1))))) [] (hO (lOr cl R O)) 4 far b'∧Steps PR (At frOr none kind cs a todoOrI) (At frOr none kind cs b' todoOrI):=
 YC.eval (n:=400) (m:=9) (orc:=bits 14 0b11111111111111) (πl:=[0,1,2,3]) (nx':=4) (far:=far) (todo:=todoOrI) (todo':=todoOrI) (l:=lOr cl R O) (l':=lOr cl R O) (sl':=slOrI (IntKind.i64.wrap (k+1))) GO_ok HO_ok kind cs hA
  (by kernel_rfl) hB rfl rfl rfl rfl rfl (fun m=>Nat.blt m 4) (p_all rfl rfl) (fun m hm=>by rw [hβ] at hm;exact Nat.blt_eq.mpr (by omega)) (by rw [hβ];kernel_rfl) (by kernel_rfl) (by kernel_rfl)
theorem orCant (hβ:β.n0=1) (hA:YC β frOr (trO (slots J 0 (slOrI k))) [] (hO (lOr cl R O)) 4 far a) (hB:allB [!(canP cl (cl.length+1 - 0) [] (part [] 0 0) (part (([]++R:List Int)++[k]) 0 (([]++R:List Int)++[k]).length)),propB (0=0∧0=0∧0=([]:List (List Int)).length∧CanPre cl [] (part [] 0 0) (part (([]++R:List Int)++[k]) 0 (([]++R:List Int)++[k]).length)∧cl.length+1 - 0≤100),decide (([]++R:List Int).length+[k].length≤1048576),decide (([]:List Int).length+R.length≤1048576),!(!(readyP cl (part R 0 R.length) k.toNat)),decide (R.length≤1048576∧cl.length≤1048576∧Ended cl∧0≤k∧k<(cl.length:Int))]=true):
  ∃ J' b',YC β frOr (trO (slots J' 0 (slOrI (IntKind.i64.wrap (k+1))))) [] (hO (lOr cl R O)) 4 far b'∧Steps PR (At frOr none kind cs a todoOrI) (At frOr none kind cs b' todoOrI):=
 YC.eval (n:=400) (m:=9) (orc:=bits 16 0b1000000100010101) (πl:=[0,1,2,3]) (nx':=10) (far:=far) (todo:=todoOrI) (todo':=todoOrI) (l:=lOr cl R O) (l':=lOr cl R O) (sl':=slOrI (IntKind.i64.wrap (k+1))) GO_ok HO_ok kind cs hA
  (by kernel_rfl) hB rfl rfl rfl rfl rfl (fun m=>Nat.blt m 4) (p_all rfl rfl) (fun m hm=>by rw [hβ] at hm;exact Nat.blt_eq.mpr (by omega)) (by rw [hβ];kernel_rfl) (by kernel_rfl) (by kernel_rfl)
theorem orDo (hβ:β.n0=1) (hA:YC β frOr (trO (slots J 0 (slOrI k))) [] (hO (lOr cl R O)) 4 far a) (hB:allB [decide (O.length+[(cl.getD k.toNat []).getD 0 0].length≤1048576),decide (k.toNat<cl.length),decide (0≤k∧k<(cl.length:Int)),decide (R.length+[k].length≤1048576),!(!(canP cl (cl.length+1 - 0) [] (part [] 0 0) (part (([]++R:List Int)++[k]) 0 (([]++R:List Int)++[k]).length))),propB (0=0∧0=0∧0=([]:List (List Int)).length∧CanPre cl [] (part [] 0 0) (part (([]++R:List Int)++[k]) 0 (([]++R:List Int)++[k]).length)∧cl.length+1 - 0≤100),decide (([]++R:List Int).length+[k].length≤1048576),decide (([]:List Int).length+R.length≤1048576),!(!(readyP cl (part R 0 R.length) k.toNat)),decide (R.length≤1048576∧cl.length≤1048576∧Ended cl∧0≤k∧k<(cl.length:Int))]=true):
  ∃ J' b',YC β frOr (trO (slots J' 0 (slOr (.osl 2 1) (.osl 3 1)))) [] (hO (lOr cl (R++[k]) (O++[(cl.getD k.toNat []).getD 0 0]))) 4 far b'∧Steps PR (At frOr none kind cs a todoOrI) (At frOr none kind cs b' todoOr):=
 YC.eval (n:=400) (m:=10) (orc:=bits 20 0b10000001000101001111) (πl:=[0,1,11,13]) (nx':=14) (far:=far) (todo:=todoOrI) (todo':=todoOr) (l:=lOr cl R O) (l':=lOr cl (R++[k]) (O++[(cl.getD k.toNat []).getD 0 0])) (sl':=slOr (.osl 2 1) (.osl 3 1)) GO_ok HO_ok kind cs hA
  (by kernel_rfl) hB rfl rfl rfl rfl rfl (fun m=>Nat.blt m 4) (p_all rfl rfl) (fun m hm=>by rw [hβ] at hm;exact Nat.blt_eq.mpr (by omega)) (by rw [hβ];kernel_rfl) (by kernel_rfl) (by kernel_rfl)
end
theorem ord_next {cl:List (List Int)}:∀ (R:List Int) (f:Nat) (F:List (List Int)) (D:List Int),canP cl f F D R=true→leftP cl.length (D++R)=true→∃ k,k<cl.length∧readyP cl (D++R) k=true∧canP cl f F D (R++[(k:Int)])=true:=by
 intro R
 induction R with
 |nil=>
  intro f F D h hl
  cases f with
  |zero=>cases h
  |succ f=>
   rw [canP_succ] at h
   simp only [List.append_nil] at hl ⊢
   simp only [List.length_nil,decide_true,cond_true,hl,Bool.not_true,cond_false,List.any_eq_true,List.mem_range] at h
   obtain ⟨i,hi,hs⟩:=h
   unfold cnStep at hs
   simp only [List.length_nil,decide_true,cond_true] at hs
   cases hr:readyP cl D i with
   |false=>rw [hr] at hs;cases hs
   |true=>
    cases hq:cnIs cl F i with
    |false=>rw [hr,hq] at hs;cases hs
    |true=>
     rw [hr,hq] at hs
     simp only [cond_true,List.drop_nil] at hs
     refine ⟨i,hi,hr,?_⟩
     rw [canP_succ]
     simp only [List.nil_append,List.length_singleton,Nat.one_ne_zero,decide_false,cond_false,List.any_eq_true,List.mem_range]
     refine ⟨i,hi,?_⟩
     unfold cnStep
     simp [hr,hq,hs]
 |cons r R ih=>
  intro f F D h hl
  cases f with
  |zero=>cases h
  |succ f=>
   rw [canP_succ] at h
   simp only [List.length_cons,Nat.succ_ne_zero,decide_false,cond_false,List.any_eq_true,List.mem_range] at h
   obtain ⟨i,hi,hs⟩:=h
   unfold cnStep at hs
   simp only [List.length_cons,Nat.succ_ne_zero,decide_false,cond_false,List.getD_cons_zero] at hs
   cases he:decide ((i:Int)=r) with
   |false=>rw [he] at hs;cases hs
   |true=>
    cases hr:readyP cl D i with
    |false=>rw [he,hr] at hs;cases hs
    |true=>
     cases hq:cnIs cl F i with
     |false=>rw [he,hr,hq] at hs;cases hs
     |true=>
      rw [he,hr,hq] at hs
      simp only [cond_true,List.drop_one,List.tail_cons] at hs
      have hir:(i:Int)=r:=of_decide_eq_true he
      have happ:D++[(i:Int)]++R=D++r::R:=by rw [hir];simp
      obtain ⟨k,h1,h2,h3⟩:=ih f _ (D++[(i:Int)]) hs (by rw [happ];exact hl)
      rw [happ] at h2
      refine ⟨k,h1,h2,?_⟩
      rw [canP_succ]
      simp only [List.cons_append,List.length_cons,Nat.succ_ne_zero,decide_false,cond_false,List.any_eq_true,List.mem_range]
      refine ⟨i,hi,?_⟩
      unfold cnStep
      simp only [List.length_cons,Nat.succ_ne_zero,decide_false,cond_false,List.getD_cons_zero,he,hr,hq,cond_true,List.drop_one,List.tail_cons,h3]
structure OrdPre (cl:List (List Int)) :Prop where
 ended : Ended cl
 many:cl.length≤10
 kinds:∀ i,i<cl.length→(cW cl i 3=4∨cW cl i 3=5∨cW cl i 3=6)∧(cW cl i 7=0∨cW cl i 7=15)
 unl:∀ i k,i<cl.length→k<cl.length→i≠k→cW cl i 3=4→cW cl k 3=4→cW cl i 6≠cW cl k 6
 named:Named cl
 can:canP cl (cl.length+1) [] [] []=true
theorem OrdPre.pre {cl:List (List Int)} (h:OrdPre cl) {N:List Int} (hN:N.length≤64):CanPre cl [] [] N:=
 ⟨h.ended,by have:=h.many;omega,h.kinds,h.unl,List.Pairwise.nil,Nat.zero_le _,fun r hr=>(by cases hr),List.nodup_nil,fun x hx=>(by cases hx),hN⟩
section
variable {β:Base} {kind:CallKind} {cs:List Frame} {J:Nat→V} {a:Cf} {cl:List (List Int)} {R O:List Int}
theorem orLoopI (hβ:β.n0=1) (hp:OrdPre cl) (hR:R.length≤10) (hOl:O.length≤10) {k0:Nat} (hk0:k0<cl.length) (hr0:readyP cl R k0=true) (hc0:canP cl (cl.length+1) [] [] (R++[(k0:Int)])=true):
  ∀ (d:Nat) (J:Nat→V) (a:Cf) (k:Nat),k0=k+d→YC β frOr (trO (slots J 0 (slOrI (k:Int)))) [] (hO (lOr cl R O)) 4 far a→
   ∃ J' b' q,q<cl.length∧readyP cl R q=true∧canP cl (cl.length+1) [] [] (R++[(q:Int)])=true∧YC β frOr (trO (slots J' 0 (slOr (.osl 2 1) (.osl 3 1)))) [] (hO (lOr cl (R++[(q:Int)]) (O++[(cl.getD q []).getD 0 0]))) 4 far b'∧
    Steps PR (At frOr none kind cs a todoOrI) (At frOr none kind cs b' todoOr):=by
 have hm:=hp.many
 have hE:=hp.ended
 have w0:part ([]:List Int) 0 0=[]:=rfl
 intro d
 induction d with
 |zero=>
  intro J a k hd hA
  have:k0=k:=by omega
  subst this
  have hpre:CanPre cl [] (part [] 0 0) (part (([]++R:List Int)++[(k0:Int)]) 0 (([]++R:List Int)++[(k0:Int)]).length):=by
   rw [part_whole,w0]
   exact hp.pre (by simp;omega)
  obtain ⟨J',b',h1,h2⟩:=orDo (kind:=kind) (cs:=cs) hβ hA (by
   simp only [XD,List.forall_mem_cons,Int.toNat_natCast,part_whole,w0,Nat.sub_zero,List.nil_append,hr0,hc0,XF,List.length_nil,List.length_singleton,decide_eq_true_eq,Bool.not_false,Bool.not_true]
   rw [part_whole,w0] at hpre
   and_intros<;>first|trivial|exact hpre|assumption|omega|(intro _ hb;cases hb))
  exact ⟨J',b',k0,hk0,hr0,hc0,by simpa using h1,h2⟩
 |succ d ih=>
  intro J a k hd hA
  have hk:k<cl.length:=by omega
  have next:∀ (J1:Nat→V) (b1:Cf),YC β frOr (trO (slots J1 0 (slOrI (IntKind.i64.wrap ((k:Int)+1))))) [] (hO (lOr cl R O)) 4 far b1→Steps PR (At frOr none kind cs a todoOrI) (At frOr none kind cs b1 todoOrI)→
    ∃ J' b' q,q<cl.length∧readyP cl R q=true∧canP cl (cl.length+1) [] [] (R++[(q:Int)])=true∧YC β frOr (trO (slots J' 0 (slOr (.osl 2 1) (.osl 3 1)))) [] (hO (lOr cl (R++[(q:Int)]) (O++[(cl.getD q []).getD 0 0]))) 4 far b'∧
     Steps PR (At frOr none kind cs a todoOrI) (At frOr none kind cs b' todoOr):=by
   intro J1 b1 h1 h2
   rw [XM (by omega) (by omega)] at h1
   obtain ⟨J2,b2,q,g1,g2,g3,g4,g5⟩:=ih J1 b1 (k+1) (by omega) (by exact_mod_cast h1)
   exact ⟨J2,b2,q,g1,g2,g3,g4,h2.trans g5⟩
  cases hr:readyP cl R k with
  |false=>
   obtain ⟨J1,b1,h1,h2⟩:=orNot (kind:=kind) (cs:=cs) hβ hA (by
    simp only [XD,List.forall_mem_cons,Int.toNat_natCast,part_whole,hr,decide_eq_true_eq,Bool.not_false]
    and_intros<;>first|trivial|assumption|omega|(intro _ hb;cases hb))
   exact next J1 b1 h1 h2
  |true=>
   have hpre:CanPre cl [] (part [] 0 0) (R++[(k:Int)]):=by
    rw [w0]
    exact hp.pre (by simp;omega)
   rw [w0] at hpre
   cases hc:canP cl (cl.length+1) [] [] (R++[(k:Int)]) with
   |false=>
    obtain ⟨J1,b1,h1,h2⟩:=orCant (kind:=kind) (cs:=cs) hβ hA (by
     simp only [XD,List.forall_mem_cons,Int.toNat_natCast,part_whole,w0,Nat.sub_zero,List.nil_append,hr,hc,XF,List.length_nil,List.length_singleton,decide_eq_true_eq,Bool.not_false,Bool.not_true]
     and_intros<;>first|trivial|exact hpre|assumption|omega|(intro _ hb;cases hb))
    exact next J1 b1 h1 h2
   |true=>
    obtain ⟨J',b',h1,h2⟩:=orDo (kind:=kind) (cs:=cs) hβ hA (by
     simp only [XD,List.forall_mem_cons,Int.toNat_natCast,part_whole,w0,Nat.sub_zero,List.nil_append,hr,hc,XF,List.length_nil,List.length_singleton,decide_eq_true_eq,Bool.not_false,Bool.not_true]
     and_intros<;>first|trivial|exact hpre|assumption|omega|(intro _ hb;cases hb))
    exact ⟨J',b',k,hk,hr,hc,by simpa using h1,h2⟩
theorem orLoop (hβ:β.n0=1) (hp:OrdPre cl):∀ (d:Nat) (J:Nat→V) (a:Cf) (R O:List Int),cl.length+1=R.length+d→O.length=R.length→R.Nodup→(∀ x∈R,0≤x∧x<(cl.length:Int))→canP cl (cl.length+1) [] [] R=true→
  YC β frOr (trO (slots J 0 (slOr (.osl 2 1) (.osl 3 1)))) [] (hO (lOr cl R O)) 4 far a→
  ∃ J' b' O',YC β frOr (trO (slots J' 0 slOrE)) [] (hO [some (callsOb cl),some (rowI O')]) 2 far b'∧Steps PR (At frOr none kind cs a todoOr) (At frOr none kind cs b' [.code .ret]):=by
 have hm:=hp.many
 have hE:=hp.ended
 intro d
 induction d with
 |zero=>
  intro J a R O hd hOR hnd hrg hc hA
  have:=nodup_int hnd hrg
  omega
 |succ d ih=>
  intro J a R O hd hOR hnd hrg hc hA
  have hl:=nodup_int hnd hrg
  cases hlf:leftP cl.length R with
  |false=>
   obtain ⟨J',b',h1,h2⟩:=orExit (kind:=kind) (cs:=cs) hβ hA (by
    simp only [XD,List.forall_mem_cons,part_whole,hlf,decide_eq_true_eq,Bool.not_false]
    and_intros<;>first|trivial|assumption|omega|(intro _ hb;cases hb))
   exact ⟨J',b',O,h1,h2⟩
  |true=>
   obtain ⟨k0,g1,g2,g3⟩:=ord_next R (cl.length+1) [] [] hc (by simpa using hlf)
   simp only [List.nil_append] at g2
   obtain ⟨J1,b1,h1,h2⟩:=orIn (kind:=kind) (cs:=cs) hβ hA (by
    simp only [XD,List.forall_mem_cons,part_whole,hlf,decide_eq_true_eq]
    and_intros<;>first|trivial|assumption|omega|(intro _ hb;cases hb))
   obtain ⟨J2,b2,q,q1,q2,q3,h3,h4⟩:=orLoopI (kind:=kind) (cs:=cs) hβ hp (by omega) (by omega) g1 g2 g3 k0 J1 b1 0 (by omega) h1
   obtain ⟨J3,b3,O',h5,h6⟩:=ih J2 b2 (R++[(q:Int)]) (O++[(cl.getD q []).getD 0 0]) (by simp;omega) (by simp [hOR]) (by
    rw [List.nodup_append]
    refine ⟨hnd,by simp,fun x hx y hy e=>?_⟩
    simp at hy
    subst hy;subst e
    exact readyP_notin q2 hx) (fun x hx=>by
    rcases List.mem_append.1 hx with hx|hx
    ·exact hrg x hx
    ·simp at hx;subst hx;exact ⟨by omega,by omega⟩) q3 h3
   exact ⟨J3,b3,O',h5,(h2.trans h4).trans h6⟩
theorem order_call (hp:OrdPre cl):YD PR 8 [.int .i64 2,.int .i64 1,.osl 0 10] 1 (hO (lMy cl)) (.tup [.osl 1 1,.bool true,.int .i64 0]) 2 (hO (lMy cl)):=by
 have hm:=hp.many
 have w0:part ([]:List Int) 0 0=[]:=rfl
 refine callH_of3 (c:=orBody) (t1:=6) (t2:=7) (t3:=8) (hi:=far) Tryz.func8 (by kernel_rfl) (Nat.blt_eq.mp (by kernel_rfl)) (by kernel_rfl) (Nat.ble_eq.mp (by kernel_rfl)) (fun m o ho=>?_) (fun m o ho hr=>?_) rfl ?_
 ·have:=XP (p:=fun m=>Nat.blt m 2) (lMy cl) 0 (by kernel_rfl) m o ho
  rw [blt_fun] at this
  exact ⟨by simpa using this.2.1,this.2.2⟩
 ·rw [noRo_ok (lMy cl) (by kernel_rfl) m o ho] at hr;cases hr
 ·intro L w kind cs a hA
  have hpre:=hp.pre (N:=[]) (by simp)
  obtain ⟨J1,b1,h1,h2⟩:=orStart (kind:=kind) (cs:=cs) rfl hA (by
   simp only [XD,List.forall_mem_cons,w0,Nat.sub_zero,hp.can,XF,decide_eq_true_eq,Bool.not_false,Bool.not_true]
   and_intros<;>first|trivial|exact hpre|exact hp.named|omega|(intro _ hb;cases hb))
  have hs:=hO_snoc (l:=lOr0 cl) (o:=rowI [])
  have h3:=h1.ghost (T':=trO (slots J1 0 (slOr (.osl 2 1) .nils))) (b:=.words .i64 []) (es:=1) (t:=3) (by decide) (Nat.le_of_ble_eq_true rfl) rfl rfl hs.1 (fun m hm=>.inl (hs.2 m hm)) (ghost_slots (k:=11) (sl:=slOr .nils .nils) rfl (Nat.blt_eq.mp (by kernel_rfl)))
  have hs2:=hO_snoc (l:=lOr0 cl++[some (rowI [])]) (o:=rowI [])
  have h4:=h3.ghost (T':=trO (slots J1 0 (slOr (.osl 2 1) (.osl 3 1)))) (b:=.words .i64 []) (es:=1) (t:=3) (by decide) (Nat.le_of_ble_eq_true rfl) rfl rfl hs2.1 (fun m hm=>.inl (hs2.2 m hm)) (ghost_slots (k:=12) (sl:=slOr (.osl 2 1) .nils) rfl (Nat.blt_eq.mp (by kernel_rfl)))
  obtain ⟨J2,b2,O',h5,h6⟩:=orLoop (kind:=kind) (cs:=cs) rfl hp (cl.length+1) J1 b1 [] [] (by simp) rfl List.nodup_nil (fun x hx=>by cases hx) hp.can h4
  exact ⟨b2,_,2,far,_,h5.less (fun m o ho=>by
   match m,ho with
   |0,ho=>exact ho),rfl,rfl,rfl,h2.trans h6,.inr ⟨[],rfl⟩⟩
end
noncomputable def smOrd (args:List V) (s:St):Option (V×St):=
 match args with
 |[.int .i64 md,.int .i64 room,.osl c es]=>(rowsOfN s c es).bind fun cl=>(chk (decide (md=2∧room=1))).bind fun _=>(need (propB (OrdPre cl)) s).bind fun s1=>(s1.skip).bind fun r=>match r with
  |(m,s2)=>some (.tup [.osl m 1,.bool true,.int .i64 0],s2)
 |_=>none
theorem smOrd_sm:SmOK PR 8 smOrd:=by
 refine ⟨fun args s v s' h ho=>?_,Tryz.call8⟩
 unfold smOrd at h
 split at h
 ·rename_i md room c es
  obtain ⟨cl,h1,h2⟩:=XA h
  obtain ⟨_,h3,h4⟩:=XA h2
  obtain ⟨s1,h5,h6⟩:=XA h4
  obtain ⟨⟨m,s2⟩,h7,h8⟩:=XA h6
  cases h8
  obtain ⟨rfl,rfl⟩:=of_decide_eq_true (XC h3)
  obtain ⟨hg,rfl⟩:=rowsOfN_ok h1
  obtain ⟨n1,n2,n3,n4,n5⟩:=skip_ok h7
  have ho1:Obl s1:=by unfold Obl at ho ⊢;rw [n4] at ho;exact ho
  obtain ⟨hd,hq⟩:=XI h5 ho1
  have hp:=XF.1 hd
  refine ⟨(Lg.of_same hq.1).trans (.skip h7),hq.2,?_⟩
  have:=embedSkip (l:=lMy cl) (ac:=[.int .i64 2,.int .i64 1,.osl 0 10]) (vc:=.tup [.osl 1 1,.bool true,.int .i64 0]) (s:=s1) (v:=.tup [.osl m 1,.bool true,.int .i64 0]) (args:=[.int .i64 2,.int .i64 1,.osl c 10]) (order_call hp) (fun m hm=>allSome_ok rfl m hm) (by kernel_rfl) (by kernel_rfl) [c] rfl (fun q o ho=>by
   match q,ho with
   |0,ho=>cases ho;rw [hq.1.H];exact hg) (by simp) rfl h7 (by rw [n1];rfl)
  refine YB.gh this (by rw [hq.1.nx];exact Nat.le_refl _) (by omega) (fun D L w hSR hD hst=>⟨L,.of_same hq.1 hSR,fun L' hL'=>?_⟩)
  rw [YA hq.1.nx.symm] at hL'
  exact hst L' hL'
 ·cases h
end Go.Sx
namespace Go.Sx
def runsL (cl:List (List Int)):List (List Int)→List Nat→Prop
 |_,[]=>True
 |F,i::r=>cnIs cl F i=true∧runsL cl (cnHp cl F i) r
theorem can_lin {cl:List (List Int)} {lin:List Nat} (hnd:lin.Nodup) (hall:∀ i,i<cl.length→i∈lin) (hlt:∀ i∈lin,i<cl.length) (hord:lin.Pairwise fun x y=>aheadP (cl.getD y []) (cl.getD x [])=false):
  ∀ (post:List Nat) (f:Nat) (F:List (List Int)) (pre:List Nat),pre++post=lin→runsL cl F post→post.length<f→canP cl f F (pre.map fun (i:Nat)=>(i:Int)) []=true:=by
 intro post
 induction post with
 |nil=>
  intro f F pre hpre hr hf
  obtain ⟨f,rfl⟩:∃ q,f=q+1:=⟨f - 1,by simp at hf;omega⟩
  rw [canP_succ]
  have hl:leftP cl.length (pre.map fun (i:Nat)=>(i:Int))=false:=by
   unfold leftP
   rw [List.any_eq_false]
   intro i hi
   simp only [List.mem_range] at hi
   have:=hall i hi
   rw [← hpre,List.append_nil] at this
   have h2:(i:Int)∈pre.map fun (i:Nat)=>(i:Int):=List.mem_map.2 ⟨i,this,rfl⟩
   simp [h2]
  rw [hl];rfl
 |cons i r ih=>
  intro f F pre hpre hr hf
  obtain ⟨f,rfl⟩:∃ q,f=q+1:=⟨f - 1,by simp at hf;omega⟩
  rw [canP_succ]
  have hin:i∈lin:=by rw [← hpre];simp
  have hi:=hlt i hin
  rw [← hpre] at hnd hord
  have hni:¬ i∈pre:=fun h=>(List.nodup_append.1 hnd).2.2 i h i (by simp) rfl
  have hnD:¬ (i:Int)∈pre.map (fun (i:Nat)=>(i:Int)):=fun h=>by
   obtain ⟨q,hq,he⟩:=List.mem_map.1 h
   have:q=i:=by omega
   exact hni (this ▸ hq)
  have hready:readyP cl (pre.map fun (i:Nat)=>(i:Int)) i=true:=by
   simp only [readyP,decide_eq_false hnD,cond_false,List.all_eq_true,List.mem_range]
   intro q hq
   by_cases hqi:q=i
   ·simp [hqi]
   ·by_cases hqD:(q:Int)∈pre.map (fun (i:Nat)=>(i:Int))
    ·simp [hqi,hqD]
    ·have hqp:¬ q∈pre:=fun h=>hqD (List.mem_map.2 ⟨q,h,rfl⟩)
     have hql:q∈lin:=hall q hq
     rw [← hpre] at hql
     have hqr:q∈r:=by
      rcases List.mem_append.1 hql with h|h
      ·exact absurd h hqp
      ·rcases List.mem_cons.1 h with h|h
       ·exact absurd h hqi
       ·exact h
     have hp:=(List.pairwise_cons.1 (List.pairwise_append.1 hord).2.1).1 q hqr
     simp only [decide_eq_false hqi,decide_eq_false hqD,cond_false,hp,Bool.not_false]
  have hrec:=ih f _ (pre++[i]) (by rw [← hpre];simp) hr.2 (by simp at hf;omega)
  have hany:(List.range cl.length).any (cnStep cl f F (pre.map fun (i:Nat)=>(i:Int)) [])=true:=by
   rw [List.any_eq_true]
   refine ⟨i,List.mem_range.2 hi,?_⟩
   unfold cnStep
   rw [hready,hr.1]
   simp only [List.length_nil,decide_true,cond_true,List.drop_nil]
   rw [List.map_append] at hrec
   exact hrec
  rw [hany]
  cases cond (decide (([]:List Int).length=0)) (!(leftP cl.length (pre.map fun (i:Nat)=>(i:Int)))) false<;>rfl
theorem ordPre_of {cl:List (List Int)} {lin:List Nat} (h1:Ended cl) (h2:cl.length≤10) (h5:∀ i,i<cl.length→(cW cl i 3=4∨cW cl i 3=5∨cW cl i 3=6)∧(cW cl i 7=0∨cW cl i 7=15)) (hu:∀ i k,i<cl.length→k<cl.length→i≠k→cW cl i 3=4→cW cl k 3=4→cW cl i 6≠cW cl k 6) (h6:Named cl)
  (hnd:lin.Nodup) (hall:∀ i,i<cl.length→i∈lin) (hlt:∀ i∈lin,i<cl.length) (hord:lin.Pairwise fun x y=>aheadP (cl.getD y []) (cl.getD x [])=false) (hr:runsL cl [] lin):OrdPre cl:=by
 refine ⟨h1,h2,h5,hu,h6,?_⟩
 have hlen:lin.length≤cl.length:=by
  have:=nodup_le cl.length lin hnd hlt
  omega
 exact can_lin hnd hall hlt hord lin (cl.length+1) [] [] rfl hr (by omega)
end Go.Sx
namespace Go.Sx
def mpQ (ks:List Int) (Q:List Int):List (List Int):=Q.map fun i=>[keyF ks i,i]
theorem ins_mp {ks:List Int} {i:Int}:∀ {Q:List Int},(∀ q∈Q,keyF ks q≠keyF ks i)→insR (mpQ ks Q) (keyF ks i) i=mpQ ks (Ql.insK (keyF ks) i Q)
 |[],_=>rfl
 |x::Q,h=>by
  have hx:=h x (by simp)
  have ih:=ins_mp (Q:=Q) fun q hq=>h q (by simp [hq])
  show insR ([keyF ks x,x]::mpQ ks Q) (keyF ks i) i=_
  rw [insR_cons,ih]
  show (if keyF ks x<keyF ks i then _ else _)=mpQ ks (if keyF ks i<keyF ks x then i::x::Q else x::Ql.insK (keyF ks) i Q)
  by_cases g:keyF ks x<keyF ks i
  ·rw [if_pos g,if_neg (by omega)];rfl
  ·rw [if_neg g,if_pos (by omega)];rfl
theorem runs_mp {n H:Nat} {ks hs:List Int} {cl:List (List Int)} {op:Nat→Ql.Op} {Sf:List Int} (N:Nums n H ks hs)
  (hrow:∀ c,c<cl.length→∃ f t k a w e m v,cl.getD c []=rowQ c f t k a w e m v∧0≤f∧0≤t∧AnsOK n ks (op c) k a w e m v):
  ∀ (lin:List Nat) (Q:List Int),(∀ c∈lin,c<cl.length)→(∀ q∈Q,0≤q∧q<n)→Ql.runQ (keyF ks) op Q lin Sf→runsL cl (mpQ ks Q) lin
 |[],_,_,_,_=>trivial
 |c::lin,Q,hl,hq,hr=>by
  obtain ⟨f,t,k,a,w,e,m,v,e1,_,_,hA⟩:=hrow c (hl c (by simp))
  have c3:cW cl c 3=k:=by unfold cW;rw [e1];rfl
  have c4:cW cl c 4=a:=by unfold cW;rw [e1];rfl
  have c6:cW cl c 6=w:=by unfold cW;rw [e1];rfl
  have c7:cW cl c 7=e:=by unfold cW;rw [e1];rfl
  have c8:cW cl c 8=m:=by unfold cW;rw [e1];rfl
  have c9:cW cl c 9=v:=by unfold cW;rw [e1];rfl
  obtain ⟨hok,hr⟩:=hr
  have hl':∀ d∈lin,d<cl.length:=fun d hd=>hl d (by simp [hd])
  show cnIs cl (mpQ ks Q) c=true∧runsL cl (cnHp cl (mpQ ks Q) c) lin
  unfold cnIs cnHp nhIs nhHp nhWant
  rw [c3,c4,c6,c7,c8,c9]
  rcases hA with ⟨rfl,ho,rfl,a0,a1,rfl,rfl,rfl⟩|⟨rfl,rfl,rfl,hA⟩|⟨rfl,rfl,rfl,hA⟩
  ·rw [ho] at hok hr
   refine ⟨rfl,?_⟩
   rw [if_pos rfl,ins_mp fun q hq' e=>hok (N.ki q a (hq q hq').1 (hq q hq').2 a0 a1 e ▸ hq')]
   exact runs_mp N hrow lin _ hl' (fun q hq'=>by
    rcases Ql.mem_insK.1 hq' with rfl|h
    ·exact ⟨a0,a1⟩
    ·exact hq q h) hr
  ·simp only [if_neg (show ¬ (5:Int)=4 by decide)]
   rcases hA with ⟨ho,rfl,rfl,rfl⟩|⟨i,ho,i0,i1,rfl,rfl,rfl⟩
   ·rw [ho] at hok hr
    cases Q with
    |nil=>exact ⟨rfl,runs_mp N hrow lin [] hl' (fun q hq'=>by cases hq') hr⟩
    |cons x Q=>cases hok
   ·rw [ho] at hok hr
    cases Q with
    |nil=>cases hok
    |cons x Q=>
     cases hok
     refine ⟨?_,runs_mp N hrow lin Q hl' (fun q hq'=>hq q (by simp [hq'])) hr⟩
     show eqL [0,m,keyF ks m] [0,m,keyF ks m]=true
     exact eqLq.2 rfl
  ·simp only [if_neg (show ¬ (6:Int)=4 by decide),if_neg (show ¬ (6:Int)=5 by decide)]
   rcases hA with ⟨ho,rfl,rfl,rfl⟩|⟨i,ho,i0,i1,rfl,rfl,rfl⟩
   ·rw [ho] at hok hr
    cases Q with
    |nil=>exact ⟨rfl,runs_mp N hrow lin [] hl' (fun q hq'=>by cases hq') hr⟩
    |cons x Q=>cases hok
   ·rw [ho] at hok hr
    cases Q with
    |nil=>cases hok
    |cons x Q=>
     cases hok
     refine ⟨?_,runs_mp N hrow lin _ hl' hq hr⟩
     show eqL [0,m,keyF ks m] [0,m,keyF ks m]=true
     exact eqLq.2 rfl
theorem fin_ord {n H:Nat} {ks hs:List Int} {cl:List (List Int)} (N:Nums n H ks hs) (F:FinC n ks cl) (h10:cl.length≤10):OrdPre cl:=by
 obtain ⟨op,lin,Sf,f1,f2,f3,f4,f5,f6⟩:=F
 refine ordPre_of (lin:=lin) (fun i hi=>?_) h10 (fun i hi=>?_) (fun i k hi hk hne h1 h2 e=>?_) (fun q hq p hp e=>?_) f1 (fun i hi=>(f2 i).2 hi) (fun i hi=>(f2 i).1 hi) ?_ (runs_mp N f5 lin [] (fun c hc=>(f2 c).1 hc) (fun q hq=>by cases hq) f3)
 ·obtain ⟨f,t,k,a,w,e,m,v,e1,e2,e3,_⟩:=f5 i hi
  rw [e1];exact e3
 ·obtain ⟨f,t,k,a,w,e,m,v,e1,e2,e3,hA⟩:=f5 i hi
  have c3:cW cl i 3=k:=by unfold cW;rw [e1];rfl
  have c7:cW cl i 7=e:=by unfold cW;rw [e1];rfl
  rw [c3,c7]
  rcases hA with ⟨rfl,_,_,_,_,rfl,_⟩|⟨rfl,_,_,⟨_,rfl,_⟩|⟨_,_,_,_,rfl,_⟩⟩|⟨rfl,_,_,⟨_,rfl,_⟩|⟨_,_,_,_,rfl,_⟩⟩<;>simp
 ·obtain ⟨f,t,kk,a,w,ee,m,v,e1,_,_,hA⟩:=f5 i hi
  obtain ⟨f',t',kk',a',w',ee',m',v',e1',_,_,hA'⟩:=f5 k hk
  have c3:cW cl i 3=kk:=by unfold cW;rw [e1];rfl
  have c6:cW cl i 6=w:=by unfold cW;rw [e1];rfl
  have d3:cW cl k 3=kk':=by unfold cW;rw [e1'];rfl
  have d6:cW cl k 6=w':=by unfold cW;rw [e1'];rfl
  rw [c3] at h1;rw [d3] at h2;rw [c6,d6] at e
  subst h1;subst h2
  rcases hA with ⟨_,ho,hw,a0,a1,_⟩|⟨h,_⟩|⟨h,_⟩
  ·rcases hA' with ⟨_,ho',hw',b0,b1,_⟩|⟨h,_⟩|⟨h,_⟩
   ·have:=N.ki a a' a0 a1 b0 b1 (hw.symm.trans (e.trans hw'))
    subst this
    exact hne (f6 i k a hi hk ho ho')
   ·cases h
   ·cases h
  ·cases h
  ·cases h
 ·obtain ⟨_,_,_,_,_,_,_,_,e1,_⟩:=f5 q hq
  obtain ⟨_,_,_,_,_,_,_,_,e2,_⟩:=f5 p (by omega)
  rw [e1,e2] at e
  have:(p:Int)=q:=e
  omega
 ·refine f4.imp fun {a b} h=>?_
  unfold aheadP
  exact decide_eq_false (by omega)
end Go.Sx
namespace Go.Sx
open Go.Proofs
def gRo:Option Ob→Option (List Int)
 |some (.ro .i64 zs)=>some zs
 |_=>none
theorem gRo_ok {x:Option Ob} {zs:List Int} (h:gRo x=some zs):x=some (.ro .i64 zs):=by
 unfold gRo at h;split at h<;>cases h;rfl
def unr (q:Nat) (x:V):Option V:=match x with
 |.slice m i z len cap=>(chk (Nat.beq m q)).bind fun _=>some (.slice 0 i z len cap)
 |.nils=>some .nils
 |_=>none
theorem unr_ok {q:Nat} {x y:V} {π:List Nat} (h:unr q x=some y):x=y.ren (πf (q::π))∧XQ (fun m=>Nat.blt m 9) [some y]=true∧XQ (fun m=>Nat.blt m 1) [some y]=true:=by
 unfold unr at h
 split at h
 ·rename_i m i z len cap
  obtain ⟨_,h1,h2⟩:=XA h
  cases h2
  have:=Nat.eq_of_beq_eq_true (XC h1)
  subst this
  exact ⟨rfl,by kernel_rfl,by kernel_rfl⟩
 ·cases h;exact ⟨rfl,rfl,rfl⟩
 ·cases h
noncomputable def smBg (qn n H:Nat) (j:MJ) (ws ks hs:List Int) (args:List V) (s:St):Option (V×St):=
 match args with
 |[.int .i64 a,.int .i64 b,x]=>(unr qn x).bind fun y=>(gRo (s.H.get qn)).bind fun zs=>(need (propB (BegunTo a b y zs n H j ws ks hs)) s).bind fun s1=>
   (memS [qn] (l0 zs n H j ws ks hs) s1).bind fun s2=>some (.ptr (ext (πf [qn]) 1 s.nx 1) 0 0 0,s2)
 |_=>none
theorem liveN {p:Nat→Bool} {l:List V} {y:V} (h:XQ p [some y]=true) (hl:XQ p (l.map some)=true):XQ p ((l++[y]).map some)=true:=by
 induction l with
 |nil=>exact h
 |cons a l ih=>
  unfold XQ at hl h ⊢
  simp_all
theorem smBg_sm (qn n H:Nat) (j:MJ) (ws ks hs:List Int):SmOK PR 5 (smBg qn n H j ws ks hs):=by
 refine ⟨fun args s v s' h ho=>?_,Tryz.call5⟩
 unfold smBg at h
 split at h
 ·rename_i a b x
  simp only [Option.bind_eq_some_iff] at h
  obtain ⟨y,h0,zs,h1,s1,h2,s2,h3,h4⟩:=h
  cases h4
  obtain ⟨e1,e2,e3⟩:=unr_ok (π:=[]) h0
  have ho1:=XN h3 ho
  obtain ⟨hd,hq⟩:=XI h2 ho1
  have hc:YD PR 5 ([.int .i64 a,.int .i64 b]++[y]) [some (Ob.ro .i64 zs)].length (hO [some (.ro .i64 zs)]) (.ptr 1 0 0 0) (l0 zs n H j ws ks hs).length (hO (l0 zs n H j ws ks hs)):=XF.1 hd
  exact XO (l:=[some (.ro .i64 zs)]) (l':=l0 zs n H j ws ks hs) (ac:=[.int .i64 a,.int .i64 b]++[y]) (vc:=.ptr 1 0 0 0) hc rfl (by kernel_rfl) (by kernel_rfl) (liveN e3 rfl) hq h3 (by rw [List.map_cons,gRo_ok h1];rfl) (by rw [e1];rfl) rfl
 ·cases h
def πP (ql:Nat):List Nat:=[ql,2,3,4,5,6,7,8,9]
def PlPre (ql:Nat) (L:List (Option Ob)) (y:V) (zs:List Int) (n H:Nat) (j:MJ) (ws ks hs:List Int) (σ':CS):Prop:=L=(l0 zs n H j ws ks hs).map (Option.map (Ob.ren (πf (πP ql))))∧PlaysTo y zs n H j ws ks hs σ'
noncomputable def smPl (ql n H:Nat) (j:MJ) (ws ks hs:List Int) (σ':CS) (args:List V) (s:St):Option (V×St):=
 match args with
 |[.ptr c i z o,x]=>(chk (isZ i z o)).bind fun _=>(chk (Nat.beq c 2)).bind fun _=>(unr ql x).bind fun y=>(gRo (s.H.get ql)).bind fun zs=>
   (need (propB (PlPre ql ((πP ql).map s.H.get) y zs n H j ws ks hs σ')) s).bind fun s1=>
   (memS (πP ql) (lE zs σ') s1).bind fun s2=>some (.bool true,s2)
 |_=>none
theorem smPl_sm (ql n H:Nat) (j:MJ) (ws ks hs:List Int) (σ':CS):SmOK PR 7 (smPl ql n H j ws ks hs σ'):=by
 refine ⟨fun args s v s' h ho=>?_,Tryz.call7⟩
 unfold smPl at h
 split at h
 ·simp only [Option.bind_eq_some_iff] at h
  obtain ⟨_,hz,_,hc,y,h0,zs,h1,s1,h2,s2,h3,h4⟩:=h
  cases h4
  obtain ⟨rfl,rfl,rfl⟩:=isZ_ok (XC hz)
  have hc:=Nat.eq_of_beq_eq_true (XC hc)
  subst hc
  obtain ⟨e1,e2,e3⟩:=unr_ok (π:=[2,3,4,5,6,7,8,9]) h0
  have ho1:=XN h3 ho
  obtain ⟨hd,hq⟩:=XI h2 ho1
  obtain ⟨d1,d2⟩:=XF.1 hd
  have hc:YD PR 7 ([.ptr 1 0 0 0]++[y]) (l0 zs n H j ws ks hs).length (hO (l0 zs n H j ws ks hs)) (.bool true) (lE zs σ').length (hO (lE zs σ')):=d2
  exact XO (l:=l0 zs n H j ws ks hs) (l':=lE zs σ') (ac:=[.ptr 1 0 0 0]++[y]) (vc:=.bool true) hc rfl (by kernel_rfl) (lE_ob zs σ') (liveN e2 rfl) hq h3 d1 (by rw [e1];rfl) rfl
 ·cases h
end Go.Sx
namespace Go.Sx
open Go.Proofs
noncomputable def smsN:List (Nat×SmF):=[(6,smPick),(83,smLoad),(36,smStore),(46,smCas),(92,smAdd),(84,smGetTop),(86,smMarked),(88,smMarks),(178,smPutTop),(90,smFStep),(164,smSuccs),(181,smKnown),(182,smPreds),(50,smNewFind),(93,smNewRetire),(94,smRet)]
theorem smsN_ok:AllSm PR smsN:=⟨smPick_sm,smLoad_sm,smStore_sm,smCas_sm,smAdd_sm,smGetTop_sm,smMarked_sm,smMarks_sm,smPutTop_sm,smFStep_sm,smSuccs_sm,smKnown_sm,smPreds_sm,smNewFind_sm,smNewRetire_sm,smRet_sm,trivial⟩
noncomputable def FN:Env:=envOf tabT tabF (smOf smsN) seT imT pzT
theorem FN_ok:EnvOK PR FN:=env_ok _
theorem SN_ok:SumOK PR FN:=sumOK_of rfl smsN_ok
def wrK:Nat→Int→Int
 |0,g=>g
 |k+1,g=>IntKind.i64.wrap (wrK k g+1)
structure KE where
 q:List Int
 w:List Int
 w':List Int
 j:MJ
 k:Nat
def kac (q:List Int):List V:=[.int .i64 (q.getD 0 0),.agg [.int .u64 (q.getD 1 0),.int .i64 (q.getD 2 0)],.int .i64 (q.getD 3 0)]
def KE.jj (e:KE) (j:MJ):MJ:={e.j with g:=wrK e.k j.g}
def zz:List Int:=List.replicate 4062 0
def KOk (f:Nat) (e:KE):Prop:=∀ j:MJ,YD PR f (.ptr 0 0 0 0::kac e.q) 2 (hO [some (memM 1 34 j),some (XL e.w)]) (.bool true) 2 (hO [some (memM 1 34 (e.jj j)),some (XL e.w')])
theorem kok {f:Nat} {e:KE} (nx:Nat) (hl:Nat.blt 2 big=true) (hc:chkP 2 nx [0,1] [some (memM 1 34 e.j),some (XL e.w')]=true)
  (h:∀ j:MJ,(callX (exec FN 400) FN f (.ptr 0 0 0 0::kac e.q) ⟨trO [some (memM 1 34 j),some (XL e.w)],2,[],[],[]⟩).map (fun r=>(r.1,r.2.nx,[0,1].map r.2.H.get,allB r.2.obl))=some (.bool true,nx,[some (memM 1 34 (e.jj j)),some (XL e.w')],true)):KOk f e:=fun j=>
 XH (n:=400) (l:=[some (memM 1 34 j),some (XL e.w)]) (l':=[some (memM 1 34 (e.jj j)),some (XL e.w')]) (orc:=[]) (πl:=[0,1]) (nx':=nx) (B:=true) FN_ok SN_ok (h j) rfl hl hc (by kernel_rfl) (by kernel_rfl) (by kernel_rfl)
def w_written:List Int:=([1,2,3,0,1,1,1,0,0,0,0,0,0,0,65538,65537,9,5,2,1,65539,0,4,7,1,1,65537,0,12,6,1,1,0,0]++zz)
def w_c20:List Int:=([1,2,0,0,1,1,1,0,0,0,0,65538,0,0,65537,65537,9,5,2,1,65539,0,4,7,1,0,9223372036854841345,0,12,6,1,1,0,0]++zz)
def w_c22:List Int:=([1,2,0,0,1,1,1,0,0,0,0,131073,0,0,65539,0,9,5,2,0,9223372036854841347,9223372036854775808,4,7,1,0,9223372036854841345,0,12,6,1,1,0,0]++zz)
def w_c16:List Int:=([1,2,0,1,1,1,1,0,0,0,0,196611,0,0,0,0,9,5,2,0,9223372036854841347,9223372036854775808,4,7,1,0,9223372036854841345,0,12,6,1,0,9223372036854775808,0]++zz)
def w_n5:List Int:=([1,2,3,0,1,1,1,0,0,0,0,0,0,0,65538,65537,9,5,2,1,65539,0,4,7,1,1,9223372036854841345,0,12,6,1,1,0,0]++zz)
def w_p7:List Int:=([1,2,3,0,1,1,1,0,0,0,0,0,0,0,65537,65537,9,5,2,1,65539,0,4,7,1,1,9223372036854841345,0,12,6,1,1,0,0]++zz)
def e_p4:KE:=⟨[4,4,7,0],w_written,w_written,⟨1,23,7,7,false,0⟩,4⟩
theorem k_p4:KOk 12 e_p4:=kok 44 rfl (by kernel_rfl) fun j=>by kernel_rfl
def e_c20:KE:=⟨[20,4,7,0],w_written,w_c20,⟨3,11,0,65538,true,0⟩,20⟩
theorem k_c20:KOk 10 e_c20:=kok 69 rfl (by kernel_rfl) fun j=>by kernel_rfl
def e_c22:KE:=⟨[22,9,5,0],w_c20,w_c22,⟨3,11,65538,131073,true,0⟩,22⟩
theorem k_c22:KOk 10 e_c22:=kok 80 rfl (by kernel_rfl) fun j=>by kernel_rfl
def e_c16:KE:=⟨[16,12,6,0],w_c22,w_c16,⟨3,11,131073,196611,true,0⟩,16⟩
theorem k_c16:KOk 10 e_c16:=kok 69 rfl (by kernel_rfl) fun j=>by kernel_rfl
def e_c1:KE:=⟨[1,0,0,15],w_c16,w_c16,⟨1,14,0,0,false,0⟩,1⟩
theorem k_c1:KOk 10 e_c1:=kok 29 rfl (by kernel_rfl) fun j=>by kernel_rfl
def e_p1:KE:=⟨[1,0,0,15],w_c16,w_c16,⟨1,14,0,0,false,0⟩,1⟩
theorem k_p1:KOk 12 e_p1:=kok 29 rfl (by kernel_rfl) fun j=>by kernel_rfl
def e_p7:KE:=⟨[7,9,5,0],w_n5,w_p7,⟨1,17,5,5,false,0⟩,7⟩
theorem k_p7:KOk 12 e_p7:=kok 62 rfl (by kernel_rfl) fun j=>by kernel_rfl
theorem wr_call:YD PR 9 [] 0 (hO []) (.ptr 0 0 0 0) 2 (hO [some (memM 1 34 ⟨2,15,0,65537,true,36⟩),some (XL w_written)]):=evX (B:=true) FN_ok SN_ok rfl 25 [] [1,0] (by kernel_rfl) (by kernel_rfl)
end Go.Sx
namespace Go.Sx
open Go.Proofs
def pickE (k:Int):List KE→Option KE
 |[]=>none
 |e::es=>cond (decide (e.q.getD 0 0=k)) (some e) (pickE k es)
theorem pickE_mem {k:Int} {e:KE}:∀ {es:List KE},pickE k es=some e→e∈es
 |[],h=>by cases h
 |x::es,h=>by
  unfold pickE at h
  cases hb:decide (x.q.getD 0 0=k) with
  |true=>rw [hb] at h;cases h;simp
  |false=>rw [hb] at h;exact List.mem_cons_of_mem _ (pickE_mem h)
def smKE (es:List KE) (args:List V) (s:St):Option (V×St):=
 match args with
 |[.ptr m a b c,.int .i64 k,.agg [.int .u64 x,.int .i64 y],.int .i64 z]=>(chk (isZ a b c)).bind fun _=>(gMem m s.H).bind fun g=>(pickE k es).bind fun e=>(chk (eqL e.q [k,x,y,z])).bind fun _=>(chk (decide (g.n=34))).bind fun _=>(chk (eqL g.ws e.w)).bind fun _=>
   (memS [g.m,g.w] [some (memM 1 34 (e.jj g.j)),some (XL e.w')] s).bind fun s2=>some (.bool true,s2)
 |_=>none
theorem smKE_sm {f:Nat} {es:List KE} (he:∀ e∈es,KOk f e) (hf:∀ av w,(callFunc f av).run PR w=.ok (.enter f av) w):SmOK PR f (smKE es):=by
 refine ⟨fun args s v s' h ho=>?_,hf⟩
 unfold smKE at h
 split at h
 ·simp only [Option.bind_eq_some_iff] at h
  obtain ⟨_,h0,g,h1,e,h2,_,h3,_,h4,_,h5,s2,h6,h7⟩:=h
  obtain ⟨rfl,rfl,rfl⟩:=isZ_ok (XC h0)
  cases h7
  obtain ⟨g0,g1,g2⟩:=gMem_ok h1
  subst g0
  have hq:=eqLq.1 (XC h3)
  have hn:=of_decide_eq_true (XC h4)
  have hw:=eqLq.1 (XC h5)
  have hc:=he e (pickE_mem h2) g.j
  rw [hq] at hc
  rw [hn] at g1
  rw [hw] at g2
  exact XO (l:=[some (memM 1 34 g.j),some (XL e.w)]) hc rfl (by kernel_rfl) (by kernel_rfl) (by kernel_rfl) ⟨Same.refl _,XN h6 ho⟩ h6 (by rw [List.map_cons,List.map_cons,g1,g2];rfl) rfl rfl
 ·cases h
def smWr (args:List V) (s:St):Option (V×St):=
 match args with
 |[]=>(memS [] [some (memM 1 34 ⟨2,15,0,65537,true,36⟩),some (XL w_written)] s).bind fun s2=>some (.ptr (ext (πf []) 0 s.nx 0) 0 0 0,s2)
 |_=>none
theorem smWr_sm:SmOK PR 9 smWr:=by
 refine ⟨fun args s v s' h ho=>?_,Tryz.call9⟩
 unfold smWr at h
 split at h
 ·simp only [Option.bind_eq_some_iff] at h
  obtain ⟨s2,h3,h4⟩:=h
  cases h4
  exact XO (l:=[]) (l':=[some (memM 1 34 ⟨2,15,0,65537,true,36⟩),some (XL w_written)]) (ac:=[]) (vc:=.ptr 0 0 0 0) wr_call rfl (by kernel_rfl) (by kernel_rfl) (by kernel_rfl) ⟨Same.refl _,XN h3 ho⟩ h3 rfl rfl rfl
 ·cases h
def es10:List KE:=[e_c20,e_c22,e_c16,e_c1]
def es12:List KE:=[e_p4,e_p1,e_p7]
theorem es10_ok:∀ e∈es10,KOk 10 e:=fun e he=>by
 simp only [es10,List.mem_cons,List.not_mem_nil,or_false] at he
 rcases he with rfl|rfl|rfl|rfl
 ·exact k_c20
 ·exact k_c22
 ·exact k_c16
 ·exact k_c1
theorem es12_ok:∀ e∈es12,KOk 12 e:=fun e he=>by
 simp only [es12,List.mem_cons,List.not_mem_nil,or_false] at he
 rcases he with rfl|rfl|rfl
 ·exact k_p4
 ·exact k_p1
 ·exact k_p7
def smK10 (args:List V) (s:St):Option (V×St):=smKE es10 args s
def smK12 (args:List V) (s:St):Option (V×St):=smKE es12 args s
noncomputable def smsK:List (Nat×SmF):=[(80,smWords),(9,smWr),(10,smK10),(12,smK12),(83,smLoad),(36,smStore),(46,smCas),(84,smGetTop),(86,smMarked),(88,smMarks),(178,smPutTop)]
theorem smsK_ok:AllSm PR smsK:=⟨smWords_sm,smWr_sm,smKE_sm es10_ok Tryz.call10,smKE_sm es12_ok Tryz.call12,smLoad_sm,smStore_sm,smCas_sm,smGetTop_sm,smMarked_sm,smMarks_sm,smPutTop_sm,trivial⟩
noncomputable def FK:Env:=envOf tabT tabF (smOf smsK) seT imT pzT
theorem FK_ok:EnvOK PR FK:=env_ok _
theorem SK_ok:SumOK PR FK:=sumOK_of rfl smsK_ok
def oY:Ob:=.mem (.cells [.int .i64 16,.int .i64 14,.int .i64 2,.int .i64 0,.int .i64 1,.int .i64 3,.int .i64 4,.int .i64 7,.int .i64 9,.int .i64 8,.int .i64 9,.int .i64 2,.int .i64 11]) 37 none
theorem kn_call:YD PR 4 [] 0 (hO []) (.bool true) 2 (hO [some oY,some oY]):=evX (B:=true) FK_ok SK_ok rfl 203 [] [2,5] (by kernel_rfl) (by kernel_rfl)
def smKn (args:List V) (s:St):Option (V×St):=
 match args with
 |[]=>(memS [] [some oY,some oY] s).bind fun s2=>some (.bool true,s2)
 |_=>none
theorem smKn_sm:SmOK PR 4 smKn:=by
 refine ⟨fun args s v s' h ho=>?_,Tryz.call4⟩
 unfold smKn at h
 split at h
 ·simp only [Option.bind_eq_some_iff] at h
  obtain ⟨s2,h3,h4⟩:=h
  cases h4
  exact XO (l:=[]) (l':=[some oY,some oY]) (ac:=[]) (vc:=.bool true) kn_call rfl (by kernel_rfl) (by kernel_rfl) (by kernel_rfl) ⟨Same.refl _,XN h3 ho⟩ h3 rfl rfl rfl
 ·cases h
end Go.Sx
