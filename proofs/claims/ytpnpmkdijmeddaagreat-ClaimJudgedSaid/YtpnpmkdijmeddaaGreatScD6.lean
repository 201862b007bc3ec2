/- A crew plays: plays' contract. -/
import Derived.Test.YtpnpmkdijmeddaaGreatScU17
import Derived.Test.YtpnpmkdijmeddaaGreatSxZb
set_option maxRecDepth 100000
namespace Go.Sx
open Go.Proofs
theorem ghostL {β:Base} {fr:Frs} {T:Tr V} {hi:Nat} {A:Cf} {l:List (Option Ob)} {vs vs':List V} {p es:Nat} {b:Body} {t t':TypeId} {op:Option Nat} (hA:YC β fr T [] (hO l) l.length hi A) (hp:l[p]?=some (some (.mem (.cells vs) t op))) (hlt:l.length<hi) (hβ:β.n0≤l.length) (hb:b.flat=[]) (hc:b.count es=0) (hg:GhL l.length es vs vs'):
  YC β fr T [] (hO (l.set p (some (.mem (.cells vs') t op))++[some (.mem b t' (some es))])) (l.length+1) hi A:=by
 have hpl:p<l.length:=by
  refine Nat.lt_of_not_le fun h=>?_
  rw [List.getElem?_eq_none h] at hp;cases hp
 refine hA.ghost (b:=b) (es:=es) (t:=t') hlt hβ hb hc ?_ (fun m hm=>?_) (fun u=>.inl rfl)
 ·unfold hO
  rw [List.getElem?_append_right (by rw [List.length_set];exact Nat.le_refl _),List.length_set,Nat.sub_self];rfl
 ·have e:(l.set p (some (.mem (.cells vs') t op))++[some (.mem b t' (some es))])[m]?=(l.set p (some (.mem (.cells vs') t op)))[m]?:=by
   by_cases h:m<l.length
   ·rw [List.getElem?_append_left (by rw [List.length_set];exact h)]
   ·rw [List.getElem?_eq_none (l:=l.set p _) (by rw [List.length_set];omega),List.getElem?_eq_none (by rw [List.length_append,List.length_set];simp;omega)]
  unfold hO
  rw [e]
  by_cases h:p=m
  ·subst h
   refine .inr ⟨vs,vs',t,op,by rw [hp];rfl,?_,hg⟩
   rw [List.getElem?_set_self hpl];rfl
  ·rw [List.getElem?_set_ne h];exact .inl rfl
theorem YC.nx_up {β:Base} {fr:Frs} {T:Tr V} {df:List Dfr} {H:Nat→Option Ob} {nx nx' hi:Nat} {a:Cf} (hA:YC β fr T df H nx hi a) (hn:nx≤nx'):YC β fr T df H nx' hi a:=by
 obtain ⟨D,L,h1,h2,h3,h4⟩:=hA
 exact ⟨D,L,h1,h2,fun n hD=>(h3 n hD).imp (fun h=>by omega) id,h4⟩
section
variable {β:Base} {kind:CallKind} {cs:List Frame} {J:Nat→V} {A:Cf} {zs ws ks hs:List Int} {len cap n H:Nat} {j:MJ} {x:V}
def crewG (t:Tw) (a g c:V):List V:=t.vs++[.ptr 2 0 0 0,.osl 4 1,.osl 5 1,.nilp,a,.osl 6 1,.nilp,.osl 7 1,g,c,.osl 8 1,.int .i64 0]
def lGh (zs:List Int) (n H:Nat) (j:MJ) (ws ks hs:List Int) (a g c:V) (f:List V) (r:List (Option Ob)):List (Option Ob):=[some (.ro .i64 zs),some (.mem (.cells (crewG (tw n H) a g c)) 47 none),some (memM 3 (szW n H) j),some (XL ws),some (rowU ks),some (rowI hs),some clO,some (.mem (.cells f) 22 (some 1)),some opO]++r
theorem crewG_gh {t:Tw} {k es:Nat} {a a' g g' c c':V} (h1:GhV k es a a') (h2:GhV k es g g') (h3:GhV k es c c'):GhL k es (crewG t a g c) (crewG t a' g' c'):=by
 unfold crewG Tw.vs
 (repeat (first|exact GhL.nil|refine GhL.cons (by first|exact .inl rfl|exact h1|exact h2|exact h3) ?_))
theorem lA_lGh:hO (lA zs (σS n H j ws ks hs))=hO (lGh zs n H j ws ks hs (.osl 9 1) (.osl 10 1) (.osl 11 10) [.osl 12 1,.osl 13 1,.osl 14 1,.osl 15 1] [some (.mem (.cells []) 40 (some 1)),some (rowI []),some (callsOb []),some (rowI []),some (rowI []),some (rowI []),some (rowI [])]):=by
 have e:lA zs (σS n H j ws ks hs)=lGh zs n H j ws ks hs (.osl 9 1) (.osl 10 1) (.osl 11 10) [.osl 12 1,.osl 13 1,.osl 14 1,.osl 15 1] [some (.mem (.cells []) 40 (some 1)),some (rowI []),some (callsOb []),some (rowI []),some (rowI []),some (rowI []),some (rowI [])]++List.replicate 22 none:=rfl
 rw [e,hO_pad]
section
variable {fr:Frs} {T:Tr V}
theorem gh0 (hβ:β.n0=9) (hA:YC β fr T [] (hO (lGh zs n H j ws ks hs (.nils) (.nils) (.nils) [.nils,.nils,.nils,.nils] [])) 9 far A):YC β fr T [] (hO (lGh zs n H j ws ks hs (.osl 9 1) (.nils) (.nils) [.nils,.nils,.nils,.nils] [some (.mem (.cells []) 40 (some 1))])) 10 far A:=
 ghostL (p:=1) (b:=.cells []) (es:=1) (t':=40) (l:=lGh zs n H j ws ks hs (.nils) (.nils) (.nils) [.nils,.nils,.nils,.nils] []) hA rfl (by show 9<far;decide) (by rw [hβ];exact Nat.le_of_ble_eq_true rfl) rfl rfl (crewG_gh (.inr ⟨rfl,rfl⟩) (.inl rfl) (.inl rfl))
theorem gh1 (hβ:β.n0=9) (hA:YC β fr T [] (hO (lGh zs n H j ws ks hs (.osl 9 1) (.nils) (.nils) [.nils,.nils,.nils,.nils] [some (.mem (.cells []) 40 (some 1))])) 10 far A):YC β fr T [] (hO (lGh zs n H j ws ks hs (.osl 9 1) (.osl 10 1) (.nils) [.nils,.nils,.nils,.nils] [some (.mem (.cells []) 40 (some 1)),some (rowI [])])) 11 far A:=
 ghostL (p:=1) (b:=.words .i64 []) (es:=1) (t':=3) (l:=lGh zs n H j ws ks hs (.osl 9 1) (.nils) (.nils) [.nils,.nils,.nils,.nils] [some (.mem (.cells []) 40 (some 1))]) hA rfl (by show 10<far;decide) (by rw [hβ];exact Nat.le_of_ble_eq_true rfl) rfl rfl (crewG_gh (.inl rfl) (.inr ⟨rfl,rfl⟩) (.inl rfl))
theorem gh2 (hβ:β.n0=9) (hA:YC β fr T [] (hO (lGh zs n H j ws ks hs (.osl 9 1) (.osl 10 1) (.nils) [.nils,.nils,.nils,.nils] [some (.mem (.cells []) 40 (some 1)),some (rowI [])])) 11 far A):YC β fr T [] (hO (lGh zs n H j ws ks hs (.osl 9 1) (.osl 10 1) (.osl 11 10) [.nils,.nils,.nils,.nils] [some (.mem (.cells []) 40 (some 1)),some (rowI []),some (callsOb [])])) 12 far A:=
 ghostL (p:=1) (b:=.rows shSpan []) (es:=10) (t':=89) (l:=lGh zs n H j ws ks hs (.osl 9 1) (.osl 10 1) (.nils) [.nils,.nils,.nils,.nils] [some (.mem (.cells []) 40 (some 1)),some (rowI [])]) hA rfl (by show 11<far;decide) (by rw [hβ];exact Nat.le_of_ble_eq_true rfl) rfl rfl (crewG_gh (.inl rfl) (.inl rfl) (.inr ⟨rfl,rfl⟩))
theorem gh3 (hβ:β.n0=9) (hA:YC β fr T [] (hO (lGh zs n H j ws ks hs (.osl 9 1) (.osl 10 1) (.osl 11 10) [.nils,.nils,.nils,.nils] [some (.mem (.cells []) 40 (some 1)),some (rowI []),some (callsOb [])])) 12 far A):YC β fr T [] (hO (lGh zs n H j ws ks hs (.osl 9 1) (.osl 10 1) (.osl 11 10) [.osl 12 1,.nils,.nils,.nils] [some (.mem (.cells []) 40 (some 1)),some (rowI []),some (callsOb []),some (rowI [])])) 13 far A:=
 ghostL (p:=7) (b:=.words .i64 []) (es:=1) (t':=3) (l:=lGh zs n H j ws ks hs (.osl 9 1) (.osl 10 1) (.osl 11 10) [.nils,.nils,.nils,.nils] [some (.mem (.cells []) 40 (some 1)),some (rowI []),some (callsOb [])]) hA rfl (by show 12<far;decide) (by rw [hβ];exact Nat.le_of_ble_eq_true rfl) rfl rfl (.cons (.inr ⟨rfl,rfl⟩) (.cons (.inl rfl) (.cons (.inl rfl) (.cons (.inl rfl) (.nil)))))
theorem gh4 (hβ:β.n0=9) (hA:YC β fr T [] (hO (lGh zs n H j ws ks hs (.osl 9 1) (.osl 10 1) (.osl 11 10) [.osl 12 1,.nils,.nils,.nils] [some (.mem (.cells []) 40 (some 1)),some (rowI []),some (callsOb []),some (rowI [])])) 13 far A):YC β fr T [] (hO (lGh zs n H j ws ks hs (.osl 9 1) (.osl 10 1) (.osl 11 10) [.osl 12 1,.osl 13 1,.nils,.nils] [some (.mem (.cells []) 40 (some 1)),some (rowI []),some (callsOb []),some (rowI []),some (rowI [])])) 14 far A:=
 ghostL (p:=7) (b:=.words .i64 []) (es:=1) (t':=3) (l:=lGh zs n H j ws ks hs (.osl 9 1) (.osl 10 1) (.osl 11 10) [.osl 12 1,.nils,.nils,.nils] [some (.mem (.cells []) 40 (some 1)),some (rowI []),some (callsOb []),some (rowI [])]) hA rfl (by show 13<far;decide) (by rw [hβ];exact Nat.le_of_ble_eq_true rfl) rfl rfl (.cons (.inl rfl) (.cons (.inr ⟨rfl,rfl⟩) (.cons (.inl rfl) (.cons (.inl rfl) (.nil)))))
theorem gh5 (hβ:β.n0=9) (hA:YC β fr T [] (hO (lGh zs n H j ws ks hs (.osl 9 1) (.osl 10 1) (.osl 11 10) [.osl 12 1,.osl 13 1,.nils,.nils] [some (.mem (.cells []) 40 (some 1)),some (rowI []),some (callsOb []),some (rowI []),some (rowI [])])) 14 far A):YC β fr T [] (hO (lGh zs n H j ws ks hs (.osl 9 1) (.osl 10 1) (.osl 11 10) [.osl 12 1,.osl 13 1,.osl 14 1,.nils] [some (.mem (.cells []) 40 (some 1)),some (rowI []),some (callsOb []),some (rowI []),some (rowI []),some (rowI [])])) 15 far A:=
 ghostL (p:=7) (b:=.words .i64 []) (es:=1) (t':=3) (l:=lGh zs n H j ws ks hs (.osl 9 1) (.osl 10 1) (.osl 11 10) [.osl 12 1,.osl 13 1,.nils,.nils] [some (.mem (.cells []) 40 (some 1)),some (rowI []),some (callsOb []),some (rowI []),some (rowI [])]) hA rfl (by show 14<far;decide) (by rw [hβ];exact Nat.le_of_ble_eq_true rfl) rfl rfl (.cons (.inl rfl) (.cons (.inl rfl) (.cons (.inr ⟨rfl,rfl⟩) (.cons (.inl rfl) (.nil)))))
theorem gh6 (hβ:β.n0=9) (hA:YC β fr T [] (hO (lGh zs n H j ws ks hs (.osl 9 1) (.osl 10 1) (.osl 11 10) [.osl 12 1,.osl 13 1,.osl 14 1,.nils] [some (.mem (.cells []) 40 (some 1)),some (rowI []),some (callsOb []),some (rowI []),some (rowI []),some (rowI [])])) 15 far A):YC β fr T [] (hO (lGh zs n H j ws ks hs (.osl 9 1) (.osl 10 1) (.osl 11 10) [.osl 12 1,.osl 13 1,.osl 14 1,.osl 15 1] [some (.mem (.cells []) 40 (some 1)),some (rowI []),some (callsOb []),some (rowI []),some (rowI []),some (rowI []),some (rowI [])])) 16 far A:=
 ghostL (p:=7) (b:=.words .i64 []) (es:=1) (t':=3) (l:=lGh zs n H j ws ks hs (.osl 9 1) (.osl 10 1) (.osl 11 10) [.osl 12 1,.osl 13 1,.osl 14 1,.nils] [some (.mem (.cells []) 40 (some 1)),some (rowI []),some (callsOb []),some (rowI []),some (rowI []),some (rowI [])]) hA rfl (by show 15<far;decide) (by rw [hβ];exact Nat.le_of_ble_eq_true rfl) rfl rfl (.cons (.inl rfl) (.cons (.inl rfl) (.cons (.inl rfl) (.cons (.inr ⟨rfl,rfl⟩) (.nil)))))
theorem pl_ghosts (hβ:β.n0=9) (hA:YC β fr T [] (hO (l0 zs n H j ws ks hs)) 9 far A):YC β fr T [] (hO (lA zs (σS n H j ws ks hs))) 38 far A:=
 lA_lGh ▸ YC.nx_up (nx:=16) (gh6 hβ (gh5 hβ (gh4 hβ (gh3 hβ (gh2 hβ (gh1 hβ (gh0 hβ hA))))))) (by decide)
end
theorem pl_start (hβ:β.n0=9) (hA:YC β frPl (Tr.ofList [.ptr 1 0 0 0,.slice 0 0 1 len cap]) [] (hO (lA zs (σS n H j ws ks hs))) 38 far A):
  ∃ J' b',YC β frPl (trO (slots J' 0 (slH len cap 0))) [] (hO (lA zs (σS n H j ws ks hs))) 38 far b'∧Steps PR (At frPl none kind cs A [.code plBody]) (At frPl none kind cs b' plH):=
 YC.evalX (mk:=[]) (n:=400) (m:=7) (orc:=[]) (πl:=id38) (nx':=38) (far:=far) (todo:=[.code plBody]) (todo':=plH) (l:=lA zs (σS n H j ws ks hs)) (l':=lA zs (σS n H j ws ks hs)) (sl':=slH len cap 0) (B:=true) (FP_ok 0) (SP_ok 0) kind cs hA
  (by kernel_rfl) (lr_at _ _ _) rfl rfl rfl rfl (by kernel_rfl) rfl (pA _) (fun m hm=>pA_live _ _ _ m hm) (pA_old hβ) (by rw [hβ];kernel_rfl) (obsA _ _) (by kernel_rfl)
theorem pl_startN (hβ:β.n0=9) (hA:YC β frPl (Tr.ofList [.ptr 1 0 0 0,.nils]) [] (hO (lA zs (σS n H j ws ks hs))) 38 far A):
  ∃ J' b',YC β frPl (trO (slots J' 0 (slK 3))) [] (hO (lA zs (σS n H j ws ks hs))) 38 far b'∧Steps PR (At frPl none kind cs A [.code plBody]) (At frPl none kind cs b' plK):=
 YC.evalX (mk:=[]) (n:=400) (m:=17) (orc:=[]) (πl:=id38) (nx':=38) (far:=far) (todo:=[.code plBody]) (todo':=plK) (l:=lA zs (σS n H j ws ks hs)) (l':=lA zs (σS n H j ws ks hs)) (sl':=slK 3) (B:=true) (FP_ok 0) (SP_ok 0) kind cs hA
  (by kernel_rfl) (lr_at _ _ _) rfl rfl rfl rfl (by kernel_rfl) rfl (pA _) (fun m hm=>pA_live _ _ _ m hm) (pA_old hβ) (by rw [hβ];kernel_rfl) (obsA _ _) (by kernel_rfl)
def lE (zs:List Int) (σ:CS):List (Option Ob):=[some (.ro .i64 zs),some (crewM (fun m=>m) σ)]++List.replicate 9 none++[some (callsOb σ.cl)]++List.replicate 26 none
theorem lE_ob (zs:List Int) (σ:CS):obsOK (fun m=>Nat.blt m 38) 0 (lE zs σ)=true:=by
 obtain ⟨t,sz,ks,hs,j,ws,f0,f1,f2,f3,gt,cl,o0,o1,o2,o3,ck,io,c0,c1,pk⟩:=σ
 cases io<;>cases pk<;>kernel_rfl
theorem lE_lA {zs:List Int} {σ:CS} {m:Nat} {o:Ob} (h:hO (lE zs σ) m=some o):hO (lA zs σ) m=some o∧(o.isRo=true→m=0∧o=.ro .i64 zs):=by
 have hm:=lt_of_hO h
 match m,hm,h with
 |0,_,h=>cases h;exact ⟨rfl,fun _=>⟨rfl,rfl⟩⟩
 |1,_,h=>cases h;exact ⟨rfl,fun h=>by cases h⟩
 |11,_,h=>cases h;exact ⟨rfl,fun h=>by cases h⟩
 |2,_,h|3,_,h|4,_,h|5,_,h|6,_,h|7,_,h|8,_,h|9,_,h|10,_,h|12,_,h|13,_,h|14,_,h|15,_,h|16,_,h|17,_,h|18,_,h|19,_,h|20,_,h|21,_,h|22,_,h|23,_,h|24,_,h|25,_,h|26,_,h|27,_,h|28,_,h|29,_,h|30,_,h|31,_,h|32,_,h|33,_,h|34,_,h|35,_,h|36,_,h|37,_,h=>cases h
 |m+38,hm,_=>exact absurd hm (by show ¬ m+38<38;omega)
def PlaysTo (x:V) (zs:List Int) (n H:Nat) (j:MJ) (ws ks hs:List Int) (σ':CS):Prop:=
 YD PR 7 [.ptr 1 0 0 0,x] 9 (hO (l0 zs n H j ws ks hs)) (.bool true) 38 (hO (lE zs σ'))
theorem plays_call {g:GhC} (hx:NumV x zs) (h400:zs.length≤400) (I:CI n H 0 (σS n H j ws ks hs) g):∃ σ',PlaysTo x zs n H j ws ks hs σ'∧FinC n σ'.ks σ'.cl∧Nums n H σ'.ks σ'.hs∧σ'.cl.length≤400:=by
 have hw:∃ σ',(∀ {β:Base} {kind:CallKind} {cs:List Frame} {A:Cf},β.n0=9→YC β frPl (Tr.ofList [.ptr 1 0 0 0,x]) [] (hO (lA zs (σS n H j ws ks hs))) 38 far A→
   ∃ J' b',YC β frPl (trO (slots J' 0 slE)) [] (hO (lA zs σ')) 38 far b'∧Steps PR (At frPl none kind cs A [.code plBody]) (At frPl none kind cs b' [.code .ret]))∧FinC n σ'.ks σ'.cl∧Nums n H σ'.ks σ'.hs∧σ'.cl.length≤400:=by
  rcases hx with rfl|⟨len,cap,hl,rfl⟩
  ·obtain ⟨σ',w,h2,h3⟩:=rest_way (zs:=zs) (by decide) I
   refine ⟨σ',fun hβ hA=>?_,h2,h3⟩
   obtain ⟨J1,b1,e1,s1⟩:=pl_startN hβ hA
   obtain ⟨J2,b2,e2,s2⟩:=w.w hβ e1
   exact ⟨J2,b2,e2,s1.trans s2⟩
  ·obtain ⟨σ',w,h2,h3⟩:=plays_way (zs:=zs) (cap:=cap) hl (by omega) I
   refine ⟨σ',fun hβ hA=>?_,h2,h3⟩
   obtain ⟨J1,b1,e1,s1⟩:=pl_start hβ hA
   obtain ⟨J2,b2,e2,s2⟩:=w.w hβ e1
   exact ⟨J2,b2,e2,s1.trans s2⟩
 obtain ⟨σ',hw,h2,h3⟩:=hw
 refine ⟨σ',callH_of (c:=plBody) (t:=4) (hi:=far) Tryz.func7 (by kernel_rfl) (Nat.blt_eq.mp (by kernel_rfl)) (by kernel_rfl) (Nat.ble_eq.mp (by kernel_rfl)) (fun m o ho=>?_) (fun m o ho hr=>?_) rfl ?_,h2,h3⟩
 ·have:=XP (lE zs σ') 0 (lE_ob zs σ') m o ho
  rw [blt_fun] at this
  exact ⟨by simpa using this.2.1,this.2.2⟩
 ·obtain ⟨rfl,rfl⟩:=(lE_lA ho).2 hr
  rfl
 ·intro L w kind cs a hA
  obtain ⟨J1,b1,e1,s1⟩:=hw (kind:=kind) (cs:=cs) rfl (pl_ghosts rfl hA)
  exact ⟨b1,_,38,far,_,e1.less (fun m o ho=>(lE_lA ho).1),rfl,s1,.inr ⟨[],rfl⟩⟩
end
end Go.Sx
namespace Go.Sx
open Go.Proofs
def smsQ1:List (Nat×SmF):=[(75,smAm)]
noncomputable def G1:Env:=envOf tabT tabF (smOf smsQ1) seT imT pzT
theorem G1_ok:EnvOK PR G1:=env_ok _
theorem smsQ1_ok:AllSm PR smsQ1:=⟨smAm_sm,trivial⟩
theorem H1_ok:SumOK PR G1:=sumOK_of rfl smsQ1_ok
def lLf (cl:List (List Int)) (ws:List Int):List (Option Ob):=[some (callsOb cl),some (rowI ws)]
noncomputable def todoLf:List Item:=((ctlN G1 (exec G1 400) ⟨33,none,24⟩ 7 [.code (bodyOf Tryz.f33)] (Tr.ofList [.osl 0 10,.osv 1 1 0 0 1]) [] ⟨trO (lLf [[1,1,1,1,1,1,1,1,1,1]] [1]),2,[],[],[]⟩).map (·.1)).getD []
noncomputable def todoLfF:List Item:=((ctlN G1 (exec G1 400) ⟨33,none,24⟩ 19 [.code (bodyOf Tryz.f33)] (Tr.ofList [.osl 0 10,.osv 1 1 0 0 1]) [] ⟨trO (lLf [[1,1,1,1,1,1,1,1,1,1]] [1]),2,[],[],[]⟩).map (·.1)).getD []
def slLf (bs st ln:Nat) (i:Int):List (Option V):=[some (.osl 0 10),some (.osv 1 1 bs st ln),none,none,none,some (.int .i64 i)]++List.replicate 18 none
def slLfE (b:Bool):List (Option V):=[none,none,none,none,some (.bool b)]++List.replicate 19 none
noncomputable def todoRd:List Item:=((ctlN G1 (exec G1 400) ⟨34,none,37⟩ 12 [.code (bodyOf Tryz.f34)] (Tr.ofList [.osl 0 10,.osv 1 1 0 0 1,.int .i64 0]) [] ⟨trO (lLf [[1,1,1,1,1,1,1,1,1,1]] [1]),2,bits 3 0b110,[],[]⟩).map (·.1)).getD []
noncomputable def todoRdN:List Item:=((ctlN G1 (exec G1 400) ⟨34,none,37⟩ 8 [.code (bodyOf Tryz.f34)] (Tr.ofList [.osl 0 10,.osv 1 1 0 0 1,.int .i64 0]) [] ⟨trO (lLf [[1,1,1,1,1,1,1,1,1,1]] [1]),2,bits 3 0b111,[],[]⟩).map (·.1)).getD []
noncomputable def todoRdF:List Item:=((ctlN G1 (exec G1 400) ⟨34,none,37⟩ 12 todoRd (Tr.ofList [.osl 0 10,.osv 1 1 0 0 1,.int .i64 5,.nilp,.nilp,.nilp,.nilp,.int .i64 0]) [] ⟨trO (lLf [[1,1,1,1,1,1,1,1,1,1]] [1]),2,bits 44 0b11111111111111111111111111111111111111111111,[],[]⟩).map (·.1)).getD []
def slRd (bs st ln:Nat) (k i:Int):List (Option V):=[some (.osl 0 10),some (.osv 1 1 bs st ln),some (.int .i64 k),none,none,none,none,some (.int .i64 i)]++List.replicate 29 none
def slRdE (b:Bool):List (Option V):=[none,none,none,none,none,none,some (.bool b)]++List.replicate 30 none
def leftP (n:Nat) (D:List Int):Bool:=(List.range n).any fun i=>!decide ((i:Int)∈D)
def aheadP (x y:List Int):Bool:=decide (x.getD 2 0<y.getD 1 0)
def readyP (cl:List (List Int)) (D:List Int) (k:Nat):Bool:=cond (decide ((k:Int)∈D)) false ((List.range cl.length).all fun i=>cond (decide (i=k)) true (cond (decide ((i:Int)∈D)) true (!(aheadP (cl.getD i []) (cl.getD k [])))))
def Ended (cl:List (List Int)):Prop:=∀ i,i<cl.length→0≤(cl.getD i []).getD 2 0
section
variable {β:Base} {kind:CallKind} {cs:List Frame} {J:Nat→V} {a:Cf} {cl:List (List Int)} {ws:List Int} {bs st ln:Nat} {i:Int}
theorem live2 {o q:Ob}:∀ m,m<2→∃ r,(([some o,some q]:List (Option Ob))[m]?).join=some r:=by
 intro m hm
 match m,hm with
 |0,_=>exact ⟨_,rfl⟩
 |1,_=>exact ⟨_,rfl⟩
abbrev frLf:Frs:=⟨33,none,24⟩
theorem lfStart (hβ:β.n0=2) (hA:YC β frLf (Tr.ofList [.osl 0 10,.osv 1 1 bs st ln]) [] (hO (lLf cl ws)) 2 far a):
  ∃ J' b',YC β frLf (trO (slots J' 0 (slLf bs st ln 0))) [] (hO (lLf cl ws)) 2 far b'∧Steps PR (At frLf none kind cs a [.code (bodyOf Tryz.f33)]) (At frLf none kind cs b' todoLf):=
 YC.eval (n:=400) (m:=7) (orc:=[]) (πl:=[0,1]) (nx':=2) (far:=far) (todo:=[.code (bodyOf Tryz.f33)]) (todo':=todoLf) (l':=lLf cl ws) (sl':=slLf bs st ln 0) (B:=true) G1_ok H1_ok kind cs hA
  (by kernel_rfl) rfl rfl rfl rfl rfl rfl (fun m=>Nat.blt m 2) (p_ok rfl live2) (fun m hm=>by rw [hβ] at hm;exact Nat.blt_eq.mpr hm) (by rw [hβ];kernel_rfl) (by kernel_rfl) (by kernel_rfl)
theorem lfIter (hβ:β.n0=2) (hA:YC β frLf (trO (slots J 0 (slLf bs st ln i))) [] (hO (lLf cl ws)) 2 far a)
  (hB:allB [!(!(decide (i∈part ws st ln))),decide (ln≤1048576),decide (st+ln≤ws.length),decide (0≤(cl.getD i.toNat []).getD 2 0),decide (i.toNat<cl.length),decide (0≤i∧i<(cl.length:Int)),decide (i<(cl.length:Int))]=true):
  ∃ J' b',YC β frLf (trO (slots J' 0 (slLf bs st ln (IntKind.i64.wrap (i+1))))) [] (hO (lLf cl ws)) 2 far b'∧Steps PR (At frLf none kind cs a todoLf) (At frLf none kind cs b' todoLf):=
 YC.eval (n:=400) (m:=14) (orc:=bits 10 0b1111111110) (πl:=[0,1]) (nx':=2) (far:=far) (todo:=todoLf) (todo':=todoLf) (l':=lLf cl ws) (sl':=slLf bs st ln (IntKind.i64.wrap (i+1))) G1_ok H1_ok kind cs hA
  (by kernel_rfl) hB rfl rfl rfl rfl rfl (fun m=>Nat.blt m 2) (p_ok rfl live2) (fun m hm=>by rw [hβ] at hm;exact Nat.blt_eq.mpr hm) (by rw [hβ];kernel_rfl) (by kernel_rfl) (by kernel_rfl)
theorem lfFound (hβ:β.n0=2) (hA:YC β frLf (trO (slots J 0 (slLf bs st ln i))) [] (hO (lLf cl ws)) 2 far a)
  (hB:allB [!(decide (i∈part ws st ln)),decide (ln≤1048576),decide (st+ln≤ws.length),decide (0≤(cl.getD i.toNat []).getD 2 0),decide (i.toNat<cl.length),decide (0≤i∧i<(cl.length:Int)),decide (i<(cl.length:Int))]=true):
  ∃ J' b',YC β frLf (trO (slots J' 0 (slLfE true))) [] (hO (lLf cl ws)) 2 far b'∧Steps PR (At frLf none kind cs a todoLf) (At frLf none kind cs b' todoLfF):=
 YC.eval (n:=400) (m:=12) (orc:=bits 10 0b1111111111) (πl:=[0,1]) (nx':=2) (far:=far) (todo:=todoLf) (todo':=todoLfF) (l':=lLf cl ws) (sl':=slLfE true) G1_ok H1_ok kind cs hA
  (by kernel_rfl) hB rfl rfl rfl rfl rfl (fun m=>Nat.blt m 2) (p_ok rfl live2) (fun m hm=>by rw [hβ] at hm;exact Nat.blt_eq.mpr hm) (by rw [hβ];kernel_rfl) (by kernel_rfl) (by kernel_rfl)
theorem lfExit (hβ:β.n0=2) (hA:YC β frLf (trO (slots J 0 (slLf bs st ln i))) [] (hO (lLf cl ws)) 2 far a) (h:¬ i<(cl.length:Int)):
  ∃ J' b',YC β frLf (trO (slots J' 0 (slLfE false))) [] (hO (lLf cl ws)) 2 far b'∧Steps PR (At frLf none kind cs a todoLf) (At frLf none kind cs b' [.code .ret]):=
 YC.eval (n:=400) (m:=7) (orc:=bits 1 0) (πl:=[0,1]) (nx':=2) (far:=far) (todo:=todoLf) (todo':=[.code .ret]) (l':=lLf cl ws) (sl':=slLfE false) (B:=allB [!(decide (i<(cl.length:Int)))]) G1_ok H1_ok kind cs hA
  (by kernel_rfl) (by simp only [allB,decide_eq_false h];rfl) rfl rfl rfl rfl rfl (fun m=>Nat.blt m 2) (p_ok rfl live2) (fun m hm=>by rw [hβ] at hm;exact Nat.blt_eq.mpr hm) (by rw [hβ];kernel_rfl) (by kernel_rfl) (by kernel_rfl)
theorem lfLoop (hβ:β.n0=2) (hw:st+ln≤ws.length) (hbig:ln≤1048576) (hn:cl.length≤1048576) (hE:Ended cl):∀ (d:Nat) (J:Nat→V) (a:Cf) (i:Nat),cl.length=i+d→(∀ k,k<i→(k:Int)∈part ws st ln)→YC β frLf (trO (slots J 0 (slLf bs st ln (i:Int)))) [] (hO (lLf cl ws)) 2 far a→
  ∃ J' b' todo,YC β frLf (trO (slots J' 0 (slLfE (leftP cl.length (part ws st ln))))) [] (hO (lLf cl ws)) 2 far b'∧Steps PR (At frLf none kind cs a todoLf) (At frLf none kind cs b' todo)∧∃ k,todo=.code .ret::k:=by
 intro d
 induction d with
 |zero=>
  intro J a i hd hno hA
  obtain ⟨J',b',h1,h2⟩:=lfExit (kind:=kind) (cs:=cs) hβ hA (by omega)
  have hf:leftP cl.length (part ws st ln)=false:=by
   unfold leftP
   rw [List.any_eq_false]
   intro k hk
   simp only [List.mem_range] at hk
   simp [hno k (by omega)]
  rw [← hf] at h1
  exact ⟨J',b',_,h1,h2,[],rfl⟩
 |succ d ih=>
  intro J a i hd hno hA
  have h0:=hE i (by omega)
  by_cases he:(i:Int)∈part ws st ln
  ·obtain ⟨J1,b1,h1,h2⟩:=lfIter (kind:=kind) (cs:=cs) hβ hA (by simp only [XD,List.forall_mem_cons,decide_eq_true_eq,Int.toNat_natCast,Bool.not_not];exact ⟨he,hbig,hw,h0,by omega,by omega,by omega,fun _ hb=>by cases hb⟩)
   rw [XM (by omega) (by omega)] at h1
   obtain ⟨J2,b2,todo,h3,h4,h5⟩:=ih J1 b1 (i+1) (by omega) (fun k hk=>by
    by_cases hki:k=i
    ·subst hki;exact he
    ·exact hno k (by omega)) (by exact_mod_cast h1)
   exact ⟨J2,b2,todo,h3,h2.trans h4,h5⟩
  ·obtain ⟨J',b',h1,h2⟩:=lfFound (kind:=kind) (cs:=cs) hβ hA (by simp only [XD,List.forall_mem_cons,decide_eq_true_eq,Int.toNat_natCast,Bool.not_eq_true',decide_eq_false_iff_not];exact ⟨he,hbig,hw,h0,by omega,by omega,by omega,fun _ hb=>by cases hb⟩)
   have hf:leftP cl.length (part ws st ln)=true:=by
    unfold leftP
    rw [List.any_eq_true]
    exact ⟨i,List.mem_range.2 (by omega),by simp [he]⟩
   rw [← hf] at h1
   exact ⟨J',b',_,h1,h2,_,rfl⟩
theorem left_call (hw:st+ln≤ws.length) (hbig:ln≤1048576) (hn:cl.length≤1048576) (hE:Ended cl):YD PR 33 [.osl 0 10,.osv 1 1 bs st ln] 2 (hO (lLf cl ws)) (.bool (leftP cl.length (part ws st ln))) 2 (hO (lLf cl ws)):=by
 refine callH_of (c:=bodyOf Tryz.f33) (t:=4) (hi:=far) Tryz.func33 (by kernel_rfl) (Nat.blt_eq.mp (by kernel_rfl)) (by kernel_rfl) (Nat.ble_eq.mp (by kernel_rfl)) (fun m o ho=>?_) (fun m o ho hr=>?_) rfl ?_
 ·have:=XP (p:=fun m=>Nat.blt m 2) (lLf cl ws) 0 (by kernel_rfl) m o ho
  rw [blt_fun] at this
  exact ⟨by simpa using this.2.1,this.2.2⟩
 ·rw [noRo_ok (lLf cl ws) (by kernel_rfl) m o ho] at hr;cases hr
 ·intro L w kind cs a hA
  obtain ⟨J1,b1,h1,h2⟩:=lfStart (kind:=kind) (cs:=cs) rfl hA
  obtain ⟨J2,b2,todo,h3,h4,h5⟩:=lfLoop (kind:=kind) (cs:=cs) rfl hw hbig hn hE cl.length J1 b1 0 (by omega) (fun k hk=>absurd hk (Nat.not_lt_zero _)) h1
  exact ⟨b2,_,2,far,todo,h3,rfl,h2.trans h4,.inr h5⟩
abbrev frRd:Frs:=⟨34,none,37⟩
variable {k:Int}
theorem rdStart (hβ:β.n0=2) (hA:YC β frRd (Tr.ofList [.osl 0 10,.osv 1 1 bs st ln,.int .i64 k]) [] (hO (lLf cl ws)) 2 far a) (hw:st+ln≤ws.length) (hbig:ln≤1048576) (hk:¬ k∈part ws st ln):
  ∃ J' b',YC β frRd (trO (slots J' 0 (slRd bs st ln k 0))) [] (hO (lLf cl ws)) 2 far b'∧Steps PR (At frRd none kind cs a [.code (bodyOf Tryz.f34)]) (At frRd none kind cs b' todoRd):=
 YC.eval (n:=400) (m:=12) (orc:=bits 3 0b110) (πl:=[0,1]) (nx':=2) (far:=far) (todo:=[.code (bodyOf Tryz.f34)]) (todo':=todoRd) (l':=lLf cl ws) (sl':=slRd bs st ln k 0) (B:=allB [!(decide (k∈part ws st ln)),decide (ln≤1048576),decide (st+ln≤ws.length)]) G1_ok H1_ok kind cs hA
  (by kernel_rfl) (by simp [allB,hk,hw,hbig]) rfl rfl rfl rfl rfl (fun m=>Nat.blt m 2) (p_ok rfl live2) (fun m hm=>by rw [hβ] at hm;exact Nat.blt_eq.mpr hm) (by rw [hβ];kernel_rfl) (by kernel_rfl) (by kernel_rfl)
theorem rdNot (hβ:β.n0=2) (hA:YC β frRd (Tr.ofList [.osl 0 10,.osv 1 1 bs st ln,.int .i64 k]) [] (hO (lLf cl ws)) 2 far a) (hw:st+ln≤ws.length) (hbig:ln≤1048576) (hk:k∈part ws st ln):
  ∃ J' b',YC β frRd (trO (slots J' 0 (slRdE false))) [] (hO (lLf cl ws)) 2 far b'∧Steps PR (At frRd none kind cs a [.code (bodyOf Tryz.f34)]) (At frRd none kind cs b' todoRdN):=
 YC.eval (n:=400) (m:=8) (orc:=bits 3 0b111) (πl:=[0,1]) (nx':=2) (far:=far) (todo:=[.code (bodyOf Tryz.f34)]) (todo':=todoRdN) (l':=lLf cl ws) (sl':=slRdE false) (B:=allB [decide (k∈part ws st ln),decide (ln≤1048576),decide (st+ln≤ws.length)]) G1_ok H1_ok kind cs hA
  (by kernel_rfl) (by simp [allB,hk,hw,hbig]) rfl rfl rfl rfl rfl (fun m=>Nat.blt m 2) (p_ok rfl live2) (fun m hm=>by rw [hβ] at hm;exact Nat.blt_eq.mpr hm) (by rw [hβ];kernel_rfl) (by kernel_rfl) (by kernel_rfl)
theorem rdExit (hβ:β.n0=2) (hA:YC β frRd (trO (slots J 0 (slRd bs st ln k i))) [] (hO (lLf cl ws)) 2 far a) (h:¬ i<(cl.length:Int)):
  ∃ J' b',YC β frRd (trO (slots J' 0 (slRdE true))) [] (hO (lLf cl ws)) 2 far b'∧Steps PR (At frRd none kind cs a todoRd) (At frRd none kind cs b' [.code .ret]):=
 YC.eval (n:=400) (m:=7) (orc:=bits 1 0) (πl:=[0,1]) (nx':=2) (far:=far) (todo:=todoRd) (todo':=[.code .ret]) (l':=lLf cl ws) (sl':=slRdE true) (B:=allB [!(decide (i<(cl.length:Int)))]) G1_ok H1_ok kind cs hA
  (by kernel_rfl) (by simp only [allB,decide_eq_false h];rfl) rfl rfl rfl rfl rfl (fun m=>Nat.blt m 2) (p_ok rfl live2) (fun m hm=>by rw [hβ] at hm;exact Nat.blt_eq.mpr hm) (by rw [hβ];kernel_rfl) (by kernel_rfl) (by kernel_rfl)
theorem rdSelf (hβ:β.n0=2) (hA:YC β frRd (trO (slots J 0 (slRd bs st ln k i))) [] (hO (lLf cl ws)) 2 far a)
  (hB:allB [!(i != k),decide (i<(cl.length:Int))]=true):
  ∃ J' b',YC β frRd (trO (slots J' 0 (slRd bs st ln k (IntKind.i64.wrap (i+1))))) [] (hO (lLf cl ws)) 2 far b'∧Steps PR (At frRd none kind cs a todoRd) (At frRd none kind cs b' todoRd):=
 YC.eval (n:=400) (m:=14) (orc:=bits 17 0b10000000000000000) (πl:=[0,1]) (nx':=2) (far:=far) (todo:=todoRd) (todo':=todoRd) (l':=lLf cl ws) (sl':=slRd bs st ln k (IntKind.i64.wrap (i+1))) G1_ok H1_ok kind cs hA
  (by kernel_rfl) hB rfl rfl rfl rfl rfl (fun m=>Nat.blt m 2) (p_ok rfl live2) (fun m hm=>by rw [hβ] at hm;exact Nat.blt_eq.mpr hm) (by rw [hβ];kernel_rfl) (by kernel_rfl) (by kernel_rfl)
theorem rdDone (hβ:β.n0=2) (hA:YC β frRd (trO (slots J 0 (slRd bs st ln k i))) [] (hO (lLf cl ws)) 2 far a)
  (hB:allB [!(!(decide (i∈part ws st ln))),decide (ln≤1048576),decide (st+ln≤ws.length),(i != k),decide (i<(cl.length:Int))]=true):
  ∃ J' b',YC β frRd (trO (slots J' 0 (slRd bs st ln k (IntKind.i64.wrap (i+1))))) [] (hO (lLf cl ws)) 2 far b'∧Steps PR (At frRd none kind cs a todoRd) (At frRd none kind cs b' todoRd):=
 YC.eval (n:=400) (m:=14) (orc:=bits 18 0b111111100000000000) (πl:=[0,1]) (nx':=2) (far:=far) (todo:=todoRd) (todo':=todoRd) (l':=lLf cl ws) (sl':=slRd bs st ln k (IntKind.i64.wrap (i+1))) G1_ok H1_ok kind cs hA
  (by kernel_rfl) hB rfl rfl rfl rfl rfl (fun m=>Nat.blt m 2) (p_ok rfl live2) (fun m hm=>by rw [hβ] at hm;exact Nat.blt_eq.mpr hm) (by rw [hβ];kernel_rfl) (by kernel_rfl) (by kernel_rfl)
def rdB (cl:List (List Int)) (ws:List Int) (st ln:Nat) (k i:Int):List Bool:=[decide (0≤(cl.getD i.toNat []).getD 2 0)]++List.replicate 10 (decide (k.toNat<cl.length))++[decide (0≤k∧k<(cl.length:Int))]++List.replicate 10 (decide (i.toNat<cl.length))++
 [decide (0≤i∧i<(cl.length:Int)),!(decide (i∈part ws st ln)),decide (ln≤1048576),decide (st+ln≤ws.length),(i != k),decide (i<(cl.length:Int))]
theorem rdClear (hβ:β.n0=2) (hA:YC β frRd (trO (slots J 0 (slRd bs st ln k i))) [] (hO (lLf cl ws)) 2 far a)
  (hB:allB ((!(decide ((cl.getD i.toNat []).getD 2 0<(cl.getD k.toNat []).getD 1 0)))::rdB cl ws st ln k i)=true):
  ∃ J' b',YC β frRd (trO (slots J' 0 (slRd bs st ln k (IntKind.i64.wrap (i+1))))) [] (hO (lLf cl ws)) 2 far b'∧Steps PR (At frRd none kind cs a todoRd) (At frRd none kind cs b' todoRd):=
 YC.eval (n:=400) (m:=14) (orc:=bits 44 0b11111111111111111111111111111111111111111110) (πl:=[0,1]) (nx':=4) (far:=far) (todo:=todoRd) (todo':=todoRd) (l':=lLf cl ws) (sl':=slRd bs st ln k (IntKind.i64.wrap (i+1))) G1_ok H1_ok kind cs hA
  (by kernel_rfl) hB rfl rfl rfl rfl rfl (fun m=>Nat.blt m 2) (p_ok rfl live2) (fun m hm=>by rw [hβ] at hm;exact Nat.blt_eq.mpr hm) (by rw [hβ];kernel_rfl) (by kernel_rfl) (by kernel_rfl)
theorem rdAhead (hβ:β.n0=2) (hA:YC β frRd (trO (slots J 0 (slRd bs st ln k i))) [] (hO (lLf cl ws)) 2 far a)
  (hB:allB (decide ((cl.getD i.toNat []).getD 2 0<(cl.getD k.toNat []).getD 1 0)::rdB cl ws st ln k i)=true):
  ∃ J' b',YC β frRd (trO (slots J' 0 (slRdE false))) [] (hO (lLf cl ws)) 2 far b'∧Steps PR (At frRd none kind cs a todoRd) (At frRd none kind cs b' todoRdF):=
 YC.eval (n:=400) (m:=12) (orc:=bits 44 0b11111111111111111111111111111111111111111111) (πl:=[0,1]) (nx':=4) (far:=far) (todo:=todoRd) (todo':=todoRdF) (l':=lLf cl ws) (sl':=slRdE false) G1_ok H1_ok kind cs hA
  (by kernel_rfl) hB rfl rfl rfl rfl rfl (fun m=>Nat.blt m 2) (p_ok rfl live2) (fun m hm=>by rw [hβ] at hm;exact Nat.blt_eq.mpr hm) (by rw [hβ];kernel_rfl) (by kernel_rfl) (by kernel_rfl)
theorem rdB_ok {k i:Nat} (hk:k<cl.length) (hi:i<cl.length) (hw:st+ln≤ws.length) (hbig:ln≤1048576) (hE:Ended cl) (hik:i≠k) (hno:¬ (i:Int)∈part ws st ln):∀ b∈rdB cl ws st ln (k:Int) (i:Int),b=true:=by
 have h0:=hE i hi
 intro b hb
 simp only [rdB,List.mem_append,List.mem_cons,List.mem_replicate,Int.toNat_natCast,List.not_mem_nil,or_false] at hb
 rcases hb with (((rfl|⟨_,rfl⟩)|rfl)|⟨_,rfl⟩)|rfl|rfl|rfl|rfl|rfl|rfl
 ·exact decide_eq_true h0
 ·exact decide_eq_true hk
 ·exact decide_eq_true (by omega)
 ·exact decide_eq_true hi
 ·exact decide_eq_true (by omega)
 ·simp [hno]
 ·exact decide_eq_true hbig
 ·exact decide_eq_true hw
 ·simp;omega
 ·exact decide_eq_true (by omega)
theorem rdLoop {k:Nat} (hβ:β.n0=2) (hw:st+ln≤ws.length) (hbig:ln≤1048576) (hn:cl.length≤1048576) (hE:Ended cl) (hk:k<cl.length) (hkD:¬ (k:Int)∈part ws st ln):∀ (d:Nat) (J:Nat→V) (a:Cf) (i:Nat),cl.length=i+d→
  (∀ q,q<i→q=k∨(q:Int)∈part ws st ln∨¬ (cl.getD q []).getD 2 0<(cl.getD k []).getD 1 0)→YC β frRd (trO (slots J 0 (slRd bs st ln (k:Int) (i:Int)))) [] (hO (lLf cl ws)) 2 far a→
  ∃ J' b' todo,YC β frRd (trO (slots J' 0 (slRdE (readyP cl (part ws st ln) k)))) [] (hO (lLf cl ws)) 2 far b'∧Steps PR (At frRd none kind cs a todoRd) (At frRd none kind cs b' todo)∧∃ q,todo=.code .ret::q:=by
 intro d
 induction d with
 |zero=>
  intro J a i hd hno hA
  obtain ⟨J',b',h1,h2⟩:=rdExit (kind:=kind) (cs:=cs) hβ hA (by omega)
  have hf:readyP cl (part ws st ln) k=true:=by
   simp only [readyP,decide_eq_false hkD,cond_false,List.all_eq_true,List.mem_range]
   intro q hq
   rcases hno q (by omega) with h|h|h
   ·simp [h]
   ·by_cases hqk:q=k
    ·simp [hqk]
    ·simp [hqk,h]
   ·by_cases hqk:q=k
    ·simp [hqk]
    ·by_cases hqd:(q:Int)∈part ws st ln
     ·simp [hqk,hqd]
     ·simp only [decide_eq_false hqk,decide_eq_false hqd,cond_false,aheadP,decide_eq_false h,Bool.not_false]
  rw [← hf] at h1
  exact ⟨J',b',_,h1,h2,[],rfl⟩
 |succ d ih=>
  intro J a i hd hno hA
  have next:∀ (J1:Nat→V) (b1:Cf),(i=k∨(i:Int)∈part ws st ln∨¬ (cl.getD i []).getD 2 0<(cl.getD k []).getD 1 0)→YC β frRd (trO (slots J1 0 (slRd bs st ln (k:Int) (IntKind.i64.wrap ((i:Int)+1))))) [] (hO (lLf cl ws)) 2 far b1→Steps PR (At frRd none kind cs a todoRd) (At frRd none kind cs b1 todoRd)→
    ∃ J' b' todo,YC β frRd (trO (slots J' 0 (slRdE (readyP cl (part ws st ln) k)))) [] (hO (lLf cl ws)) 2 far b'∧Steps PR (At frRd none kind cs a todoRd) (At frRd none kind cs b' todo)∧∃ q,todo=.code .ret::q:=by
   intro J1 b1 hc h1 h2
   rw [XM (by omega) (by omega)] at h1
   obtain ⟨J2,b2,todo,h3,h4,h5⟩:=ih J1 b1 (i+1) (by omega) (fun q hq=>by
    by_cases hqi:q=i
    ·subst hqi;exact hc
    ·exact hno q (by omega)) (by exact_mod_cast h1)
   exact ⟨J2,b2,todo,h3,h2.trans h4,h5⟩
  by_cases hik:i=k
  ·obtain ⟨J1,b1,h1,h2⟩:=rdSelf (kind:=kind) (cs:=cs) hβ hA (by simp only [XD,List.forall_mem_cons];exact ⟨by simp [hik],by simp;omega,fun _ hb=>by cases hb⟩)
   exact next J1 b1 (.inl hik) h1 h2
  ·by_cases hid:(i:Int)∈part ws st ln
   ·obtain ⟨J1,b1,h1,h2⟩:=rdDone (kind:=kind) (cs:=cs) hβ hA (by simp only [XD,List.forall_mem_cons,decide_eq_true_eq,Bool.not_not];exact ⟨hid,hbig,hw,by simp;omega,by omega,fun _ hb=>by cases hb⟩)
    exact next J1 b1 (.inr (.inl hid)) h1 h2
   ·by_cases ha:(cl.getD i []).getD 2 0<(cl.getD k []).getD 1 0
    ·obtain ⟨J',b',h1,h2⟩:=rdAhead (kind:=kind) (cs:=cs) hβ hA (by rw [XD,List.forall_mem_cons];exact ⟨decide_eq_true (by simpa using ha),rdB_ok hk (by omega) hw hbig hE hik hid⟩)
     have hf:readyP cl (part ws st ln) k=false:=by
      simp only [readyP,decide_eq_false hkD,cond_false,List.all_eq_false,List.mem_range]
      exact ⟨i,by omega,by simp only [decide_eq_false hik,decide_eq_false hid,cond_false,aheadP,decide_eq_true ha];simp⟩
     rw [← hf] at h1
     exact ⟨J',b',_,h1,h2,_,rfl⟩
    ·obtain ⟨J1,b1,h1,h2⟩:=rdClear (kind:=kind) (cs:=cs) hβ hA (by rw [XD,List.forall_mem_cons];exact ⟨by simp only [Int.toNat_natCast,decide_eq_false ha,Bool.not_false],rdB_ok hk (by omega) hw hbig hE hik hid⟩)
     exact next J1 b1 (.inr (.inr ha)) h1 h2
theorem ready_call {k:Nat} (hw:st+ln≤ws.length) (hbig:ln≤1048576) (hn:cl.length≤1048576) (hE:Ended cl) (hk:k<cl.length):YD PR 34 [.osl 0 10,.osv 1 1 bs st ln,.int .i64 (k:Int)] 2 (hO (lLf cl ws)) (.bool (readyP cl (part ws st ln) k)) 2 (hO (lLf cl ws)):=by
 refine callH_of (c:=bodyOf Tryz.f34) (t:=6) (hi:=far) Tryz.func34 (by kernel_rfl) (Nat.blt_eq.mp (by kernel_rfl)) (by kernel_rfl) (Nat.ble_eq.mp (by kernel_rfl)) (fun m o ho=>?_) (fun m o ho hr=>?_) rfl ?_
 ·have:=XP (p:=fun m=>Nat.blt m 2) (lLf cl ws) 0 (by kernel_rfl) m o ho
  rw [blt_fun] at this
  exact ⟨by simpa using this.2.1,this.2.2⟩
 ·rw [noRo_ok (lLf cl ws) (by kernel_rfl) m o ho] at hr;cases hr
 ·intro L w kind cs a hA
  by_cases hkD:(k:Int)∈part ws st ln
  ·obtain ⟨J1,b1,h1,h2⟩:=rdNot (kind:=kind) (cs:=cs) rfl hA hw hbig hkD
   have hf:readyP cl (part ws st ln) k=false:=by simp only [readyP,decide_eq_true hkD,cond_true]
   rw [← hf] at h1
   exact ⟨b1,_,2,far,_,h1,rfl,h2,.inr ⟨_,rfl⟩⟩
  ·obtain ⟨J1,b1,h1,h2⟩:=rdStart (kind:=kind) (cs:=cs) rfl hA hw hbig hkD
   obtain ⟨J2,b2,todo,h3,h4,h5⟩:=rdLoop (kind:=kind) (cs:=cs) rfl hw hbig hn hE hk hkD cl.length J1 b1 0 (by omega) (fun k hk=>absurd hk (Nat.not_lt_zero _)) h1
   exact ⟨b2,_,2,far,todo,h3,rfl,h2.trans h4,.inr h5⟩
end
end Go.Sx
namespace Go.Sx
open Go.Proofs
theorem shEq_ok:∀ {a b:List Sh},shEq a b=true→a=b:=by
 intro a
 induction a with
 |nil=>intro b h;cases b with
  |nil=>rfl
  |cons=>cases h
 |cons x l ih=>
  intro b h
  cases b with
  |nil=>cases x<;>cases h
  |cons y r=>
   cases x with
   |int k=>
    cases y with
    |int k'=>
     simp only [shEq] at h
     cases hk:decide (k=k') with
     |false=>rw [hk] at h;cases h
     |true=>rw [hk] at h;have:=of_decide_eq_true hk;subst this;rw [ih h]
    |bool=>cases h
   |bool=>
    cases y with
    |int=>cases h
    |bool=>simp only [shEq] at h;rw [ih h]
instance (cl:List (List Int)):Decidable (Ended cl):=inferInstanceAs (Decidable (∀ i,i<cl.length→0≤(cl.getD i []).getD 2 0))
def rowsOfN (s:St) (c es:Nat):Option (List (List Int)):=
 match s.H.get c with
 |some (.mem (.rows sh cl) t (some e))=>(chk (decide (t=89∧es=10∧e=10))).bind fun _=>(chk (shEq sh shSpan)).bind fun _=>some cl
 |_=>none
theorem rowsOfN_ok {s:St} {c es:Nat} {cl:List (List Int)} (h:rowsOfN s c es=some cl):s.H.get c=some (callsOb cl)∧es=10:=by
 unfold rowsOfN at h
 split at h
 ·rename_i sh cl' t e hg
  obtain ⟨_,h1,h2⟩:=XA h
  obtain ⟨_,h3,h4⟩:=XA h2
  cases h4
  have h5:t=89∧es=10∧e=10:=of_decide_eq_true (XC h1)
  obtain ⟨rfl,rfl,rfl⟩:=h5
  rw [shEq_ok (XC h3)] at hg
  exact ⟨hg,rfl⟩
 ·cases h
theorem rowCall {f:FuncId} {ex:List V} (hex:ex=[]∨∃ k,ex=[.int .i64 k]) {c n b st ln:Nat} {cl:List (List Int)} {ws:List Int} {v:Bool} {x:V} {s s1 s':St} (hc:s.H.get c=some (callsOb cl)) (hnr:nrm .i64 3 x s=some ((n,b,st,ln,ws),s1)) (hcn:c≠n)
  (hs:Same s1 s') (_ho:Obl s') (ho1:Obl s1) (h:st+ln≤ws.length→YD PR f (.osl 0 10::.osv 1 1 b st ln::ex) 2 (hO (lLf cl ws)) (.bool v) 2 (hO (lLf cl ws))):
  Lg s s'∧Obl s∧YB PR f (.osl c 10::x::ex) s (.bool v) s':=by
 obtain ⟨g1,g2,g3,g4,g5,g6⟩:=nrm_ok hnr ho1
 refine ⟨g1.trans (.of_same hs),g2,?_⟩
 have e1:s'.nx=s1.nx:=hs.nx
 have e2:s'.H=s1.H:=hs.H
 have hren:∀ π,ex.map (V.ren π)=ex:=by rcases hex with rfl|⟨k,rfl⟩<;>intro π<;>rfl
 have hden:∀ L L',ex.map (V.den L)=ex.map (V.den L'):=by rcases hex with rfl|⟨k,rfl⟩<;>intro L L'<;>rfl
 have hcall:YB PR f (.osl c 10::.osv n 1 b st ln::ex) s' (.bool v) s':=
  embedRO (l:=lLf cl ws) (ac:=.osl 0 10::.osv 1 1 b st ln::ex) (vc:=.bool v) (h g4) (fun m hm=>live2 m hm) (by kernel_rfl) (by rcases hex with rfl|⟨k,rfl⟩<;>rfl) [c,n] rfl (fun q o ho=>by
   match q,ho with
   |0,ho=>cases ho;rw [e2];exact g5 c _ hcn hc
   |1,ho=>cases ho;rw [e2];exact g3) (by simp [hcn]) (by simp only [List.map_cons,hren];rfl) rfl
 refine YB.gh hcall (by rw [e1];exact g1.le) (Nat.le_refl _) (fun D L w hSR hD hst=>?_)
 rw [e1] at hD
 obtain ⟨L',k1,k2⟩:=g6 D L w hSR hD
 refine ⟨L',⟨by rw [e1];exact k1.le,k1.agree,by rw [e1,e2];exact k1.sr,fun n o b ho=>by rw [e2] at ho;exact k1.sub n o b ho,fun n o ho=>by rw [e2] at ho;exact k1.ro n o ho⟩,fun L'' hL''=>?_⟩
 rw [e1] at hL''
 have hDc:=hSR.live hc
 have hLc:L'' c=L c:=by rw [← hL'' c (.inl hDc)];exact (k1.agree c hDc).symm
 simp only [List.map_cons,k2 L'' hL'',hden L'' L]
 congr 1
 simp only [V.den,hLc]
def smLf (args:List V) (s:St):Option (V×St):=
 match args with
 |[.osl c es,x]=>(rowsOfN s c es).bind fun cl=>(nrm .i64 3 x s).bind fun r=>match r with
  |((n,_,st,ln,ws),s1)=>(chk (!(Nat.beq c n))).bind fun _=>(need (decide (ln≤1048576∧cl.length≤1048576∧Ended cl)) s1).bind fun s2=>some (.bool (leftP cl.length (part ws st ln)),s2)
 |_=>none
def smRd (args:List V) (s:St):Option (V×St):=
 match args with
 |[.osl c es,x,.int .i64 k]=>(rowsOfN s c es).bind fun cl=>(nrm .i64 3 x s).bind fun r=>match r with
  |((n,_,st,ln,ws),s1)=>(chk (!(Nat.beq c n))).bind fun _=>(need (decide (ln≤1048576∧cl.length≤1048576∧Ended cl∧0≤k∧k<(cl.length:Int))) s1).bind fun s2=>some (.bool (readyP cl (part ws st ln) k.toNat),s2)
 |_=>none
theorem ne_of_chk {c n:Nat} {u:Unit} (h:chk (!(Nat.beq c n))=some u):c≠n:=by
 intro e
 have:=XC h
 rw [e,Nat.beq_refl] at this
 cases this
theorem smLf_sm:SmOK PR 33 smLf:=by
 refine ⟨fun args s v s' h ho=>?_,Tryz.call33⟩
 unfold smLf at h
 split at h
 ·rename_i c es x
  obtain ⟨cl,h1,h2⟩:=XA h
  obtain ⟨⟨⟨n,b,st,ln,ws⟩,s1⟩,h3,h4⟩:=XA h2
  obtain ⟨_,h5,h6⟩:=XA h4
  obtain ⟨s2,h7,h8⟩:=XA h6
  cases h8
  obtain ⟨hg,rfl⟩:=rowsOfN_ok h1
  obtain ⟨hd,hq⟩:=XI h7 ho
  obtain ⟨d1,d2,d3⟩:=of_decide_eq_true hd
  exact rowCall (.inl rfl) hg h3 (ne_of_chk h5) hq.1 ho hq.2 (fun hw=>left_call hw d1 d2 d3)
 ·cases h
theorem smRd_sm:SmOK PR 34 smRd:=by
 refine ⟨fun args s v s' h ho=>?_,Tryz.call34⟩
 unfold smRd at h
 split at h
 ·rename_i c es x k
  obtain ⟨cl,h1,h2⟩:=XA h
  obtain ⟨⟨⟨n,b,st,ln,ws⟩,s1⟩,h3,h4⟩:=XA h2
  obtain ⟨_,h5,h6⟩:=XA h4
  obtain ⟨s2,h7,h8⟩:=XA h6
  cases h8
  obtain ⟨hg,rfl⟩:=rowsOfN_ok h1
  obtain ⟨hd,hq⟩:=XI h7 ho
  obtain ⟨d1,d2,d3,d4,d5⟩:=of_decide_eq_true hd
  refine rowCall (.inr ⟨k,rfl⟩) hg h3 (ne_of_chk h5) hq.1 ho hq.2 (fun hw=>?_)
  have:=ready_call (bs:=b) (k:=k.toNat) hw d1 d2 d3 (by omega)
  rw [Int.toNat_of_nonneg d4] at this
  exact this
 ·cases h
end Go.Sx
