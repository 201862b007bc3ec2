/- ClaimJudged: its walk. -/
import Derived.Test.YtpnpmkdijmeddaaGreatScO8
import Derived.Test.YtpnpmkdijmeddaaGreatSxTabC
import Derived.Test.YtpnpmkdijmeddaaGreatRows
import Derived.ProofKit
import Derived.OpenShut
import Derived.Carry
set_option maxRecDepth 100000
namespace Go.Sx
open Go.Proofs
section
variable (ql qn n H:Nat) (j:MJ) (ws ks hs:List Int) (σ':CS)
noncomputable def smsJ:List (Nat×SmF):=[(6,smPick),(4,smKn),(5,smBg qn n H j ws ks hs),(7,smPl ql n H j ws ks hs σ'),(8,smOrd)]
noncomputable def FJ:Env:=envOf tabT tabF (smOf (smsJ ql qn n H j ws ks hs σ')) seT imT pzT
theorem FJ_ok:EnvOK PR (FJ ql qn n H j ws ks hs σ'):=env_ok _
theorem SJ_ok:SumOK PR (FJ ql qn n H j ws ks hs σ'):=sumOK_of rfl ⟨smPick_sm,smKn_sm,smBg_sm qn n H j ws ks hs,smPl_sm ql n H j ws ks hs σ',smOrd_sm,trivial⟩
end
abbrev fr3:Frs:=⟨3,none,59⟩
noncomputable def f3Body:Code:=bodyOf Tryz.f3
noncomputable def FJ0:Env:=FJ 0 0 0 0 ⟨0,0,0,0,false,0⟩ [] [] [] σ00
noncomputable def FJ7:Env:=FJ 0 1 0 0 ⟨0,0,0,0,false,0⟩ [] [] [] {σ00 with cl:=List.replicate 8 []}
noncomputable def todo1:List Item:=((ctlN FJ0 (exec FJ0 400) fr3 4 [.code f3Body] (Tr.ofList [.int .i64 0,.int .i64 0,.nils,.nils]) [] ⟨trO [],0,[],[],[]⟩).map (·.1)).getD []
def sl1 (z0 z1:Int) (x y:V):List (Option V):=[some (.int .i64 z0),some (.int .i64 z1),some x,some y,none,none,none,none,none,some (.bool true)]++List.replicate 49 none
def slT:List (Option V):=List.replicate 8 none++[some (.bool true)]++List.replicate 50 none
noncomputable def todoG:List Item:=((ctlN FJ7 (exec FJ7 400) fr3 18 todo1 (trO (slots (fun _=>XJ) 0 (sl1 0 0 .nils .nils))) [] ⟨trO [some (.ro .i64 []),some (.ro .i64 [])],2,bits 11 0b01110001001,[],[]⟩).map (·.1)).getD []
noncomputable def todoLo:List Item:=((ctlN FJ0 (exec FJ0 400) fr3 6 todo1 (trO (slots (fun _=>XJ) 0 (sl1 0 0 .nils (.slice 0 0 1 401 401)))) [] ⟨trO [some (.ro .i64 []),some (.ro .i64 [])],2,bits 1 1,[],[]⟩).map (·.1)).getD []
def L2 (a b:List Int):List (Option Ob):=[some (.ro .i64 a),some (.ro .i64 b)]
section
variable {β:Base} {kind:CallKind} {cs:List Frame} {J:Nat→V} {A:Cf} {a b ws ks hs:List Int} {n H ll cl ln cn:Nat} {j:MJ} {σ':CS} {z0 z1:Int}
theorem pl_pre {ql:Nat} {y:V} {zs:List Int} (h:PlaysTo y zs n H j ws ks hs σ'):propB (PlPre ql ((l0 zs n H j ws ks hs).map (Option.map (Ob.ren (πf (πP ql))))) y zs n H j ws ks hs σ')=true:=XF.2 ⟨rfl,h⟩
theorem st_SS (hβ:β.n0=2) (hA:YC β fr3 (Tr.ofList [.int .i64 z0,.int .i64 z1,.slice 1 0 1 ln cn,.slice 0 0 1 ll cl]) [] (hO (L2 a b)) 2 far A):
  ∃ J' b',YC β fr3 (trO (slots J' 0 (sl1 z0 z1 (.slice 1 0 1 ln cn) (.slice 0 0 1 ll cl)))) [] (hO (L2 a b)) 2 far b'∧Steps PR (At fr3 none kind cs A [.code f3Body]) (At fr3 none kind cs b' todo1):=
 YC.evalX (mk:=[0,0]) (n:=400) (m:=4) (orc:=[]) (πl:=[0,1]) (nx':=4) (far:=far) (todo:=[.code f3Body]) (todo':=todo1) (l:=L2 a b) (l':=L2 a b) (lr:=L2 a b) (sl':=sl1 z0 z1 (.slice 1 0 1 ln cn) (.slice 0 0 1 ll cl)) (B:=true) (FJ_ok 0 0 0 0 ⟨0,0,0,0,false,0⟩ [] [] [] σ00) (SJ_ok 0 0 0 0 ⟨0,0,0,0,false,0⟩ [] [] [] σ00) kind cs hA
  (by kernel_rfl) rfl rfl rfl rfl rfl rfl rfl (fun m=>Nat.blt m 2) (p_all rfl rfl) (fun m hm=>by rw [hβ] at hm;exact Nat.blt_eq.mpr (by omega)) (by rw [hβ];kernel_rfl) (by kernel_rfl) (by kernel_rfl)
theorem lo_SS (hβ:β.n0=2) (hA:YC β fr3 (trO (slots J 0 (sl1 z0 z1 (.slice 1 0 1 ln cn) (.slice 0 0 1 ll cl)))) [] (hO (L2 a b)) 2 far A) (h:(ll:Int) > 400):
  ∃ J' b',YC β fr3 (trO (slots J' 0 slT)) [] (hO (L2 a b)) 2 far b'∧Steps PR (At fr3 none kind cs A todo1) (At fr3 none kind cs b' todoLo):=
 YC.eval (n:=400) (m:=6) (orc:=bits 1 1) (πl:=[0,1]) (nx':=2) (far:=far) (todo:=todo1) (todo':=todoLo) (l:=L2 a b) (l':=L2 a b) (sl':=slT) (FJ_ok 0 0 0 0 ⟨0,0,0,0,false,0⟩ [] [] [] σ00) (SJ_ok 0 0 0 0 ⟨0,0,0,0,false,0⟩ [] [] [] σ00) kind cs hA
  (by kernel_rfl) (XB (decide_eq_true h) nilB) rfl rfl rfl rfl rfl (fun m=>Nat.blt m 2) (p_all rfl rfl) (fun m hm=>by rw [hβ] at hm;exact Nat.blt_eq.mpr (by omega)) (by rw [hβ];kernel_rfl) (by kernel_rfl) (by kernel_rfl)
theorem ok_SS (hβ:β.n0=2) (hA:YC β fr3 (trO (slots J 0 (sl1 z0 z1 (.slice 1 0 1 ln cn) (.slice 0 0 1 ll cl)))) [] (hO (L2 a b)) 2 far A) (hl:¬ (ll:Int) > 400) (hb:BegunTo (IntKind.i64.wrap (1+XR z0 6)) (IntKind.i64.wrap (1+XR z1 4)) (.slice 0 0 1 ln cn) b n H j ws ks hs) (hp:PlaysTo (.slice 0 0 1 ll cl) a n H j ws ks hs σ') (h7:¬ (σ'.cl.length:Int) > 7) (ho:OrdPre σ'.cl):
  ∃ J' b',YC β fr3 (trO (slots J' 0 slT)) [] (hO (L2 a b)) 2 far b'∧Steps PR (At fr3 none kind cs A todo1) (At fr3 none kind cs b' [.code .ret]):=
 YC.eval (n:=400) (m:=21) (orc:=bits 15 0b011100010001111) (πl:=[0,1]) (nx':=40) (far:=far) (todo:=todo1) (todo':=[.code .ret]) (l:=L2 a b) (l':=L2 a b) (sl':=slT) (FJ_ok 0 1 n H j ws ks hs σ') (SJ_ok 0 1 n H j ws ks hs σ') kind cs hA
  (by kernel_rfl) (XB (XF.2 ho)<|cN h7<|XB (pl_pre (ql:=0) hp)<|XB (XF.2 hb)<|cN hl<|nilB) rfl rfl rfl rfl rfl (fun m=>Nat.blt m 2) (p_all rfl rfl) (fun m hm=>by rw [hβ] at hm;exact Nat.blt_eq.mpr (by omega)) (by rw [hβ];kernel_rfl) (by kernel_rfl) (by kernel_rfl)
theorem gt_SS (hβ:β.n0=2) (hA:YC β fr3 (trO (slots J 0 (sl1 z0 z1 (.slice 1 0 1 ln cn) (.slice 0 0 1 ll cl)))) [] (hO (L2 a b)) 2 far A) (hl:¬ (ll:Int) > 400) (hb:BegunTo (IntKind.i64.wrap (1+XR z0 6)) (IntKind.i64.wrap (1+XR z1 4)) (.slice 0 0 1 ln cn) b n H j ws ks hs) (hp:PlaysTo (.slice 0 0 1 ll cl) a n H j ws ks hs σ') (h7:(σ'.cl.length:Int) > 7):
  ∃ J' b',YC β fr3 (trO (slots J' 0 slT)) [] (hO (L2 a b)) 2 far b'∧Steps PR (At fr3 none kind cs A todo1) (At fr3 none kind cs b' todoG):=
 YC.eval (n:=400) (m:=18) (orc:=bits 11 0b01110001001) (πl:=[0,1]) (nx':=39) (far:=far) (todo:=todo1) (todo':=todoG) (l:=L2 a b) (l':=L2 a b) (sl':=slT) (FJ_ok 0 1 n H j ws ks hs σ') (SJ_ok 0 1 n H j ws ks hs σ') kind cs hA
  (by kernel_rfl) (cD h7<|XB (pl_pre (ql:=0) hp)<|XB (XF.2 hb)<|cN hl<|nilB) rfl rfl rfl rfl rfl (fun m=>Nat.blt m 2) (p_all rfl rfl) (fun m hm=>by rw [hβ] at hm;exact Nat.blt_eq.mpr (by omega)) (by rw [hβ];kernel_rfl) (by kernel_rfl) (by kernel_rfl)
theorem st_NS (hβ:β.n0=1) (hA:YC β fr3 (Tr.ofList [.int .i64 z0,.int .i64 z1,.slice 0 0 1 ln cn,.nils]) [] (hO ([some (.ro .i64 a)])) 1 far A):
  ∃ J' b',YC β fr3 (trO (slots J' 0 (sl1 z0 z1 (.slice 0 0 1 ln cn) (.nils)))) [] (hO (L2 a [])) 2 far b'∧Steps PR (At fr3 none kind cs A [.code f3Body]) (At fr3 none kind cs b' todo1):=
 YC.evalX (mk:=[0,2]) (n:=400) (m:=4) (orc:=[]) (πl:=[0,1]) (nx':=3) (far:=far) (todo:=[.code f3Body]) (todo':=todo1) (l:=[some (.ro .i64 a)]) (l':=L2 a []) (lr:=L2 a []) (sl':=sl1 z0 z1 (.slice 0 0 1 ln cn) (.nils)) (B:=true) (FJ_ok 0 0 0 0 ⟨0,0,0,0,false,0⟩ [] [] [] σ00) (SJ_ok 0 0 0 0 ⟨0,0,0,0,false,0⟩ [] [] [] σ00) kind cs hA
  (by kernel_rfl) rfl rfl rfl rfl rfl rfl rfl (fun m=>Nat.blt m 2) (p_all rfl rfl) (fun m hm=>by rw [hβ] at hm;exact Nat.blt_eq.mpr (by omega)) (by rw [hβ];kernel_rfl) (by kernel_rfl) (by kernel_rfl)
theorem ok_NS (hβ:β.n0=1) (hA:YC β fr3 (trO (slots J 0 (sl1 z0 z1 (.slice 0 0 1 ln cn) (.nils)))) [] (hO (L2 a [])) 2 far A) (hb:BegunTo (IntKind.i64.wrap (1+XR z0 6)) (IntKind.i64.wrap (1+XR z1 4)) (.slice 0 0 1 ln cn) a n H j ws ks hs) (hp:PlaysTo (.nils) [] n H j ws ks hs σ') (h7:¬ (σ'.cl.length:Int) > 7) (ho:OrdPre σ'.cl):
  ∃ J' b',YC β fr3 (trO (slots J' 0 slT)) [] (hO (L2 a [])) 2 far b'∧Steps PR (At fr3 none kind cs A todo1) (At fr3 none kind cs b' [.code .ret]):=
 YC.eval (n:=400) (m:=21) (orc:=bits 15 0b011100010001111) (πl:=[0,1]) (nx':=40) (far:=far) (todo:=todo1) (todo':=[.code .ret]) (l:=L2 a []) (l':=L2 a []) (sl':=slT) (FJ_ok 1 0 n H j ws ks hs σ') (SJ_ok 1 0 n H j ws ks hs σ') kind cs hA
  (by kernel_rfl) (XB (XF.2 ho)<|cN h7<|XB (pl_pre (ql:=1) hp)<|XB (XF.2 hb)<|nilB) rfl rfl rfl rfl rfl (fun m=>Nat.blt m 2) (p_all rfl rfl) (fun m hm=>by rw [hβ] at hm;exact Nat.blt_eq.mpr (by omega)) (by rw [hβ];kernel_rfl) (by kernel_rfl) (by kernel_rfl)
theorem gt_NS (hβ:β.n0=1) (hA:YC β fr3 (trO (slots J 0 (sl1 z0 z1 (.slice 0 0 1 ln cn) (.nils)))) [] (hO (L2 a [])) 2 far A) (hb:BegunTo (IntKind.i64.wrap (1+XR z0 6)) (IntKind.i64.wrap (1+XR z1 4)) (.slice 0 0 1 ln cn) a n H j ws ks hs) (hp:PlaysTo (.nils) [] n H j ws ks hs σ') (h7:(σ'.cl.length:Int) > 7):
  ∃ J' b',YC β fr3 (trO (slots J' 0 slT)) [] (hO (L2 a [])) 2 far b'∧Steps PR (At fr3 none kind cs A todo1) (At fr3 none kind cs b' todoG):=
 YC.eval (n:=400) (m:=18) (orc:=bits 11 0b01110001001) (πl:=[0,1]) (nx':=39) (far:=far) (todo:=todo1) (todo':=todoG) (l:=L2 a []) (l':=L2 a []) (sl':=slT) (FJ_ok 1 0 n H j ws ks hs σ') (SJ_ok 1 0 n H j ws ks hs σ') kind cs hA
  (by kernel_rfl) (cD h7<|XB (pl_pre (ql:=1) hp)<|XB (XF.2 hb)<|nilB) rfl rfl rfl rfl rfl (fun m=>Nat.blt m 2) (p_all rfl rfl) (fun m hm=>by rw [hβ] at hm;exact Nat.blt_eq.mpr (by omega)) (by rw [hβ];kernel_rfl) (by kernel_rfl) (by kernel_rfl)
theorem st_SN (hβ:β.n0=1) (hA:YC β fr3 (Tr.ofList [.int .i64 z0,.int .i64 z1,.nils,.slice 0 0 1 ll cl]) [] (hO ([some (.ro .i64 a)])) 1 far A):
  ∃ J' b',YC β fr3 (trO (slots J' 0 (sl1 z0 z1 (.nils) (.slice 0 0 1 ll cl)))) [] (hO (L2 a [])) 2 far b'∧Steps PR (At fr3 none kind cs A [.code f3Body]) (At fr3 none kind cs b' todo1):=
 YC.evalX (mk:=[0,2]) (n:=400) (m:=4) (orc:=[]) (πl:=[0,1]) (nx':=3) (far:=far) (todo:=[.code f3Body]) (todo':=todo1) (l:=[some (.ro .i64 a)]) (l':=L2 a []) (lr:=L2 a []) (sl':=sl1 z0 z1 (.nils) (.slice 0 0 1 ll cl)) (B:=true) (FJ_ok 0 0 0 0 ⟨0,0,0,0,false,0⟩ [] [] [] σ00) (SJ_ok 0 0 0 0 ⟨0,0,0,0,false,0⟩ [] [] [] σ00) kind cs hA
  (by kernel_rfl) rfl rfl rfl rfl rfl rfl rfl (fun m=>Nat.blt m 2) (p_all rfl rfl) (fun m hm=>by rw [hβ] at hm;exact Nat.blt_eq.mpr (by omega)) (by rw [hβ];kernel_rfl) (by kernel_rfl) (by kernel_rfl)
theorem lo_SN (hβ:β.n0=1) (hA:YC β fr3 (trO (slots J 0 (sl1 z0 z1 (.nils) (.slice 0 0 1 ll cl)))) [] (hO (L2 a [])) 2 far A) (h:(ll:Int) > 400):
  ∃ J' b',YC β fr3 (trO (slots J' 0 slT)) [] (hO (L2 a [])) 2 far b'∧Steps PR (At fr3 none kind cs A todo1) (At fr3 none kind cs b' todoLo):=
 YC.eval (n:=400) (m:=6) (orc:=bits 1 1) (πl:=[0,1]) (nx':=2) (far:=far) (todo:=todo1) (todo':=todoLo) (l:=L2 a []) (l':=L2 a []) (sl':=slT) (FJ_ok 0 0 0 0 ⟨0,0,0,0,false,0⟩ [] [] [] σ00) (SJ_ok 0 0 0 0 ⟨0,0,0,0,false,0⟩ [] [] [] σ00) kind cs hA
  (by kernel_rfl) (XB (decide_eq_true h) nilB) rfl rfl rfl rfl rfl (fun m=>Nat.blt m 2) (p_all rfl rfl) (fun m hm=>by rw [hβ] at hm;exact Nat.blt_eq.mpr (by omega)) (by rw [hβ];kernel_rfl) (by kernel_rfl) (by kernel_rfl)
theorem ok_SN (hβ:β.n0=1) (hA:YC β fr3 (trO (slots J 0 (sl1 z0 z1 (.nils) (.slice 0 0 1 ll cl)))) [] (hO (L2 a [])) 2 far A) (hl:¬ (ll:Int) > 400) (hb:BegunTo (IntKind.i64.wrap (1+XR z0 6)) (IntKind.i64.wrap (1+XR z1 4)) (.nils) [] n H j ws ks hs) (hp:PlaysTo (.slice 0 0 1 ll cl) a n H j ws ks hs σ') (h7:¬ (σ'.cl.length:Int) > 7) (ho:OrdPre σ'.cl):
  ∃ J' b',YC β fr3 (trO (slots J' 0 slT)) [] (hO (L2 a [])) 2 far b'∧Steps PR (At fr3 none kind cs A todo1) (At fr3 none kind cs b' [.code .ret]):=
 YC.eval (n:=400) (m:=21) (orc:=bits 15 0b011100010001111) (πl:=[0,1]) (nx':=40) (far:=far) (todo:=todo1) (todo':=[.code .ret]) (l:=L2 a []) (l':=L2 a []) (sl':=slT) (FJ_ok 0 1 n H j ws ks hs σ') (SJ_ok 0 1 n H j ws ks hs σ') kind cs hA
  (by kernel_rfl) (XB (XF.2 ho)<|cN h7<|XB (pl_pre (ql:=0) hp)<|XB (XF.2 hb)<|cN hl<|nilB) rfl rfl rfl rfl rfl (fun m=>Nat.blt m 2) (p_all rfl rfl) (fun m hm=>by rw [hβ] at hm;exact Nat.blt_eq.mpr (by omega)) (by rw [hβ];kernel_rfl) (by kernel_rfl) (by kernel_rfl)
theorem gt_SN (hβ:β.n0=1) (hA:YC β fr3 (trO (slots J 0 (sl1 z0 z1 (.nils) (.slice 0 0 1 ll cl)))) [] (hO (L2 a [])) 2 far A) (hl:¬ (ll:Int) > 400) (hb:BegunTo (IntKind.i64.wrap (1+XR z0 6)) (IntKind.i64.wrap (1+XR z1 4)) (.nils) [] n H j ws ks hs) (hp:PlaysTo (.slice 0 0 1 ll cl) a n H j ws ks hs σ') (h7:(σ'.cl.length:Int) > 7):
  ∃ J' b',YC β fr3 (trO (slots J' 0 slT)) [] (hO (L2 a [])) 2 far b'∧Steps PR (At fr3 none kind cs A todo1) (At fr3 none kind cs b' todoG):=
 YC.eval (n:=400) (m:=18) (orc:=bits 11 0b01110001001) (πl:=[0,1]) (nx':=39) (far:=far) (todo:=todo1) (todo':=todoG) (l:=L2 a []) (l':=L2 a []) (sl':=slT) (FJ_ok 0 1 n H j ws ks hs σ') (SJ_ok 0 1 n H j ws ks hs σ') kind cs hA
  (by kernel_rfl) (cD h7<|XB (pl_pre (ql:=0) hp)<|XB (XF.2 hb)<|cN hl<|nilB) rfl rfl rfl rfl rfl (fun m=>Nat.blt m 2) (p_all rfl rfl) (fun m hm=>by rw [hβ] at hm;exact Nat.blt_eq.mpr (by omega)) (by rw [hβ];kernel_rfl) (by kernel_rfl) (by kernel_rfl)
theorem st_NN (hβ:β.n0=0) (hA:YC β fr3 (Tr.ofList [.int .i64 z0,.int .i64 z1,.nils,.nils]) [] (hO ([])) 0 far A):
  ∃ J' b',YC β fr3 (trO (slots J' 0 (sl1 z0 z1 (.nils) (.nils)))) [] (hO (L2 [] [])) 2 far b'∧Steps PR (At fr3 none kind cs A [.code f3Body]) (At fr3 none kind cs b' todo1):=
 YC.evalX (mk:=[2,2]) (n:=400) (m:=4) (orc:=[]) (πl:=[0,1]) (nx':=2) (far:=far) (todo:=[.code f3Body]) (todo':=todo1) (l:=[]) (l':=L2 [] []) (lr:=L2 [] []) (sl':=sl1 z0 z1 (.nils) (.nils)) (B:=true) (FJ_ok 0 0 0 0 ⟨0,0,0,0,false,0⟩ [] [] [] σ00) (SJ_ok 0 0 0 0 ⟨0,0,0,0,false,0⟩ [] [] [] σ00) kind cs hA
  (by kernel_rfl) rfl rfl rfl rfl rfl rfl rfl (fun m=>Nat.blt m 2) (p_all rfl rfl) (fun m hm=>by rw [hβ] at hm;exact Nat.blt_eq.mpr (by omega)) (by rw [hβ];kernel_rfl) (by kernel_rfl) (by kernel_rfl)
theorem ok_NN (hβ:β.n0=0) (hA:YC β fr3 (trO (slots J 0 (sl1 z0 z1 (.nils) (.nils)))) [] (hO (L2 [] [])) 2 far A) (hb:BegunTo (IntKind.i64.wrap (1+XR z0 6)) (IntKind.i64.wrap (1+XR z1 4)) (.nils) [] n H j ws ks hs) (hp:PlaysTo (.nils) [] n H j ws ks hs σ') (h7:¬ (σ'.cl.length:Int) > 7) (ho:OrdPre σ'.cl):
  ∃ J' b',YC β fr3 (trO (slots J' 0 slT)) [] (hO (L2 [] [])) 2 far b'∧Steps PR (At fr3 none kind cs A todo1) (At fr3 none kind cs b' [.code .ret]):=
 YC.eval (n:=400) (m:=21) (orc:=bits 15 0b011100010001111) (πl:=[0,1]) (nx':=40) (far:=far) (todo:=todo1) (todo':=[.code .ret]) (l:=L2 [] []) (l':=L2 [] []) (sl':=slT) (FJ_ok 0 1 n H j ws ks hs σ') (SJ_ok 0 1 n H j ws ks hs σ') kind cs hA
  (by kernel_rfl) (XB (XF.2 ho)<|cN h7<|XB (pl_pre (ql:=0) hp)<|XB (XF.2 hb)<|nilB) rfl rfl rfl rfl rfl (fun m=>Nat.blt m 2) (p_all rfl rfl) (fun m hm=>by rw [hβ] at hm;exact Nat.blt_eq.mpr (by omega)) (by rw [hβ];kernel_rfl) (by kernel_rfl) (by kernel_rfl)
theorem gt_NN (hβ:β.n0=0) (hA:YC β fr3 (trO (slots J 0 (sl1 z0 z1 (.nils) (.nils)))) [] (hO (L2 [] [])) 2 far A) (hb:BegunTo (IntKind.i64.wrap (1+XR z0 6)) (IntKind.i64.wrap (1+XR z1 4)) (.nils) [] n H j ws ks hs) (hp:PlaysTo (.nils) [] n H j ws ks hs σ') (h7:(σ'.cl.length:Int) > 7):
  ∃ J' b',YC β fr3 (trO (slots J' 0 slT)) [] (hO (L2 [] [])) 2 far b'∧Steps PR (At fr3 none kind cs A todo1) (At fr3 none kind cs b' todoG):=
 YC.eval (n:=400) (m:=18) (orc:=bits 11 0b01110001001) (πl:=[0,1]) (nx':=39) (far:=far) (todo:=todo1) (todo':=todoG) (l:=L2 [] []) (l':=L2 [] []) (sl':=slT) (FJ_ok 0 1 n H j ws ks hs σ') (SJ_ok 0 1 n H j ws ks hs σ') kind cs hA
  (by kernel_rfl) (cD h7<|XB (pl_pre (ql:=0) hp)<|XB (XF.2 hb)<|nilB) rfl rfl rfl rfl rfl (fun m=>Nat.blt m 2) (p_all rfl rfl) (fun m hm=>by rw [hβ] at hm;exact Nat.blt_eq.mpr (by omega)) (by rw [hβ];kernel_rfl) (by kernel_rfl) (by kernel_rfl)
end
end Go.Sx
namespace Go.Proofs.YtpnpmkdijmeddaaGreat
open Go.ChangeShapes Go.WideShapes Go.ChangeAt Go.RowKit
theorem Tryz.own:ownKnob Tryz.prog.godebug=none:=by kernel_rfl
structure Kept (W W':World):Prop where
 os:W'.os=W.os
 output:W'.output=W.output
 size:W.heap.size≤W'.heap.size
 old:∀ b,b<W.heap.size→W'.heap[b]?=W.heap[b]?
theorem Kept.but {W W':World} (h:Kept W W') (may:MemPlace→Prop):W.keptBut W' may:=by
 refine ⟨h.os,h.output,fun i hi=>?_⟩
 rw [h.old i hi]
 cases W.heap[i]? with
 |none=>trivial
 |some o=>cases o<;>simp
theorem Kept.frozen {W W':World} (h:Kept W W') (a:Addr) (ha:a.block<W.heap.size):W'.frozen? a=W.frozen? a:=by
 unfold World.frozen?
 rw [h.old _ ha]
theorem Kept.cell {W W':World} (h:Kept W W') (a:Addr) {v:Value} (ha:W.cell? a=some v):W'.cell? a=some v:=by
 have hlt:a.block<W.heap.size:=by
  unfold World.cell? at ha
  cases hb:W.heap[a.block]? with
  |none=>rw [hb] at ha;cases ha
  |some o=>exact (Array.getElem?_eq_some_iff.1 hb).1
 unfold World.cell? at ha ⊢
 rw [h.old _ hlt];exact ha
def IntsIn (W:World) (sl:Value):Prop:=
 sl=.slice none 0 0∨∃ (b off len cap:Nat) (zs:List Int),sl=.slice (some ⟨b,off,none⟩) len cap∧b<W.heap.size∧len≤cap∧zs.length=len∧
  (∀ i (h:i<zs.length),W.cell? ⟨b,off+i,none⟩=some (.int .i64 zs[i]))∧∀ z∈zs,(Lit.int .i64 z).wf=true
section
variable {H:Type} {enc:TypeId×Value→H} {P:Program}
theorem post_of_kept {f:Func} {s:ChangeSpec} {apart fresh handsOn again:Bool} {W W':World} {args:Array Value} {v:Value} {ds gs:List (DataW H)} {before pa pv:List MemPlace}
  (hW:DataW.Whole enc P f.params.toList s.vars apart W args.toList ds gs before)
  (hres:∀ (b:Nat) (sp:Nat→Bool) (hd:Bool),DataW.TrodAll enc P W' b sp hd f.resultTypes.toList (v.resultList f.resultTypes.size) (s.fn H (ds++gs)).results [])
  (hargs:∀ sp:Nat→Bool,(∀ p∈before,sp p.block=true)→DataW.TrodAll enc P W' 0 sp true f.params.toList args.toList (s.fn H (ds++gs)).args pa)
  (hvars:∀ sp:Nat→Bool,(∀ p∈before,sp p.block=true)→DataW.TrodVars enc P W' sp s.vars (s.fn H (ds++gs)).vars pv)
  (hps:before=pa++pv) (hk:Kept W W')
  (hok:∀ (j:Nat) (t:TypeId) (r:Value),f.resultTypes[j]?=some t→(v.resultList f.resultTypes.size)[j]?=some r→Value.okWide P W' .any 0 t r):
  s.post enc P f apart fresh handsOn again W args v W':=by
 have hold:∀ p∈before,(fun b=>decide (b<W.heap.size)) p.block=true:=fun p hp=>by simpa using hW.lt p hp
 have hlt:∀ p∈before,p.block<W.heap.size:=hW.lt
 refine ⟨ds,gs,before,[],pa,pv,hW,hres _ _ _,hargs _ hold,hvars _ hold,World.keptBut_mono (fun p hp=>⟨hp,?_⟩) (hk.but (·∈before)),fun _=>?_⟩
 ·rw [hps,List.mem_append] at hp
  exact Or.inr hp
 ·obtain ⟨_,_,_,_,_,hz,hn⟩:=hW
  refine ⟨hok,_,_,([]++pa)++pv,⟨[]++pa,pv,trodAll_append (hargs _ (fun _ _=>rfl)) (hres _ _ _),hvars _ (fun _ _=>rfl),rfl,?_,?_⟩,?_⟩
  ·intro b off hp
   have hp':MemPlace.cell b off∈before:=by rw [hps];simpa using hp
   rw [hk.frozen _ (hlt _ hp')]
   exact hz b off hp'
  ·intro ha
   have:=hn ha
   rw [hps] at this
   simpa using this
  ·intro p hp _
   rw [hps]
   simpa using hp
end
theorem slice_open {P:Program} {t e:TypeId} (hu:P.underlying t=some (.slice e)) {W:World} {sl:Value} {base:Nat} (h:Value.okWide P W .any base t sl):sl=.slice none 0 0∨∃ (b off len cap:Nat),sl=.slice (some ⟨b,off,none⟩) len cap∧b<W.heap.size∧len≤cap:=by
 have h1:Cell.okWide P W .any base t sl:=by
  unfold Value.okWide at h
  rw [hu] at h
  exact h
 have h2:Cell.ok P W .any base t sl:=by
  unfold Cell.okWide at h1
  rw [hu] at h1
  exact h1
 unfold Cell.ok at h2
 rw [hu] at h2
 cases sl with
 |slice a len cap=>
  cases a with
  |none=>
   cases len with
   |zero=>
    cases cap with
    |zero=>exact .inl rfl
    |succ c=>exact h2.elim
   |succ l=>exact h2.elim
  |some a=>
   obtain ⟨g1,g2,g3,g4,row,cells,g5,g6⟩:=h2
   obtain ⟨b,off,spot⟩:=a
   simp only at g4 g5
   subst g4
   refine .inr ⟨b,off,len,cap,rfl,?_,g1⟩
   unfold World.shape? at g5
   cases hb:W.heap[b]? with
   |none=>rw [hb] at g5;cases g5
   |some o=>exact (Array.getElem?_eq_some_iff.1 hb).1
 |_=>exact h2.elim
def LawWalk (f:FuncId):Prop:=∀ (W:World) (n m:Int) (sl sm:Value),(Lit.int .i64 n).wf=true→(Lit.int .i64 m).wf=true→IntsIn W sl→IntsIn W sm→Calls Tryz.prog f #[.int .i64 n,.int .i64 m,sl,sm] W fun e W'=>e=.returned (.bool true)∧Kept W W'
theorem take_getD {zs:List Int} {len i:Nat} (h:i<(zs.take len).length):(zs.take len)[i]=zs.getD i 0:=by
 have h1:i<zs.length:=by simp at h;omega
 rw [List.getElem_take,List.getD_eq_getElem?_getD,List.getElem?_eq_getElem h1];rfl
set_option maxRecDepth 100000 in
theorem row_arg {H:Type} {enc:TypeId×Value→H} {W:World} {v1:Value} {d1:DataW H} {p1:List MemPlace} (hv:Value.okWide Tryz.prog W .any 0 22 v1) (h1:DataW.Trod enc Tryz.prog W 0 (fun _=>true) true 22 v1 d1 p1):
  IntsIn W v1∧∀ W',Kept W W'→∀ sp:Nat→Bool,(∀ p∈p1,sp p.block=true)→DataW.Trod enc Tryz.prog W' 0 sp true 22 v1 d1 p1:=by
 have hsl:=slice_open Tryz.underlying22 hv
 rcases hsl with h|⟨b,off,len,cap,h,hb,hlc⟩
 ·subst h
  refine ⟨.inl rfl,fun W' _ sp _=>?_⟩
  obtain ⟨fuel,hf⟩:=h1
  rcases open_ints Tryz.underlying22 Tryz.underlying3 (by kernel_rfl) hf with ⟨hcs,hx⟩|⟨a,len',cap',zs,hcs,_⟩
  ·injection hx with hx1 hx2
   subst hx1;subst hx2
   exact shut_slice_nil Tryz.underlying22
  ·simp [Value.cells] at hcs
 ·subst h
  obtain ⟨fuel,hf⟩:=h1
  rcases open_ints Tryz.underlying22 Tryz.underlying3 (by kernel_rfl) hf with ⟨hcs,_⟩|⟨a,len',cap',zs,hcs,hba,hl,hm,hz,hx,hcell,hwz⟩
  ·simp [Value.cells] at hcs
  ·simp [Value.cells] at hcs
   obtain ⟨rfl,rfl,rfl⟩:=hcs
   simp only [if_true] at hz
   refine ⟨.inr ⟨b,off,len,cap,zs.take len,rfl,hb,hlc,by simp;omega,fun i hi=>?_,fun z hz=>hwz z (List.mem_of_mem_take hz)⟩,fun W' hk sp hsp=>?_⟩
   ·have hi':i<zs.length:=by simp at hi;omega
    have:=hcell i hi'
    rw [take_getD hi,← this]
    congr 1
    exact (Go.WideShapes.add_plain ..).symm
   ·injection hx with hx1 hx2
    subst hx1;subst hx2
    refine ⟨2,?_⟩
    refine shut_ints 0 Tryz.underlying22 Tryz.underlying3 (by kernel_rfl) (Nat.zero_le _) hl hm ?_ (fun i hi=>hk.cell _ (hcell i hi)) hwz
    cases hc:zs with
    |nil=>
     rw [hc] at hz;simp at hz
     have:len=0:=by omega
     simp [← hz,this]
    |cons z zs'=>
     have h2:sp b=true:=hsp (.cell b off) (by rw [hc];exact MemPlace.mem_row.2 ⟨0,by simp,rfl⟩)
     simp only [h2,if_true];rw [← hc];exact hz
set_option maxRecDepth 100000 in
theorem claim_lifted (hwalk:LawWalk 3) (os:Os) (started:os.Started) (H:Type) (enc:TypeId×Value→H):
  ReturnsInHanded {} Tryz.checked os 3 .any (Rows.claimJudgedSpec.pre6 enc Tryz.prog Tryz.f3 Rows.claimJudgedRow.domain false) (Rows.claimJudgedSpec.post enc Tryz.prog Tryz.f3 false true false false):=by
 refine returnsInHanded_of_change (C:=Tryz.checked) Tryz.own started (by kernel_rfl) Tryz.func3
  (ChangeSpec.witness6 (enc:=enc) (C:=Tryz.checked) false ⟨#[],#[.int .i64 0,.int .i64 0,.slice none 0 0,.slice none 0 0],[]⟩ 8 (by kernel_rfl) (by kernel_rfl) (by kernel_rfl) (by kernel_rfl)) ?_
 intro W base args ds gs before hval0 hW hcnd _
 have hval:∀ (j:Nat) t v,Tryz.f3.params[j]?=some t→args[j]?=some v→Value.okWide Tryz.prog W .any base t v:=hval0
 have hW':=hW
 obtain ⟨p,q,hA0,hV,rfl,hfz,hnd⟩:=hW
 have hA:DataW.TrodAll enc Tryz.prog W 0 (fun _=>true) true Tryz.f3.params.toList args.toList ds p:=hA0
 rw [Tryz.params3] at hA hval
 obtain ⟨v0,v1,v2,v3,d0,d1,d2,d3,p0,p1,p2,p3,hargs,rfl,rfl,h0,h1,h2,h3⟩:=trodAll_four hA
 obtain ⟨rfl,rfl⟩:=trodVars_none hV
 obtain rfl:args=#[v0,v1,v2,v3]:=by cases args;simp_all
 obtain ⟨n,rfl,rfl,rfl,wn⟩:=open_int Tryz.underlying3 (hval 0 3 v0 rfl rfl) h0
 obtain ⟨m,rfl,rfl,rfl,wm⟩:=open_int Tryz.underlying3 (hval 1 3 v1 rfl rfl) h1
 obtain ⟨hi2,hs2⟩:=row_arg (hval 2 22 v2 rfl rfl) h2
 obtain ⟨hi3,hs3⟩:=row_arg (hval 3 22 v3 rfl rfl) h3
 clear hA0 hval0
 simp only [List.append_nil,List.nil_append] at hW'
 refine (hwalk W n m v2 v3 wn wm hi2 hi3).mono fun e W' ⟨he,hk⟩=>?_
 subst he
 refine ⟨_,rfl,post_of_kept (pa:=p2++p3) (pv:=[]) hW' (fun _ _ _=>trodAll_mk1 (shut_bool Tryz.underlying4 _)) (fun sp hsp=>?_) (fun _ _=>rfl) (by simp) hk (ok_one (by kernel_rfl) rfl (okWide_bool_mk Tryz.underlying4 _))⟩
 exact trodAll_mk4 (shut_int Tryz.underlying3 wn) (shut_int Tryz.underlying3 wm) (hs2 W' hk sp fun p hp=>hsp p (by simp [hp])) (hs3 W' hk sp fun p hp=>hsp p (by simp [hp]))
theorem claim_said (hwalk:LawWalk 3):Rows.ClaimJudgedSaid:=
 OpenClaim.holds_of_wide 3 Tryz.f3 rfl rfl rfl rfl rfl rfl rfl ⟨rfl,rfl,rfl,rfl,rfl⟩ rfl rfl rfl rfl rfl (by kernel_rfl) Tryz.func3 (by kernel_rfl)
  (of_decide_eq_true (by kernel_rfl)) (by unfold Func.isWrapper;first|(rw [if_pos (by decide +kernel)];kernel_rfl)|(rw [if_neg (by decide +kernel)];exact ⟨rfl,rfl⟩))
  (fun os started H enc _=>claim_lifted hwalk os started H enc)
end Go.Proofs.YtpnpmkdijmeddaaGreat
namespace Go.Sx
open Go.Proofs
def EndJ (β:Base) (cs:List Frame) (A:Cf) (m2:List (Option Ob)):Prop:=∃ (J':Nat→V) (b':Cf) (todo:List Item),YC β fr3 (trO (slots J' 0 slT)) [] (hO m2) 2 far b'∧Steps PR (At fr3 none .normal cs A [.code f3Body]) (At fr3 none .normal cs b' todo)∧(todo=[]∨∃ k,todo=.code .ret::k)
theorem num_of (z:Int) {k:Int} (h0:0<k) (h1:k≤6):∃ n:Nat,IntKind.i64.wrap (1+XR z k)=n∧1≤n∧(n:Int)≤k:=by
 have:=pickF_rg z h0 (by omega)
 refine ⟨(1+XR z k).toNat,?_,by omega,by omega⟩
 rw [XM (by omega) (by omega)];omega
section
variable {β:Base} {cs:List Frame} {A:Cf} {a b:List Int} {ll cl ln cn:Nat} {z0 z1:Int}
theorem judge (x y:V) (zn zl:List Int) (hx:NumV x zn) (hy:NumV y zl) (h400:zl.length≤400):
  ∃ n H j ws ks hs σ',BegunTo (IntKind.i64.wrap (1+XR z0 6)) (IntKind.i64.wrap (1+XR z1 4)) x zn n H j ws ks hs∧PlaysTo y zl n H j ws ks hs σ'∧(¬ (σ'.cl.length:Int) > 7→OrdPre σ'.cl):=by
 obtain ⟨n,e1,n1,n2⟩:=num_of z0 (k:=6) (by decide) (by decide)
 obtain ⟨H,e2,H1,H2⟩:=num_of z1 (k:=4) (by decide) (by decide)
 have g:Geo n H:=⟨n1,by omega,H1,by omega⟩
 obtain ⟨σ',hp,hf,hN,_⟩:=plays_call hy h400 (ci_begin g (x:=x) (zs:=zn) (j:=jz x zn n H n))
 exact ⟨n,H,_,_,_,_,σ',by rw [e1,e2];exact begun_call g hx,hp,fun h=>fin_ord hN hf (by omega)⟩
theorem in_SS (hl:ll=a.length) (hn:ln=b.length) (hβ:β.n0=2) (hA:YC β fr3 (Tr.ofList [.int .i64 z0,.int .i64 z1,.slice 1 0 1 ln cn,.slice 0 0 1 ll cl]) [] (hO (L2 a b)) 2 far A):EndJ β cs A (L2 a b):=by
 obtain ⟨J1,b1,e1,s1⟩:=st_SS (kind:=.normal) (cs:=cs) hβ hA
 by_cases h:(ll:Int) > 400
 ·obtain ⟨J2,b2,e2,s2⟩:=lo_SS (kind:=.normal) (cs:=cs) hβ e1 h
  exact ⟨J2,b2,_,e2,s1.trans s2,.inr ⟨todoLo.tail,by kernel_rfl⟩⟩
 ·obtain ⟨n,H,j,ws,ks,hs,σ',hb,hp,ho⟩:=judge (z0:=z0) (z1:=z1) (.slice 0 0 1 ln cn) (.slice 0 0 1 ll cl) b a (.inr ⟨ln,cn,hn,rfl⟩) (.inr ⟨ll,cl,hl,rfl⟩) (by omega)
  by_cases h7:(σ'.cl.length:Int) > 7
  ·obtain ⟨J2,b2,e2,s2⟩:=gt_SS (kind:=.normal) (cs:=cs) hβ e1 h hb hp h7
   exact ⟨J2,b2,_,e2,s1.trans s2,.inr ⟨todoG.tail,by kernel_rfl⟩⟩
  ·obtain ⟨J2,b2,e2,s2⟩:=ok_SS (kind:=.normal) (cs:=cs) hβ e1 h hb hp h7 (ho h7)
   exact ⟨J2,b2,_,e2,s1.trans s2,.inr ⟨[],rfl⟩⟩
theorem in_SN (hl:ll=a.length) (hβ:β.n0=1) (hA:YC β fr3 (Tr.ofList [.int .i64 z0,.int .i64 z1,.nils,.slice 0 0 1 ll cl]) [] (hO [some (.ro .i64 a)]) 1 far A):EndJ β cs A (L2 a []):=by
 obtain ⟨J1,b1,e1,s1⟩:=st_SN (kind:=.normal) (cs:=cs) hβ hA
 by_cases h:(ll:Int) > 400
 ·obtain ⟨J2,b2,e2,s2⟩:=lo_SN (kind:=.normal) (cs:=cs) hβ e1 h
  exact ⟨J2,b2,_,e2,s1.trans s2,.inr ⟨todoLo.tail,by kernel_rfl⟩⟩
 ·obtain ⟨n,H,j,ws,ks,hs,σ',hb,hp,ho⟩:=judge (z0:=z0) (z1:=z1) .nils (.slice 0 0 1 ll cl) [] a (.inl rfl) (.inr ⟨ll,cl,hl,rfl⟩) (by omega)
  by_cases h7:(σ'.cl.length:Int) > 7
  ·obtain ⟨J2,b2,e2,s2⟩:=gt_SN (kind:=.normal) (cs:=cs) hβ e1 h hb hp h7
   exact ⟨J2,b2,_,e2,s1.trans s2,.inr ⟨todoG.tail,by kernel_rfl⟩⟩
  ·obtain ⟨J2,b2,e2,s2⟩:=ok_SN (kind:=.normal) (cs:=cs) hβ e1 h hb hp h7 (ho h7)
   exact ⟨J2,b2,_,e2,s1.trans s2,.inr ⟨[],rfl⟩⟩
theorem in_NS (hn:ln=a.length) (hβ:β.n0=1) (hA:YC β fr3 (Tr.ofList [.int .i64 z0,.int .i64 z1,.slice 0 0 1 ln cn,.nils]) [] (hO [some (.ro .i64 a)]) 1 far A):EndJ β cs A (L2 a []):=by
 obtain ⟨J1,b1,e1,s1⟩:=st_NS (kind:=.normal) (cs:=cs) hβ hA
 obtain ⟨n,H,j,ws,ks,hs,σ',hb,hp,ho⟩:=judge (z0:=z0) (z1:=z1) (.slice 0 0 1 ln cn) .nils a [] (.inr ⟨ln,cn,hn,rfl⟩) (.inl rfl) (by decide)
 by_cases h7:(σ'.cl.length:Int) > 7
 ·obtain ⟨J2,b2,e2,s2⟩:=gt_NS (kind:=.normal) (cs:=cs) hβ e1 hb hp h7
  exact ⟨J2,b2,_,e2,s1.trans s2,.inr ⟨todoG.tail,by kernel_rfl⟩⟩
 ·obtain ⟨J2,b2,e2,s2⟩:=ok_NS (kind:=.normal) (cs:=cs) hβ e1 hb hp h7 (ho h7)
  exact ⟨J2,b2,_,e2,s1.trans s2,.inr ⟨[],rfl⟩⟩
theorem in_NN (hβ:β.n0=0) (hA:YC β fr3 (Tr.ofList [.int .i64 z0,.int .i64 z1,.nils,.nils]) [] (hO []) 0 far A):EndJ β cs A (L2 [] []):=by
 obtain ⟨J1,b1,e1,s1⟩:=st_NN (kind:=.normal) (cs:=cs) hβ hA
 obtain ⟨n,H,j,ws,ks,hs,σ',hb,hp,ho⟩:=judge (z0:=z0) (z1:=z1) .nils .nils [] [] (.inl rfl) (.inl rfl) (by decide)
 by_cases h7:(σ'.cl.length:Int) > 7
 ·obtain ⟨J2,b2,e2,s2⟩:=gt_NN (kind:=.normal) (cs:=cs) hβ e1 hb hp h7
  exact ⟨J2,b2,_,e2,s1.trans s2,.inr ⟨todoG.tail,by kernel_rfl⟩⟩
 ·obtain ⟨J2,b2,e2,s2⟩:=ok_NN (kind:=.normal) (cs:=cs) hβ e1 hb hp h7 (ho h7)
  exact ⟨J2,b2,_,e2,s1.trans s2,.inr ⟨[],rfl⟩⟩
end
def roL (l:List (List Int)):List (Option Ob):=l.map fun zs=>some (.ro .i64 zs)
theorem roL_get {l:List (List Int)} {q:Nat} {o:Ob} (h:hO (roL l) q=some o):∃ zs,l[q]?=some zs∧o=.ro .i64 zs:=by
 simp only [hO,roL,List.getElem?_map] at h
 cases hq:l[q]? with
 |none=>rw [hq] at h;cases h
 |some zs=>rw [hq] at h;cases h;exact ⟨zs,rfl,rfl⟩
theorem ro_sr {W:World} {L:LM} {n0:Nat} {l:List (List Int)} (hn:n0=l.length) (h:∀ q (zs:List Int),l[q]?=some zs→∃ b,(L q).blk=some b∧b<W.heap.size∧∀ i (h:i<zs.length),W.cell? ⟨b,(L q).off+i,none⟩=some (.int .i64 zs[i])):
  SR (fun n=>n<n0) L (hO (roL l)) W:=fun L' hL'=>by
 refine ⟨fun q o ho=>?_,fun n m on om hn' _ _ hr=>?_⟩
 ·obtain ⟨zs,hq,rfl⟩:=roL_get ho
  obtain ⟨b,h1,h2,h3⟩:=h q zs hq
  have hlt:q<n0:=by
   rw [hn]
   refine Nat.lt_of_not_le fun hle=>?_
   rw [List.getElem?_eq_none hle] at hq;cases hq
  have e:=hL' q hlt
  exact ⟨b,by rw [← e];exact h1,h2,fun i hi=>by rw [← e];exact h3 i hi⟩
 ·obtain ⟨zs,_,rfl⟩:=roL_get hn'
  cases hr
theorem ro_all {l:List (List Int)} (m:Nat) (o:Ob) (h:hO (roL l) m=some o):o.isRo=true:=by
 obtain ⟨zs,_,rfl⟩:=roL_get h;rfl
theorem walk3:Go.Proofs.YtpnpmkdijmeddaaGreat.LawWalk 3:=by
 intro W n m sn sl wn wm hn hl
 have conv:∀ {e:Ending} {W':World},(e=.returned (.bool true)∧Kept W W')→e=.returned (.bool true)∧Go.Proofs.YtpnpmkdijmeddaaGreat.Kept W W':=fun ⟨h1,h2⟩=>⟨h1,⟨h2.os,h2.output,h2.size,fun b hb=>h2.old b hb (fun h=>h)⟩⟩
 rcases hn with rfl|⟨bn,on,ln,cn,zn,rfl,hbn,_,hln,hcn,_⟩<;>rcases hl with rfl|⟨bl,ol,ll,cl,zl,rfl,hbl,_,hll,hcl,_⟩
 ·refine (calls_of (c:=f3Body) (t:=8) (hi:=far) (n0:=0) (Hc:=hO (roL [])) (L:=fun _=>⟨none,0,0,0⟩) (args:=[.int .i64 n,.int .i64 m,.nils,.nils]) (x:=true) Tryz.func3 (by kernel_rfl) (Nat.blt_eq.mp (by kernel_rfl)) (by kernel_rfl) (Nat.ble_eq.mp (by kernel_rfl))
   (ro_sr rfl fun q zs h=>(by cases q<;>cases h)) ro_all (fun L' _=>rfl) fun cs a hA=>?_).mono fun _ _ h=>conv h
  obtain ⟨J',b',todo,e1,e2,e3⟩:=in_NN (cs:=cs) rfl hA
  exact ⟨b',_,_,_,_,todo,e1,rfl,e2,e3⟩
 ·refine (calls_of (c:=f3Body) (t:=8) (hi:=far) (n0:=1) (Hc:=hO (roL [zl])) (L:=fun _=>⟨some bl,ol,0,0⟩) (args:=[.int .i64 n,.int .i64 m,.nils,.slice 0 0 1 ll cl]) (x:=true) Tryz.func3 (by kernel_rfl) (Nat.blt_eq.mp (by kernel_rfl)) (by kernel_rfl) (Nat.ble_eq.mp (by kernel_rfl))
   (ro_sr rfl fun q zs h=>?_) ro_all (fun L' hL'=>?_) fun cs a hA=>?_).mono fun _ _ h=>conv h
  ·match q,h with
   |0,h=>cases h;exact ⟨bl,rfl,hbl,hcl⟩
  ·have h0:=hL' 0 (by decide)
   show [Value.int .i64 n,Value.int .i64 m,Value.slice none 0 0,Value.slice (some ⟨bl,ol,none⟩) ll cl]=[Value.int .i64 n,Value.int .i64 m,Value.slice none 0 0,Value.slice (some ⟨(L' 0).blk.getD 0,(L' 0).off+0*1,none⟩) ll cl]
   rw [← h0];rfl
  ·obtain ⟨J',b',todo,e1,e2,e3⟩:=in_SN (cs:=cs) hll.symm rfl hA
   exact ⟨b',_,_,_,_,todo,e1,rfl,e2,e3⟩
 ·refine (calls_of (c:=f3Body) (t:=8) (hi:=far) (n0:=1) (Hc:=hO (roL [zn])) (L:=fun _=>⟨some bn,on,0,0⟩) (args:=[.int .i64 n,.int .i64 m,.slice 0 0 1 ln cn,.nils]) (x:=true) Tryz.func3 (by kernel_rfl) (Nat.blt_eq.mp (by kernel_rfl)) (by kernel_rfl) (Nat.ble_eq.mp (by kernel_rfl))
   (ro_sr rfl fun q zs h=>?_) ro_all (fun L' hL'=>?_) fun cs a hA=>?_).mono fun _ _ h=>conv h
  ·match q,h with
   |0,h=>cases h;exact ⟨bn,rfl,hbn,hcn⟩
  ·have h0:=hL' 0 (by decide)
   show [Value.int .i64 n,Value.int .i64 m,Value.slice (some ⟨bn,on,none⟩) ln cn,Value.slice none 0 0]=[Value.int .i64 n,Value.int .i64 m,Value.slice (some ⟨(L' 0).blk.getD 0,(L' 0).off+0*1,none⟩) ln cn,Value.slice none 0 0]
   rw [← h0];rfl
  ·obtain ⟨J',b',todo,e1,e2,e3⟩:=in_NS (cs:=cs) hln.symm rfl hA
   exact ⟨b',_,_,_,_,todo,e1,rfl,e2,e3⟩
 ·refine (calls_of (c:=f3Body) (t:=8) (hi:=far) (n0:=2) (Hc:=hO (roL [zl,zn])) (L:=fun q=>if q=0 then ⟨some bl,ol,0,0⟩ else ⟨some bn,on,0,0⟩) (args:=[.int .i64 n,.int .i64 m,.slice 1 0 1 ln cn,.slice 0 0 1 ll cl]) (x:=true) Tryz.func3 (by kernel_rfl) (Nat.blt_eq.mp (by kernel_rfl)) (by kernel_rfl) (Nat.ble_eq.mp (by kernel_rfl))
   (ro_sr rfl fun q zs h=>?_) ro_all (fun L' hL'=>?_) fun cs a hA=>?_).mono fun _ _ h=>conv h
  ·match q,h with
   |0,h=>cases h;exact ⟨bl,rfl,hbl,hcl⟩
   |1,h=>cases h;exact ⟨bn,rfl,hbn,hcn⟩
  ·have h0:=hL' 0 (by decide)
   have h1:=hL' 1 (by decide)
   show [Value.int .i64 n,Value.int .i64 m,Value.slice (some ⟨bn,on,none⟩) ln cn,Value.slice (some ⟨bl,ol,none⟩) ll cl]=[Value.int .i64 n,Value.int .i64 m,Value.slice (some ⟨(L' 1).blk.getD 0,(L' 1).off+0*1,none⟩) ln cn,Value.slice (some ⟨(L' 0).blk.getD 0,(L' 0).off+0*1,none⟩) ll cl]
   rw [← h0,← h1];rfl
  ·obtain ⟨J',b',todo,e1,e2,e3⟩:=in_SS (cs:=cs) hll.symm hln.symm rfl hA
   exact ⟨b',_,_,_,_,todo,e1,rfl,e2,e3⟩
end Go.Sx
theorem Go.Proofs.YtpnpmkdijmeddaaGreat.claimJudged:Go.Proofs.YtpnpmkdijmeddaaGreat.Rows.ClaimJudgedSaid:=Go.Proofs.YtpnpmkdijmeddaaGreat.claim_said Go.Sx.walk3
#print axioms Go.Proofs.YtpnpmkdijmeddaaGreat.claimJudged
