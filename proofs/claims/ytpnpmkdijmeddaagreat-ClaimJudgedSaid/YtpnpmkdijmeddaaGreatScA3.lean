/- A Find's Step: its pieces. Printed by gen_A3.py. -/
import Derived.Test.YtpnpmkdijmeddaaGreatScA1
set_option maxRecDepth 100000
namespace Go.Sx
open Go.Proofs
section
variable {t:Tw} {key lv pr kn cu w by' n err:Int} {rs:List (List Int)} {j:MJ} {ws:List Int}
abbrev fArgs:List V:=[.ptr 0 0 0 0,.ptr 2 0 0 0]
def fL (x:FdC) (rs:List (List Int)) (n:Int) (j:MJ) (ws:List Int):List (Option Ob):=[some (findM 1 x),some (toldM rs),some (memM 3 n j),some (XL ws)]
theorem ov (hB:allB []=true):YD PR 90 fArgs 4 (hO (fL ⟨t,key,9,lv,pr,kn,cu,w,by',true,err⟩ rs n j ws)) (.bool true) 4 (hO (fL ⟨t,key,9,lv,pr,kn,cu,w,by',true,err⟩ rs n j ws)):=evX FB_ok SB_ok hB 4 (bits 11 0b00000000001) [0,1,2,3] (by kernel_rfl) (by kernel_rfl)
theorem f1M (hB:allB [decide (FdC.ok ⟨t,key,1,lv,pr,kn,(ws.getD (nxA t pr lv).toNat 0),w,kn,true,err⟩ rs∧-1≤IntKind.i64.wrap (t.height - 1)∧IntKind.i64.wrap (t.height - 1)<t.height),rawM (ws.getD (nxA t pr lv).toNat 0),decide (XS (nxA t pr lv) n ws),decide (t.has pr lv)]=true):YD PR 90 fArgs 4 (hO (fL ⟨t,key,1,lv,pr,kn,cu,w,by',true,err⟩ rs n j ws)) (.bool (FdC.ln (beginC ⟨t,key,1,lv,pr,kn,(ws.getD (nxA t pr lv).toNat 0),w,kn,true,err⟩ rs (IntKind.i64.wrap (t.height - 1)))==9)) 4 (hO (fL (beginC ⟨t,key,1,lv,pr,kn,(ws.getD (nxA t pr lv).toNat 0),w,kn,true,err⟩ rs (IntKind.i64.wrap (t.height - 1))) rs n (jLd ws (nxA t pr lv) j) ws)):=evX FB_ok SB_ok hB 4 (bits 16 0b0000000000011111) [0,1,2,3] (by kernel_rfl) (by kernel_rfl)
theorem f1D (hB:allB [decide (FdC.ok ⟨t,key,2,lv,pr,kn,(ws.getD (nxA t pr lv).toNat 0),w,kn,true,err⟩ (rs4 rs lv.toNat lv pr kn (ws.getD (nxA t pr lv).toNat 0))∧-1≤IntKind.i64.wrap (lv - 1)∧IntKind.i64.wrap (lv - 1)<t.height),decide (lv.toNat<(Go.Sx.rs (Go.Sx.rs (Go.Sx.rs rs lv.toNat 0 lv) lv.toNat 1 pr) lv.toNat 2 kn).length),decide (lv.toNat<(Go.Sx.rs (Go.Sx.rs rs lv.toNat 0 lv) lv.toNat 1 pr).length),decide (lv.toNat<(Go.Sx.rs rs lv.toNat 0 lv).length),decide (lv.toNat<rs.length),decide (0≤lv∧lv<(rs.length:Int)),decide (indT t.size (ws.getD (nxA t pr lv).toNat 0)<0),!rawM (ws.getD (nxA t pr lv).toNat 0),decide (XS (nxA t pr lv) n ws),decide (t.has pr lv)]=true):YD PR 90 fArgs 4 (hO (fL ⟨t,key,1,lv,pr,kn,cu,w,by',true,err⟩ rs n j ws)) (.bool (FdC.ln (beginC ⟨t,key,2,lv,pr,kn,(ws.getD (nxA t pr lv).toNat 0),w,kn,true,err⟩ (rs4 rs lv.toNat lv pr kn (ws.getD (nxA t pr lv).toNat 0)) (IntKind.i64.wrap (lv - 1)))==9)) 4 (hO (fL (beginC ⟨t,key,2,lv,pr,kn,(ws.getD (nxA t pr lv).toNat 0),w,kn,true,err⟩ (rs4 rs lv.toNat lv pr kn (ws.getD (nxA t pr lv).toNat 0)) (IntKind.i64.wrap (lv - 1))) (rs4 rs lv.toNat lv pr kn (ws.getD (nxA t pr lv).toNat 0)) n (jLd ws (nxA t pr lv) j) ws)):=evX FB_ok SB_ok hB 4 (bits 22 0b0000000000011101111111) [0,1,2,3] (by kernel_rfl) (by kernel_rfl)
theorem f1L (hB:allB [!decide (indT t.size (ws.getD (nxA t pr lv).toNat 0)<0),!rawM (ws.getD (nxA t pr lv).toNat 0),decide (XS (nxA t pr lv) n ws),decide (t.has pr lv)]=true):YD PR 90 fArgs 4 (hO (fL ⟨t,key,1,lv,pr,kn,cu,w,by',true,err⟩ rs n j ws)) (.bool (FdC.ln ⟨t,key,2,lv,pr,kn,(ws.getD (nxA t pr lv).toNat 0),w,kn,true,err⟩==9)) 4 (hO (fL ⟨t,key,2,lv,pr,kn,(ws.getD (nxA t pr lv).toNat 0),w,kn,true,err⟩ rs n (jLd ws (nxA t pr lv) j) ws)):=evX FB_ok SB_ok hB 4 (bits 16 0b0000000000011100) [0,1,2,3] (by kernel_rfl) (by kernel_rfl)
theorem f2M (hB:allB [rawM (ws.getD (nxA t (indT t.size cu) lv).toNat 0),decide (XS (nxA t (indT t.size cu) lv) n ws),decide (t.has (indT t.size cu) lv),decide (t.has pr lv)]=true):YD PR 90 fArgs 4 (hO (fL ⟨t,key,2,lv,pr,kn,cu,w,by',true,err⟩ rs n j ws)) (.bool (FdC.ln ⟨t,key,3,lv,pr,kn,cu,(ws.getD (nxA t (indT t.size cu) lv).toNat 0),cu,true,err⟩==9)) 4 (hO (fL ⟨t,key,3,lv,pr,kn,cu,(ws.getD (nxA t (indT t.size cu) lv).toNat 0),cu,true,err⟩ rs n (jLd ws (nxA t (indT t.size cu) lv) j) ws)):=evX FB_ok SB_ok hB 4 (bits 17 0b00000000000101111) [0,1,2,3] (by kernel_rfl) (by kernel_rfl)
theorem f2N (hB:allB [!rawM (ws.getD (nxA t (indT t.size cu) lv).toNat 0),decide (XS (nxA t (indT t.size cu) lv) n ws),decide (t.has (indT t.size cu) lv),decide (t.has pr lv)]=true):YD PR 90 fArgs 4 (hO (fL ⟨t,key,2,lv,pr,kn,cu,w,by',true,err⟩ rs n j ws)) (.bool (FdC.ln ⟨t,key,4,lv,pr,kn,cu,(ws.getD (nxA t (indT t.size cu) lv).toNat 0),cu,true,err⟩==9)) 4 (hO (fL ⟨t,key,4,lv,pr,kn,cu,(ws.getD (nxA t (indT t.size cu) lv).toNat 0),cu,true,err⟩ rs n (jLd ws (nxA t (indT t.size cu) lv) j) ws)):=evX FB_ok SB_ok hB 4 (bits 17 0b00000000000101110) [0,1,2,3] (by kernel_rfl) (by kernel_rfl)
theorem f3F (hB:allB [decide (FdC.ok ⟨t,key,3,lv,pr,kn,cu,w,kn,true,err⟩ rs∧-1≤IntKind.i64.wrap (t.height - 1)∧IntKind.i64.wrap (t.height - 1)<t.height),!decide (ws.getD (nxA t pr lv).toNat 0=cu),decide (XS (nxA t pr lv) n ws),decide (t.has pr lv)]=true):YD PR 90 fArgs 4 (hO (fL ⟨t,key,3,lv,pr,kn,cu,w,by',true,err⟩ rs n j ws)) (.bool (FdC.ln (beginC ⟨t,key,3,lv,pr,kn,cu,w,kn,true,err⟩ rs (IntKind.i64.wrap (t.height - 1)))==9)) 4 (hO (fL (beginC ⟨t,key,3,lv,pr,kn,cu,w,kn,true,err⟩ rs (IntKind.i64.wrap (t.height - 1))) rs n (jCas ws (nxA t pr lv) cu (rawC w) j) (casW ws (nxA t pr lv).toNat cu (rawC w)))):=evX FB_ok SB_ok hB 4 (bits 18 0b000000000001001111) [0,1,2,3] (by kernel_rfl) (by kernel_rfl)
theorem f3D (hB:allB [decide (FdC.ok ⟨t,key,2,lv,pr,kn,(rawC w),w,kn,true,err⟩ (rs4 rs lv.toNat lv pr kn (rawC w))∧-1≤IntKind.i64.wrap (lv - 1)∧IntKind.i64.wrap (lv - 1)<t.height),decide (lv.toNat<(Go.Sx.rs (Go.Sx.rs (Go.Sx.rs rs lv.toNat 0 lv) lv.toNat 1 pr) lv.toNat 2 kn).length),decide (lv.toNat<(Go.Sx.rs (Go.Sx.rs rs lv.toNat 0 lv) lv.toNat 1 pr).length),decide (lv.toNat<(Go.Sx.rs rs lv.toNat 0 lv).length),decide (lv.toNat<rs.length),decide (0≤lv∧lv<(rs.length:Int)),decide (indT t.size (rawC w)<0),!!decide (ws.getD (nxA t pr lv).toNat 0=cu),decide (XS (nxA t pr lv) n ws),decide (t.has pr lv)]=true):YD PR 90 fArgs 4 (hO (fL ⟨t,key,3,lv,pr,kn,cu,w,by',true,err⟩ rs n j ws)) (.bool (FdC.ln (beginC ⟨t,key,2,lv,pr,kn,(rawC w),w,kn,true,err⟩ (rs4 rs lv.toNat lv pr kn (rawC w)) (IntKind.i64.wrap (lv - 1)))==9)) 4 (hO (fL (beginC ⟨t,key,2,lv,pr,kn,(rawC w),w,kn,true,err⟩ (rs4 rs lv.toNat lv pr kn (rawC w)) (IntKind.i64.wrap (lv - 1))) (rs4 rs lv.toNat lv pr kn (rawC w)) n (jCas ws (nxA t pr lv) cu (rawC w) j) (casW ws (nxA t pr lv).toNat cu (rawC w)))):=evX FB_ok SB_ok hB 4 (bits 24 0b000000000001001101111111) [0,1,2,3] (by kernel_rfl) (by kernel_rfl)
theorem f3L (hB:allB [!decide (indT t.size (rawC w)<0),!!decide (ws.getD (nxA t pr lv).toNat 0=cu),decide (XS (nxA t pr lv) n ws),decide (t.has pr lv)]=true):YD PR 90 fArgs 4 (hO (fL ⟨t,key,3,lv,pr,kn,cu,w,by',true,err⟩ rs n j ws)) (.bool (FdC.ln ⟨t,key,2,lv,pr,kn,(rawC w),w,kn,true,err⟩==9)) 4 (hO (fL ⟨t,key,2,lv,pr,kn,(rawC w),w,kn,true,err⟩ rs n (jCas ws (nxA t pr lv) cu (rawC w) j) (casW ws (nxA t pr lv).toNat cu (rawC w)))):=evX FB_ok SB_ok hB 4 (bits 18 0b000000000001001100) [0,1,2,3] (by kernel_rfl) (by kernel_rfl)
theorem f4G (hB:allB [decide (FdC.ok ⟨t,key,4,lv,pr,kn,cu,w,cu,true,err⟩ (rs4 rs lv.toNat lv pr kn cu)∧-1≤IntKind.i64.wrap (lv - 1)∧IntKind.i64.wrap (lv - 1)<t.height),decide (lv.toNat<(Go.Sx.rs (Go.Sx.rs (Go.Sx.rs rs lv.toNat 0 lv) lv.toNat 1 pr) lv.toNat 2 kn).length),decide (lv.toNat<(Go.Sx.rs (Go.Sx.rs rs lv.toNat 0 lv) lv.toNat 1 pr).length),decide (lv.toNat<(Go.Sx.rs rs lv.toNat 0 lv).length),decide (lv.toNat<rs.length),decide (0≤lv∧lv<(rs.length:Int)),decide (ws.getD (ptA t (indT t.size cu) 0).toNat 0≥key),decide (XS (ptA t (indT t.size cu) 0) n ws),decide (t.hasP (indT t.size cu) 0),decide (t.has pr lv)]=true):YD PR 90 fArgs 4 (hO (fL ⟨t,key,4,lv,pr,kn,cu,w,by',true,err⟩ rs n j ws)) (.bool (FdC.ln (beginC ⟨t,key,4,lv,pr,kn,cu,w,cu,true,err⟩ (rs4 rs lv.toNat lv pr kn cu) (IntKind.i64.wrap (lv - 1)))==9)) 4 (hO (fL (beginC ⟨t,key,4,lv,pr,kn,cu,w,cu,true,err⟩ (rs4 rs lv.toNat lv pr kn cu) (IntKind.i64.wrap (lv - 1))) (rs4 rs lv.toNat lv pr kn cu) n (jLd ws (ptA t (indT t.size cu) 0) j) ws)):=evX FB_ok SB_ok hB 4 (bits 25 0b0000000000010001111111111) [0,1,2,3] (by kernel_rfl) (by kernel_rfl)
theorem f4D (hB:allB [decide (FdC.ok ⟨t,key,2,lv,(indT t.size cu),cu,w,w,cu,true,err⟩ (rs4 rs lv.toNat lv (indT t.size cu) cu w)∧-1≤IntKind.i64.wrap (lv - 1)∧IntKind.i64.wrap (lv - 1)<t.height),decide (lv.toNat<(Go.Sx.rs (Go.Sx.rs (Go.Sx.rs rs lv.toNat 0 lv) lv.toNat 1 (indT t.size cu)) lv.toNat 2 cu).length),decide (lv.toNat<(Go.Sx.rs (Go.Sx.rs rs lv.toNat 0 lv) lv.toNat 1 (indT t.size cu)).length),decide (lv.toNat<(Go.Sx.rs rs lv.toNat 0 lv).length),decide (lv.toNat<rs.length),decide (0≤lv∧lv<(rs.length:Int)),decide (indT t.size w<0),!decide (ws.getD (ptA t (indT t.size cu) 0).toNat 0≥key),decide (XS (ptA t (indT t.size cu) 0) n ws),decide (t.hasP (indT t.size cu) 0),decide (t.has pr lv)]=true):YD PR 90 fArgs 4 (hO (fL ⟨t,key,4,lv,pr,kn,cu,w,by',true,err⟩ rs n j ws)) (.bool (FdC.ln (beginC ⟨t,key,2,lv,(indT t.size cu),cu,w,w,cu,true,err⟩ (rs4 rs lv.toNat lv (indT t.size cu) cu w) (IntKind.i64.wrap (lv - 1)))==9)) 4 (hO (fL (beginC ⟨t,key,2,lv,(indT t.size cu),cu,w,w,cu,true,err⟩ (rs4 rs lv.toNat lv (indT t.size cu) cu w) (IntKind.i64.wrap (lv - 1))) (rs4 rs lv.toNat lv (indT t.size cu) cu w) n (jLd ws (ptA t (indT t.size cu) 0) j) ws)):=evX FB_ok SB_ok hB 4 (bits 26 0b00000000000100011101111111) [0,1,2,3] (by kernel_rfl) (by kernel_rfl)
theorem f4L (hB:allB [!decide (indT t.size w<0),!decide (ws.getD (ptA t (indT t.size cu) 0).toNat 0≥key),decide (XS (ptA t (indT t.size cu) 0) n ws),decide (t.hasP (indT t.size cu) 0),decide (t.has pr lv)]=true):YD PR 90 fArgs 4 (hO (fL ⟨t,key,4,lv,pr,kn,cu,w,by',true,err⟩ rs n j ws)) (.bool (FdC.ln ⟨t,key,2,lv,(indT t.size cu),cu,w,w,cu,true,err⟩==9)) 4 (hO (fL ⟨t,key,2,lv,(indT t.size cu),cu,w,w,cu,true,err⟩ rs n (jLd ws (ptA t (indT t.size cu) 0) j) ws)):=evX FB_ok SB_ok hB 4 (bits 20 0b00000000000100011100) [0,1,2,3] (by kernel_rfl) (by kernel_rfl)
end
end Go.Sx
namespace Go.Sx
open Go.Proofs
def Tw.fit (t:Tw) (n:Int) (ws:List Int):Prop:=t.ok∧t.nodes+t.size*(4+t.height)≤n∧t.heads+t.height≤n∧n≤4096∧ws.length=4096
instance (t:Tw) (n:Int) (ws:List Int):Decidable (t.fit n ws):=inferInstanceAs (Decidable (_∧_))
theorem Tw.fit.nx {t:Tw} {n i l:Int} {ws:List Int} (h:t.fit n ws) (g:t.has i l):XS (nxA t i l) n ws:=by
 obtain ⟨⟨a1,a2,a3,a4,a5,a6,a7,a8⟩,h2,h3,h4,h5⟩:=h
 obtain ⟨_,g1,g2,g3⟩:=g
 unfold nxA XS
 have hc:t.height=1∨t.height=2∨t.height=3∨t.height=4:=by omega
 by_cases e:i=-1
 ·rw [if_pos e];exact ⟨by omega,by omega,h4,h5⟩
 ·rw [if_neg e]
  have g3:=g3.resolve_left e
  generalize t.height=H at *
  rcases hc with rfl|rfl|rfl|rfl<;>exact ⟨by omega,by omega,h4,h5⟩
theorem Tw.fit.pt {t:Tw} {n i p:Int} {ws:List Int} (h:t.fit n ws) (g:t.hasP i p):XS (ptA t i p) n ws:=by
 obtain ⟨⟨a1,a2,a3,a4,a5,a6,a7,a8⟩,h2,h3,h4,h5⟩:=h
 obtain ⟨_,g1,g2,g3,g4⟩:=g
 unfold ptA XS
 have hc:t.height=1∨t.height=2∨t.height=3∨t.height=4:=by omega
 generalize t.height=H at *
 rcases hc with rfl|rfl|rfl|rfl<;>exact ⟨by omega,by omega,h4,h5⟩
theorem indT_lt {s w:Int} (h:0≤indT s w):indT s w<s:=by
 unfold indT at h ⊢
 split at h
 ·omega
 ·rename_i g;rw [if_neg g];omega
def fPre (x:FdC) (rs:List (List Int)) (n:Int) (ws:List Int):Prop:=
 x.ok rs∧x.t.fit n ws∧x.made=true∧(x.ln=9∨(0≤x.lv∧x.lv<x.t.height∧(x.pr=-1∨(0≤x.pr∧x.pr<x.t.size))∧(x.ln=1∨((x.ln=2∨x.ln=3∨x.ln=4)∧0≤indT x.t.size x.cu))))
instance (x:FdC) (rs:List (List Int)) (n:Int) (ws:List Int):Decidable (fPre x rs n ws):=inferInstanceAs (Decidable (_∧_))
structure FO where
 x:FdC
 rs:List (List Int)
 j:MJ
 ws:List Int
def doneC (x:FdC) (rs:List (List Int)) (j:MJ) (ws:List Int):FO:=
 ⟨beginC x (rs.set x.lv.toNat [x.lv,x.pr,x.kn,x.cu]) (x.lv - 1),rs.set x.lv.toNat [x.lv,x.pr,x.kn,x.cu],j,ws⟩
def looksC (x:FdC) (rs:List (List Int)) (j:MJ) (ws:List Int):FO:=
 if indT x.t.size x.cu<0 then doneC {x with ln:=2} rs j ws else ⟨{x with ln:=2},rs,j,ws⟩
def anewC (x:FdC) (rs:List (List Int)) (j:MJ) (ws:List Int):FO:=⟨beginC x rs (x.t.height - 1),rs,j,ws⟩
def fstC (x:FdC) (rs:List (List Int)) (j:MJ) (ws:List Int):FO:=
 if x.ln=1 then
  if rawM (ws.getD (nxA x.t x.pr x.lv).toNat 0) then anewC {x with by':=x.kn,cu:=ws.getD (nxA x.t x.pr x.lv).toNat 0} rs (jLd ws (nxA x.t x.pr x.lv) j) ws
  else looksC {x with by':=x.kn,cu:=ws.getD (nxA x.t x.pr x.lv).toNat 0} rs (jLd ws (nxA x.t x.pr x.lv) j) ws
 else if x.ln=2 then
  ⟨{x with by':=x.cu,w:=ws.getD (nxA x.t (indT x.t.size x.cu) x.lv).toNat 0,ln:=if rawM (ws.getD (nxA x.t (indT x.t.size x.cu) x.lv).toNat 0) then 3 else 4},rs,jLd ws (nxA x.t (indT x.t.size x.cu) x.lv) j,ws⟩
 else if x.ln=3 then
  if ws.getD (nxA x.t x.pr x.lv).toNat 0=x.cu then looksC {x with by':=x.kn,cu:=rawC x.w} rs (jCas ws (nxA x.t x.pr x.lv) x.cu (rawC x.w) j) (casW ws (nxA x.t x.pr x.lv).toNat x.cu (rawC x.w))
  else anewC {x with by':=x.kn} rs (jCas ws (nxA x.t x.pr x.lv) x.cu (rawC x.w) j) (casW ws (nxA x.t x.pr x.lv).toNat x.cu (rawC x.w))
 else if x.ln=4 then
  if ws.getD (ptA x.t (indT x.t.size x.cu) 0).toNat 0≥x.key then doneC {x with by':=x.cu} rs (jLd ws (ptA x.t (indT x.t.size x.cu) 0) j) ws
  else looksC {x with by':=x.cu,pr:=indT x.t.size x.cu,kn:=x.cu,cu:=x.w} rs (jLd ws (ptA x.t (indT x.t.size x.cu) 0) j) ws
 else ⟨x,rs,j,ws⟩
theorem beginC_keep (x:FdC) (rs:List (List Int)) (l:Int):(beginC x rs l).t=x.t∧(beginC x rs l).key=x.key∧(beginC x rs l).made=x.made∧(beginC x rs l).err=x.err:=by
 unfold beginC
 split
 ·exact ⟨rfl,rfl,rfl,rfl⟩
 ·split<;>exact ⟨rfl,rfl,rfl,rfl⟩
theorem looksC_keep (x:FdC) (rs:List (List Int)) (j:MJ) (ws:List Int):(looksC x rs j ws).x.t=x.t∧(looksC x rs j ws).x.key=x.key∧(looksC x rs j ws).x.made=x.made∧(looksC x rs j ws).x.err=x.err:=by
 unfold looksC doneC
 split
 ·exact beginC_keep _ _ _
 ·exact ⟨rfl,rfl,rfl,rfl⟩
theorem fstC_keep (x:FdC) (rs:List (List Int)) (j:MJ) (ws:List Int):(fstC x rs j ws).x.t=x.t∧(fstC x rs j ws).x.key=x.key∧(fstC x rs j ws).x.made=x.made∧(fstC x rs j ws).x.err=x.err:=by
 unfold fstC
 split
 ·split
  ·exact beginC_keep _ _ _
  ·exact looksC_keep _ _ _ _
 ·split
  ·exact ⟨rfl,rfl,rfl,rfl⟩
  ·split
   ·split
    ·exact looksC_keep _ _ _ _
    ·exact beginC_keep _ _ _
   ·split
    ·split
     ·exact beginC_keep _ _ _
     ·exact looksC_keep _ _ _ _
    ·exact ⟨rfl,rfl,rfl,rfl⟩
def fL' (n:Int) (o:FO):List (Option Ob):=fL o.x o.rs n o.j o.ws
theorem fst_call {x:FdC} {rs:List (List Int)} {n:Int} {j:MJ} {ws:List Int} (h:fPre x rs n ws):
  YD PR 90 fArgs 4 (hO (fL x rs n j ws)) (.bool ((fstC x rs j ws).x.ln==9)) 4 (hO (fL' n (fstC x rs j ws))):=by
 obtain ⟨t,key,ln,lv,pr,kn,cu,w,by',made,err⟩:=x
 obtain ⟨⟨hk,hl,hr⟩,hf,hm,hx⟩:=h
 simp only at hk hl hr hf hm hx
 subst hm
 obtain ⟨a1,a2,_⟩:=hk
 rcases hx with hx|⟨hv1,hv2,hp,hx⟩
 ·subst hx
  exact ov (XD.2 fun _ hb=>by cases hb)
 have hv3:(lv.toNat:Int)=lv:=by omega
 have hlt:lv.toNat<rs.length:=by omega
 have hhas:t.has pr lv:=⟨hf.1,hv1,hv2,hp⟩
 have hc:=hf.nx hhas
 have w1:IntKind.i64.wrap (lv - 1)=lv - 1:=XM (by omega) (by omega)
 have w2:IntKind.i64.wrap (t.height - 1)=t.height - 1:=XM (by omega) (by omega)
 have hset:∀ a b c d,(rs4 rs lv.toNat a b c d)=rs.set lv.toNat [a,b,c,d]:=fun a b c d=>rs4_eq hlt hr
 have hok:∀ (x:FdC) (a b c d:Int),x.t=t→FdC.ok x (rs.set lv.toNat [a,b,c,d]):=fun x a b c d e=>by
  refine ⟨by rw [e];exact hf.1,by rw [e,List.length_set];exact hl,fun r hr'=>?_⟩
  rcases List.mem_or_eq_of_mem_set hr' with h|h
  ·exact hr r h
  ·rw [h];rfl
 have hdone:∀ (x:FdC) (a b c d:Int),x.t=t→∀ l,(∀ z∈l,z=true)→∀ z∈[decide (FdC.ok x (rs4 rs lv.toNat a b c d)∧-1≤IntKind.i64.wrap (lv - 1)∧IntKind.i64.wrap (lv - 1)<t.height),
   decide (lv.toNat<(Go.Sx.rs (Go.Sx.rs (Go.Sx.rs rs lv.toNat 0 a) lv.toNat 1 b) lv.toNat 2 c).length),decide (lv.toNat<(Go.Sx.rs (Go.Sx.rs rs lv.toNat 0 a) lv.toNat 1 b).length),decide (lv.toNat<(Go.Sx.rs rs lv.toNat 0 a).length),decide (lv.toNat<rs.length),decide (0≤lv∧lv<(rs.length:Int))]++l,z=true:=by
  intro x a b c d e l hl' z hz
  rcases List.mem_append.1 hz with hz|hz
  ·simp only [List.mem_cons,List.not_mem_nil,or_false] at hz
   have hlen:∀ (q:List (List Int)) (k f:Nat) (y:Int),(Go.Sx.rs q k f y).length=q.length:=fun q k f y=>List.length_set ..
   rcases hz with rfl|rfl|rfl|rfl|rfl|rfl
   ·rw [hset,w1];exact decide_eq_true ⟨hok x a b c d e,by omega,by omega⟩
   ·rw [hlen,hlen,hlen];exact decide_eq_true hlt
   ·rw [hlen,hlen];exact decide_eq_true hlt
   ·rw [hlen];exact decide_eq_true hlt
   ·exact decide_eq_true hlt
   ·exact decide_eq_true ⟨hv1,by omega⟩
  ·exact hl' z hz
 have hanew:∀ (x:FdC),x.t=t→(decide (FdC.ok x rs∧-1≤IntKind.i64.wrap (t.height - 1)∧IntKind.i64.wrap (t.height - 1)<t.height))=true:=fun x e=>by
  rw [w2];exact decide_eq_true ⟨⟨by rw [e];exact hf.1,by rw [e];exact hl,hr⟩,by omega,by omega⟩
 rcases hx with rfl|⟨hx,hi⟩
 ·
  by_cases hmk:rawM (ws.getD (nxA t pr lv).toNat 0)=true
  ·have e:fstC ⟨t,key,1,lv,pr,kn,cu,w,by',true,err⟩ rs j ws=⟨beginC ⟨t,key,1,lv,pr,kn,ws.getD (nxA t pr lv).toNat 0,w,kn,true,err⟩ rs (t.height - 1),rs,jLd ws (nxA t pr lv) j,ws⟩:=by
    unfold fstC;rw [if_pos rfl];simp only [hmk];rfl
   rw [e]
   have:=f1M (key:=key) (lv:=lv) (pr:=pr) (kn:=kn) (cu:=cu) (w:=w) (by':=by') (err:=err) (j:=j) (n:=n) (XD.2 (by
    simp only [List.forall_mem_cons];exact ⟨hanew _ rfl,hmk,decide_eq_true hc,decide_eq_true hhas,fun _ hb=>by cases hb⟩))
   rw [w2] at this
   exact this
  ·have hmk':=Bool.eq_false_iff.2 hmk
   by_cases hd:indT t.size (ws.getD (nxA t pr lv).toNat 0)<0
   ·have e:fstC ⟨t,key,1,lv,pr,kn,cu,w,by',true,err⟩ rs j ws=⟨beginC ⟨t,key,2,lv,pr,kn,ws.getD (nxA t pr lv).toNat 0,w,kn,true,err⟩ (rs.set lv.toNat [lv,pr,kn,ws.getD (nxA t pr lv).toNat 0]) (lv - 1),rs.set lv.toNat [lv,pr,kn,ws.getD (nxA t pr lv).toNat 0],jLd ws (nxA t pr lv) j,ws⟩:=by
     unfold fstC;rw [if_pos rfl];simp only [hmk',Bool.false_eq_true,if_false];unfold looksC;rw [if_pos hd];rfl
    rw [e]
    have:=f1D (key:=key) (lv:=lv) (pr:=pr) (kn:=kn) (cu:=cu) (w:=w) (by':=by') (err:=err) (j:=j) (n:=n) (XD.2 (hdone _ _ _ _ _ rfl [_,_,_,_] (by
     simp only [List.forall_mem_cons];exact ⟨decide_eq_true hd,by rw [hmk'];rfl,decide_eq_true hc,decide_eq_true hhas,fun _ hb=>by cases hb⟩)))
    rw [w1,hset] at this
    exact this
   ·have e:fstC ⟨t,key,1,lv,pr,kn,cu,w,by',true,err⟩ rs j ws=⟨⟨t,key,2,lv,pr,kn,ws.getD (nxA t pr lv).toNat 0,w,kn,true,err⟩,rs,jLd ws (nxA t pr lv) j,ws⟩:=by
     unfold fstC;rw [if_pos rfl];simp only [hmk',Bool.false_eq_true,if_false];unfold looksC;rw [if_neg hd]
    rw [e]
    exact f1L (key:=key) (lv:=lv) (pr:=pr) (kn:=kn) (cu:=cu) (w:=w) (by':=by') (err:=err) (j:=j) (n:=n) (XD.2 (by
     simp only [List.forall_mem_cons];exact ⟨by rw [decide_eq_false hd];rfl,by rw [hmk'];rfl,decide_eq_true hc,decide_eq_true hhas,fun _ hb=>by cases hb⟩))
 have hil:=indT_lt hi
 have hhi:t.has (indT t.size cu) lv:=⟨hf.1,hv1,hv2,.inr ⟨hi,hil⟩⟩
 have hci:=hf.nx hhi
 have hhk:t.hasP (indT t.size cu) 0:=⟨hf.1,by omega,by omega,hi,hil⟩
 have hck:=hf.pt hhk
 rcases hx with rfl|rfl|rfl
 ·
  by_cases hmk:rawM (ws.getD (nxA t (indT t.size cu) lv).toNat 0)=true
  ·have e:fstC ⟨t,key,2,lv,pr,kn,cu,w,by',true,err⟩ rs j ws=⟨⟨t,key,3,lv,pr,kn,cu,ws.getD (nxA t (indT t.size cu) lv).toNat 0,cu,true,err⟩,rs,jLd ws (nxA t (indT t.size cu) lv) j,ws⟩:=by
    unfold fstC;rw [if_neg (show ¬ (2:Int)=1 by decide),if_pos rfl];simp only [hmk];rfl
   rw [e]
   exact f2M (key:=key) (lv:=lv) (pr:=pr) (kn:=kn) (cu:=cu) (w:=w) (by':=by') (err:=err) (j:=j) (n:=n) (XD.2 (by
    simp only [List.forall_mem_cons];exact ⟨hmk,decide_eq_true hci,decide_eq_true hhi,decide_eq_true hhas,fun _ hb=>by cases hb⟩))
  ·have hmk':=Bool.eq_false_iff.2 hmk
   have e:fstC ⟨t,key,2,lv,pr,kn,cu,w,by',true,err⟩ rs j ws=⟨⟨t,key,4,lv,pr,kn,cu,ws.getD (nxA t (indT t.size cu) lv).toNat 0,cu,true,err⟩,rs,jLd ws (nxA t (indT t.size cu) lv) j,ws⟩:=by
    unfold fstC;rw [if_neg (show ¬ (2:Int)=1 by decide),if_pos rfl];simp only [hmk'];rfl
   rw [e]
   exact f2N (key:=key) (lv:=lv) (pr:=pr) (kn:=kn) (cu:=cu) (w:=w) (by':=by') (err:=err) (j:=j) (n:=n) (XD.2 (by
    simp only [List.forall_mem_cons];exact ⟨by rw [hmk'];rfl,decide_eq_true hci,decide_eq_true hhi,decide_eq_true hhas,fun _ hb=>by cases hb⟩))
 ·
  by_cases hq:ws.getD (nxA t pr lv).toNat 0=cu
  ·by_cases hd:indT t.size (rawC w)<0
   ·have e:fstC ⟨t,key,3,lv,pr,kn,cu,w,by',true,err⟩ rs j ws=⟨beginC ⟨t,key,2,lv,pr,kn,rawC w,w,kn,true,err⟩ (rs.set lv.toNat [lv,pr,kn,rawC w]) (lv - 1),rs.set lv.toNat [lv,pr,kn,rawC w],jCas ws (nxA t pr lv) cu (rawC w) j,casW ws (nxA t pr lv).toNat cu (rawC w)⟩:=by
     unfold fstC;rw [if_neg (show ¬ (3:Int)=1 by decide),if_neg (show ¬ (3:Int)=2 by decide),if_pos rfl,if_pos hq];unfold looksC;rw [if_pos hd];rfl
    rw [e]
    have:=f3D (key:=key) (lv:=lv) (pr:=pr) (kn:=kn) (cu:=cu) (w:=w) (by':=by') (err:=err) (j:=j) (n:=n) (XD.2 (hdone _ _ _ _ _ rfl [_,_,_,_] (by
     simp only [List.forall_mem_cons];exact ⟨decide_eq_true hd,by rw [decide_eq_true hq];rfl,decide_eq_true hc,decide_eq_true hhas,fun _ hb=>by cases hb⟩)))
    rw [w1,hset] at this
    exact this
   ·have e:fstC ⟨t,key,3,lv,pr,kn,cu,w,by',true,err⟩ rs j ws=⟨⟨t,key,2,lv,pr,kn,rawC w,w,kn,true,err⟩,rs,jCas ws (nxA t pr lv) cu (rawC w) j,casW ws (nxA t pr lv).toNat cu (rawC w)⟩:=by
     unfold fstC;rw [if_neg (show ¬ (3:Int)=1 by decide),if_neg (show ¬ (3:Int)=2 by decide),if_pos rfl,if_pos hq];unfold looksC;rw [if_neg hd]
    rw [e]
    exact f3L (key:=key) (lv:=lv) (pr:=pr) (kn:=kn) (cu:=cu) (w:=w) (by':=by') (err:=err) (j:=j) (n:=n) (XD.2 (by
     simp only [List.forall_mem_cons];exact ⟨by rw [decide_eq_false hd];rfl,by rw [decide_eq_true hq];rfl,decide_eq_true hc,decide_eq_true hhas,fun _ hb=>by cases hb⟩))
  ·have e:fstC ⟨t,key,3,lv,pr,kn,cu,w,by',true,err⟩ rs j ws=⟨beginC ⟨t,key,3,lv,pr,kn,cu,w,kn,true,err⟩ rs (t.height - 1),rs,jCas ws (nxA t pr lv) cu (rawC w) j,casW ws (nxA t pr lv).toNat cu (rawC w)⟩:=by
    unfold fstC;rw [if_neg (show ¬ (3:Int)=1 by decide),if_neg (show ¬ (3:Int)=2 by decide),if_pos rfl,if_neg hq];rfl
   rw [e]
   have:=f3F (key:=key) (lv:=lv) (pr:=pr) (kn:=kn) (cu:=cu) (w:=w) (by':=by') (err:=err) (j:=j) (n:=n) (XD.2 (by
    simp only [List.forall_mem_cons];exact ⟨hanew _ rfl,by rw [decide_eq_false hq];rfl,decide_eq_true hc,decide_eq_true hhas,fun _ hb=>by cases hb⟩))
   rw [w2] at this
   exact this
 ·
  by_cases hg:ws.getD (ptA t (indT t.size cu) 0).toNat 0≥key
  ·have e:fstC ⟨t,key,4,lv,pr,kn,cu,w,by',true,err⟩ rs j ws=⟨beginC ⟨t,key,4,lv,pr,kn,cu,w,cu,true,err⟩ (rs.set lv.toNat [lv,pr,kn,cu]) (lv - 1),rs.set lv.toNat [lv,pr,kn,cu],jLd ws (ptA t (indT t.size cu) 0) j,ws⟩:=by
    unfold fstC;rw [if_neg (show ¬ (4:Int)=1 by decide),if_neg (show ¬ (4:Int)=2 by decide),if_neg (show ¬ (4:Int)=3 by decide),if_pos rfl,if_pos hg];rfl
   rw [e]
   have:=f4G (key:=key) (lv:=lv) (pr:=pr) (kn:=kn) (cu:=cu) (w:=w) (by':=by') (err:=err) (j:=j) (n:=n) (XD.2 (hdone _ _ _ _ _ rfl [_,_,_,_] (by
    simp only [List.forall_mem_cons];exact ⟨decide_eq_true hg,decide_eq_true hck,decide_eq_true hhk,decide_eq_true hhas,fun _ hb=>by cases hb⟩)))
   rw [w1,hset] at this
   exact this
  ·by_cases hd:indT t.size w<0
   ·have e:fstC ⟨t,key,4,lv,pr,kn,cu,w,by',true,err⟩ rs j ws=⟨beginC ⟨t,key,2,lv,indT t.size cu,cu,w,w,cu,true,err⟩ (rs.set lv.toNat [lv,indT t.size cu,cu,w]) (lv - 1),rs.set lv.toNat [lv,indT t.size cu,cu,w],jLd ws (ptA t (indT t.size cu) 0) j,ws⟩:=by
     unfold fstC;rw [if_neg (show ¬ (4:Int)=1 by decide),if_neg (show ¬ (4:Int)=2 by decide),if_neg (show ¬ (4:Int)=3 by decide),if_pos rfl,if_neg hg];unfold looksC;rw [if_pos hd];rfl
    rw [e]
    have:=f4D (key:=key) (lv:=lv) (pr:=pr) (kn:=kn) (cu:=cu) (w:=w) (by':=by') (err:=err) (j:=j) (n:=n) (XD.2 (hdone _ _ _ _ _ rfl [_,_,_,_,_] (by
     simp only [List.forall_mem_cons];exact ⟨decide_eq_true hd,by rw [decide_eq_false hg];rfl,decide_eq_true hck,decide_eq_true hhk,decide_eq_true hhas,fun _ hb=>by cases hb⟩)))
    rw [w1,hset] at this
    exact this
   ·have e:fstC ⟨t,key,4,lv,pr,kn,cu,w,by',true,err⟩ rs j ws=⟨⟨t,key,2,lv,indT t.size cu,cu,w,w,cu,true,err⟩,rs,jLd ws (ptA t (indT t.size cu) 0) j,ws⟩:=by
     unfold fstC;rw [if_neg (show ¬ (4:Int)=1 by decide),if_neg (show ¬ (4:Int)=2 by decide),if_neg (show ¬ (4:Int)=3 by decide),if_pos rfl,if_neg hg];unfold looksC;rw [if_neg hd]
    rw [e]
    exact f4L (key:=key) (lv:=lv) (pr:=pr) (kn:=kn) (cu:=cu) (w:=w) (by':=by') (err:=err) (j:=j) (n:=n) (XD.2 (by
     simp only [List.forall_mem_cons];exact ⟨by rw [decide_eq_false hd];rfl,by rw [decide_eq_false hg];rfl,decide_eq_true hck,decide_eq_true hhk,decide_eq_true hhas,fun _ hb=>by cases hb⟩))
def keepF (x y:FdC):FdC:={y with t:=x.t,key:=x.key,made:=x.made,err:=x.err}
theorem keepF_eq {x y:FdC} (h:y.t=x.t∧y.key=x.key∧y.made=x.made∧y.err=x.err):keepF x y=y:=by
 obtain ⟨h1,h2,h3,h4⟩:=h
 unfold keepF
 rw [← h1,← h2,← h3,← h4]
def smFStep (args:List V) (s:St):Option (V×St):=
 match args with
 |[.ptr f a b c,.ptr m a' b' c']=>(chk (isZ a b c)).bind fun _=>(chk (isZ a' b' c')).bind fun _=>(gFind f s.H).bind fun g=>(gMem m s.H).bind fun q=>(need (decide (fPre g.x g.rs q.n q.ws)) s).bind fun s1=>
   (memS [g.f,g.td,q.m,q.w] (fL (keepF g.x (fstC g.x g.rs q.j q.ws).x) (fstC g.x g.rs q.j q.ws).rs q.n (fstC g.x g.rs q.j q.ws).j (fstC g.x g.rs q.j q.ws).ws) s1).bind fun s2=>some (.bool ((fstC g.x g.rs q.j q.ws).x.ln==9),s2)
 |_=>none
theorem smFStep_sm:SmOK PR 90 smFStep:=by
 refine ⟨fun args s v s' h ho=>?_,Tryz.call90⟩
 unfold smFStep at h
 split at h
 ·simp only [Option.bind_eq_some_iff] at h
  obtain ⟨_,h0,_,h0',g,h1,q,h1',s1,h2,s2,h3,h4⟩:=h
  obtain ⟨rfl,rfl,rfl⟩:=isZ_ok (XC h0)
  obtain ⟨rfl,rfl,rfl⟩:=isZ_ok (XC h0')
  cases h4
  obtain ⟨g0,g1,g2⟩:=gFind_ok h1
  obtain ⟨q0,q1,q2⟩:=gMem_ok h1'
  subst g0;subst q0
  obtain ⟨hd,hq⟩:=XI h2 (XN h3 ho)
  rw [keepF_eq (fstC_keep _ _ _ _)] at h3
  exact XO (l:=fL g.x g.rs q.n q.j q.ws) (ac:=fArgs) (fst_call (of_decide_eq_true hd)) rfl (by kernel_rfl) (by kernel_rfl) (by kernel_rfl) hq h3 (by simp only [List.map_cons,List.map_nil,g1,g2,q1,q2];rfl) rfl rfl
 ·cases h
end Go.Sx
namespace Go.Sx
open Go.Proofs
def rowU (ws:List Int):Ob:=.mem (.words .u64 ws) 54 (some 1)
def rowI (ws:List Int):Ob:=.mem (.words .i64 ws) 3 (some 1)
def colC (rs:List (List Int)) (k:Nat):List Int:=rs.map fun r=>r.getD k 0
theorem colC_get {rs:List (List Int)} {k i:Nat} (h:i<rs.length):(colC rs k).getD i 0=(rs.getD i []).getD k 0:=by
 unfold colC
 rw [List.getD_eq_getElem?_getD,List.getElem?_map,List.getElem?_eq_getElem h,List.getD_eq_getElem?_getD,List.getD_eq_getElem?_getD,List.getElem?_eq_getElem h]
 rfl
def ended (x:FdC) (rs:List (List Int)):Prop:=x.ok rs∧x.ln=9∧x.made=true∧x.err=0
instance (x:FdC) (rs:List (List Int)):Decidable (ended x rs):=inferInstanceAs (Decidable (_∧_))
theorem succs_call {x:FdC} {rs:List (List Int)} (h:ended x rs):YD PR 164 [.ptr 0 0 0 0] 2 (hO [some (findM 1 x),some (toldM rs)]) (.osl 2 1) 3 (hO [some (findM 1 x),some (toldM rs),some (rowU (colC rs 3))]):=by
 obtain ⟨⟨⟨a1,a2,_⟩,hl,_⟩,e1,e2,e3⟩:=h
 obtain ⟨t,key,ln,lv,pr,kn,cu,w,by',made,err⟩:=x
 simp only at a1 a2 hl e1 e2 e3
 subst e1;subst e2;subst e3
 have hc:rs.length=1∨rs.length=2∨rs.length=3∨rs.length=4:=by omega
 rcases hc with hc|hc|hc|hc
 ·obtain ⟨r0,rfl⟩:∃ r0,rs=[r0]:=by
   match rs,hc with
   |[r0],_=>exact ⟨r0,rfl⟩
  exact evX (B:=true) F0_ok S0_ok rfl 5 (bits 16 0b0000000011111110) [0,1,4] (by kernel_rfl) (by kernel_rfl)
 ·obtain ⟨r0,r1,rfl⟩:∃ r0 r1,rs=[r0,r1]:=by
   match rs,hc with
   |[r0,r1],_=>exact ⟨r0,r1,rfl⟩
  exact evX (B:=true) F0_ok S0_ok rfl 8 (bits 23 0b00000000111111111111110) [0,1,7] (by kernel_rfl) (by kernel_rfl)
 ·obtain ⟨r0,r1,r2,rfl⟩:∃ r0 r1 r2,rs=[r0,r1,r2]:=by
   match rs,hc with
   |[r0,r1,r2],_=>exact ⟨r0,r1,r2,rfl⟩
  exact evX (B:=true) F0_ok S0_ok rfl 11 (bits 30 0b000000001111111111111111111110) [0,1,10] (by kernel_rfl) (by kernel_rfl)
 ·obtain ⟨r0,r1,r2,r3,rfl⟩:∃ r0 r1 r2 r3,rs=[r0,r1,r2,r3]:=by
   match rs,hc with
   |[r0,r1,r2,r3],_=>exact ⟨r0,r1,r2,r3,rfl⟩
  exact evX (B:=true) F0_ok S0_ok rfl 14 (bits 37 0b0000000011111111111111111111111111110) [0,1,13] (by kernel_rfl) (by kernel_rfl)
def smSuccs (args:List V) (s:St):Option (V×St):=
 match args with
 |[.ptr f a b c]=>(chk (isZ a b c)).bind fun _=>(gFind f s.H).bind fun g=>(need (decide (ended g.x g.rs)) s).bind fun s1=>
   (memS [g.f,g.td] [some (findM 1 g.x),some (toldM g.rs),some (rowU (colC g.rs 3))] s1).bind fun s2=>some (.osl s.nx 1,s2)
 |_=>none
theorem smSuccs_sm:SmOK PR 164 smSuccs:=by
 refine ⟨fun args s v s' h ho=>?_,Tryz.call164⟩
 unfold smSuccs at h
 split at h
 ·simp only [Option.bind_eq_some_iff] at h
  obtain ⟨_,h0,g,h1,s1,h2,s2,h3,h4⟩:=h
  obtain ⟨rfl,rfl,rfl⟩:=isZ_ok (XC h0)
  cases h4
  obtain ⟨g0,g1,g2⟩:=gFind_ok h1
  subst g0
  obtain ⟨hd,hq⟩:=XI h2 (XN h3 ho)
  exact XO (l:=[some (findM 1 g.x),some (toldM g.rs)]) (ac:=[.ptr 0 0 0 0]) (succs_call (of_decide_eq_true hd)) rfl (by kernel_rfl) (by kernel_rfl) (by kernel_rfl) hq h3 (by simp only [List.map_cons,List.map_nil,g1,g2];rfl) rfl rfl
 ·cases h
theorem known_call {x:FdC} {rs:List (List Int)} (h:ended x rs):YD PR 181 [.ptr 0 0 0 0] 2 (hO [some (findM 1 x),some (toldM rs)]) (.osl 2 1) 3 (hO [some (findM 1 x),some (toldM rs),some (rowU (colC rs 2))]):=by
 obtain ⟨⟨⟨a1,a2,_⟩,hl,_⟩,e1,e2,e3⟩:=h
 obtain ⟨t,key,ln,lv,pr,kn,cu,w,by',made,err⟩:=x
 simp only at a1 a2 hl e1 e2 e3
 subst e1;subst e2;subst e3
 have hc:rs.length=1∨rs.length=2∨rs.length=3∨rs.length=4:=by omega
 rcases hc with hc|hc|hc|hc
 ·obtain ⟨r0,rfl⟩:∃ r0,rs=[r0]:=by
   match rs,hc with
   |[r0],_=>exact ⟨r0,rfl⟩
  exact evX (B:=true) F0_ok S0_ok rfl 5 (bits 16 0b0000000011111110) [0,1,4] (by kernel_rfl) (by kernel_rfl)
 ·obtain ⟨r0,r1,rfl⟩:∃ r0 r1,rs=[r0,r1]:=by
   match rs,hc with
   |[r0,r1],_=>exact ⟨r0,r1,rfl⟩
  exact evX (B:=true) F0_ok S0_ok rfl 8 (bits 23 0b00000000111111111111110) [0,1,7] (by kernel_rfl) (by kernel_rfl)
 ·obtain ⟨r0,r1,r2,rfl⟩:∃ r0 r1 r2,rs=[r0,r1,r2]:=by
   match rs,hc with
   |[r0,r1,r2],_=>exact ⟨r0,r1,r2,rfl⟩
  exact evX (B:=true) F0_ok S0_ok rfl 11 (bits 30 0b000000001111111111111111111110) [0,1,10] (by kernel_rfl) (by kernel_rfl)
 ·obtain ⟨r0,r1,r2,r3,rfl⟩:∃ r0 r1 r2 r3,rs=[r0,r1,r2,r3]:=by
   match rs,hc with
   |[r0,r1,r2,r3],_=>exact ⟨r0,r1,r2,r3,rfl⟩
  exact evX (B:=true) F0_ok S0_ok rfl 14 (bits 37 0b0000000011111111111111111111111111110) [0,1,13] (by kernel_rfl) (by kernel_rfl)
def smKnown (args:List V) (s:St):Option (V×St):=
 match args with
 |[.ptr f a b c]=>(chk (isZ a b c)).bind fun _=>(gFind f s.H).bind fun g=>(need (decide (ended g.x g.rs)) s).bind fun s1=>
   (memS [g.f,g.td] [some (findM 1 g.x),some (toldM g.rs),some (rowU (colC g.rs 2))] s1).bind fun s2=>some (.osl s.nx 1,s2)
 |_=>none
theorem smKnown_sm:SmOK PR 181 smKnown:=by
 refine ⟨fun args s v s' h ho=>?_,Tryz.call181⟩
 unfold smKnown at h
 split at h
 ·simp only [Option.bind_eq_some_iff] at h
  obtain ⟨_,h0,g,h1,s1,h2,s2,h3,h4⟩:=h
  obtain ⟨rfl,rfl,rfl⟩:=isZ_ok (XC h0)
  cases h4
  obtain ⟨g0,g1,g2⟩:=gFind_ok h1
  subst g0
  obtain ⟨hd,hq⟩:=XI h2 (XN h3 ho)
  exact XO (l:=[some (findM 1 g.x),some (toldM g.rs)]) (ac:=[.ptr 0 0 0 0]) (known_call (of_decide_eq_true hd)) rfl (by kernel_rfl) (by kernel_rfl) (by kernel_rfl) hq h3 (by simp only [List.map_cons,List.map_nil,g1,g2];rfl) rfl rfl
 ·cases h
theorem preds_call {x:FdC} {rs:List (List Int)} (h:ended x rs):YD PR 182 [.ptr 0 0 0 0] 2 (hO [some (findM 1 x),some (toldM rs)]) (.osl 2 1) 3 (hO [some (findM 1 x),some (toldM rs),some (rowI (colC rs 1))]):=by
 obtain ⟨⟨⟨a1,a2,_⟩,hl,_⟩,e1,e2,e3⟩:=h
 obtain ⟨t,key,ln,lv,pr,kn,cu,w,by',made,err⟩:=x
 simp only at a1 a2 hl e1 e2 e3
 subst e1;subst e2;subst e3
 have hc:rs.length=1∨rs.length=2∨rs.length=3∨rs.length=4:=by omega
 rcases hc with hc|hc|hc|hc
 ·obtain ⟨r0,rfl⟩:∃ r0,rs=[r0]:=by
   match rs,hc with
   |[r0],_=>exact ⟨r0,rfl⟩
  exact evX (B:=true) F0_ok S0_ok rfl 5 (bits 16 0b0000000011111110) [0,1,4] (by kernel_rfl) (by kernel_rfl)
 ·obtain ⟨r0,r1,rfl⟩:∃ r0 r1,rs=[r0,r1]:=by
   match rs,hc with
   |[r0,r1],_=>exact ⟨r0,r1,rfl⟩
  exact evX (B:=true) F0_ok S0_ok rfl 8 (bits 23 0b00000000111111111111110) [0,1,7] (by kernel_rfl) (by kernel_rfl)
 ·obtain ⟨r0,r1,r2,rfl⟩:∃ r0 r1 r2,rs=[r0,r1,r2]:=by
   match rs,hc with
   |[r0,r1,r2],_=>exact ⟨r0,r1,r2,rfl⟩
  exact evX (B:=true) F0_ok S0_ok rfl 11 (bits 30 0b000000001111111111111111111110) [0,1,10] (by kernel_rfl) (by kernel_rfl)
 ·obtain ⟨r0,r1,r2,r3,rfl⟩:∃ r0 r1 r2 r3,rs=[r0,r1,r2,r3]:=by
   match rs,hc with
   |[r0,r1,r2,r3],_=>exact ⟨r0,r1,r2,r3,rfl⟩
  exact evX (B:=true) F0_ok S0_ok rfl 14 (bits 37 0b0000000011111111111111111111111111110) [0,1,13] (by kernel_rfl) (by kernel_rfl)
def smPreds (args:List V) (s:St):Option (V×St):=
 match args with
 |[.ptr f a b c]=>(chk (isZ a b c)).bind fun _=>(gFind f s.H).bind fun g=>(need (decide (ended g.x g.rs)) s).bind fun s1=>
   (memS [g.f,g.td] [some (findM 1 g.x),some (toldM g.rs),some (rowI (colC g.rs 1))] s1).bind fun s2=>some (.osl s.nx 1,s2)
 |_=>none
theorem smPreds_sm:SmOK PR 182 smPreds:=by
 refine ⟨fun args s v s' h ho=>?_,Tryz.call182⟩
 unfold smPreds at h
 split at h
 ·simp only [Option.bind_eq_some_iff] at h
  obtain ⟨_,h0,g,h1,s1,h2,s2,h3,h4⟩:=h
  obtain ⟨rfl,rfl,rfl⟩:=isZ_ok (XC h0)
  cases h4
  obtain ⟨g0,g1,g2⟩:=gFind_ok h1
  subst g0
  obtain ⟨hd,hq⟩:=XI h2 (XN h3 ho)
  exact XO (l:=[some (findM 1 g.x),some (toldM g.rs)]) (ac:=[.ptr 0 0 0 0]) (preds_call (of_decide_eq_true hd)) rfl (by kernel_rfl) (by kernel_rfl) (by kernel_rfl) hq h3 (by simp only [List.map_cons,List.map_nil,g1,g2];rfl) rfl rfl
 ·cases h
def newF (t:Tw) (key:Int):FdC:=⟨t,key,1,t.height - 1,-1,0,0,0,0,true,0⟩
def newR (t:Tw):List (List Int):=List.replicate t.height.toNat [0,0,0,0]
theorem newF_ok {t:Tw} {key:Int} (h:t.ok):(newF t key).ok (newR t):=by
 obtain ⟨a1,a2,_⟩:=id h
 refine ⟨h,?_,fun r hr=>?_⟩
 ·unfold newR;rw [List.length_replicate];show ((t.height.toNat:Nat):Int)=t.height;omega
 ·rw [List.eq_of_mem_replicate hr];rfl
theorem newFind_call {t:Tw} {key:Int} (h:t.ok):YD PR 50 [.agg t.vs,.int .u64 key] 0 (hO []) (.ptr 0 0 0 0) 2 (hO [some (findM 1 (newF t key)),some (toldM (newR t))]):=by
 obtain ⟨a1,a2,a3,a4,a5,a6,a7,a8⟩:=id h
 have w2:IntKind.i64.wrap (t.height - 1)=t.height - 1:=XM (by omega) (by omega)
 have e:newF t key=beginC ⟨t,key,0,0,0,0,0,0,0,true,0⟩ (newR t) (IntKind.i64.wrap (t.height - 1)):=by
  rw [w2];unfold beginC;rw [if_neg (by omega),if_pos rfl];rfl
 rw [e]
 refine XH (l:=[]) (l':=[some (findM 1 (beginC ⟨t,key,0,0,0,0,0,0,0,true,0⟩ (newR t) (IntKind.i64.wrap (t.height - 1)))),some (toldM (newR t))]) (n:=400) (f:=50) (args:=[.agg t.vs,.int .u64 key]) (vc:=.ptr 0 0 0 0) (orc:=bits 4 0b1011) (πl:=[1,2]) (nx':=3)
  (B:=allB [decide ((⟨t,key,0,0,0,0,0,0,0,true,0⟩:FdC).ok (newR t)∧-1≤IntKind.i64.wrap (t.height - 1)∧IntKind.i64.wrap (t.height - 1)<t.height),decide (0≤t.height∧t.height≤t.height∧t.height≤1048576),!decide (nxA t (-1) 0<0),decide (t.has (-1) 0)]) FB_ok SB_ok (by kernel_rfl) ?_ rfl (by kernel_rfl) (by kernel_rfl) (by kernel_rfl) (by kernel_rfl)
 refine XD.2 ?_
 simp only [List.forall_mem_cons]
 have hok:=newF_ok (key:=key) h
 refine ⟨decide_eq_true ⟨⟨h,hok.2.1,hok.2.2⟩,by rw [w2];omega,by rw [w2];omega⟩,decide_eq_true ⟨by omega,by omega,by omega⟩,?_,decide_eq_true ⟨h,by omega,by omega,.inl rfl⟩,fun _ hb=>by cases hb⟩
 have:¬ nxA t (-1) 0<0:=by unfold nxA;rw [if_pos rfl];omega
 rw [decide_eq_false this];rfl
def smNewFind (args:List V) (s:St):Option (V×St):=
 match args with
 |[.agg cs,.int .u64 key]=>(gTw cs).bind fun t=>(need (decide t.ok) s).bind fun s1=>(memS [] [some (findM 1 (newF t key)),some (toldM (newR t))] s1).bind fun s2=>some (.ptr s.nx 0 0 0,s2)
 |_=>none
theorem smNewFind_sm:SmOK PR 50 smNewFind:=by
 refine ⟨fun args s v s' h ho=>?_,Tryz.call50⟩
 unfold smNewFind at h
 split at h
 ·simp only [Option.bind_eq_some_iff] at h
  obtain ⟨t,h0,s1,h2,s2,h3,h4⟩:=h
  have:=gTw_ok h0
  subst this
  cases h4
  obtain ⟨hd,hq⟩:=XI h2 (XN h3 ho)
  exact XO (l:=[]) (ac:=[.agg t.vs,.int .u64 _]) (newFind_call (of_decide_eq_true hd)) rfl (by kernel_rfl) (by kernel_rfl) (by kernel_rfl) hq h3 rfl rfl rfl
 ·cases h
end Go.Sx
