/- A Claim's and a Peek's Step: their contracts. Printed by gen_A13.py. -/
import Derived.Test.YtpnpmkdijmeddaaGreatScA11
set_option maxRecDepth 100000
namespace Go.Sx
open Go.Proofs
section
variable {x:ClC} {f:FdC} {rs:List (List Int)} {n:Int} {j:MJ} {ws:List Int}
def cEnd (x:ClC) (n:Int) (j:MJ) (ws:List Int):Prop:=YD PR 15 cArgs 3 (hO (cA x n j ws)) (.bool ((cstC x j ws).x.ln==99)) 3 (hO (cA (cstC x j ws).x n (cstC x j ws).j (cstC x j ws).ws))
def qEnd (x:ClC) (n:Int) (j:MJ) (ws:List Int):Prop:=YD PR 21 cArgs 3 (hO (pA' x n j ws)) (.bool ((qstC x j ws).x.ln==99)) 3 (hO (pA' (qstC x j ws).x n (qstC x j ws).j (qstC x j ws).ws))
theorem hasH {t:Tw} {n:Int} {ws:List Int} (hfit:t.fit n ws):t.has (-1) 0∧XS (nxA t (-1) 0) n ws:=by
 have h:t.has (-1) 0:=⟨hfit.1,by decide,by have:=hfit.1.1;omega,.inl rfl⟩
 exact ⟨h,hfit.nx h⟩
theorem hasPt {t:Tw} {n i k:Int} {ws:List Int} (hfit:t.fit n ws) (i0:0≤i) (i1:i<t.size) (k0:0≤k) (k1:k<4+t.height):t.hasP i k∧XS (ptA t i k) n ws:=by
 have h:t.hasP i k:=⟨hfit.1,k0,k1,i0,i1⟩
 exact ⟨h,hfit.pt h⟩
theorem hasNx {t:Tw} {n i l:Int} {ws:List Int} (hfit:t.fit n ws) (i0:0≤i) (i1:i<t.size) (k0:0≤l) (k1:l<t.height):t.has i l∧XS (nxA t i l) n ws:=by
 have h:t.has i l:=⟨hfit.1,k0,k1,.inr ⟨i0,i1⟩⟩
 exact ⟨h,hfit.nx h⟩
theorem cst_1 (hx:x.ln=1) (hfit:x.t.fit n ws) (hm:x.made=true):cEnd x n j ws:=by
 obtain ⟨t,lv,mine,ln,a,i,w,gk,ga,by1,made,err⟩:=x
 simp only at hx hfit hm
 subst hx;subst hm
 unfold cEnd
 obtain ⟨g1,g2⟩:=hasH hfit
 by_cases hi:inT t.size (rawA (ws.getD (nxA t (-1) 0).toNat 0))
 ·have e:cstC ⟨t,lv,mine,1,a,i,w,gk,ga,by1,true,err⟩ j ws=⟨⟨t,lv,mine,2,(ws.getD (nxA t (-1) 0).toNat 0),(rawA (ws.getD (nxA t (-1) 0).toNat 0)),w,gk,ga,0,true,err⟩,jLd ws (nxA t (-1) 0) j,ws⟩:=by unfold cstC;rw [if_pos (show (1:Int)=1∨(1:Int)=2∨(1:Int)=3 by decide)];unfold firC;rw [if_pos rfl];simp only [if_pos hi]
  rw [e]
  exact c1L (XD.2 (by simp only [List.forall_mem_cons];exact ⟨by rw [decide_eq_false (by have:=hi.2;omega)];rfl,by rw [decide_eq_false (by have:=hi.1;omega)];rfl,decide_eq_true g2,decide_eq_true g1,fun _ hb=>by cases hb⟩))
 ·have e:cstC ⟨t,lv,mine,1,a,i,w,gk,ga,by1,true,err⟩ j ws=⟨⟨t,lv,mine,99,(ws.getD (nxA t (-1) 0).toNat 0),(rawA (ws.getD (nxA t (-1) 0).toNat 0)),w,gk,ga,0,true,15⟩,jLd ws (nxA t (-1) 0) j,ws⟩:=by unfold cstC;rw [if_pos (show (1:Int)=1∨(1:Int)=2∨(1:Int)=3 by decide)];unfold firC;rw [if_pos rfl];simp only [if_neg hi]
  rw [e]
  by_cases hn:rawA (ws.getD (nxA t (-1) 0).toNat 0)<0
  ·exact c1A (XD.2 (by simp only [List.forall_mem_cons];exact ⟨decide_eq_true hn,decide_eq_true g2,decide_eq_true g1,fun _ hb=>by cases hb⟩))
  ·have hb:rawA (ws.getD (nxA t (-1) 0).toNat 0)≥t.size:=by unfold inT at hi;omega
   exact c1B (XD.2 (by simp only [List.forall_mem_cons];exact ⟨decide_eq_true hb,by rw [decide_eq_false hn];rfl,decide_eq_true g2,decide_eq_true g1,fun _ hb=>by cases hb⟩))
theorem cst_2 (hx:x.ln=2) (hfit:x.t.fit n ws) (hm:x.made=true) (i0:0≤x.i) (i1:x.i<x.t.size):cEnd x n j ws:=by
 obtain ⟨t,lv,mine,ln,a,i,w,gk,ga,by1,made,err⟩:=x
 simp only at hx hfit hm i0 i1
 subst hx;subst hm
 unfold cEnd
 obtain ⟨g1,g2⟩:=hasPt (k:=4) hfit i0 i1 (by decide) (by have:=hfit.1.1;omega)
 by_cases hk:rawM (ws.getD (ptA t i 4).toNat 0)=true
 ·have e:cstC ⟨t,lv,mine,2,a,i,w,gk,ga,by1,true,err⟩ j ws=⟨⟨t,lv,mine,3,a,i,(ws.getD (ptA t i 4).toNat 0),gk,ga,a,true,err⟩,jLd ws (ptA t i 4) j,ws⟩:=by unfold cstC;rw [if_pos (show (2:Int)=1∨(2:Int)=2∨(2:Int)=3 by decide)];unfold firC;rw [if_neg (show ¬ (2:Int)=1 by decide),if_pos rfl];simp only [hk,if_true]
  rw [e]
  exact c2M (XD.2 (by simp only [List.forall_mem_cons];exact ⟨hk,decide_eq_true g2,decide_eq_true g1,fun _ hb=>by cases hb⟩))
 ·have hk':=Bool.eq_false_iff.2 hk
  have e:cstC ⟨t,lv,mine,2,a,i,w,gk,ga,by1,true,err⟩ j ws=⟨⟨t,lv,mine,4,a,i,(ws.getD (ptA t i 4).toNat 0),gk,ga,a,true,err⟩,jLd ws (ptA t i 4) j,ws⟩:=by unfold cstC;rw [if_pos (show (2:Int)=1∨(2:Int)=2∨(2:Int)=3 by decide)];unfold firC;rw [if_neg (show ¬ (2:Int)=1 by decide),if_pos rfl];simp only [hk',Bool.false_eq_true,if_false]
  rw [e]
  exact c2N (XD.2 (by simp only [List.forall_mem_cons];exact ⟨by rw [hk'];rfl,decide_eq_true g2,decide_eq_true g1,fun _ hb=>by cases hb⟩))
theorem cst_3 (hx:x.ln=3) (hfit:x.t.fit n ws) (hm:x.made=true):cEnd x n j ws:=by
 obtain ⟨t,lv,mine,ln,a,i,w,gk,ga,by1,made,err⟩:=x
 simp only at hx hfit hm
 subst hx;subst hm
 unfold cEnd
 obtain ⟨g1,g2⟩:=hasH hfit
 have e:cstC ⟨t,lv,mine,3,a,i,w,gk,ga,by1,true,err⟩ j ws=⟨⟨t,lv,mine,1,a,i,w,gk,ga,0,true,err⟩,jCas ws (nxA t (-1) 0) a (rawC w) j,casW ws (nxA t (-1) 0).toNat a (rawC w)⟩:=by unfold cstC;rw [if_pos (show (3:Int)=1∨(3:Int)=2∨(3:Int)=3 by decide)];unfold firC;rw [if_neg (show ¬ (3:Int)=1 by decide),if_neg (show ¬ (3:Int)=2 by decide)]
 rw [e]
 exact c3 (XD.2 (by simp only [List.forall_mem_cons];exact ⟨decide_eq_true g2,decide_eq_true g1,fun _ hb=>by cases hb⟩))
theorem pst_1 (hx:x.ln=1) (hfit:x.t.fit n ws) (hm:x.made=true):qEnd x n j ws:=by
 obtain ⟨t,lv,mine,ln,a,i,w,gk,ga,by1,made,err⟩:=x
 simp only at hx hfit hm
 subst hx;subst hm
 unfold qEnd
 obtain ⟨g1,g2⟩:=hasH hfit
 by_cases hi:inT t.size (rawA (ws.getD (nxA t (-1) 0).toNat 0))
 ·have e:qstC ⟨t,lv,mine,1,a,i,w,gk,ga,by1,true,err⟩ j ws=⟨⟨t,lv,mine,2,(ws.getD (nxA t (-1) 0).toNat 0),(rawA (ws.getD (nxA t (-1) 0).toNat 0)),w,gk,ga,0,true,err⟩,jLd ws (nxA t (-1) 0) j,ws⟩:=by unfold qstC;rw [if_neg (show ¬ (1:Int)=4 by decide),if_neg (show ¬ (1:Int)=5 by decide)];unfold firC;rw [if_pos rfl];simp only [if_pos hi]
  rw [e]
  exact p1L (XD.2 (by simp only [List.forall_mem_cons];exact ⟨by rw [decide_eq_false (by have:=hi.2;omega)];rfl,by rw [decide_eq_false (by have:=hi.1;omega)];rfl,decide_eq_true g2,decide_eq_true g1,fun _ hb=>by cases hb⟩))
 ·have e:qstC ⟨t,lv,mine,1,a,i,w,gk,ga,by1,true,err⟩ j ws=⟨⟨t,lv,mine,99,(ws.getD (nxA t (-1) 0).toNat 0),(rawA (ws.getD (nxA t (-1) 0).toNat 0)),w,gk,ga,0,true,15⟩,jLd ws (nxA t (-1) 0) j,ws⟩:=by unfold qstC;rw [if_neg (show ¬ (1:Int)=4 by decide),if_neg (show ¬ (1:Int)=5 by decide)];unfold firC;rw [if_pos rfl];simp only [if_neg hi]
  rw [e]
  by_cases hn:rawA (ws.getD (nxA t (-1) 0).toNat 0)<0
  ·exact p1A (XD.2 (by simp only [List.forall_mem_cons];exact ⟨decide_eq_true hn,decide_eq_true g2,decide_eq_true g1,fun _ hb=>by cases hb⟩))
  ·have hb:rawA (ws.getD (nxA t (-1) 0).toNat 0)≥t.size:=by unfold inT at hi;omega
   exact p1B (XD.2 (by simp only [List.forall_mem_cons];exact ⟨decide_eq_true hb,by rw [decide_eq_false hn];rfl,decide_eq_true g2,decide_eq_true g1,fun _ hb=>by cases hb⟩))
theorem pst_2 (hx:x.ln=2) (hfit:x.t.fit n ws) (hm:x.made=true) (i0:0≤x.i) (i1:x.i<x.t.size):qEnd x n j ws:=by
 obtain ⟨t,lv,mine,ln,a,i,w,gk,ga,by1,made,err⟩:=x
 simp only at hx hfit hm i0 i1
 subst hx;subst hm
 unfold qEnd
 obtain ⟨g1,g2⟩:=hasPt (k:=4) hfit i0 i1 (by decide) (by have:=hfit.1.1;omega)
 by_cases hk:rawM (ws.getD (ptA t i 4).toNat 0)=true
 ·have e:qstC ⟨t,lv,mine,2,a,i,w,gk,ga,by1,true,err⟩ j ws=⟨⟨t,lv,mine,3,a,i,(ws.getD (ptA t i 4).toNat 0),gk,ga,a,true,err⟩,jLd ws (ptA t i 4) j,ws⟩:=by unfold qstC;rw [if_neg (show ¬ (2:Int)=4 by decide),if_neg (show ¬ (2:Int)=5 by decide)];unfold firC;rw [if_neg (show ¬ (2:Int)=1 by decide),if_pos rfl];simp only [hk,if_true]
  rw [e]
  exact p2M (XD.2 (by simp only [List.forall_mem_cons];exact ⟨hk,decide_eq_true g2,decide_eq_true g1,fun _ hb=>by cases hb⟩))
 ·have hk':=Bool.eq_false_iff.2 hk
  have e:qstC ⟨t,lv,mine,2,a,i,w,gk,ga,by1,true,err⟩ j ws=⟨⟨t,lv,mine,4,a,i,(ws.getD (ptA t i 4).toNat 0),gk,ga,a,true,err⟩,jLd ws (ptA t i 4) j,ws⟩:=by unfold qstC;rw [if_neg (show ¬ (2:Int)=4 by decide),if_neg (show ¬ (2:Int)=5 by decide)];unfold firC;rw [if_neg (show ¬ (2:Int)=1 by decide),if_pos rfl];simp only [hk',Bool.false_eq_true,if_false]
  rw [e]
  exact p2N (XD.2 (by simp only [List.forall_mem_cons];exact ⟨by rw [hk'];rfl,decide_eq_true g2,decide_eq_true g1,fun _ hb=>by cases hb⟩))
theorem pst_3 (hx:x.ln=3) (hfit:x.t.fit n ws) (hm:x.made=true):qEnd x n j ws:=by
 obtain ⟨t,lv,mine,ln,a,i,w,gk,ga,by1,made,err⟩:=x
 simp only at hx hfit hm
 subst hx;subst hm
 unfold qEnd
 obtain ⟨g1,g2⟩:=hasH hfit
 have e:qstC ⟨t,lv,mine,3,a,i,w,gk,ga,by1,true,err⟩ j ws=⟨⟨t,lv,mine,1,a,i,w,gk,ga,0,true,err⟩,jCas ws (nxA t (-1) 0) a (rawC w) j,casW ws (nxA t (-1) 0).toNat a (rawC w)⟩:=by unfold qstC;rw [if_neg (show ¬ (3:Int)=4 by decide),if_neg (show ¬ (3:Int)=5 by decide)];unfold firC;rw [if_neg (show ¬ (3:Int)=1 by decide),if_neg (show ¬ (3:Int)=2 by decide)]
 rw [e]
 exact p3 (XD.2 (by simp only [List.forall_mem_cons];exact ⟨decide_eq_true g2,decide_eq_true g1,fun _ hb=>by cases hb⟩))
theorem cst_4 (hx:x.ln=4) (hfit:x.t.fit n ws) (hm:x.made=true) (i0:0≤x.i) (i1:x.i<x.t.size) (h0:0≤ws.getD (ptA x.t x.i 2).toNat 0):cEnd x n j ws:=by
 obtain ⟨t,lv,mine,ln,a,i,w,gk,ga,by1,made,err⟩:=x
 simp only at hx hfit hm i0 i1 h0
 subst hx;subst hm
 have q1:=hfit.1.1
 have q2:=hfit.1.2.1
 unfold cEnd
 obtain ⟨g1,g2⟩:=hasPt (k:=2) hfit i0 i1 (by decide) (by omega)
 have u1:IntKind.u64.wrap t.height=t.height:=XY (by omega) (by omega)
 have w1:IntKind.i64.wrap (t.height - 1)=t.height - 1:=XM (by omega) (by omega)
 by_cases hl:ws.getD (ptA t i 2).toNat 0<t.height
 ·have w2:IntKind.i64.wrap (ws.getD (ptA t i 2).toNat 0)=ws.getD (ptA t i 2).toNat 0:=XM (by omega) (by omega)
  have w3:IntKind.i64.wrap (ws.getD (ptA t i 2).toNat 0 - 1)=ws.getD (ptA t i 2).toNat 0 - 1:=XM (by omega) (by omega)
  by_cases hb:ws.getD (ptA t i 2).toNat 0 - 1<1
  ·have e:cstC ⟨t,lv,mine,4,a,i,w,gk,ga,by1,true,err⟩ j ws=⟨⟨t,(ws.getD (ptA t i 2).toNat 0 - 1),mine,7,a,i,w,gk,ga,a,true,err⟩,jLd ws (ptA t i 2) j,ws⟩:=by unfold cstC;rw [if_neg (show ¬ ((4:Int)=1∨(4:Int)=2∨(4:Int)=3) by decide),if_pos rfl,if_pos hl];unfold belL;rw [if_pos hb]
   rw [e]
   have:=c4aE (t:=t) (mine:=mine) (lv:=lv) (a:=a) (i:=i) (w:=w) (gk:=gk) (ga:=ga) (by1:=by1) (err:=err) (n:=n) (j:=j) (ws:=ws) (XD.2 (by simp only [List.forall_mem_cons];exact ⟨by rw [w2,w3];exact decide_eq_true hb,by rw [u1];exact decide_eq_true hl,decide_eq_true g2,decide_eq_true g1,fun _ hb=>by cases hb⟩))
   rw [w2,w3] at this
   exact this
  ·have e:cstC ⟨t,lv,mine,4,a,i,w,gk,ga,by1,true,err⟩ j ws=⟨⟨t,(ws.getD (ptA t i 2).toNat 0 - 1),mine,5,a,i,w,gk,ga,a,true,err⟩,jLd ws (ptA t i 2) j,ws⟩:=by unfold cstC;rw [if_neg (show ¬ ((4:Int)=1∨(4:Int)=2∨(4:Int)=3) by decide),if_pos rfl,if_pos hl];unfold belL;rw [if_neg hb]
   rw [e]
   have:=c4aL (t:=t) (mine:=mine) (lv:=lv) (a:=a) (i:=i) (w:=w) (gk:=gk) (ga:=ga) (by1:=by1) (err:=err) (n:=n) (j:=j) (ws:=ws) (XD.2 (by simp only [List.forall_mem_cons];exact ⟨by rw [w2,w3,decide_eq_false hb];rfl,by rw [u1];exact decide_eq_true hl,decide_eq_true g2,decide_eq_true g1,fun _ hb=>by cases hb⟩))
   rw [w2,w3] at this
   exact this
 ·by_cases hb:t.height - 1<1
  ·have e:cstC ⟨t,lv,mine,4,a,i,w,gk,ga,by1,true,err⟩ j ws=⟨⟨t,(t.height - 1),mine,7,a,i,w,gk,ga,a,true,err⟩,jLd ws (ptA t i 2) j,ws⟩:=by unfold cstC;rw [if_neg (show ¬ ((4:Int)=1∨(4:Int)=2∨(4:Int)=3) by decide),if_pos rfl,if_neg hl];unfold belL;rw [if_pos hb]
   rw [e]
   have:=c4bE (t:=t) (mine:=mine) (lv:=lv) (a:=a) (i:=i) (w:=w) (gk:=gk) (ga:=ga) (by1:=by1) (err:=err) (n:=n) (j:=j) (ws:=ws) (XD.2 (by simp only [List.forall_mem_cons];exact ⟨by rw [w1];exact decide_eq_true hb,by rw [u1,decide_eq_false hl];rfl,decide_eq_true g2,decide_eq_true g1,fun _ hb=>by cases hb⟩))
   rw [w1] at this
   exact this
  ·have e:cstC ⟨t,lv,mine,4,a,i,w,gk,ga,by1,true,err⟩ j ws=⟨⟨t,(t.height - 1),mine,5,a,i,w,gk,ga,a,true,err⟩,jLd ws (ptA t i 2) j,ws⟩:=by unfold cstC;rw [if_neg (show ¬ ((4:Int)=1∨(4:Int)=2∨(4:Int)=3) by decide),if_pos rfl,if_neg hl];unfold belL;rw [if_neg hb]
   rw [e]
   have:=c4bL (t:=t) (mine:=mine) (lv:=lv) (a:=a) (i:=i) (w:=w) (gk:=gk) (ga:=ga) (by1:=by1) (err:=err) (n:=n) (j:=j) (ws:=ws) (XD.2 (by simp only [List.forall_mem_cons];exact ⟨by rw [w1,decide_eq_false hb];rfl,by rw [u1,decide_eq_false hl];rfl,decide_eq_true g2,decide_eq_true g1,fun _ hb=>by cases hb⟩))
   rw [w1] at this
   exact this
theorem cst_5 (hx:x.ln=5) (hfit:x.t.fit n ws) (hm:x.made=true) (i0:0≤x.i) (i1:x.i<x.t.size) (l0:1≤x.lv) (l1:x.lv<x.t.height):cEnd x n j ws:=by
 obtain ⟨t,lv,mine,ln,a,i,w,gk,ga,by1,made,err⟩:=x
 simp only at hx hfit hm i0 i1 l0 l1
 subst hx;subst hm
 have q1:=hfit.1.1
 have q2:=hfit.1.2.1
 unfold cEnd
 obtain ⟨g1,g2⟩:=hasPt (k:=4+lv) hfit i0 i1 (by omega) (by omega)
 have w4:IntKind.i64.wrap (4+lv)=4+lv:=XM (by omega) (by omega)
 have w1:IntKind.i64.wrap (lv - 1)=lv - 1:=XM (by omega) (by omega)
 by_cases hk:rawM (ws.getD (ptA t i (4+lv)).toNat 0)=true
 ·by_cases hb:lv - 1<1
  ·have e:cstC ⟨t,lv,mine,5,a,i,w,gk,ga,by1,true,err⟩ j ws=⟨⟨t,(lv - 1),mine,7,a,i,(ws.getD (ptA t i (4+lv)).toNat 0),gk,ga,a,true,err⟩,jLd ws (ptA t i (4+lv)) j,ws⟩:=by unfold cstC;rw [if_neg (show ¬ ((5:Int)=1∨(5:Int)=2∨(5:Int)=3) by decide),if_neg (show ¬ (5:Int)=4 by decide),if_pos rfl,if_pos hk];unfold belL;rw [if_pos hb]
   rw [e]
   have:=c5ME (t:=t) (mine:=mine) (lv:=lv) (a:=a) (i:=i) (w:=w) (gk:=gk) (ga:=ga) (by1:=by1) (err:=err) (n:=n) (j:=j) (ws:=ws) (XD.2 (by simp only [List.forall_mem_cons];exact ⟨by rw [w1];exact decide_eq_true hb,by rw [w4];exact hk,by rw [w4];exact decide_eq_true g2,by rw [w4];exact decide_eq_true g1,fun _ hb=>by cases hb⟩))
   rw [w4,w1] at this
   exact this
  ·have e:cstC ⟨t,lv,mine,5,a,i,w,gk,ga,by1,true,err⟩ j ws=⟨⟨t,(lv - 1),mine,5,a,i,(ws.getD (ptA t i (4+lv)).toNat 0),gk,ga,a,true,err⟩,jLd ws (ptA t i (4+lv)) j,ws⟩:=by unfold cstC;rw [if_neg (show ¬ ((5:Int)=1∨(5:Int)=2∨(5:Int)=3) by decide),if_neg (show ¬ (5:Int)=4 by decide),if_pos rfl,if_pos hk];unfold belL;rw [if_neg hb]
   rw [e]
   have:=c5ML (t:=t) (mine:=mine) (lv:=lv) (a:=a) (i:=i) (w:=w) (gk:=gk) (ga:=ga) (by1:=by1) (err:=err) (n:=n) (j:=j) (ws:=ws) (XD.2 (by simp only [List.forall_mem_cons];exact ⟨by rw [w1,decide_eq_false hb];rfl,by rw [w4];exact hk,by rw [w4];exact decide_eq_true g2,by rw [w4];exact decide_eq_true g1,fun _ hb=>by cases hb⟩))
   rw [w4,w1] at this
   exact this
 ·have hk':=Bool.eq_false_iff.2 hk
  have e:cstC ⟨t,lv,mine,5,a,i,w,gk,ga,by1,true,err⟩ j ws=⟨⟨t,lv,mine,6,a,i,(ws.getD (ptA t i (4+lv)).toNat 0),gk,ga,a,true,err⟩,jLd ws (ptA t i (4+lv)) j,ws⟩:=by unfold cstC;rw [if_neg (show ¬ ((5:Int)=1∨(5:Int)=2∨(5:Int)=3) by decide),if_neg (show ¬ (5:Int)=4 by decide),if_pos rfl,if_neg hk]
  rw [e]
  have:=c5N (t:=t) (mine:=mine) (lv:=lv) (a:=a) (i:=i) (w:=w) (gk:=gk) (ga:=ga) (by1:=by1) (err:=err) (n:=n) (j:=j) (ws:=ws) (XD.2 (by simp only [List.forall_mem_cons];exact ⟨by rw [w4,hk'];rfl,by rw [w4];exact decide_eq_true g2,by rw [w4];exact decide_eq_true g1,fun _ hb=>by cases hb⟩))
  rw [w4] at this
  exact this
theorem cst_6 (hx:x.ln=6) (hfit:x.t.fit n ws) (hm:x.made=true) (i0:0≤x.i) (i1:x.i<x.t.size) (l0:1≤x.lv) (l1:x.lv<x.t.height):cEnd x n j ws:=by
 obtain ⟨t,lv,mine,ln,a,i,w,gk,ga,by1,made,err⟩:=x
 simp only at hx hfit hm i0 i1 l0 l1
 subst hx;subst hm
 have q1:=hfit.1.1
 have q2:=hfit.1.2.1
 unfold cEnd
 obtain ⟨g1,g2⟩:=hasNx (l:=lv) hfit i0 i1 (by omega) (by omega)
 have w1:IntKind.i64.wrap (lv - 1)=lv - 1:=XM (by omega) (by omega)
 by_cases hk:ws.getD (nxA t i lv).toNat 0=w
 ·by_cases hb:lv - 1<1
  ·have e:cstC ⟨t,lv,mine,6,a,i,w,gk,ga,by1,true,err⟩ j ws=⟨⟨t,(lv - 1),mine,7,a,i,w,gk,ga,a,true,err⟩,jCas ws (nxA t i lv) w (rawOn w) j,casW ws (nxA t i lv).toNat w (rawOn w)⟩:=by unfold cstC;rw [if_neg (show ¬ ((6:Int)=1∨(6:Int)=2∨(6:Int)=3) by decide),if_neg (show ¬ (6:Int)=4 by decide),if_neg (show ¬ (6:Int)=5 by decide),if_pos rfl,if_pos hk];unfold belL;rw [if_pos hb]
   rw [e]
   have:=c6E (t:=t) (mine:=mine) (lv:=lv) (a:=a) (i:=i) (w:=w) (gk:=gk) (ga:=ga) (by1:=by1) (err:=err) (n:=n) (j:=j) (ws:=ws) (XD.2 (by simp only [List.forall_mem_cons];exact ⟨by rw [w1];exact decide_eq_true hb,decide_eq_true hk,decide_eq_true g2,decide_eq_true g1,fun _ hb=>by cases hb⟩))
   rw [w1] at this
   exact this
  ·have e:cstC ⟨t,lv,mine,6,a,i,w,gk,ga,by1,true,err⟩ j ws=⟨⟨t,(lv - 1),mine,5,a,i,w,gk,ga,a,true,err⟩,jCas ws (nxA t i lv) w (rawOn w) j,casW ws (nxA t i lv).toNat w (rawOn w)⟩:=by unfold cstC;rw [if_neg (show ¬ ((6:Int)=1∨(6:Int)=2∨(6:Int)=3) by decide),if_neg (show ¬ (6:Int)=4 by decide),if_neg (show ¬ (6:Int)=5 by decide),if_pos rfl,if_pos hk];unfold belL;rw [if_neg hb]
   rw [e]
   have:=c6L (t:=t) (mine:=mine) (lv:=lv) (a:=a) (i:=i) (w:=w) (gk:=gk) (ga:=ga) (by1:=by1) (err:=err) (n:=n) (j:=j) (ws:=ws) (XD.2 (by simp only [List.forall_mem_cons];exact ⟨by rw [w1,decide_eq_false hb];rfl,decide_eq_true hk,decide_eq_true g2,decide_eq_true g1,fun _ hb=>by cases hb⟩))
   rw [w1] at this
   exact this
 ·have e:cstC ⟨t,lv,mine,6,a,i,w,gk,ga,by1,true,err⟩ j ws=⟨⟨t,lv,mine,5,a,i,w,gk,ga,a,true,err⟩,jCas ws (nxA t i lv) w (rawOn w) j,casW ws (nxA t i lv).toNat w (rawOn w)⟩:=by unfold cstC;rw [if_neg (show ¬ ((6:Int)=1∨(6:Int)=2∨(6:Int)=3) by decide),if_neg (show ¬ (6:Int)=4 by decide),if_neg (show ¬ (6:Int)=5 by decide),if_pos rfl,if_neg hk]
  rw [e]
  exact c6F (XD.2 (by simp only [List.forall_mem_cons];exact ⟨by rw [decide_eq_false hk];rfl,decide_eq_true g2,decide_eq_true g1,fun _ hb=>by cases hb⟩))
theorem cst_7 (hx:x.ln=7) (hfit:x.t.fit n ws) (hm:x.made=true) (i0:0≤x.i) (i1:x.i<x.t.size):cEnd x n j ws:=by
 obtain ⟨t,lv,mine,ln,a,i,w,gk,ga,by1,made,err⟩:=x
 simp only at hx hfit hm i0 i1
 subst hx;subst hm
 have q1:=hfit.1.1
 have q2:=hfit.1.2.1
 unfold cEnd
 obtain ⟨g1,g2⟩:=hasPt (k:=4) hfit i0 i1 (by decide) (by omega)
 by_cases hk:rawM (ws.getD (ptA t i 4).toNat 0)=true
 ·have e:cstC ⟨t,lv,mine,7,a,i,w,gk,ga,by1,true,err⟩ j ws=⟨⟨t,lv,mine,3,a,i,(ws.getD (ptA t i 4).toNat 0),gk,ga,a,true,err⟩,jLd ws (ptA t i 4) j,ws⟩:=by unfold cstC;rw [if_neg (show ¬ ((7:Int)=1∨(7:Int)=2∨(7:Int)=3) by decide),if_neg (show ¬ (7:Int)=4 by decide),if_neg (show ¬ (7:Int)=5 by decide),if_neg (show ¬ (7:Int)=6 by decide),if_pos rfl];simp only [hk,if_true]
  rw [e]
  exact c7M (XD.2 (by simp only [List.forall_mem_cons];exact ⟨hk,decide_eq_true g2,decide_eq_true g1,fun _ hb=>by cases hb⟩))
 ·have hk':=Bool.eq_false_iff.2 hk
  have e:cstC ⟨t,lv,mine,7,a,i,w,gk,ga,by1,true,err⟩ j ws=⟨⟨t,lv,mine,8,a,i,(ws.getD (ptA t i 4).toNat 0),gk,ga,a,true,err⟩,jLd ws (ptA t i 4) j,ws⟩:=by unfold cstC;rw [if_neg (show ¬ ((7:Int)=1∨(7:Int)=2∨(7:Int)=3) by decide),if_neg (show ¬ (7:Int)=4 by decide),if_neg (show ¬ (7:Int)=5 by decide),if_neg (show ¬ (7:Int)=6 by decide),if_pos rfl];simp only [hk',Bool.false_eq_true,if_false]
  rw [e]
  exact c7N (XD.2 (by simp only [List.forall_mem_cons];exact ⟨by rw [hk'];rfl,decide_eq_true g2,decide_eq_true g1,fun _ hb=>by cases hb⟩))
theorem cst_8 (hx:x.ln=8) (hfit:x.t.fit n ws) (hm:x.made=true) (i0:0≤x.i) (i1:x.i<x.t.size):cEnd x n j ws:=by
 obtain ⟨t,lv,mine,ln,a,i,w,gk,ga,by1,made,err⟩:=x
 simp only at hx hfit hm i0 i1
 subst hx;subst hm
 have q1:=hfit.1.1
 have q2:=hfit.1.2.1
 unfold cEnd
 obtain ⟨g1,g2⟩:=hasNx (l:=0) hfit i0 i1 (by decide) (by omega)
 by_cases hk:ws.getD (nxA t i 0).toNat 0=w
 ·have e:cstC ⟨t,lv,mine,8,a,i,w,gk,ga,by1,true,err⟩ j ws=⟨⟨t,lv,true,9,a,i,w,gk,ga,a,true,err⟩,jCas ws (nxA t i 0) w (rawOn w) j,casW ws (nxA t i 0).toNat w (rawOn w)⟩:=by unfold cstC;rw [if_neg (show ¬ ((8:Int)=1∨(8:Int)=2∨(8:Int)=3) by decide),if_neg (show ¬ (8:Int)=4 by decide),if_neg (show ¬ (8:Int)=5 by decide),if_neg (show ¬ (8:Int)=6 by decide),if_neg (show ¬ (8:Int)=7 by decide),if_pos rfl,if_pos hk]
  rw [e]
  exact c8T (XD.2 (by simp only [List.forall_mem_cons];exact ⟨decide_eq_true hk,decide_eq_true g2,decide_eq_true g1,fun _ hb=>by cases hb⟩))
 ·have e:cstC ⟨t,lv,mine,8,a,i,w,gk,ga,by1,true,err⟩ j ws=⟨⟨t,lv,mine,7,a,i,w,gk,ga,a,true,err⟩,jCas ws (nxA t i 0) w (rawOn w) j,casW ws (nxA t i 0).toNat w (rawOn w)⟩:=by unfold cstC;rw [if_neg (show ¬ ((8:Int)=1∨(8:Int)=2∨(8:Int)=3) by decide),if_neg (show ¬ (8:Int)=4 by decide),if_neg (show ¬ (8:Int)=5 by decide),if_neg (show ¬ (8:Int)=6 by decide),if_neg (show ¬ (8:Int)=7 by decide),if_pos rfl,if_neg hk]
  rw [e]
  exact c8F (XD.2 (by simp only [List.forall_mem_cons];exact ⟨by rw [decide_eq_false hk];rfl,decide_eq_true g2,decide_eq_true g1,fun _ hb=>by cases hb⟩))
theorem cst_9 (hx:x.ln=9) (hfit:x.t.fit n ws) (hm:x.made=true) (i0:0≤x.i) (i1:x.i<x.t.size):cEnd x n j ws:=by
 obtain ⟨t,lv,mine,ln,a,i,w,gk,ga,by1,made,err⟩:=x
 simp only at hx hfit hm i0 i1
 subst hx;subst hm
 have q1:=hfit.1.1
 have q2:=hfit.1.2.1
 unfold cEnd
 obtain ⟨g1,g2⟩:=hasPt (k:=0) hfit i0 i1 (by decide) (by omega)
 have e:cstC ⟨t,lv,mine,9,a,i,w,gk,ga,by1,true,err⟩ j ws=⟨⟨t,lv,mine,91,a,i,w,(ws.getD (ptA t i 0).toNat 0),ga,a,true,err⟩,jLd ws (ptA t i 0) j,ws⟩:=by unfold cstC;rw [if_neg (show ¬ ((9:Int)=1∨(9:Int)=2∨(9:Int)=3) by decide),if_neg (show ¬ (9:Int)=4 by decide),if_neg (show ¬ (9:Int)=5 by decide),if_neg (show ¬ (9:Int)=6 by decide),if_neg (show ¬ (9:Int)=7 by decide),if_neg (show ¬ (9:Int)=8 by decide),if_pos rfl]
 rw [e]
 exact c9 (XD.2 (by simp only [List.forall_mem_cons];exact ⟨decide_eq_true g2,decide_eq_true g1,fun _ hb=>by cases hb⟩))
theorem cst_call (h:cPre x n ws) (h91:x.ln≠91):cEnd x n j ws:=by
 obtain ⟨hfit,hm,h⟩:=h
 rcases h with h|h|⟨i0,i1,h⟩
 ·exact cst_1 h hfit hm
 ·exact cst_3 h hfit hm
 ·rcases h with h|⟨h,h0⟩|⟨h,l0,l1⟩|h|h|h|h
  ·exact cst_2 h hfit hm i0 i1
  ·exact cst_4 h hfit hm i0 i1 h0
  ·rcases h with h|h
   ·exact cst_5 h hfit hm i0 i1 l0 l1
   ·exact cst_6 h hfit hm i0 i1 l0 l1
  ·exact cst_7 h hfit hm i0 i1
  ·exact cst_8 h hfit hm i0 i1
  ·exact cst_9 h hfit hm i0 i1
  ·exact absurd h h91
theorem cst_91 (h:cPre x n ws) (hx:x.ln=91):YD PR 15 cArgs 3 (hO (cA x n j ws)) (.bool false) 5 (hO [some (claM (.ptr 3 0 0 0) .nilp (cstC x j ws).x),some (memM 2 n (cstC x j ws).j),some (XL (cstC x j ws).ws),some (findM 4 (newF x.t x.gk)),some (toldM (newR x.t))]):=by
 obtain ⟨hfit,hm,h⟩:=h
 obtain ⟨t,lv,mine,ln,a,i,w,gk,ga,by1,made,err⟩:=x
 simp only at hx hfit hm h
 subst hx;subst hm
 have q1:=hfit.1.1
 have hi:0≤i∧i<t.size:=by
  rcases h with h|h|⟨i0,i1,_⟩
  ·cases h
  ·cases h
  ·exact ⟨i0,i1⟩
 obtain ⟨g1,g2⟩:=hasPt (k:=1) hfit hi.1 hi.2 (by decide) (by omega)
 have e:cstC ⟨t,lv,mine,91,a,i,w,gk,ga,by1,true,err⟩ j ws=⟨⟨t,lv,mine,10,a,i,w,gk,(low16 (ws.getD (ptA t i 1).toNat 0)),a,true,err⟩,jLd ws (ptA t i 1) j,ws⟩:=by unfold cstC;rw [if_neg (show ¬ ((91:Int)=1∨(91:Int)=2∨(91:Int)=3) by decide),if_neg (show ¬ (91:Int)=4 by decide),if_neg (show ¬ (91:Int)=5 by decide),if_neg (show ¬ (91:Int)=6 by decide),if_neg (show ¬ (91:Int)=7 by decide),if_neg (show ¬ (91:Int)=8 by decide),if_neg (show ¬ (91:Int)=9 by decide)]
 rw [e]
 exact c91 (XD.2 (by simp only [List.forall_mem_cons];exact ⟨decide_eq_true hfit.1,decide_eq_true g2,decide_eq_true g1,fun _ hb=>by cases hb⟩))
theorem pst_4 (hx:x.ln=4) (hfit:x.t.fit n ws) (hm:x.made=true) (i0:0≤x.i) (i1:x.i<x.t.size):qEnd x n j ws:=by
 obtain ⟨t,lv,mine,ln,a,i,w,gk,ga,by1,made,err⟩:=x
 simp only at hx hfit hm i0 i1
 subst hx;subst hm
 have q1:=hfit.1.1
 have q2:=hfit.1.2.1
 unfold qEnd
 obtain ⟨g1,g2⟩:=hasPt (k:=0) hfit i0 i1 (by decide) (by omega)
 have e:qstC ⟨t,lv,mine,4,a,i,w,gk,ga,by1,true,err⟩ j ws=⟨⟨t,lv,mine,5,a,i,w,(ws.getD (ptA t i 0).toNat 0),ga,a,true,err⟩,jLd ws (ptA t i 0) j,ws⟩:=by unfold qstC;rw [if_pos rfl]
 rw [e]
 exact p4 (XD.2 (by simp only [List.forall_mem_cons];exact ⟨decide_eq_true g2,decide_eq_true g1,fun _ hb=>by cases hb⟩))
theorem pst_5 (hx:x.ln=5) (hfit:x.t.fit n ws) (hm:x.made=true) (i0:0≤x.i) (i1:x.i<x.t.size):qEnd x n j ws:=by
 obtain ⟨t,lv,mine,ln,a,i,w,gk,ga,by1,made,err⟩:=x
 simp only at hx hfit hm i0 i1
 subst hx;subst hm
 have q1:=hfit.1.1
 have q2:=hfit.1.2.1
 unfold qEnd
 obtain ⟨g1,g2⟩:=hasPt (k:=1) hfit i0 i1 (by decide) (by omega)
 have e:qstC ⟨t,lv,mine,5,a,i,w,gk,ga,by1,true,err⟩ j ws=⟨⟨t,lv,mine,99,a,i,w,gk,(low16 (ws.getD (ptA t i 1).toNat 0)),a,true,err⟩,jLd ws (ptA t i 1) j,ws⟩:=by unfold qstC;rw [if_neg (show ¬ (5:Int)=4 by decide),if_pos rfl]
 rw [e]
 exact p5 (XD.2 (by simp only [List.forall_mem_cons];exact ⟨decide_eq_true g2,decide_eq_true g1,fun _ hb=>by cases hb⟩))
theorem qst_call (h:qPre x n ws):qEnd x n j ws:=by
 obtain ⟨hfit,hm,h⟩:=h
 rcases h with h|h|⟨i0,i1,h⟩
 ·exact pst_1 h hfit hm
 ·exact pst_3 h hfit hm
 ·rcases h with h|h|h
  ·exact pst_2 h hfit hm i0 i1
  ·exact pst_4 h hfit hm i0 i1
  ·exact pst_5 h hfit hm i0 i1
def dEnd (x:ClC) (f:FdC) (rs:List (List Int)) (n:Int) (j:MJ) (ws:List Int):Prop:=YD PR 15 iArgs 5 (hO (cB .nilp x f rs n j ws)) (.bool ((dstC x f rs j ws).1.ln==99)) 5 (hO (cB .nilp (dstC x f rs j ws).1 (keepF f (dstC x f rs j ws).2.x) (dstC x f rs j ws).2.rs n (dstC x f rs j ws).2.j (dstC x f rs j ws).2.ws))
theorem dst_call (h:dPre x f rs n ws) (hR:¬ dNR x ws):dEnd x f rs n j ws:=by
 obtain ⟨hfit,hm,hft,i0,i1,h⟩:=h
 obtain ⟨t,lv,mine,ln,a,i,w,gk,ga,by1,made,err⟩:=x
 simp only at hfit hm hft i0 i1 h
 subst hm
 unfold dEnd
 rcases h with ⟨hx,hf,_⟩|hx
 ·subst hx
  by_cases h9:(fstC f rs j ws).x.ln=9
  ·have e:dstC ⟨t,lv,mine,10,a,i,w,gk,ga,by1,true,err⟩ f rs j ws=(⟨t,lv,mine,11,a,i,w,gk,ga,(fstC f rs j ws).x.by',true,err⟩,fstC f rs j ws):=by unfold dstC;rw [if_pos rfl];simp only [if_pos h9]
   rw [e]
   exact c10E (XD.2 (by simp only [List.forall_mem_cons];exact ⟨nz'.2 h9,decide_eq_true hf,fun _ hb=>by cases hb⟩))
  ·have e:dstC ⟨t,lv,mine,10,a,i,w,gk,ga,by1,true,err⟩ f rs j ws=(⟨t,lv,mine,10,a,i,w,gk,ga,(fstC f rs j ws).x.by',true,err⟩,fstC f rs j ws):=by unfold dstC;rw [if_pos rfl];simp only [if_neg h9]
   rw [e]
   exact c10N (XD.2 (by simp only [List.forall_mem_cons];exact ⟨nz.2 h9,decide_eq_true hf,fun _ hb=>by cases hb⟩))
 ·subst hx
  have hne:¬ addW ws (ptA t i 3).toNat 18446744073709551615=0:=fun h=>hR ⟨rfl,h⟩
  have q1:=hfit.1.1
  obtain ⟨g1,g2⟩:=hasPt (k:=3) hfit i0 i1 (by decide) (by omega)
  have e:dstC ⟨t,lv,mine,11,a,i,w,gk,ga,by1,true,err⟩ f rs j ws=(⟨t,lv,mine,99,a,i,w,gk,ga,a,true,err⟩,⟨f,rs,jAdd ws (ptA t i 3) 18446744073709551615 j,ws.set (ptA t i 3).toNat (addW ws (ptA t i 3).toNat 18446744073709551615)⟩):=by unfold dstC;rw [if_neg (show ¬ (11:Int)=10 by decide)];simp only [if_neg hne]
  rw [e]
  exact c11O (XD.2 (by simp only [List.forall_mem_cons];exact ⟨by rw [Bool.not_eq_true',beq_eq_false_iff_ne];exact hne,decide_eq_true g2,decide_eq_true g1,fun _ hb=>by cases hb⟩))
theorem dst_callR (h:dPre x f rs n ws) (hR:dNR x ws):YD PR 15 iArgs 5 (hO (cB .nilp x f rs n j ws)) (.bool false) 6 (hO (cB (.ptr 5 0 0 0) (dstC x f rs j ws).1 f rs n (dstC x f rs j ws).2.j (dstC x f rs j ws).2.ws++[some (reM (.fn fLook [.ptr 5 0 0 0] []) .nilp ⟨true,0,x.t,x.i⟩)])):=by
 obtain ⟨hfit,hm,hft,i0,i1,h⟩:=h
 obtain ⟨t,lv,mine,ln,a,i,w,gk,ga,by1,made,err⟩:=x
 obtain ⟨hx,h0⟩:=hR
 simp only at hfit hm hft i0 i1 h hx h0
 subst hm;subst hx
 have q1:=hfit.1.1
 obtain ⟨g1,g2⟩:=hasPt (k:=3) hfit i0 i1 (by decide) (by omega)
 have e:dstC ⟨t,lv,mine,11,a,i,w,gk,ga,by1,true,err⟩ f rs j ws=(⟨t,lv,mine,12,a,i,w,gk,ga,a,true,err⟩,⟨f,rs,jAdd ws (ptA t i 3) 18446744073709551615 j,ws.set (ptA t i 3).toNat (addW ws (ptA t i 3).toNat 18446744073709551615)⟩):=by unfold dstC;rw [if_neg (show ¬ (11:Int)=10 by decide)];simp only [if_pos h0]
 rw [e]
 exact c11R (XD.2 (by simp only [List.forall_mem_cons];exact ⟨decide_eq_true ⟨i0,i1⟩,beq_iff_eq.2 h0,decide_eq_true g2,decide_eq_true g1,fun _ hb=>by cases hb⟩))
end
end Go.Sx
