/- An Insert's Step: its contract and its summary. Printed by gen_A9.py. -/
import Derived.Test.YtpnpmkdijmeddaaGreatScA8
set_option maxRecDepth 100000
namespace Go.Sx
open Go.Proofs
theorem colC_len {rs:List (List Int)} {k:Nat}:(colC rs k).length=rs.length:=by unfold colC;rw [List.length_map]
theorem col_ok {rs:List (List Int)} {k:Nat} {lv:Int} (h0:0≤lv) (h1:lv<rs.length):decide (0≤lv∧lv<((colC rs k).length:Int))=true∧decide (lv.toNat<(colC rs k).length)=true:=by
 rw [colC_len]
 exact ⟨decide_eq_true ⟨h0,h1⟩,decide_eq_true (by omega)⟩
theorem nz {x:Int}:(!(x==9))=true↔¬ x=9:=by simp
theorem nz' {x:Int}:(x==9)=true↔x=9:=by simp
section
variable {x:InsC} {f:FdC} {rs:List (List Int)} {n:Int} {j:MJ} {ws:List Int}
def iEnd (x:InsC) (f:FdC) (rs:List (List Int)) (n:Int) (j:MJ) (ws:List Int):Prop:=YD PR 69 iArgs 5 (hO (iA 1 4 .nilp x f rs n j ws)) (.bool ((istC x f rs j ws).x.ln==0)) 5 (hO (iA 1 4 .nilp (istC x f rs j ws).x (keepF f (istC x f rs j ws).f) (istC x f rs j ws).rs n (istC x f rs j ws).j (istC x f rs j ws).ws))
theorem ist_s1 (hx:x.ln=1) (hf:fPre f rs n ws):iEnd x f rs n j ws:=by
 obtain ⟨t,made,inn,ref,key,i,high,ln,lv,w,by1,err⟩:=x
 simp only at hx
 subst hx
 by_cases h9:(fstC f rs j ws).x.ln=9
 ·have e:istC ⟨t,made,inn,ref,key,i,high,1,lv,w,by1,err⟩ f rs j ws=⟨⟨t,made,inn,ref,key,i,high,2,0,w,(fstC f rs j ws).x.by',err⟩,(fstC f rs j ws).x,(fstC f rs j ws).rs,(fstC f rs j ws).j,(fstC f rs j ws).ws⟩:=by
   unfold istC;rw [if_pos rfl];rw [if_pos h9];unfold seekC;rw [if_pos h9]
  unfold iEnd
  rw [e]
  exact s1E (XD.2 (by simp only [List.forall_mem_cons,Bool.not_not];exact ⟨nz'.2 h9,decide_eq_true hf,fun _ hb=>by cases hb⟩))
 ·have e:istC ⟨t,made,inn,ref,key,i,high,1,lv,w,by1,err⟩ f rs j ws=⟨⟨t,made,inn,ref,key,i,high,1,lv,w,(fstC f rs j ws).x.by',err⟩,(fstC f rs j ws).x,(fstC f rs j ws).rs,(fstC f rs j ws).j,(fstC f rs j ws).ws⟩:=by
   unfold istC;rw [if_pos rfl];rw [if_neg h9];unfold seekC;rw [if_neg h9]
  unfold iEnd
  rw [e]
  exact s1N (XD.2 (by simp only [List.forall_mem_cons];exact ⟨nz.2 h9,decide_eq_true hf,fun _ hb=>by cases hb⟩))
theorem ist_s7 (hx:x.ln=7) (hf:fPre f rs n ws):iEnd x f rs n j ws:=by
 obtain ⟨t,made,inn,ref,key,i,high,ln,lv,w,by1,err⟩:=x
 simp only at hx
 subst hx
 by_cases h9:(fstC f rs j ws).x.ln=9
 ·have e:istC ⟨t,made,inn,ref,key,i,high,7,lv,w,by1,err⟩ f rs j ws=⟨⟨t,made,inn,ref,key,i,high,8,lv,w,(fstC f rs j ws).x.by',err⟩,(fstC f rs j ws).x,(fstC f rs j ws).rs,(fstC f rs j ws).j,(fstC f rs j ws).ws⟩:=by
   unfold istC;rw [if_neg (show ¬ (7:Int)=1 by decide),if_neg (show ¬ (7:Int)=2 by decide),if_neg (show ¬ (7:Int)=3 by decide),if_neg (show ¬ (7:Int)=4 by decide),if_neg (show ¬ (7:Int)=5 by decide),if_neg (show ¬ (7:Int)=6 by decide),if_pos rfl];unfold seekC;rw [if_pos h9]
  unfold iEnd
  rw [e]
  exact s7E (XD.2 (by simp only [List.forall_mem_cons];exact ⟨nz'.2 h9,decide_eq_true hf,fun _ hb=>by cases hb⟩))
 ·have e:istC ⟨t,made,inn,ref,key,i,high,7,lv,w,by1,err⟩ f rs j ws=⟨⟨t,made,inn,ref,key,i,high,7,lv,w,(fstC f rs j ws).x.by',err⟩,(fstC f rs j ws).x,(fstC f rs j ws).rs,(fstC f rs j ws).j,(fstC f rs j ws).ws⟩:=by
   unfold istC;rw [if_neg (show ¬ (7:Int)=1 by decide),if_neg (show ¬ (7:Int)=2 by decide),if_neg (show ¬ (7:Int)=3 by decide),if_neg (show ¬ (7:Int)=4 by decide),if_neg (show ¬ (7:Int)=5 by decide),if_neg (show ¬ (7:Int)=6 by decide),if_pos rfl];unfold seekC;rw [if_neg h9]
  unfold iEnd
  rw [e]
  exact s7N (XD.2 (by simp only [List.forall_mem_cons];exact ⟨nz.2 h9,decide_eq_true hf,fun _ hb=>by cases hb⟩))
theorem ist_s10 (hx:x.ln=10) (hf:fPre f rs n ws):iEnd x f rs n j ws:=by
 obtain ⟨t,made,inn,ref,key,i,high,ln,lv,w,by1,err⟩:=x
 simp only at hx
 subst hx
 by_cases h9:(fstC f rs j ws).x.ln=9
 ·have e:istC ⟨t,made,inn,ref,key,i,high,10,lv,w,by1,err⟩ f rs j ws=⟨⟨t,made,inn,ref,key,i,high,11,lv,w,(fstC f rs j ws).x.by',err⟩,(fstC f rs j ws).x,(fstC f rs j ws).rs,(fstC f rs j ws).j,(fstC f rs j ws).ws⟩:=by
   unfold istC;rw [if_neg (show ¬ (10:Int)=1 by decide),if_neg (show ¬ (10:Int)=2 by decide),if_neg (show ¬ (10:Int)=3 by decide),if_neg (show ¬ (10:Int)=4 by decide),if_neg (show ¬ (10:Int)=5 by decide),if_neg (show ¬ (10:Int)=6 by decide),if_neg (show ¬ (10:Int)=7 by decide),if_neg (show ¬ (10:Int)=8 by decide),if_neg (show ¬ (10:Int)=9 by decide),if_pos rfl];unfold seekC;rw [if_pos h9]
  unfold iEnd
  rw [e]
  exact s10E (XD.2 (by simp only [List.forall_mem_cons];exact ⟨nz'.2 h9,decide_eq_true hf,fun _ hb=>by cases hb⟩))
 ·have e:istC ⟨t,made,inn,ref,key,i,high,10,lv,w,by1,err⟩ f rs j ws=⟨⟨t,made,inn,ref,key,i,high,10,lv,w,(fstC f rs j ws).x.by',err⟩,(fstC f rs j ws).x,(fstC f rs j ws).rs,(fstC f rs j ws).j,(fstC f rs j ws).ws⟩:=by
   unfold istC;rw [if_neg (show ¬ (10:Int)=1 by decide),if_neg (show ¬ (10:Int)=2 by decide),if_neg (show ¬ (10:Int)=3 by decide),if_neg (show ¬ (10:Int)=4 by decide),if_neg (show ¬ (10:Int)=5 by decide),if_neg (show ¬ (10:Int)=6 by decide),if_neg (show ¬ (10:Int)=7 by decide),if_neg (show ¬ (10:Int)=8 by decide),if_neg (show ¬ (10:Int)=9 by decide),if_pos rfl];unfold seekC;rw [if_neg h9]
  unfold iEnd
  rw [e]
  exact s10N (XD.2 (by simp only [List.forall_mem_cons];exact ⟨nz.2 h9,decide_eq_true hf,fun _ hb=>by cases hb⟩))
theorem ist_s2 (hx:x.ln=2) (hf:ended f rs) (ht:f.t=x.t) (hfit:x.t.fit n ws) (i0:0≤x.i) (i1:x.i<x.t.size) (h2:x.high≤x.t.height) (l0:0≤x.lv) (l1:x.lv<x.high):iEnd x f rs n j ws:=by
 obtain ⟨t,made,inn,ref,key,i,high,ln,lv,w,by1,err⟩:=x
 simp only at hx ht hfit i0 i1 h2 l0 l1
 subst hx
 have hl:(rs.length:Int)=t.height:=by rw [hf.1.2.1,ht]
 have h4:t.height≤4:=hfit.1.2.1
 have hhas:t.has i lv:=⟨hfit.1,l0,by omega,.inr ⟨i0,i1⟩⟩
 have hc:=hfit.nx hhas
 have hg:=col_ok (rs:=rs) (k:=3) (lv:=lv) l0 (by omega)
 have hh:high=1∨high=2∨high=3∨high=4:=by omega
 rcases hh with rfl|rfl|rfl|rfl
 ·have hl2:lv=0:=by omega
  rcases hl2 with rfl
  ·exact s2_1_0 (XD.2 (by simp only [List.forall_mem_cons];exact ⟨decide_eq_true hc,hg.2,hg.1,decide_eq_true hf,decide_eq_true hhas,fun _ hb=>by cases hb⟩))
 ·have hl2:lv=0∨lv=1:=by omega
  rcases hl2 with rfl|rfl
  ·exact s2_2_0 (XD.2 (by simp only [List.forall_mem_cons];exact ⟨decide_eq_true hc,hg.2,hg.1,decide_eq_true hf,decide_eq_true hhas,fun _ hb=>by cases hb⟩))
  ·exact s2_2_1 (XD.2 (by simp only [List.forall_mem_cons];exact ⟨decide_eq_true hc,hg.2,hg.1,decide_eq_true hf,decide_eq_true hhas,fun _ hb=>by cases hb⟩))
 ·have hl2:lv=0∨lv=1∨lv=2:=by omega
  rcases hl2 with rfl|rfl|rfl
  ·exact s2_3_0 (XD.2 (by simp only [List.forall_mem_cons];exact ⟨decide_eq_true hc,hg.2,hg.1,decide_eq_true hf,decide_eq_true hhas,fun _ hb=>by cases hb⟩))
  ·exact s2_3_1 (XD.2 (by simp only [List.forall_mem_cons];exact ⟨decide_eq_true hc,hg.2,hg.1,decide_eq_true hf,decide_eq_true hhas,fun _ hb=>by cases hb⟩))
  ·exact s2_3_2 (XD.2 (by simp only [List.forall_mem_cons];exact ⟨decide_eq_true hc,hg.2,hg.1,decide_eq_true hf,decide_eq_true hhas,fun _ hb=>by cases hb⟩))
 ·have hl2:lv=0∨lv=1∨lv=2∨lv=3:=by omega
  rcases hl2 with rfl|rfl|rfl|rfl
  ·exact s2_4_0 (XD.2 (by simp only [List.forall_mem_cons];exact ⟨decide_eq_true hc,hg.2,hg.1,decide_eq_true hf,decide_eq_true hhas,fun _ hb=>by cases hb⟩))
  ·exact s2_4_1 (XD.2 (by simp only [List.forall_mem_cons];exact ⟨decide_eq_true hc,hg.2,hg.1,decide_eq_true hf,decide_eq_true hhas,fun _ hb=>by cases hb⟩))
  ·exact s2_4_2 (XD.2 (by simp only [List.forall_mem_cons];exact ⟨decide_eq_true hc,hg.2,hg.1,decide_eq_true hf,decide_eq_true hhas,fun _ hb=>by cases hb⟩))
  ·exact s2_4_3 (XD.2 (by simp only [List.forall_mem_cons];exact ⟨decide_eq_true hc,hg.2,hg.1,decide_eq_true hf,decide_eq_true hhas,fun _ hb=>by cases hb⟩))
theorem ist_s3 (hx:x.ln=3) (hf:ended f rs) (ht:f.t=x.t) (hfit:x.t.fit n ws) (h2:x.high≤x.t.height) (l0:0≤x.lv) (l1:x.lv<x.high) (hp:tp rs x.lv=-1∨(0≤tp rs x.lv∧tp rs x.lv<x.t.size)) (hok:hgOK x rs ws):iEnd x f rs n j ws:=by
 obtain ⟨t,made,inn,ref,key,i,high,ln,lv,w,by1,err⟩:=x
 simp only at hx ht hfit h2 l0 l1 hp hok
 subst hx
 have hl:(rs.length:Int)=t.height:=by rw [hf.1.2.1,ht]
 have hhas:t.has (tp rs lv) lv:=⟨hfit.1,l0,by omega,hp⟩
 have hc:=hfit.nx hhas
 have h4:t.height≤4:=hfit.1.2.1
 have wl:IntKind.i64.wrap (lv+1)=lv+1:=XM (by omega) (by omega)
 have g1:=col_ok (rs:=rs) (k:=1) (lv:=lv) l0 (by omega)
 have g2:=col_ok (rs:=rs) (k:=2) (lv:=lv) l0 (by omega)
 have g3:=col_ok (rs:=rs) (k:=3) (lv:=lv) l0 (by omega)
 have e:istC ⟨t,made,inn,ref,key,i,high,3,lv,w,by1,err⟩ f rs j ws=⟨⟨t,made,true,ref,key,i,high,upL high 1,1,w,tk rs lv,err⟩,f,rs,hgJ ⟨t,made,inn,ref,key,i,high,3,lv,w,by1,err⟩ rs j ws,hgW ⟨t,made,inn,ref,key,i,high,3,lv,w,by1,err⟩ rs ws⟩:=by
  unfold istC;rw [if_neg (show ¬ (3:Int)=1 by decide),if_neg (show ¬ (3:Int)=2 by decide),if_pos rfl,if_pos hok]
 unfold iEnd
 rw [e]
 by_cases hu:1≥high
 ·have hu':upL high 1=9:=if_pos hu
  rw [hu']
  have:=s3A (t:=t) (made:=made) (inn:=inn) (ref:=ref) (key:=key) (i:=i) (high:=high) (lv:=lv) (w:=w) (by1:=by1) (err:=err) (n:=n) (f:=f) (rs:=rs) (j:=j) (ws:=ws) (XD.2 (by simp only [List.forall_mem_cons,Bool.not_not];exact ⟨decide_eq_true hu,decide_eq_true hok,decide_eq_true hc,g3.2,g3.1,decide_eq_true hf,decide_eq_true hhas,g1.2,g1.1,decide_eq_true hf,g2.2,g2.1,decide_eq_true hf,fun _ hb=>by cases hb⟩))
  exact this
 ·have hu':upL high 1=4:=if_neg hu
  rw [hu']
  have:=s3L (t:=t) (made:=made) (inn:=inn) (ref:=ref) (key:=key) (i:=i) (high:=high) (lv:=lv) (w:=w) (by1:=by1) (err:=err) (n:=n) (f:=f) (rs:=rs) (j:=j) (ws:=ws) (XD.2 (by simp only [List.forall_mem_cons,Bool.not_not];exact ⟨by rw [decide_eq_false hu];rfl,decide_eq_true hok,decide_eq_true hc,g3.2,g3.1,decide_eq_true hf,decide_eq_true hhas,g1.2,g1.1,decide_eq_true hf,g2.2,g2.1,decide_eq_true hf,fun _ hb=>by cases hb⟩))
  exact this
theorem ist_s6 (hx:x.ln=6) (hf:ended f rs) (ht:f.t=x.t) (hfit:x.t.fit n ws) (h2:x.high≤x.t.height) (l0:0≤x.lv) (l1:x.lv<x.high) (hp:tp rs x.lv=-1∨(0≤tp rs x.lv∧tp rs x.lv<x.t.size)) (hok:hgOK x rs ws):iEnd x f rs n j ws:=by
 obtain ⟨t,made,inn,ref,key,i,high,ln,lv,w,by1,err⟩:=x
 simp only at hx ht hfit h2 l0 l1 hp hok
 subst hx
 have hl:(rs.length:Int)=t.height:=by rw [hf.1.2.1,ht]
 have hhas:t.has (tp rs lv) lv:=⟨hfit.1,l0,by omega,hp⟩
 have hc:=hfit.nx hhas
 have h4:t.height≤4:=hfit.1.2.1
 have wl:IntKind.i64.wrap (lv+1)=lv+1:=XM (by omega) (by omega)
 have g1:=col_ok (rs:=rs) (k:=1) (lv:=lv) l0 (by omega)
 have g2:=col_ok (rs:=rs) (k:=2) (lv:=lv) l0 (by omega)
 have g3:=col_ok (rs:=rs) (k:=3) (lv:=lv) l0 (by omega)
 have e:istC ⟨t,made,inn,ref,key,i,high,6,lv,w,by1,err⟩ f rs j ws=⟨⟨t,made,inn,ref,key,i,high,upL high (lv+1),(lv+1),w,tk rs lv,err⟩,f,rs,hgJ ⟨t,made,inn,ref,key,i,high,6,lv,w,by1,err⟩ rs j ws,hgW ⟨t,made,inn,ref,key,i,high,6,lv,w,by1,err⟩ rs ws⟩:=by
  unfold istC;rw [if_neg (show ¬ (6:Int)=1 by decide),if_neg (show ¬ (6:Int)=2 by decide),if_neg (show ¬ (6:Int)=3 by decide),if_neg (show ¬ (6:Int)=4 by decide),if_neg (show ¬ (6:Int)=5 by decide),if_pos rfl,if_pos hok]
 unfold iEnd
 rw [e]
 by_cases hu:lv+1≥high
 ·have hu':upL high (lv+1)=9:=if_pos hu
  rw [hu']
  have:=s6A (t:=t) (made:=made) (inn:=inn) (ref:=ref) (key:=key) (i:=i) (high:=high) (lv:=lv) (w:=w) (by1:=by1) (err:=err) (n:=n) (f:=f) (rs:=rs) (j:=j) (ws:=ws) (XD.2 (by simp only [List.forall_mem_cons,Bool.not_not];exact ⟨by rw [wl];exact decide_eq_true hu,decide_eq_true hok,decide_eq_true hc,g3.2,g3.1,decide_eq_true hf,decide_eq_true hhas,g1.2,g1.1,decide_eq_true hf,g2.2,g2.1,decide_eq_true hf,fun _ hb=>by cases hb⟩))
  rw [wl] at this;exact this
 ·have hu':upL high (lv+1)=4:=if_neg hu
  rw [hu']
  have:=s6L (t:=t) (made:=made) (inn:=inn) (ref:=ref) (key:=key) (i:=i) (high:=high) (lv:=lv) (w:=w) (by1:=by1) (err:=err) (n:=n) (f:=f) (rs:=rs) (j:=j) (ws:=ws) (XD.2 (by simp only [List.forall_mem_cons,Bool.not_not];exact ⟨by rw [wl,decide_eq_false hu];rfl,decide_eq_true hok,decide_eq_true hc,g3.2,g3.1,decide_eq_true hf,decide_eq_true hhas,g1.2,g1.1,decide_eq_true hf,g2.2,g2.1,decide_eq_true hf,fun _ hb=>by cases hb⟩))
  rw [wl] at this;exact this
theorem ist_s4 (hx:x.ln=4) (hf:ended f rs) (ht:f.t=x.t) (hfit:x.t.fit n ws) (i0:0≤x.i) (i1:x.i<x.t.size) (h2:x.high≤x.t.height) (l0:0≤x.lv) (l1:x.lv<x.high):iEnd x f rs n j ws:=by
 obtain ⟨t,made,inn,ref,key,i,high,ln,lv,w,by1,err⟩:=x
 simp only at hx ht hfit i0 i1 h2 l0 l1
 subst hx
 have hl:(rs.length:Int)=t.height:=by rw [hf.1.2.1,ht]
 have hhas:t.has i lv:=⟨hfit.1,l0,by omega,.inr ⟨i0,i1⟩⟩
 have hc:=hfit.nx hhas
 have g3:=col_ok (rs:=rs) (k:=3) (lv:=lv) l0 (by omega)
 unfold iEnd
 by_cases hm:rawM (ws.getD (nxA t i lv).toNat 0)=true
 ·have e:istC ⟨t,made,inn,ref,key,i,high,4,lv,w,by1,err⟩ f rs j ws=⟨⟨t,made,inn,ref,key,i,high,9,lv,ws.getD (nxA t i lv).toNat 0,ref,err⟩,f,rs,jLd ws (nxA t i lv) j,ws⟩:=by
   unfold istC;rw [if_neg (show ¬ (4:Int)=1 by decide),if_neg (show ¬ (4:Int)=2 by decide),if_neg (show ¬ (4:Int)=3 by decide),if_pos rfl];simp only [hm,if_true]
  rw [e]
  exact s4M (XD.2 (by simp only [List.forall_mem_cons];exact ⟨hm,decide_eq_true hc,decide_eq_true hhas,fun _ hb=>by cases hb⟩))
 ·have hm':=Bool.eq_false_iff.2 hm
  by_cases hq:ws.getD (nxA t i lv).toNat 0=tsu rs lv
  ·have e:istC ⟨t,made,inn,ref,key,i,high,4,lv,w,by1,err⟩ f rs j ws=⟨⟨t,made,inn,ref,key,i,high,6,lv,ws.getD (nxA t i lv).toNat 0,ref,err⟩,f,rs,jLd ws (nxA t i lv) j,ws⟩:=by
    unfold istC;rw [if_neg (show ¬ (4:Int)=1 by decide),if_neg (show ¬ (4:Int)=2 by decide),if_neg (show ¬ (4:Int)=3 by decide),if_pos rfl];simp only [hm',Bool.false_eq_true,if_false,if_pos hq]
   rw [e]
   exact s4L (XD.2 (by simp only [List.forall_mem_cons];exact ⟨by rw [Bool.not_eq_true',bne_eq_false_iff_eq];exact hq,g3.2,g3.1,decide_eq_true hf,by rw [hm'];rfl,decide_eq_true hc,decide_eq_true hhas,fun _ hb=>by cases hb⟩))
  ·have e:istC ⟨t,made,inn,ref,key,i,high,4,lv,w,by1,err⟩ f rs j ws=⟨⟨t,made,inn,ref,key,i,high,5,lv,ws.getD (nxA t i lv).toNat 0,ref,err⟩,f,rs,jLd ws (nxA t i lv) j,ws⟩:=by
    unfold istC;rw [if_neg (show ¬ (4:Int)=1 by decide),if_neg (show ¬ (4:Int)=2 by decide),if_neg (show ¬ (4:Int)=3 by decide),if_pos rfl];simp only [hm',Bool.false_eq_true,if_false,if_neg hq]
   rw [e]
   exact s4T (XD.2 (by simp only [List.forall_mem_cons];exact ⟨bne_iff_ne.2 hq,g3.2,g3.1,decide_eq_true hf,by rw [hm'];rfl,decide_eq_true hc,decide_eq_true hhas,fun _ hb=>by cases hb⟩))
theorem ist_s5 (hx:x.ln=5) (hf:ended f rs) (ht:f.t=x.t) (hfit:x.t.fit n ws) (i0:0≤x.i) (i1:x.i<x.t.size) (h2:x.high≤x.t.height) (l0:0≤x.lv) (l1:x.lv<x.high):iEnd x f rs n j ws:=by
 obtain ⟨t,made,inn,ref,key,i,high,ln,lv,w,by1,err⟩:=x
 simp only at hx ht hfit i0 i1 h2 l0 l1
 subst hx
 have hl:(rs.length:Int)=t.height:=by rw [hf.1.2.1,ht]
 have hhas:t.has i lv:=⟨hfit.1,l0,by omega,.inr ⟨i0,i1⟩⟩
 have hc:=hfit.nx hhas
 have g3:=col_ok (rs:=rs) (k:=3) (lv:=lv) l0 (by omega)
 unfold iEnd
 by_cases hq:ws.getD (nxA t i lv).toNat 0=w
 ·have e:istC ⟨t,made,inn,ref,key,i,high,5,lv,w,by1,err⟩ f rs j ws=⟨⟨t,made,inn,ref,key,i,high,6,lv,w,ref,err⟩,f,rs,jCas ws (nxA t i lv) w (tsu rs lv) j,casW ws (nxA t i lv).toNat w (tsu rs lv)⟩:=by
   unfold istC;rw [if_neg (show ¬ (5:Int)=1 by decide),if_neg (show ¬ (5:Int)=2 by decide),if_neg (show ¬ (5:Int)=3 by decide),if_neg (show ¬ (5:Int)=4 by decide),if_pos rfl];simp only [if_pos hq]
  rw [e]
  exact s5T (XD.2 (by simp only [List.forall_mem_cons];exact ⟨decide_eq_true hq,decide_eq_true hc,g3.2,g3.1,decide_eq_true hf,decide_eq_true hhas,fun _ hb=>by cases hb⟩))
 ·have e:istC ⟨t,made,inn,ref,key,i,high,5,lv,w,by1,err⟩ f rs j ws=⟨⟨t,made,inn,ref,key,i,high,9,lv,w,ref,err⟩,f,rs,jCas ws (nxA t i lv) w (tsu rs lv) j,casW ws (nxA t i lv).toNat w (tsu rs lv)⟩:=by
   unfold istC;rw [if_neg (show ¬ (5:Int)=1 by decide),if_neg (show ¬ (5:Int)=2 by decide),if_neg (show ¬ (5:Int)=3 by decide),if_neg (show ¬ (5:Int)=4 by decide),if_pos rfl];simp only [if_neg hq]
  rw [e]
  exact s5F (XD.2 (by simp only [List.forall_mem_cons];exact ⟨by rw [decide_eq_false hq];rfl,decide_eq_true hc,g3.2,g3.1,decide_eq_true hf,decide_eq_true hhas,fun _ hb=>by cases hb⟩))
theorem ist_s8 (hx:x.ln=8) (hfit:x.t.fit n ws) (i0:0≤x.i) (i1:x.i<x.t.size) (hm:¬ rawM (ws.getD (nxA x.t x.i 0).toNat 0)=true):iEnd x f rs n j ws:=by
 obtain ⟨t,made,inn,ref,key,i,high,ln,lv,w,by1,err⟩:=x
 simp only at hx hfit i0 i1 hm
 subst hx
 have h1:=hfit.1.1
 have hhas:t.has i 0:=⟨hfit.1,by decide,by omega,.inr ⟨i0,i1⟩⟩
 have hc:=hfit.nx hhas
 have hm':=Bool.eq_false_iff.2 hm
 have e:istC ⟨t,made,inn,ref,key,i,high,8,lv,w,by1,err⟩ f rs j ws=⟨⟨t,made,inn,ref,key,i,high,4,lv,w,ref,err⟩,f,rs,jLd ws (nxA t i 0) j,ws⟩:=by
  unfold istC;rw [if_neg (show ¬ (8:Int)=1 by decide),if_neg (show ¬ (8:Int)=2 by decide),if_neg (show ¬ (8:Int)=3 by decide),if_neg (show ¬ (8:Int)=4 by decide),if_neg (show ¬ (8:Int)=5 by decide),if_neg (show ¬ (8:Int)=6 by decide),if_neg (show ¬ (8:Int)=7 by decide),if_pos rfl];simp only [hm',Bool.false_eq_true,if_false]
 unfold iEnd
 rw [e]
 exact s8L (XD.2 (by simp only [List.forall_mem_cons];exact ⟨by rw [hm'];rfl,decide_eq_true hc,decide_eq_true hhas,fun _ hb=>by cases hb⟩))
theorem ist_s9 (hx:x.ln=9) (hfit:x.t.fit n ws) (i0:0≤x.i) (i1:x.i<x.t.size) (hm:¬ rawM (ws.getD (nxA x.t x.i 0).toNat 0)=true):iEnd x f rs n j ws:=by
 obtain ⟨t,made,inn,ref,key,i,high,ln,lv,w,by1,err⟩:=x
 simp only at hx hfit i0 i1 hm
 subst hx
 have h1:=hfit.1.1
 have hhas:t.has i 0:=⟨hfit.1,by decide,by omega,.inr ⟨i0,i1⟩⟩
 have hc:=hfit.nx hhas
 have hm':=Bool.eq_false_iff.2 hm
 have e:istC ⟨t,made,inn,ref,key,i,high,9,lv,w,by1,err⟩ f rs j ws=⟨⟨t,made,inn,ref,key,i,high,11,lv,w,ref,err⟩,f,rs,jLd ws (nxA t i 0) j,ws⟩:=by
  unfold istC;rw [if_neg (show ¬ (9:Int)=1 by decide),if_neg (show ¬ (9:Int)=2 by decide),if_neg (show ¬ (9:Int)=3 by decide),if_neg (show ¬ (9:Int)=4 by decide),if_neg (show ¬ (9:Int)=5 by decide),if_neg (show ¬ (9:Int)=6 by decide),if_neg (show ¬ (9:Int)=7 by decide),if_neg (show ¬ (9:Int)=8 by decide),if_pos rfl];simp only [hm',Bool.false_eq_true,if_false]
 unfold iEnd
 rw [e]
 exact s9L (XD.2 (by simp only [List.forall_mem_cons];exact ⟨by rw [hm'];rfl,decide_eq_true hc,decide_eq_true hhas,fun _ hb=>by cases hb⟩))
theorem ist_s11 (hx:x.ln=11) (hfit:x.t.fit n ws) (i0:0≤x.i) (i1:x.i<x.t.size) (hm:¬ addW ws (ptA x.t x.i 3).toNat 18446744073709551615=0):iEnd x f rs n j ws:=by
 obtain ⟨t,made,inn,ref,key,i,high,ln,lv,w,by1,err⟩:=x
 simp only at hx hfit i0 i1 hm
 subst hx
 have h1:=hfit.1.1
 have hhas:t.hasP i 3:=⟨hfit.1,by decide,by omega,i0,i1⟩
 have hc:=hfit.pt hhas
 have e:istC ⟨t,made,inn,ref,key,i,high,11,lv,w,by1,err⟩ f rs j ws=⟨⟨t,made,inn,ref,key,i,high,0,lv,w,ref,err⟩,f,rs,jAdd ws (ptA t i 3) 18446744073709551615 j,ws.set (ptA t i 3).toNat (addW ws (ptA t i 3).toNat 18446744073709551615)⟩:=by
  unfold istC;rw [if_neg (show ¬ (11:Int)=1 by decide),if_neg (show ¬ (11:Int)=2 by decide),if_neg (show ¬ (11:Int)=3 by decide),if_neg (show ¬ (11:Int)=4 by decide),if_neg (show ¬ (11:Int)=5 by decide),if_neg (show ¬ (11:Int)=6 by decide),if_neg (show ¬ (11:Int)=7 by decide),if_neg (show ¬ (11:Int)=8 by decide),if_neg (show ¬ (11:Int)=9 by decide),if_neg (show ¬ (11:Int)=10 by decide)];simp only [if_neg hm]
 unfold iEnd
 rw [e]
 exact s11O (XD.2 (by simp only [List.forall_mem_cons];exact ⟨bne_iff_ne.2 hm,decide_eq_true hc,decide_eq_true hhas,fun _ hb=>by cases hb⟩))
theorem ist_call (h:iPre x f rs n ws) (hN:¬ iNF x rs ws) (hR:¬ iNR x ws):iEnd x f rs n j ws:=by
 obtain ⟨ht,hk,he,hfit,i0,i1,h1,h2,h⟩:=h
 rcases h with ⟨hx,hf,_⟩|⟨hx,hf,l0,l1⟩|⟨hx,hf,l0,l1,hp⟩|⟨hx,hf,l0,l1⟩|hx|hx|hx
 ·rcases hx with hx|hx|hx
  ·exact ist_s1 hx hf
  ·exact ist_s7 hx hf
  ·exact ist_s10 hx hf
 ·exact ist_s2 hx hf ht hfit i0 i1 h2 l0 l1
 ·have hok:hgOK x rs ws:=Decidable.byContradiction fun h=>hN (.inl ⟨hx,h⟩)
  rcases hx with hx|hx
  ·exact ist_s3 hx hf ht hfit h2 l0 l1 hp hok
  ·exact ist_s6 hx hf ht hfit h2 l0 l1 hp hok
 ·rcases hx with hx|hx
  ·exact ist_s4 hx hf ht hfit i0 i1 h2 l0 l1
  ·exact ist_s5 hx hf ht hfit i0 i1 h2 l0 l1
 ·exact ist_s8 hx hfit i0 i1 fun h=>hN (.inr ⟨.inl hx,h⟩)
 ·exact ist_s9 hx hfit i0 i1 fun h=>hN (.inr ⟨.inr hx,h⟩)
 ·exact ist_s11 hx hfit i0 i1 fun h=>hR ⟨hx,h⟩
theorem ist_callN (h:iPre x f rs n ws) (hN:iNF x rs ws):YD PR 69 iArgs 5 (hO (iA 1 4 .nilp x f rs n j ws)) (.bool false) 7 (hO (iA 5 4 .nilp (istC x f rs j ws).x f rs n (istC x f rs j ws).j (istC x f rs j ws).ws++[some (findM 6 (newF x.t x.key)),some (toldM (newR x.t))])):=by
 obtain ⟨ht,hk,he,hfit,i0,i1,h1,h2,h⟩:=h
 obtain ⟨t,made,inn,ref,key,i,high,ln,lv,w,by1,err⟩:=x
 have h10:=hfit.1.1
 have hhas0:t.has i 0:=⟨hfit.1,by decide,by show 0<t.height;exact h10,.inr ⟨i0,i1⟩⟩
 have hc0:=hfit.nx hhas0
 rcases hN with ⟨hx,hok⟩|⟨hx,hm⟩
 ·have hh:ended f rs∧0≤lv∧lv<high∧(tp rs lv=-1∨(0≤tp rs lv∧tp rs lv<t.size)):=by
   simp only at hx h
   rcases h with ⟨hx',_⟩|⟨hx',_⟩|⟨_,h⟩|⟨hx',_⟩|hx'|hx'|hx'
   ·omega
   ·omega
   ·exact h
   ·omega
   ·omega
   ·omega
   ·omega
  obtain ⟨hf,l0,l1,hp⟩:=hh
  simp only at ht hfit h2
  have hl:(rs.length:Int)=t.height:=by rw [hf.1.2.1,ht]
  have hhas:t.has (tp rs lv) lv:=⟨hfit.1,l0,by omega,hp⟩
  have hc:=hfit.nx hhas
  have g1:=col_ok (rs:=rs) (k:=1) (lv:=lv) l0 (by omega)
  have g2:=col_ok (rs:=rs) (k:=2) (lv:=lv) l0 (by omega)
  have g3:=col_ok (rs:=rs) (k:=3) (lv:=lv) l0 (by omega)
  rcases hx with hx|hx
  ·simp only at hx
   subst hx
   have e:istC ⟨t,made,inn,ref,key,i,high,3,lv,w,by1,err⟩ f rs j ws=⟨⟨t,made,inn,ref,key,i,high,1,lv,w,tk rs lv,err⟩,f,rs,hgJ ⟨t,made,inn,ref,key,i,high,3,lv,w,by1,err⟩ rs j ws,hgW ⟨t,made,inn,ref,key,i,high,3,lv,w,by1,err⟩ rs ws⟩:=by
    unfold istC;rw [if_neg (show ¬ (3:Int)=1 by decide),if_neg (show ¬ (3:Int)=2 by decide),if_pos rfl,if_neg hok]
   rw [e]
   exact s3F (XD.2 (by simp only [List.forall_mem_cons];exact ⟨decide_eq_true hfit.1,by rw [Bool.not_eq_true'];exact decide_eq_false hok,decide_eq_true hc,g3.2,g3.1,decide_eq_true hf,decide_eq_true hhas,g1.2,g1.1,decide_eq_true hf,g2.2,g2.1,decide_eq_true hf,fun _ hb=>by cases hb⟩))
  ·simp only at hx
   subst hx
   have e:istC ⟨t,made,inn,ref,key,i,high,6,lv,w,by1,err⟩ f rs j ws=⟨⟨t,made,inn,ref,key,i,high,7,lv,w,tk rs lv,err⟩,f,rs,hgJ ⟨t,made,inn,ref,key,i,high,6,lv,w,by1,err⟩ rs j ws,hgW ⟨t,made,inn,ref,key,i,high,6,lv,w,by1,err⟩ rs ws⟩:=by
    unfold istC;rw [if_neg (show ¬ (6:Int)=1 by decide),if_neg (show ¬ (6:Int)=2 by decide),if_neg (show ¬ (6:Int)=3 by decide),if_neg (show ¬ (6:Int)=4 by decide),if_neg (show ¬ (6:Int)=5 by decide),if_pos rfl,if_neg hok]
   rw [e]
   exact s6F (XD.2 (by simp only [List.forall_mem_cons];exact ⟨decide_eq_true hfit.1,by rw [Bool.not_eq_true'];exact decide_eq_false hok,decide_eq_true hc,g3.2,g3.1,decide_eq_true hf,decide_eq_true hhas,g1.2,g1.1,decide_eq_true hf,g2.2,g2.1,decide_eq_true hf,fun _ hb=>by cases hb⟩))
 ·rcases hx with hx|hx
  ·simp only at hx hm
   subst hx
   have e:istC ⟨t,made,inn,ref,key,i,high,8,lv,w,by1,err⟩ f rs j ws=⟨⟨t,made,inn,ref,key,i,high,10,lv,w,ref,err⟩,f,rs,jLd ws (nxA t i 0) j,ws⟩:=by
    unfold istC;rw [if_neg (show ¬ (8:Int)=1 by decide),if_neg (show ¬ (8:Int)=2 by decide),if_neg (show ¬ (8:Int)=3 by decide),if_neg (show ¬ (8:Int)=4 by decide),if_neg (show ¬ (8:Int)=5 by decide),if_neg (show ¬ (8:Int)=6 by decide),if_neg (show ¬ (8:Int)=7 by decide),if_pos rfl];simp only [hm,if_true]
   rw [e]
   exact s8M (XD.2 (by simp only [List.forall_mem_cons];exact ⟨decide_eq_true hfit.1,hm,decide_eq_true hc0,decide_eq_true hhas0,fun _ hb=>by cases hb⟩))
  ·simp only at hx hm
   subst hx
   have e:istC ⟨t,made,inn,ref,key,i,high,9,lv,w,by1,err⟩ f rs j ws=⟨⟨t,made,inn,ref,key,i,high,10,lv,w,ref,err⟩,f,rs,jLd ws (nxA t i 0) j,ws⟩:=by
    unfold istC;rw [if_neg (show ¬ (9:Int)=1 by decide),if_neg (show ¬ (9:Int)=2 by decide),if_neg (show ¬ (9:Int)=3 by decide),if_neg (show ¬ (9:Int)=4 by decide),if_neg (show ¬ (9:Int)=5 by decide),if_neg (show ¬ (9:Int)=6 by decide),if_neg (show ¬ (9:Int)=7 by decide),if_neg (show ¬ (9:Int)=8 by decide),if_pos rfl];simp only [hm,if_true]
   rw [e]
   exact s9M (XD.2 (by simp only [List.forall_mem_cons];exact ⟨decide_eq_true hfit.1,hm,decide_eq_true hc0,decide_eq_true hhas0,fun _ hb=>by cases hb⟩))
theorem ist_callR (h:iPre x f rs n ws) (hR:iNR x ws):YD PR 69 iArgs 5 (hO (iA 1 4 .nilp x f rs n j ws)) (.bool false) 6 (hO (iA 1 4 (.ptr 5 0 0 0) (istC x f rs j ws).x f rs n (istC x f rs j ws).j (istC x f rs j ws).ws++[some (reM (.fn fLook [.ptr 5 0 0 0] []) .nilp ⟨true,0,x.t,x.i⟩)])):=by
 obtain ⟨ht,hk,he,hfit,i0,i1,h1,h2,h⟩:=h
 obtain ⟨t,made,inn,ref,key,i,high,ln,lv,w,by1,err⟩:=x
 obtain ⟨hx,hm⟩:=hR
 simp only at hx hm hfit i0 i1
 subst hx
 have h10:=hfit.1.1
 have hhas:t.hasP i 3:=⟨hfit.1,by decide,by omega,i0,i1⟩
 have hc:=hfit.pt hhas
 have e:istC ⟨t,made,inn,ref,key,i,high,11,lv,w,by1,err⟩ f rs j ws=⟨⟨t,made,inn,ref,key,i,high,12,lv,w,ref,err⟩,f,rs,jAdd ws (ptA t i 3) 18446744073709551615 j,ws.set (ptA t i 3).toNat (addW ws (ptA t i 3).toNat 18446744073709551615)⟩:=by
  unfold istC;rw [if_neg (show ¬ (11:Int)=1 by decide),if_neg (show ¬ (11:Int)=2 by decide),if_neg (show ¬ (11:Int)=3 by decide),if_neg (show ¬ (11:Int)=4 by decide),if_neg (show ¬ (11:Int)=5 by decide),if_neg (show ¬ (11:Int)=6 by decide),if_neg (show ¬ (11:Int)=7 by decide),if_neg (show ¬ (11:Int)=8 by decide),if_neg (show ¬ (11:Int)=9 by decide),if_neg (show ¬ (11:Int)=10 by decide)];simp only [if_pos hm]
 rw [e]
 exact s11R (XD.2 (by simp only [List.forall_mem_cons];exact ⟨decide_eq_true ⟨i0,i1⟩,by rw [Bool.not_eq_true',bne_eq_false_iff_eq];exact hm,decide_eq_true hc,decide_eq_true hhas,fun _ hb=>by cases hb⟩))
end
end Go.Sx
namespace Go.Sx
open Go.Proofs
def ptIns0:List Pt:=ptTw++[.b,.b,.i .u64,.i .u64,.i .i64,.i .i64,.i .i64,.i .i64,.i .u64,.p,.np,.i .u64,.i .i64]
def ptIns1:List Pt:=ptTw++[.b,.b,.i .u64,.i .u64,.i .i64,.i .i64,.i .i64,.i .i64,.i .u64,.p,.p,.i .u64,.i .i64]
def insOf (is:List Int) (bs:List Bool):InsC:=⟨Tw.ofL is,bs.headD false,bs.tail.headD false,(tlN 13 is).headD 0,(tlN 14 is).headD 0,(tlN 15 is).headD 0,(tlN 16 is).headD 0,(tlN 17 is).headD 0,(tlN 18 is).headD 0,(tlN 19 is).headD 0,(tlN 20 is).headD 0,(tlN 21 is).headD 0⟩
structure IG where
 x:InsC
 p:Nat
 r:Nat
def gIns0 (p:Nat) (H:Tr Ob):Option IG:=(gCells 189 ptIns0 (H.get p)).bind fun (is,bs,ns)=>some ⟨insOf is bs,ns.headD 0,0⟩
theorem gIns0_ok {p:Nat} {H:Tr Ob} {g:IG} (h:gIns0 p H=some g):H.get p=some (insM (.ptr g.p 0 0 0) .nilp g.x):=by
 unfold gIns0 at h
 obtain ⟨⟨is,bs,ns⟩,h1,h⟩:=XA h
 cases h
 exact gCells_ok h1
def gIns1 (p:Nat) (H:Tr Ob):Option IG:=(gCells 189 ptIns1 (H.get p)).bind fun (is,bs,ns)=>some ⟨insOf is bs,ns.headD 0,ns.tail.headD 0⟩
theorem gIns1_ok {p:Nat} {H:Tr Ob} {g:IG} (h:gIns1 p H=some g):H.get p=some (insM (.ptr g.p 0 0 0) (.ptr g.r 0 0 0) g.x):=by
 unfold gIns1 at h
 obtain ⟨⟨is,bs,ns⟩,h1,h⟩:=XA h
 cases h
 exact gCells_ok h1
def keepI (x y:InsC):InsC:={y with t:=x.t,made:=x.made,ref:=x.ref,key:=x.key,i:=x.i,high:=x.high,err:=x.err}
def KI (x y:InsC):Prop:=y.t=x.t∧y.made=x.made∧y.ref=x.ref∧y.key=x.key∧y.i=x.i∧y.high=x.high∧y.err=x.err
theorem KI_ist (x:InsC) (f:FdC) (rs:List (List Int)) (j:MJ) (ws:List Int):KI x (istC x f rs j ws).x:=by
 unfold istC
 by_cases h1:x.ln=1
 ·rw [if_pos h1]
  by_cases h:(fstC f rs j ws).x.ln=9
  ·rw [if_pos h];exact ⟨rfl,rfl,rfl,rfl,rfl,rfl,rfl⟩
  ·rw [if_neg h];exact ⟨rfl,rfl,rfl,rfl,rfl,rfl,rfl⟩
 by_cases h2:x.ln=2
 ·rw [if_neg h1,if_pos h2]
  exact ⟨rfl,rfl,rfl,rfl,rfl,rfl,rfl⟩
 by_cases h3:x.ln=3
 ·rw [if_neg h1,if_neg h2,if_pos h3]
  by_cases h:hgOK x rs ws
  ·rw [if_pos h];exact ⟨rfl,rfl,rfl,rfl,rfl,rfl,rfl⟩
  ·rw [if_neg h];exact ⟨rfl,rfl,rfl,rfl,rfl,rfl,rfl⟩
 by_cases h4:x.ln=4
 ·rw [if_neg h1,if_neg h2,if_neg h3,if_pos h4]
  exact ⟨rfl,rfl,rfl,rfl,rfl,rfl,rfl⟩
 by_cases h5:x.ln=5
 ·rw [if_neg h1,if_neg h2,if_neg h3,if_neg h4,if_pos h5]
  exact ⟨rfl,rfl,rfl,rfl,rfl,rfl,rfl⟩
 by_cases h6:x.ln=6
 ·rw [if_neg h1,if_neg h2,if_neg h3,if_neg h4,if_neg h5,if_pos h6]
  by_cases h:hgOK x rs ws
  ·rw [if_pos h];exact ⟨rfl,rfl,rfl,rfl,rfl,rfl,rfl⟩
  ·rw [if_neg h];exact ⟨rfl,rfl,rfl,rfl,rfl,rfl,rfl⟩
 by_cases h7:x.ln=7
 ·rw [if_neg h1,if_neg h2,if_neg h3,if_neg h4,if_neg h5,if_neg h6,if_pos h7]
  exact ⟨rfl,rfl,rfl,rfl,rfl,rfl,rfl⟩
 by_cases h8:x.ln=8
 ·rw [if_neg h1,if_neg h2,if_neg h3,if_neg h4,if_neg h5,if_neg h6,if_neg h7,if_pos h8]
  exact ⟨rfl,rfl,rfl,rfl,rfl,rfl,rfl⟩
 by_cases h9:x.ln=9
 ·rw [if_neg h1,if_neg h2,if_neg h3,if_neg h4,if_neg h5,if_neg h6,if_neg h7,if_neg h8,if_pos h9]
  exact ⟨rfl,rfl,rfl,rfl,rfl,rfl,rfl⟩
 by_cases h10:x.ln=10
 ·rw [if_neg h1,if_neg h2,if_neg h3,if_neg h4,if_neg h5,if_neg h6,if_neg h7,if_neg h8,if_neg h9,if_pos h10]
  exact ⟨rfl,rfl,rfl,rfl,rfl,rfl,rfl⟩
 rw [if_neg h1,if_neg h2,if_neg h3,if_neg h4,if_neg h5,if_neg h6,if_neg h7,if_neg h8,if_neg h9,if_neg h10]
 exact ⟨rfl,rfl,rfl,rfl,rfl,rfl,rfl⟩
theorem keepI_eq (x:InsC) (f:FdC) (rs:List (List Int)) (j:MJ) (ws:List Int):keepI x (istC x f rs j ws).x=(istC x f rs j ws).x:=by
 obtain ⟨h1,h2,h3,h4,h5,h6,h7⟩:=KI_ist x f rs j ws
 unfold keepI
 rw [← h1,← h2,← h3,← h4,← h5,← h6,← h7]
def smI0 (p m:Nat) (g:IG) (s:St):Option (V×St):=(gFind g.p s.H).bind fun q=>(gMem m s.H).bind fun k=>(need (decide (iPre g.x q.x q.rs k.n k.ws)) s).bind fun s1=>
 match dec (decide (iNF g.x q.rs k.ws)) s1 with
 |(true,s2)=>(memS [p,q.f,q.td,k.m,k.w] (iA 5 4 .nilp (keepI g.x (istC g.x q.x q.rs k.j k.ws).x) q.x q.rs k.n (istC g.x q.x q.rs k.j k.ws).j (istC g.x q.x q.rs k.j k.ws).ws++[some (findM 6 (newF g.x.t g.x.key)),some (toldM (newR g.x.t))]) s2).bind fun s3=>some (.bool false,s3)
 |(false,s2)=>match dec (decide (iNR g.x k.ws)) s2 with
  |(true,s3)=>(memS [p,q.f,q.td,k.m,k.w] (iA 1 4 (.ptr 5 0 0 0) (keepI g.x (istC g.x q.x q.rs k.j k.ws).x) q.x q.rs k.n (istC g.x q.x q.rs k.j k.ws).j (istC g.x q.x q.rs k.j k.ws).ws++[some (reM (.fn fLook [.ptr 5 0 0 0] []) .nilp ⟨true,0,g.x.t,g.x.i⟩)]) s3).bind fun s4=>some (.bool false,s4)
  |(false,s3)=>(memS [p,q.f,q.td,k.m,k.w] (iA 1 4 .nilp (keepI g.x (istC g.x q.x q.rs k.j k.ws).x) (keepF q.x (istC g.x q.x q.rs k.j k.ws).f) (istC g.x q.x q.rs k.j k.ws).rs k.n (istC g.x q.x q.rs k.j k.ws).j (istC g.x q.x q.rs k.j k.ws).ws) s3).bind fun s4=>some (.bool ((istC g.x q.x q.rs k.j k.ws).x.ln==0),s4)
def reA (x:InsC) (l:Int):InsC:={x with ln:=l,by':=0}
def smI1 (p m:Nat) (g:IG) (s:St):Option (V×St):=(gFind g.p s.H).bind fun q=>(gMem m s.H).bind fun k=>(gRe0 g.r s.H).bind fun r=>(need (decide (g.x.ln=12∧XS r.x.t.at' k.n k.ws∧0≤r.x.i∧r.x.i<r.x.t.size)) s).bind fun s1=>
 (memS [p,q.f,q.td,k.m,k.w,g.r] (iR (.ptr 5 0 0 0) (.ptr 6 0 0 0) (reA g.x 12) q.x q.rs k.n (jLd k.ws r.x.t.at' k.j) k.ws (.fn fPush [.ptr 5 0 0 0] []) r.x++[some (puM (newP r.x.t r.x.i (k.ws.getD r.x.t.at'.toNat 0)))]) s1).bind fun s2=>some (.bool false,s2)
def smI2 (p m:Nat) (g:IG) (s:St):Option (V×St):=(gFind g.p s.H).bind fun q=>(gMem m s.H).bind fun k=>(gRe1 g.r s.H).bind fun r=>(gPu r.p s.H).bind fun x=>(need (decide (g.x.ln=12∧pPre x k.n k.ws)) s).bind fun s1=>
 match dec (decide (pOver x k.ws)) s1 with
 |(true,s2)=>(memS [p,q.f,q.td,k.m,k.w,g.r,r.p] (iR (.ptr 5 0 0 0) (.ptr 6 0 0 0) (reA g.x 0) q.x q.rs k.n (pstC x k.j k.ws).j (pstC x k.j k.ws).ws .nilf r.x++[some (puM (pstC x k.j k.ws).x)]) s2).bind fun s3=>some (.bool true,s3)
 |(false,s2)=>(memS [p,q.f,q.td,k.m,k.w,g.r,r.p] (iR (.ptr 5 0 0 0) (.ptr 6 0 0 0) (reA g.x 12) q.x q.rs k.n (pstC x k.j k.ws).j (pstC x k.j k.ws).ws (.fn fPush [.ptr 5 0 0 0] []) r.x++[some (puM (keepP x (pstC x k.j k.ws).x))]) s2).bind fun s3=>some (.bool false,s3)
def smIStep (args:List V) (s:St):Option (V×St):=
 match args with
 |[.ptr p a b c,.ptr m a' b' c']=>(chk (isZ a b c)).bind fun _=>(chk (isZ a' b' c')).bind fun _=>match gIns0 p s.H with
  |some g=>smI0 p m g s
  |none=>(gIns1 p s.H).bind fun g=>match gRe0 g.r s.H with
   |some _=>smI1 p m g s
   |none=>smI2 p m g s
 |_=>none
theorem smI0_ok {p m:Nat} {g:IG} {s s':St} {v:V} (h:smI0 p m g s=some (v,s')) (hg:s.H.get p=some (insM (.ptr g.p 0 0 0) .nilp g.x)) (ho:Obl s'):Lg s s'∧Obl s∧YB PR 69 [.ptr p 0 0 0,.ptr m 0 0 0] s v s':=by
 unfold smI0 at h
 simp only [Option.bind_eq_some_iff] at h
 obtain ⟨q,h1,k,h1',s1,h2,h⟩:=h
 obtain ⟨q0,q1,q2⟩:=gFind_ok h1
 obtain ⟨k0,k1,k2⟩:=gMem_ok h1'
 subst k0
 have hl:[p,q.f,q.td,k.m,k.w].map s.H.get=(iA 1 4 .nilp g.x q.x q.rs k.n k.j k.ws).map (Option.map (Ob.ren (πf [p,q.f,q.td,k.m,k.w]))):=by
  simp only [List.map_cons,List.map_nil,hg,q0,q1,q2,k1,k2];rfl
 split at h
 ·rename_i s2 hdec
  simp only [Option.bind_eq_some_iff] at h
  obtain ⟨s3,h3,h4⟩:=h
  cases h4
  obtain ⟨hb,hqd⟩:=dec_ok hdec (XN h3 ho)
  obtain ⟨hd,hq⟩:=XI h2 hqd.2
  rw [keepI_eq] at h3
  exact XO (l:=iA 1 4 .nilp g.x q.x q.rs k.n k.j k.ws) (ac:=iArgs) (ist_callN (of_decide_eq_true hd) (of_decide_eq_true hb.symm)) rfl (by kernel_rfl) (by kernel_rfl) (by kernel_rfl) (hq.trans hqd.1) h3 hl rfl rfl
 ·rename_i s2 hdec
  split at h
  ·rename_i s3 hdec2
   simp only [Option.bind_eq_some_iff] at h
   obtain ⟨s4,h3,h4⟩:=h
   cases h4
   obtain ⟨hb2,hqd2⟩:=dec_ok hdec2 (XN h3 ho)
   obtain ⟨hb,hqd⟩:=dec_ok hdec hqd2.2
   obtain ⟨hd,hq⟩:=XI h2 hqd.2
   rw [keepI_eq] at h3
   exact XO (l:=iA 1 4 .nilp g.x q.x q.rs k.n k.j k.ws) (ac:=iArgs) (ist_callR (of_decide_eq_true hd) (of_decide_eq_true hb2.symm)) rfl (by kernel_rfl) (by kernel_rfl) (by kernel_rfl) ((hq.trans hqd.1).trans hqd2.1) h3 hl rfl rfl
  ·rename_i s3 hdec2
   simp only [Option.bind_eq_some_iff] at h
   obtain ⟨s4,h3,h4⟩:=h
   cases h4
   obtain ⟨hb2,hqd2⟩:=dec_ok hdec2 (XN h3 ho)
   obtain ⟨hb,hqd⟩:=dec_ok hdec hqd2.2
   obtain ⟨hd,hq⟩:=XI h2 hqd.2
   rw [keepI_eq] at h3
   exact XO (l:=iA 1 4 .nilp g.x q.x q.rs k.n k.j k.ws) (ac:=iArgs) (ist_call (of_decide_eq_true hd) (of_decide_eq_false hb.symm) (of_decide_eq_false hb2.symm)) rfl (by kernel_rfl) (by kernel_rfl) (by kernel_rfl) ((hq.trans hqd.1).trans hqd2.1) h3 hl rfl rfl
theorem smI1_ok {p m:Nat} {g:IG} {s s':St} {v:V} (h:smI1 p m g s=some (v,s')) (hg:s.H.get p=some (insM (.ptr g.p 0 0 0) (.ptr g.r 0 0 0) g.x)) (ho:Obl s'):Lg s s'∧Obl s∧YB PR 69 [.ptr p 0 0 0,.ptr m 0 0 0] s v s':=by
 unfold smI1 at h
 simp only [Option.bind_eq_some_iff] at h
 obtain ⟨q,h1,k,h1',r,h1r,s1,h2,s2,h3,h4⟩:=h
 cases h4
 obtain ⟨q0,q1,q2⟩:=gFind_ok h1
 obtain ⟨k0,k1,k2⟩:=gMem_ok h1'
 subst k0
 have r1:=gRe0_ok h1r
 obtain ⟨hd,hq⟩:=XI h2 (XN h3 ho)
 obtain ⟨d0,d⟩:=of_decide_eq_true hd
 have hl:[p,q.f,q.td,k.m,k.w,g.r].map s.H.get=(iR (.ptr 5 0 0 0) .nilp g.x q.x q.rs k.n k.j k.ws (.fn fLook [.ptr 5 0 0 0] []) r.x).map (Option.map (Ob.ren (πf [p,q.f,q.td,k.m,k.w,g.r]))):=by
  simp only [List.map_cons,List.map_nil,hg,q0,q1,q2,k1,k2,r1];rfl
 obtain ⟨x,pp,rr⟩:=g
 obtain ⟨t,made,inn,ref,key,i,high,ln,lv,w,by1,err⟩:=x
 simp only at d0
 subst d0
 exact XO (l:=iR (.ptr 5 0 0 0) .nilp ⟨t,made,inn,ref,key,i,high,12,lv,w,by1,err⟩ q.x q.rs k.n k.j k.ws (.fn fLook [.ptr 5 0 0 0] []) r.x) (ac:=iArgs) (r0 (XD.2 (by simp only [List.forall_mem_cons];exact ⟨decide_eq_true d,fun _ hb=>by cases hb⟩))) rfl (by kernel_rfl) (by kernel_rfl) (by kernel_rfl) hq h3 hl rfl rfl
theorem smI2_ok {p m:Nat} {g:IG} {s s':St} {v:V} (h:smI2 p m g s=some (v,s')) (hg:s.H.get p=some (insM (.ptr g.p 0 0 0) (.ptr g.r 0 0 0) g.x)) (ho:Obl s'):Lg s s'∧Obl s∧YB PR 69 [.ptr p 0 0 0,.ptr m 0 0 0] s v s':=by
 unfold smI2 at h
 simp only [Option.bind_eq_some_iff] at h
 obtain ⟨q,h1,k,h1',r,h1r,x,h1x,s1,h2,h⟩:=h
 obtain ⟨q0,q1,q2⟩:=gFind_ok h1
 obtain ⟨k0,k1,k2⟩:=gMem_ok h1'
 subst k0
 have r1:=gRe1_ok h1r
 have x1:=gPu_ok h1x
 have hl:[p,q.f,q.td,k.m,k.w,g.r,r.p].map s.H.get=(iR (.ptr 5 0 0 0) (.ptr 6 0 0 0) g.x q.x q.rs k.n k.j k.ws (.fn fPush [.ptr 5 0 0 0] []) r.x++[some (puM x)]).map (Option.map (Ob.ren (πf [p,q.f,q.td,k.m,k.w,g.r,r.p]))):=by
  simp only [List.map_cons,List.map_nil,hg,q0,q1,q2,k1,k2,r1,x1];rfl
 obtain ⟨z,pp,rr⟩:=g
 obtain ⟨t,made,inn,ref,key,i,high,ln,lv,w,by1,err⟩:=z
 split at h
 ·rename_i s2 hdec
  simp only [Option.bind_eq_some_iff] at h
  obtain ⟨s3,h3,h4⟩:=h
  cases h4
  obtain ⟨hb,hqd⟩:=dec_ok hdec (XN h3 ho)
  obtain ⟨hd,hq⟩:=XI h2 hqd.2
  obtain ⟨d0,d⟩:=of_decide_eq_true hd
  simp only at d0
  subst d0
  exact XO (l:=iR (.ptr 5 0 0 0) (.ptr 6 0 0 0) ⟨t,made,inn,ref,key,i,high,12,lv,w,by1,err⟩ q.x q.rs k.n k.j k.ws (.fn fPush [.ptr 5 0 0 0] []) r.x++[some (puM x)]) (ac:=iArgs) (r1E (XD.2 (by simp only [List.forall_mem_cons];exact ⟨hb.symm,decide_eq_true d,fun _ hb=>by cases hb⟩))) rfl (by kernel_rfl) (by kernel_rfl) (by kernel_rfl) (hq.trans hqd.1) h3 hl rfl rfl
 ·rename_i s2 hdec
  simp only [Option.bind_eq_some_iff] at h
  obtain ⟨s3,h3,h4⟩:=h
  cases h4
  obtain ⟨hb,hqd⟩:=dec_ok hdec (XN h3 ho)
  obtain ⟨hd,hq⟩:=XI h2 hqd.2
  obtain ⟨d0,d⟩:=of_decide_eq_true hd
  simp only at d0
  subst d0
  exact XO (l:=iR (.ptr 5 0 0 0) (.ptr 6 0 0 0) ⟨t,made,inn,ref,key,i,high,12,lv,w,by1,err⟩ q.x q.rs k.n k.j k.ws (.fn fPush [.ptr 5 0 0 0] []) r.x++[some (puM x)]) (ac:=iArgs) (r1N (XD.2 (by simp only [List.forall_mem_cons];exact ⟨by rw [← hb];rfl,decide_eq_true d,fun _ hb=>by cases hb⟩))) rfl (by kernel_rfl) (by kernel_rfl) (by kernel_rfl) (hq.trans hqd.1) h3 hl rfl rfl
theorem smIStep_sm:SmOK PR 69 smIStep:=by
 refine ⟨fun args s v s' h ho=>?_,Tryz.call69⟩
 unfold smIStep at h
 split at h
 ·simp only [Option.bind_eq_some_iff] at h
  obtain ⟨_,h0,_,h0',h⟩:=h
  obtain ⟨rfl,rfl,rfl⟩:=isZ_ok (XC h0)
  obtain ⟨rfl,rfl,rfl⟩:=isZ_ok (XC h0')
  split at h
  ·rename_i g hg
   exact smI0_ok h (gIns0_ok hg) ho
  ·simp only [Option.bind_eq_some_iff] at h
   obtain ⟨g,hg,h⟩:=h
   split at h
   ·exact smI1_ok h (gIns1_ok hg) ho
   ·exact smI2_ok h (gIns1_ok hg) ho
 ·cases h
end Go.Sx
