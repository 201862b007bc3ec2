/- The crew's acts, part a. Printed by gen_C5.py. -/
import Derived.Test.YtpnpmkdijmeddaaGreatScB2
import Derived.Test.YtpnpmkdijmeddaaGreatScT10
set_option maxRecDepth 100000
namespace Go.Sx
variable {t:Tw} {sz:Int} {ks:List Int} {hs:List Int} {j:MJ} {ws:List Int} {f0:List Int} {f1:List Int} {f2:List Int} {f3:List Int} {gt:List Int} {cl:List (List Int)} {o0:Int} {o1:Int} {o2:Int} {o3:Int} {ck:Int} {io:IS} {c0:KS} {c1:KS} {pk:PS} {x:InsC} {y:ClC} {f:FdC} {rs:List (List Int)} {q:ReC} {u:PuC} {kk:Nat}
theorem aiN0 (ho:o0≥0) (hlv:lvPre t sz ws) (hf:f0.length+1≤1048576) (g0:iPre x f rs sz ws) (g1:¬ (iNF x rs ws)) (g2:¬ (iNR x ws)) (g3:(istC x f rs j ws).1.8≠0):StA 0 ⟨t,sz,ks,hs,j,ws,f0,f1,f2,f3,gt,cl,o0,o1,o2,o3,ck,(.a kk x f rs),c0,c1,pk⟩ ⟨t,sz,ks,hs,(istC x f rs j ws).j,(istC x f rs j ws).ws,(f0++[fstL t sz ws]),f1,f2,f3,gt,cl,o0,o1,o2,o3,ck,(.a kk (keepI x (istC x f rs j ws).x) (keepF f (istC x f rs j ws).f) (istC x f rs j ws).rs),c0,c1,pk⟩:=by
 refine ⟨fun zs len cap i hp h0 h1 h2=>?_,fun k hk0 hk1=>PlPc.of fun zs=>?_⟩
 ·by_cases hl:liveW t (ws.take sz.toNat)=[]
  ·rw [fstL_E hl];exact pcA 0 [] [0,1,2,3,4,5,6,7,8,9,10,11,39,13,14,15,16,17,18,19,20,21,22,23,24,25,26,27,28,29,30,31,32,33,34,35,36,37] 40 14 (bits 19 0x7eff0) (XB (zT g3)<|cN g2<|cN g1<|cD g0<|tE hf hlv hl ho (rH hp h0 h1 h2)) (fun J=>by kernel_rfl) (by kernel_rfl)
  ·rw [fstL_L hl];exact pcA 0 [] [0,1,2,3,4,5,6,7,8,9,10,11,40,13,14,15,16,17,18,19,20,21,22,23,24,25,26,27,28,29,30,31,32,33,34,35,36,37] 41 14 (bits 21 0x1fb3f0) (XB (zT g3)<|cN g2<|cN g1<|cD g0<|tL hf hlv hl ho (rH hp h0 h1 h2)) (fun J=>by kernel_rfl) (by kernel_rfl)
 ·by_cases hl:liveW t (ws.take sz.toNat)=[]
  ·rw [fstL_E hl];exact pcA 0 [] [0,1,2,3,4,5,6,7,8,9,10,11,39,13,14,15,16,17,18,19,20,21,22,23,24,25,26,27,28,29,30,31,32,33,34,35,36,37] 40 14 (bits 22 0x38dfe0) (XB (zT g3)<|cN g2<|cN g1<|cD g0<|tE hf hlv hl ho (rG hk1 ho)) (fun J=>by kernel_rfl) (by kernel_rfl)
  ·rw [fstL_L hl];exact pcA 0 [] [0,1,2,3,4,5,6,7,8,9,10,11,40,13,14,15,16,17,18,19,20,21,22,23,24,25,26,27,28,29,30,31,32,33,34,35,36,37] 41 14 (bits 24 0xe367e0) (XB (zT g3)<|cN g2<|cN g1<|cD g0<|tL hf hlv hl ho (rG hk1 ho)) (fun J=>by kernel_rfl) (by kernel_rfl)
theorem aiF0 (ho:o0≥0) (hlv:lvPre t sz ws) (hf:f0.length+1≤1048576) (g0:iPre x f rs sz ws) (g1:iNF x rs ws):StA 0 ⟨t,sz,ks,hs,j,ws,f0,f1,f2,f3,gt,cl,o0,o1,o2,o3,ck,(.a kk x f rs),c0,c1,pk⟩ ⟨t,sz,ks,hs,(istC x f rs j ws).j,(istC x f rs j ws).ws,(f0++[fstL t sz ws]),f1,f2,f3,gt,cl,o0,o1,o2,o3,ck,(.a kk (keepI x (istC x f rs j ws).x) (newF x.t x.key) (newR x.t)),c0,c1,pk⟩:=by
 refine ⟨fun zs len cap i hp h0 h1 h2=>?_,fun k hk0 hk1=>PlPc.of fun zs=>?_⟩
 ·by_cases hl:liveW t (ws.take sz.toNat)=[]
  ·rw [fstL_E hl];exact pcA 0 [] [0,1,2,3,4,5,6,7,8,9,10,11,39,13,14,15,16,17,18,19,20,21,22,40,41,25,26,27,28,29,30,31,32,33,34,35,36,37] 42 14 (bits 18 0x3f7fc) (cD g1<|cD g0<|tE hf hlv hl ho (rH hp h0 h1 h2)) (fun J=>by kernel_rfl) (by kernel_rfl)
  ·rw [fstL_L hl];exact pcA 0 [] [0,1,2,3,4,5,6,7,8,9,10,11,40,13,14,15,16,17,18,19,20,21,22,41,42,25,26,27,28,29,30,31,32,33,34,35,36,37] 43 14 (bits 20 0xfd9fc) (cD g1<|cD g0<|tL hf hlv hl ho (rH hp h0 h1 h2)) (fun J=>by kernel_rfl) (by kernel_rfl)
 ·by_cases hl:liveW t (ws.take sz.toNat)=[]
  ·rw [fstL_E hl];exact pcA 0 [] [0,1,2,3,4,5,6,7,8,9,10,11,39,13,14,15,16,17,18,19,20,21,22,40,41,25,26,27,28,29,30,31,32,33,34,35,36,37] 42 14 (bits 21 0x1c6ff8) (cD g1<|cD g0<|tE hf hlv hl ho (rG hk1 ho)) (fun J=>by kernel_rfl) (by kernel_rfl)
  ·rw [fstL_L hl];exact pcA 0 [] [0,1,2,3,4,5,6,7,8,9,10,11,40,13,14,15,16,17,18,19,20,21,22,41,42,25,26,27,28,29,30,31,32,33,34,35,36,37] 43 14 (bits 23 0x71b3f8) (cD g1<|cD g0<|tL hf hlv hl ho (rG hk1 ho)) (fun J=>by kernel_rfl) (by kernel_rfl)
theorem aiR0 (ho:o0≥0) (hlv:lvPre t sz ws) (hf:f0.length+1≤1048576) (g0:iPre x f rs sz ws) (g1:¬ (iNF x rs ws)) (g2:iNR x ws):StA 0 ⟨t,sz,ks,hs,j,ws,f0,f1,f2,f3,gt,cl,o0,o1,o2,o3,ck,(.a kk x f rs),c0,c1,pk⟩ ⟨t,sz,ks,hs,(istC x f rs j ws).j,(istC x f rs j ws).ws,(f0++[fstL t sz ws]),f1,f2,f3,gt,cl,o0,o1,o2,o3,ck,(.r kk (keepI x (istC x f rs j ws).x) f rs ⟨true,0,x.t,x.i⟩),c0,c1,pk⟩:=by
 refine ⟨fun zs len cap i hp h0 h1 h2=>?_,fun k hk0 hk1=>PlPc.of fun zs=>?_⟩
 ·by_cases hl:liveW t (ws.take sz.toNat)=[]
  ·rw [fstL_E hl];exact pcA 0 [] [0,1,2,3,4,5,6,7,8,9,10,11,39,13,14,15,16,17,18,19,20,21,22,23,24,40,26,27,28,29,30,31,32,33,34,35,36,37] 41 14 (bits 19 0x7eff4) (cD g2<|cN g1<|cD g0<|tE hf hlv hl ho (rH hp h0 h1 h2)) (fun J=>by kernel_rfl) (by kernel_rfl)
  ·rw [fstL_L hl];exact pcA 0 [] [0,1,2,3,4,5,6,7,8,9,10,11,40,13,14,15,16,17,18,19,20,21,22,23,24,41,26,27,28,29,30,31,32,33,34,35,36,37] 42 14 (bits 21 0x1fb3f4) (cD g2<|cN g1<|cD g0<|tL hf hlv hl ho (rH hp h0 h1 h2)) (fun J=>by kernel_rfl) (by kernel_rfl)
 ·by_cases hl:liveW t (ws.take sz.toNat)=[]
  ·rw [fstL_E hl];exact pcA 0 [] [0,1,2,3,4,5,6,7,8,9,10,11,39,13,14,15,16,17,18,19,20,21,22,23,24,40,26,27,28,29,30,31,32,33,34,35,36,37] 41 14 (bits 22 0x38dfe8) (cD g2<|cN g1<|cD g0<|tE hf hlv hl ho (rG hk1 ho)) (fun J=>by kernel_rfl) (by kernel_rfl)
  ·rw [fstL_L hl];exact pcA 0 [] [0,1,2,3,4,5,6,7,8,9,10,11,40,13,14,15,16,17,18,19,20,21,22,23,24,41,26,27,28,29,30,31,32,33,34,35,36,37] 42 14 (bits 24 0xe367e8) (cD g2<|cN g1<|cD g0<|tL hf hlv hl ho (rG hk1 ho)) (fun J=>by kernel_rfl) (by kernel_rfl)
theorem aiO0 (ho:o0≥0) (hlv:lvPre t sz ws) (hf:f0.length+1≤1048576) (g0:iPre x f rs sz ws) (g1:¬ (iNF x rs ws)) (g2:¬ (iNR x ws)) (g3:(istC x f rs j ws).1.8=0) (g4:x.made=true) (g5:0≤o0∧o0<((List.length cl:Nat):Int)) (g6:Int.toNat o0<List.length cl) (g7:Int.toNat o0<List.length (Go.Sx.rs cl (Int.toNat o0) 2 (IntKind.i64.wrap (ck+1)))) (g8:Int.toNat o0<List.length (Go.Sx.rs (Go.Sx.rs cl (Int.toNat o0) 2 (IntKind.i64.wrap (ck+1))) (Int.toNat o0) 7 x.err)) (g9:Int.toNat o0<List.length (Go.Sx.rs (Go.Sx.rs (Go.Sx.rs cl (Int.toNat o0) 2 (IntKind.i64.wrap (ck+1))) (Int.toNat o0) 7 x.err) (Int.toNat o0) 8 0)) (g10:x.err=0):StA 0 ⟨t,sz,ks,hs,j,ws,f0,f1,f2,f3,gt,cl,o0,o1,o2,o3,ck,(.a kk x f rs),c0,c1,pk⟩ ⟨t,sz,ks,hs,(istC x f rs j ws).j,(istC x f rs j ws).ws,(f0++[fstL t sz ws]),f1,f2,f3,gt,(clE cl o0 ck x.err 0 0),(-1),o1,o2,o3,(IntKind.i64.wrap (ck+1)),(.over kk),c0,c1,pk⟩:=by
 refine ⟨fun zs len cap i hp h0 h1 h2=>?_,fun k hk0 hk1=>PlPc.of fun zs=>?_⟩
 ·by_cases hl:liveW t (ws.take sz.toNat)=[]
  ·rw [fstL_E hl];exact pcA 0 [0,0,0,0,0,0,0,0,0,0,0,0,0,0,0,0,0,0,0,0,0,0,2,1,1,1,1,0,0,0,0,0,0,0,0,0,0,0] [0,1,2,3,4,5,6,7,8,9,10,11,39,13,14,15,16,17,18,19,20,21,22,23,24,25,26,27,28,29,30,31,32,33,34,35,36,37] 41 14 (bits 36 0xfdfe407fe) (XB (q2T g10)<|cD g9<|cD g8<|cD g7<|cD g6<|cD g5<|XB (cT g3)<|XB (mT g4)<|XB (qT g3)<|cN g2<|cN g1<|cD g0<|tE hf hlv hl ho (rH hp h0 h1 h2)) (fun J=>by kernel_rfl) (by kernel_rfl)
  ·rw [fstL_L hl];exact pcA 0 [0,0,0,0,0,0,0,0,0,0,0,0,0,0,0,0,0,0,0,0,0,0,2,1,1,1,1,0,0,0,0,0,0,0,0,0,0,0] [0,1,2,3,4,5,6,7,8,9,10,11,40,13,14,15,16,17,18,19,20,21,22,23,24,25,26,27,28,29,30,31,32,33,34,35,36,37] 42 14 (bits 38 0x3f67e407fe) (XB (q2T g10)<|cD g9<|cD g8<|cD g7<|cD g6<|cD g5<|XB (cT g3)<|XB (mT g4)<|XB (qT g3)<|cN g2<|cN g1<|cD g0<|tL hf hlv hl ho (rH hp h0 h1 h2)) (fun J=>by kernel_rfl) (by kernel_rfl)
 ·by_cases hl:liveW t (ws.take sz.toNat)=[]
  ·rw [fstL_E hl];exact pcA 0 [0,0,0,0,0,0,0,0,0,0,0,0,0,0,0,0,0,0,0,0,0,0,2,1,1,1,1,0,0,0,0,0,0,0,0,0,0,0] [0,1,2,3,4,5,6,7,8,9,10,11,39,13,14,15,16,17,18,19,20,21,22,23,24,25,26,27,28,29,30,31,32,33,34,35,36,37] 41 14 (bits 39 0x71bfc80ffc) (XB (q2T g10)<|cD g9<|cD g8<|cD g7<|cD g6<|cD g5<|XB (cT g3)<|XB (mT g4)<|XB (qT g3)<|cN g2<|cN g1<|cD g0<|tE hf hlv hl ho (rG hk1 ho)) (fun J=>by kernel_rfl) (by kernel_rfl)
  ·rw [fstL_L hl];exact pcA 0 [0,0,0,0,0,0,0,0,0,0,0,0,0,0,0,0,0,0,0,0,0,0,2,1,1,1,1,0,0,0,0,0,0,0,0,0,0,0] [0,1,2,3,4,5,6,7,8,9,10,11,40,13,14,15,16,17,18,19,20,21,22,23,24,25,26,27,28,29,30,31,32,33,34,35,36,37] 42 14 (bits 41 0x1c6cfc80ffc) (XB (q2T g10)<|cD g9<|cD g8<|cD g7<|cD g6<|cD g5<|XB (cT g3)<|XB (mT g4)<|XB (qT g3)<|cN g2<|cN g1<|cD g0<|tL hf hlv hl ho (rG hk1 ho)) (fun J=>by kernel_rfl) (by kernel_rfl)
theorem ajR0 (ho:o0≥0) (hlv:lvPre t sz ws) (hf:f0.length+1≤1048576) (g0:x.ln=12∧XS q.t.at' sz ws∧0≤q.i∧q.i<q.t.size):StA 0 ⟨t,sz,ks,hs,j,ws,f0,f1,f2,f3,gt,cl,o0,o1,o2,o3,ck,(.r kk x f rs q),c0,c1,pk⟩ ⟨t,sz,ks,hs,(jLd ws q.t.at' j),ws,(f0++[fstL t sz ws]),f1,f2,f3,gt,cl,o0,o1,o2,o3,ck,(.p kk (reA x 12) f rs q (newP q.t q.i (ws.getD q.t.at'.toNat 0))),c0,c1,pk⟩:=by
 refine ⟨fun zs len cap i hp h0 h1 h2=>?_,fun k hk0 hk1=>PlPc.of fun zs=>?_⟩
 ·by_cases hl:liveW t (ws.take sz.toNat)=[]
  ·rw [fstL_E hl];exact pcA 0 [] [0,1,2,3,4,5,6,7,8,9,10,11,39,13,14,15,16,17,18,19,20,21,22,23,24,25,40,27,28,29,30,31,32,33,34,35,36,37] 41 14 (bits 17 0x1fbfc) (cD g0<|tE hf hlv hl ho (rH hp h0 h1 h2)) (fun J=>by kernel_rfl) (by kernel_rfl)
  ·rw [fstL_L hl];exact pcA 0 [] [0,1,2,3,4,5,6,7,8,9,10,11,40,13,14,15,16,17,18,19,20,21,22,23,24,25,41,27,28,29,30,31,32,33,34,35,36,37] 42 14 (bits 19 0x7ecfc) (cD g0<|tL hf hlv hl ho (rH hp h0 h1 h2)) (fun J=>by kernel_rfl) (by kernel_rfl)
 ·by_cases hl:liveW t (ws.take sz.toNat)=[]
  ·rw [fstL_E hl];exact pcA 0 [] [0,1,2,3,4,5,6,7,8,9,10,11,39,13,14,15,16,17,18,19,20,21,22,23,24,25,40,27,28,29,30,31,32,33,34,35,36,37] 41 14 (bits 20 0xe37f8) (cD g0<|tE hf hlv hl ho (rG hk1 ho)) (fun J=>by kernel_rfl) (by kernel_rfl)
  ·rw [fstL_L hl];exact pcA 0 [] [0,1,2,3,4,5,6,7,8,9,10,11,40,13,14,15,16,17,18,19,20,21,22,23,24,25,41,27,28,29,30,31,32,33,34,35,36,37] 42 14 (bits 22 0x38d9f8) (cD g0<|tL hf hlv hl ho (rG hk1 ho)) (fun J=>by kernel_rfl) (by kernel_rfl)
theorem ajN0 (ho:o0≥0) (hlv:lvPre t sz ws) (hf:f0.length+1≤1048576) (g0:x.ln=12∧pPre u sz ws) (g1:¬ (pOver u ws)):StA 0 ⟨t,sz,ks,hs,j,ws,f0,f1,f2,f3,gt,cl,o0,o1,o2,o3,ck,(.p kk x f rs q u),c0,c1,pk⟩ ⟨t,sz,ks,hs,(pstC u j ws).j,(pstC u j ws).ws,(f0++[fstL t sz ws]),f1,f2,f3,gt,cl,o0,o1,o2,o3,ck,(.p kk (reA x 12) f rs q (keepP u (pstC u j ws).x)),c0,c1,pk⟩:=by
 refine ⟨fun zs len cap i hp h0 h1 h2=>?_,fun k hk0 hk1=>PlPc.of fun zs=>?_⟩
 ·by_cases hl:liveW t (ws.take sz.toNat)=[]
  ·rw [fstL_E hl];exact pcA 0 [] [0,1,2,3,4,5,6,7,8,9,10,11,39,13,14,15,16,17,18,19,20,21,22,23,24,25,26,27,28,29,30,31,32,33,34,35,36,37] 40 14 (bits 18 0x3f7f8) (cN g1<|cD g0<|tE hf hlv hl ho (rH hp h0 h1 h2)) (fun J=>by kernel_rfl) (by kernel_rfl)
  ·rw [fstL_L hl];exact pcA 0 [] [0,1,2,3,4,5,6,7,8,9,10,11,40,13,14,15,16,17,18,19,20,21,22,23,24,25,26,27,28,29,30,31,32,33,34,35,36,37] 41 14 (bits 20 0xfd9f8) (cN g1<|cD g0<|tL hf hlv hl ho (rH hp h0 h1 h2)) (fun J=>by kernel_rfl) (by kernel_rfl)
 ·by_cases hl:liveW t (ws.take sz.toNat)=[]
  ·rw [fstL_E hl];exact pcA 0 [] [0,1,2,3,4,5,6,7,8,9,10,11,39,13,14,15,16,17,18,19,20,21,22,23,24,25,26,27,28,29,30,31,32,33,34,35,36,37] 40 14 (bits 21 0x1c6ff0) (cN g1<|cD g0<|tE hf hlv hl ho (rG hk1 ho)) (fun J=>by kernel_rfl) (by kernel_rfl)
  ·rw [fstL_L hl];exact pcA 0 [] [0,1,2,3,4,5,6,7,8,9,10,11,40,13,14,15,16,17,18,19,20,21,22,23,24,25,26,27,28,29,30,31,32,33,34,35,36,37] 41 14 (bits 23 0x71b3f0) (cN g1<|cD g0<|tL hf hlv hl ho (rG hk1 ho)) (fun J=>by kernel_rfl) (by kernel_rfl)
theorem ajO0 (ho:o0≥0) (hlv:lvPre t sz ws) (hf:f0.length+1≤1048576) (g0:x.ln=12∧pPre u sz ws) (g1:pOver u ws) (g2:x.made=true) (g3:0≤o0∧o0<((List.length cl:Nat):Int)) (g4:Int.toNat o0<List.length cl) (g5:Int.toNat o0<List.length (Go.Sx.rs cl (Int.toNat o0) 2 (IntKind.i64.wrap (ck+1)))) (g6:Int.toNat o0<List.length (Go.Sx.rs (Go.Sx.rs cl (Int.toNat o0) 2 (IntKind.i64.wrap (ck+1))) (Int.toNat o0) 7 x.err)) (g7:Int.toNat o0<List.length (Go.Sx.rs (Go.Sx.rs (Go.Sx.rs cl (Int.toNat o0) 2 (IntKind.i64.wrap (ck+1))) (Int.toNat o0) 7 x.err) (Int.toNat o0) 8 0)) (g8:x.err=0):StA 0 ⟨t,sz,ks,hs,j,ws,f0,f1,f2,f3,gt,cl,o0,o1,o2,o3,ck,(.p kk x f rs q u),c0,c1,pk⟩ ⟨t,sz,ks,hs,(pstC u j ws).j,(pstC u j ws).ws,(f0++[fstL t sz ws]),f1,f2,f3,gt,(clE cl o0 ck x.err 0 0),(-1),o1,o2,o3,(IntKind.i64.wrap (ck+1)),(.over kk),c0,c1,pk⟩:=by
 refine ⟨fun zs len cap i hp h0 h1 h2=>?_,fun k hk0 hk1=>PlPc.of fun zs=>?_⟩
 ·by_cases hl:liveW t (ws.take sz.toNat)=[]
  ·rw [fstL_E hl];exact pcA 0 [0,0,0,0,0,0,0,0,0,0,0,0,0,0,0,0,0,0,0,0,0,0,2,1,1,1,1,0,0,0,0,0,0,0,0,0,0,0] [0,1,2,3,4,5,6,7,8,9,10,11,39,13,14,15,16,17,18,19,20,21,22,23,24,25,26,27,28,29,30,31,32,33,34,35,36,37] 41 14 (bits 35 0x7effc07fe) (XB (q2T g8)<|cD g7<|cD g6<|cD g5<|cD g4<|cD g3<|XB (mT g2)<|cD g1<|cD g0<|tE hf hlv hl ho (rH hp h0 h1 h2)) (fun J=>by kernel_rfl) (by kernel_rfl)
  ·rw [fstL_L hl];exact pcA 0 [0,0,0,0,0,0,0,0,0,0,0,0,0,0,0,0,0,0,0,0,0,0,2,1,1,1,1,0,0,0,0,0,0,0,0,0,0,0] [0,1,2,3,4,5,6,7,8,9,10,11,40,13,14,15,16,17,18,19,20,21,22,23,24,25,26,27,28,29,30,31,32,33,34,35,36,37] 42 14 (bits 37 0x1fb3fc07fe) (XB (q2T g8)<|cD g7<|cD g6<|cD g5<|cD g4<|cD g3<|XB (mT g2)<|cD g1<|cD g0<|tL hf hlv hl ho (rH hp h0 h1 h2)) (fun J=>by kernel_rfl) (by kernel_rfl)
 ·by_cases hl:liveW t (ws.take sz.toNat)=[]
  ·rw [fstL_E hl];exact pcA 0 [0,0,0,0,0,0,0,0,0,0,0,0,0,0,0,0,0,0,0,0,0,0,2,1,1,1,1,0,0,0,0,0,0,0,0,0,0,0] [0,1,2,3,4,5,6,7,8,9,10,11,39,13,14,15,16,17,18,19,20,21,22,23,24,25,26,27,28,29,30,31,32,33,34,35,36,37] 41 14 (bits 38 0x38dff80ffc) (XB (q2T g8)<|cD g7<|cD g6<|cD g5<|cD g4<|cD g3<|XB (mT g2)<|cD g1<|cD g0<|tE hf hlv hl ho (rG hk1 ho)) (fun J=>by kernel_rfl) (by kernel_rfl)
  ·rw [fstL_L hl];exact pcA 0 [0,0,0,0,0,0,0,0,0,0,0,0,0,0,0,0,0,0,0,0,0,0,2,1,1,1,1,0,0,0,0,0,0,0,0,0,0,0] [0,1,2,3,4,5,6,7,8,9,10,11,40,13,14,15,16,17,18,19,20,21,22,23,24,25,26,27,28,29,30,31,32,33,34,35,36,37] 42 14 (bits 40 0xe367f80ffc) (XB (q2T g8)<|cD g7<|cD g6<|cD g5<|cD g4<|cD g3<|XB (mT g2)<|cD g1<|cD g0<|tL hf hlv hl ho (rG hk1 ho)) (fun J=>by kernel_rfl) (by kernel_rfl)
end Go.Sx
namespace Go.Sx
open Go.Ql (SInv FInv fstep updF XX XW lkd RW liv insK Ent XT)
section
variable {n H m c:Nat} {σ:CS} {g g':GhC} {k a w f0:Int}
theorem CI.ne0 (I:CI n H m σ g) (p:pend σ.cl c f0 k a w) (hk:k≠4):σ.o0≠c:=fun h=>by
 obtain ⟨c',f',a',e,p'⟩:=I.i.call (by omega)
 have:=p.ne p' hk
 omega
theorem CI.ne1 (I:CI n H m σ g) (p:pend σ.cl c f0 k a w) (hk:k≠5):σ.o1≠c∧σ.o2≠c:=by
 refine ⟨fun h=>?_,fun h=>?_⟩
 ·rcases I.k1.call with e|⟨c',f',e,p'⟩
  ·omega
  ·have:=p.ne p' hk
   omega
 ·rcases I.k2.call with e|⟨c',f',e,p'⟩
  ·omega
  ·have:=p.ne p' hk
   omega
theorem CI.ne3 (I:CI n H m σ g) (p:pend σ.cl c f0 k a w) (hk:k≠6):σ.o3≠c:=fun h=>by
 rcases I.p.call with e|⟨c',f',e,p'⟩
 ·omega
 ·have:=p.ne p' hk
  omega
theorem CI.fut' (I:CI n H m σ g) {own:Int} (h0:own<(cntI σ.io:Int)) (R:RW n own g.X g.M g.E g'.X g'.M g'.E):∀ i:Int,(cntI σ.io:Int)≤i→g'.E i=0∧∀ l,g'.M l i=false:=fun i hi=>by
 obtain ⟨h1,h2⟩:=I.fut i hi
 exact ⟨by rw [R.lo i (by omega)];exact h1,fun l=>by rw [R.un i h1];exact h2 l⟩
theorem TR.snoc {z:Ent} {cl':List (List Int)} (hT:g'.T=g.T++[z]) (hz:∀ d∈Ql.callOf z.e,d=c) (hO:∀ d,d≠c→g'.O d=g.O d) (hcl:cl'=σ.cl∨∃ r,cl'=σ.cl.set c r):TR c g σ.cl g' cl':=by
 refine ⟨fun y hy=>⟨y,by rw [hT];simp [hy],rfl,rfl⟩,fun d hd=>⟨?_,hO d hd⟩,fun d f k a w hd p=>?_⟩
 ·rw [hT,callsT_snoc]
  exact ⟨fun h=>h.resolve_right fun h=>hd (hz d h),.inl⟩
 ·rcases hcl with rfl|⟨r,rfl⟩
  ·exact p
  ·refine ⟨by rw [List.length_set];exact p.1,?_⟩
   rw [List.getD_eq_getElem?_getD,List.getElem?_set_ne (fun e=>hd e.symm),← List.getD_eq_getElem?_getD]
   exact p.2
theorem CI.tl' (I:CI n H m σ g) {z:Ent} (hT:g'.T=g.T++[z]) (hz:z.S=liv (g.M 0) (g.C 0)) (hE:∀ i,g.E i≤g'.E i):∀ y∈g'.T,∀ i∈y.S,1≤g'.E i:=fun y hy i hi=>by
 rw [hT] at hy
 rcases List.mem_append.1 hy with h|h
 ·have:=I.tl y h i hi
  have:=hE i
  omega
 ·rw [List.mem_singleton.1 h,hz] at hi
  have:=(I.lk hi).2.2.1
  have:=hE i
  omega
theorem opn_fin {cl:List (List Int)} {r:List Int} {P:Nat→Prop} (hr:r.getD 2 0≠-1) (hc:c<cl.length) (h:∀ d,d<cl.length→(cl.getD d []).getD 2 0=-1→P d∨d=c):∀ d,d<(cl.set c r).length→((cl.set c r).getD d []).getD 2 0=-1→P d:=fun d hd ht=>by
 rw [List.length_set] at hd
 rw [getD_setR hc] at ht
 by_cases e:d=c
 ·rw [if_pos e] at ht;exact absurd ht hr
 ·rw [if_neg e] at ht
  exact (h d hd ht).resolve_right e
theorem CI.a0 (I:CI n H m σ g) {io':IS} {o':Int} {fl':List Int} {cl':List (List Int)} {ck':Int} {ws':List Int} {j':MJ} {z:Ent} (p:pend σ.cl c f0 4 a w) (W':WI n H σ.ks σ.hs g'.X g'.M ws') (V':SInv H n (keyF σ.ks) (hiF n σ.hs) g'.X g'.M g'.E g'.C) {own:Int} (h0:own<(cntI σ.io:Int))
  (R:RW n own g.X g.M g.E g'.X g'.M g'.E) (h':HI n σ.ks cl' ck' g'.O g'.T (liv (g'.M 0) (g'.C 0))) (hT:g'.T=g.T++[z]) (hz:z.S=liv (g.M 0) (g.C 0)) (hze:∀ d∈Ql.callOf z.e,d=c) (hO:∀ d,d≠c→g'.O d=g.O d) (hcl:cl'=σ.cl∨∃ r,cl'=σ.cl.set c r)
  (opn':∀ c,c<cl'.length→(cl'.getD c []).getD 2 0=-1→(c:Int)=o'∨(c:Int)=σ.o1∨(c:Int)=σ.o2∨(c:Int)=σ.o3) (i':ICore n H σ.ks σ.hs g' cl' io' o') (hcnt:cntI io'=cntI σ.io) (hd:g'.d1=g.d1∧g'.d2=g.d2)
  (bf:fl'.length≤m+1) (bck:ck'≤((m+1:Nat):Int)):
  CI n H (m+1) {σ with ws:=ws',j:=j',io:=io',o0:=o',f0:=fl',cl:=cl',ck:=ck'} g':=by
 have T:TR c g σ.cl g' cl':=TR.snoc hT hze hO hcl
 obtain ⟨n1,n2⟩:=I.ne1 p (by decide)
 have n3:=I.ne3 p (by decide)
 have hlen:cl'.length=σ.cl.length:=by
  rcases hcl with rfl|⟨r,rfl⟩
  ·rfl
  ·rw [List.length_set]
 have b:=I.b
 refine ⟨I.N,I.t,I.sz,W',V',h',opn',i',?_,?_,I.p.mono R T n3 (fun y hy=>by rw [hT];simp [hy]),I.df,?_,by show cntI io'≤n;rw [hcnt];exact I.cn,fun i hi=>R.mm _ _ (I.gt i hi),fun i hi=>⟨R.mm _ _ (I.g1 i hi).1,(I.g1 i hi).2⟩,fun i hi=>⟨R.mm _ _ (I.g2 i hi).1,(I.g2 i hi).2⟩,I.tl' hT hz R.lv,
  ⟨by show cl'.length≤m+1;rw [hlen];exact Nat.le_succ_of_le b.cl,bck,bf,Nat.le_succ_of_le b.f1,Nat.le_succ_of_le b.f2,Nat.le_succ_of_le b.f3,Nat.le_succ_of_le b.gt⟩⟩
 ·show KCore n H σ.ks σ.hs g' cl' σ.f1 g'.d1 σ.c0 σ.o1
  rw [hd.1];exact I.k1.mono R T n1
 ·show KCore n H σ.ks σ.hs g' cl' σ.f2 g'.d2 σ.c1 σ.o2
  rw [hd.2];exact I.k2.mono R T n2
 ·show ∀ i:Int,(cntI io':Int)≤i→_
  rw [hcnt];exact I.fut' h0 R
def LfI (n H:Nat) (σ:CS) (g:GhC) (l:Nat):Prop:=match σ.io with
 |.a k x _ _=>IL n H σ.ks g.X g.M (hiF n σ.hs k) x g.d0 l
 |.r _ _ _ _ _=>4≤l
 |.p _ _ _ _ _ u=>PL σ.ws u l
 |_=>True
theorem istC_f (x:InsC) (f:FdC) (rs:List (List Int)) (j:MJ) (ws:List Int):(istC x f rs j ws).f=f∨(istC x f rs j ws).f=(fstC f rs j ws).x:=by
 unfold istC
 by_cases h:x.ln=1
 ·rw [if_pos h]
  by_cases h':(fstC f rs j ws).x.ln=9
  ·rw [if_pos h'];exact .inr rfl
  ·rw [if_neg h'];exact .inr rfl
 rw [if_neg h]
 by_cases h:x.ln=2
 ·rw [if_pos h];exact .inl rfl
 rw [if_neg h]
 by_cases h:x.ln=3
 ·rw [if_pos h];exact .inl rfl
 rw [if_neg h]
 by_cases h:x.ln=4
 ·rw [if_pos h];exact .inl rfl
 rw [if_neg h]
 by_cases h:x.ln=5
 ·rw [if_pos h];exact .inl rfl
 rw [if_neg h]
 by_cases h:x.ln=6
 ·rw [if_pos h];exact .inl rfl
 rw [if_neg h]
 by_cases h:x.ln=7
 ·rw [if_pos h];exact .inr rfl
 rw [if_neg h]
 by_cases h:x.ln=8
 ·rw [if_pos h];exact .inl rfl
 rw [if_neg h]
 by_cases h:x.ln=9
 ·rw [if_pos h];exact .inl rfl
 rw [if_neg h]
 by_cases h:x.ln=10
 ·rw [if_pos h];exact .inr rfl
 rw [if_neg h];exact .inl rfl
theorem istC_keepF (x:InsC) (f:FdC) (rs:List (List Int)) (j:MJ) (ws:List Int):keepF f (istC x f rs j ws).f=(istC x f rs j ws).f:=by
 rcases istC_f x f rs j ws with h|h
 ·rw [h];exact keepF_eq ⟨rfl,rfl,rfl,rfl⟩
 ·rw [h];exact keepF_eq (fstC_keep f rs j ws)
def AO0 (n H m:Nat) (σ:CS) (g:GhC):Prop:=∃ σ' g',StA 0 σ σ'∧CI n H (m+1) σ' g'∧(σ'.o0=-1∨((∀ l,LfI n H σ g (l+1)→LfI n H σ' g' l)∧σ'.o0=σ.o0))∧σ'.ks=σ.ks∧σ'.o1=σ.o1∧σ'.o2=σ.o2∧σ'.o3=σ.o3∧σ'.cl.length=σ.cl.length
end
theorem act0a {n H m:Nat} {t:Tw} {sz:Int} {ks hs:List Int} {j:MJ} {ws f0 f1 f2 f3 gt:List Int} {cl:List (List Int)} {o0 o1 o2 o3 ck:Int} {k:Nat} {x:InsC} {f:FdC} {rs:List (List Int)} {c0 c1:KS} {pk:PS} {g:GhC}
  (I:CI n H m ⟨t,sz,ks,hs,j,ws,f0,f1,f2,f3,gt,cl,o0,o1,o2,o3,ck,.a k x f rs,c0,c1,pk⟩ g) (ho:o0≥0) (hm:m<5000) (h11:x.ln≠11):AO0 n H m ⟨t,sz,ks,hs,j,ws,f0,f1,f2,f3,gt,cl,o0,o1,o2,o3,ck,.a k x f rs,c0,c1,pk⟩ g:=by
 obtain ⟨c,fr,e,p,hOc,hev,S⟩:=I.i
 have b:=I.b
 have bf:f0.length≤m:=b.f0
 have bck:ck≤(m:Int):=b.ck
 have W:WI n H ks hs g.X g.M ws:=I.W
 have V:SInv H n (keyF ks) (hiF n hs) g.X g.M g.E g.C:=I.V
 have N:Nums n H ks hs:=I.N
 have hsz:sz=szW n H:=I.sz
 have hh:HI n ks cl ck g.O g.T (liv (g.M 0) (g.C 0)):=I.h
 have hk0:=S.B.i0
 have hk1:=S.B.i1
 have key:∀ (f':FdC) (rs':List (List Int)),IOut n H ks hs g.X g.M g.E g.C k x g.d0 (istC x f rs j ws).x f' rs' (istC x f rs j ws).ws→
   StA 0 ⟨t,sz,ks,hs,j,ws,f0,f1,f2,f3,gt,cl,o0,o1,o2,o3,ck,.a k x f rs,c0,c1,pk⟩ ⟨t,sz,ks,hs,(istC x f rs j ws).j,(istC x f rs j ws).ws,f0++[fstL t sz ws],f1,f2,f3,gt,cl,o0,o1,o2,o3,ck,.a k (istC x f rs j ws).x f' rs',c0,c1,pk⟩→
   AO0 n H m ⟨t,sz,ks,hs,j,ws,f0,f1,f2,f3,gt,cl,o0,o1,o2,o3,ck,.a k x f rs,c0,c1,pk⟩ g:=fun f' rs' hout hst=>by
  obtain ⟨nx',mk',lev',C',fd',W',V',R,S',hlv,hleft⟩:=hout
  have hopn:=I.opn
  rcases hlv with ⟨hl1,hl2⟩|⟨hl1,hl2,hl3,hl4⟩
  ·refine ⟨_,⟨nx',mk',lev',C',g.O,g.T++[⟨ck,liv (g.M 0) (g.C 0),.tau⟩],fd',g.d1,g.d2⟩,hst,I.a0 (z:=⟨ck,liv (g.M 0) (g.C 0),.tau⟩) (own:=k) p W' V' (by show (k:Int)<((k+1:Nat):Int);omega) R ?_ rfl rfl (fun d hd=>by cases hd) (fun _ _=>rfl) (.inl rfl) hopn ?_ rfl ⟨rfl,rfl⟩ (by simp;omega) (by omega),.inr ⟨fun l hl=>hleft l hl,rfl⟩,rfl,rfl,rfl,rfl,rfl⟩
   ·show HI n ks cl ck g.O _ (liv (mk' 0) (C' 0))
    rw [hl1];exact hh.tau I.srt
   ·refine ⟨c,fr,e,p,hOc,?_,S'⟩
    show c∈XT (g.T++_)↔1≤lev' k
    rw [callsT_snoc,hl2,← hev]
    exact ⟨fun h=>h.resolve_right fun h=>(by cases h),.inl⟩
  ·have hnc:¬ c∈XT g.T:=fun h=>by have:=hev.1 h;omega
   refine ⟨_,⟨nx',mk',lev',C',g.O,g.T++[⟨ck,liv (g.M 0) (g.C 0),.ins c k⟩],fd',g.d1,g.d2⟩,hst,I.a0 (z:=⟨ck,liv (g.M 0) (g.C 0),.ins c k⟩) (own:=k) p W' V' (by show (k:Int)<((k+1:Nat):Int);omega) R ?_ rfl rfl (fun d hd=>List.mem_singleton.1 hd) (fun _ _=>rfl) (.inl rfl) hopn ?_ rfl ⟨rfl,rfl⟩ (by simp;omega) (by omega),.inr ⟨fun l hl=>hleft l hl,rfl⟩,rfl,rfl,rfl,rfl,rfl⟩
   ·show HI n ks cl ck g.O _ (liv (mk' 0) (C' 0))
    rw [hl1]
    have hnot:¬ (k:Int)∈liv (g.M 0) (g.C 0):=fun h=>by have:=(I.lk h).2.2.1;omega
    exact hh.ins I.srt p hnc hOc hnot (fun y hy he=>by
     have:=I.lk hy
     have e2:=N.ki y k this.1 this.2.1 hk0 hk1 he
     exact hnot (e2 ▸ hy)) (fun y hy h=>by have:=I.tl y hy k h;omega)
   ·refine ⟨c,fr,e,p,hOc,?_,S'⟩
    show c∈XT (g.T++_)↔1≤lev' k
    rw [callsT_snoc]
    exact ⟨fun _=>hl4,fun _=>.inr (by simp [Ql.callOf])⟩
 obtain ⟨a1,a2,a3⟩:=S.act (j:=j) N W V h11
 have hpre:iPre x f rs sz ws:=by rw [hsz];exact S.pre N W
 by_cases hF:iNF x rs ws
 ·have hst:=aiF0 (t:=t) (hs:=hs) (ks:=ks) (j:=j) (f1:=f1) (f2:=f2) (f3:=f3) (gt:=gt) (cl:=cl) (o1:=o1) (o2:=o2) (o3:=o3) (ck:=ck) (c0:=c0) (c1:=c1) (pk:=pk) (kk:=k) ho I.lvp (by omega:f0.length+1≤1048576) hpre hF
  rw [keepI_eq] at hst
  exact key _ _ (a1 hF) hst
 ·have hout:=a2 hF
  have hln:(istC x f rs j ws).x.ln≠0:=by
   obtain ⟨_,_,_,_,_,_,_,_,S',_⟩:=hout
   have:=S'.ln
   omega
  have hst:=aiN0 (t:=t) (hs:=hs) (ks:=ks) (j:=j) (f1:=f1) (f2:=f2) (f3:=f3) (gt:=gt) (cl:=cl) (o1:=o1) (o2:=o2) (o3:=o3) (ck:=ck) (c0:=c0) (c1:=c1) (pk:=pk) (kk:=k) ho I.lvp (by omega:f0.length+1≤1048576) hpre hF a3 hln
  rw [keepI_eq,istC_keepF] at hst
  exact key _ _ hout hst
end Go.Sx
namespace Go.Sx
open Go.Ql (SInv FInv fstep updF XX XW lkd RW liv insK Ent XT)
variable {n H m:Nat} {t:Tw} {sz:Int} {ks hs:List Int} {j:MJ} {ws f0 f1 f2 f3 gt:List Int} {cl:List (List Int)} {o0 o1 o2 o3 ck:Int} {k:Nat} {x:InsC} {f:FdC} {rs:List (List Int)} {c0 c1:KS} {pk:PS} {g:GhC} {q:ReC} {u:PuC}
theorem tau_calls (a:Int) (S:List Int) (c:Nat):∀ d∈Ql.callOf (⟨a,S,.tau⟩:Ent).e,d=c:=fun d hd=>by cases hd
theorem tau_in {tr:List Ent} {a:Int} {S:List Int} {d:Nat}:d∈XT (tr++[⟨a,S,.tau⟩])↔d∈XT tr:=by
 rw [callsT_snoc]
 exact ⟨fun h=>h.resolve_right fun h=>(by cases h),.inl⟩
theorem act0q {io io':IS} {ws':List Int} {j':MJ} (I:CI n H m ⟨t,sz,ks,hs,j,ws,f0,f1,f2,f3,gt,cl,o0,o1,o2,o3,ck,io,c0,c1,pk⟩ g) {c:Nat} {fr:Int} (p:pend cl c fr 4 k (keyF ks k)) (W':WI n H ks hs g.X g.M ws') (hcnt:cntI io'=cntI io)
  (i':∀ O' T',(c∈XT T'↔c∈XT g.T)→O'=g.O→ICore n H ks hs ⟨g.X,g.M,g.E,g.C,O',T',g.d0,g.d1,g.d2⟩ cl io' o0):
  ∃ g',CI n H (m+1) ⟨t,sz,ks,hs,j',ws',f0++[fstL t sz ws],f1,f2,f3,gt,cl,o0,o1,o2,o3,ck,io',c0,c1,pk⟩ g'∧g'.X=g.X∧g'.M=g.M∧g'.d0=g.d0:=by
 have b:=I.b
 have bf:f0.length≤m:=b.f0
 have bck:ck≤(m:Int):=b.ck
 have hh:HI n ks cl ck g.O g.T (liv (g.M 0) (g.C 0)):=I.h
 refine ⟨⟨g.X,g.M,g.E,g.C,g.O,g.T++[⟨ck,liv (g.M 0) (g.C 0),.tau⟩],g.d0,g.d1,g.d2⟩,?_,rfl,rfl,rfl⟩
 exact I.a0 (z:=⟨ck,liv (g.M 0) (g.C 0),.tau⟩) (own:=-1) p W' I.V (by show (-1:Int)<((cntI io:Nat):Int);omega) .refl (hh.tau I.srt) rfl rfl (tau_calls _ _ _) (fun _ _=>rfl) (.inl rfl) I.opn (i' _ _ tau_in rfl) hcnt ⟨rfl,rfl⟩ (by simp;omega) (by omega)
theorem act0e {io:IS} {ws':List Int} {j':MJ} (I:CI n H m ⟨t,sz,ks,hs,j,ws,f0,f1,f2,f3,gt,cl,o0,o1,o2,o3,ck,io,c0,c1,pk⟩ g) (hm:m<5000) {c:Nat} {fr:Int} (e:o0=c) (p:pend cl c fr 4 k (keyF ks k)) (hc:c∈XT g.T) (hO:g.O c=.put (k:Int)) (hk:k<n) (W':WI n H ks hs g.X g.M ws') (hcnt:k+1=cntI io):
  ∃ g',CI n H (m+1) ⟨t,sz,ks,hs,j',ws',f0++[fstL t sz ws],f1,f2,f3,gt,clE cl o0 ck 0 0 0,-1,o1,o2,o3,IntKind.i64.wrap (ck+1),.over k,c0,c1,pk⟩ g':=by
 have b:=I.b
 have bf:f0.length≤m:=b.f0
 have bck:ck≤(m:Int):=b.ck
 have hh:HI n ks cl ck g.O g.T (liv (g.M 0) (g.C 0)):=I.h
 have h0:=hh.ck0
 have hw:IntKind.i64.wrap (ck+1)=ck+1:=XM (by omega) (by omega)
 have hopn:∀ d,d<cl.length→(cl.getD d []).getD 2 0=-1→(d:Int)=o0∨(d:Int)=o1∨(d:Int)=o2∨(d:Int)=o3:=I.opn
 refine ⟨⟨g.X,g.M,g.E,g.C,g.O,g.T++[⟨ck,liv (g.M 0) (g.C 0),.tau⟩],g.d0,g.d1,g.d2⟩,?_⟩
 rw [hw,e,clE_eq p h0 (by omega)]
 refine I.a0 (z:=⟨ck,liv (g.M 0) (g.C 0),.tau⟩) (own:=-1) (o':=-1) p W' I.V (by show (-1:Int)<((cntI io:Nat):Int);omega) .refl ((hh.tau I.srt).fin p (tau_in.2 hc) ?_) rfl rfl (tau_calls _ _ _) (fun _ _=>rfl) (.inr ⟨_,rfl⟩) (opn_fin (P:=fun c=>(c:Int)=-1∨(c:Int)=o1∨(c:Int)=o2∨(c:Int)=o3) (show ck+1≠-1 by omega) p.1 fun d hd ht=>?_) rfl hcnt ⟨rfl,rfl⟩ (by simp;omega) (by omega)
 ·exact .inl ⟨rfl,hO,rfl,by omega,by omega,rfl,rfl,rfl⟩
 ·rcases hopn d hd ht with h|h|h|h
  ·exact .inr (by omega)
  ·exact .inl (.inr (.inl h))
  ·exact .inl (.inr (.inr (.inl h)))
  ·exact .inl (.inr (.inr (.inr h)))
theorem at_B (N:Nums n H ks hs) (hw:ws.length=4096) {_k:Nat}:XS (tw n H).at' (szW n H) ws:=by
 obtain ⟨g1,g2,g3,g4⟩:=id N.g
 have hs1:szW n H≤4096∧10+2*(n:Int)≤szW n H:=by
  unfold szW
  rcases N.g.h with rfl|rfl|rfl|rfl<;>omega
 refine ⟨?_,?_,hs1.1,hw⟩<;>simp only [tw]<;>omega
theorem act0b (I:CI n H m ⟨t,sz,ks,hs,j,ws,f0,f1,f2,f3,gt,cl,o0,o1,o2,o3,ck,.a k x f rs,c0,c1,pk⟩ g) (ho:o0≥0) (hm:m<5000) (h11:x.ln=11):AO0 n H m ⟨t,sz,ks,hs,j,ws,f0,f1,f2,f3,gt,cl,o0,o1,o2,o3,ck,.a k x f rs,c0,c1,pk⟩ g:=by
 obtain ⟨c,fr,e,p,hOc,hev,S⟩:=I.i
 have b:=I.b
 have bf:f0.length≤m:=b.f0
 have W:WI n H ks hs g.X g.M ws:=I.W
 have N:Nums n H ks hs:=I.N
 have hsz:sz=szW n H:=I.sz
 have hpre:iPre x f rs sz ws:=by rw [hsz];exact S.pre N W
 have hF:¬ iNF x rs ws:=fun h=>by
  rcases h with ⟨h,_⟩|⟨h,_⟩<;>omega
 have haf:=S.I.af (by show 4≤x.ln.toNat;omega)
 have hc:=hev.2 haf
 have hk1:=S.B.i1
 have hpl:c<cl.length:=p.1
 have e:o0=c:=e
 have ew:(istC x f rs j ws).ws=ws.set (ptA (tw n H) k 3).toNat (addW ws (ptA x.t x.i 3).toNat 18446744073709551615):=by rw [ist_11 h11,S.B.t,S.B.xi]
 have W':WI n H ks hs g.X g.M (istC x f rs j ws).ws:=by rw [ew];exact let_ws N W S.B.i0 S.B.i1
 have B':IB n H ks hs k (istC x f rs j ws).x:=S.B.ki (KI_ist x f rs j ws)
 by_cases hz:addW ws (ptA x.t x.i 3).toNat 18446744073709551615=0
 ·have hst:=aiR0 (t:=t) (hs:=hs) (ks:=ks) (j:=j) (f1:=f1) (f2:=f2) (f3:=f3) (gt:=gt) (cl:=cl) (o1:=o1) (o2:=o2) (o3:=o3) (ck:=ck) (c0:=c0) (c1:=c1) (pk:=pk) (kk:=k) ho I.lvp (by omega:f0.length+1≤1048576) hpre hF ⟨h11,hz⟩
  rw [keepI_eq] at hst
  have hl:(istC x f rs j ws).x.ln=12:=by rw [ist_11 h11];exact if_pos hz
  obtain ⟨g',I',e1,e2,e3⟩:=act0q (io':=.r k (istC x f rs j ws).x f rs ⟨true,0,x.t,x.i⟩) (j':=(istC x f rs j ws).j) I p W' rfl fun O' T' hT hO=>⟨c,fr,e,p,by show O' c=_;rw [hO];exact hOc,⟨hT.2 hc,haf⟩,B',hl,by rw [S.B.t,S.B.xi]⟩
  exact ⟨_,g',hst,I',.inr ⟨fun l hl=>(by
   have h1:IL n H ks g.X g.M (hiF n hs k) x g.d0 (l+1):=hl
   have:=h1.l11 h11
   show 4≤l
   omega),rfl⟩,rfl,rfl,rfl,rfl,rfl⟩
 ·have hl:(istC x f rs j ws).x.ln=0:=by rw [ist_11 h11];exact if_neg hz
  have hst:=aiO0 (t:=t) (hs:=hs) (ks:=ks) (j:=j) (f1:=f1) (f2:=f2) (f3:=f3) (gt:=gt) (cl:=cl) (o1:=o1) (o2:=o2) (o3:=o3) (ck:=ck) (c0:=c0) (c1:=c1) (pk:=pk) (kk:=k) ho I.lvp (by omega:f0.length+1≤1048576) hpre hF (fun h=>hz h.2) hl S.B.made
   ⟨by omega,by omega⟩ (by omega) (by rw [rs_len];omega) (by rw [rs_len,rs_len];omega) (by rw [rs_len,rs_len,rs_len];omega) S.B.err
  rw [S.B.err] at hst
  obtain ⟨g',I'⟩:=act0e (j':=(istC x f rs j ws).j) I hm e p hc hOc (by omega) W' rfl
  exact ⟨_,g',hst,I',.inl rfl,rfl,rfl,rfl,rfl,by show (clE cl o0 ck 0 0 0).length=_;unfold clE;rw [rs_len,rs_len,rs_len,rs_len]⟩
theorem act0r (I:CI n H m ⟨t,sz,ks,hs,j,ws,f0,f1,f2,f3,gt,cl,o0,o1,o2,o3,ck,.r k x f rs q,c0,c1,pk⟩ g) (ho:o0≥0) (hm:m<5000):AO0 n H m ⟨t,sz,ks,hs,j,ws,f0,f1,f2,f3,gt,cl,o0,o1,o2,o3,ck,.r k x f rs q,c0,c1,pk⟩ g:=by
 obtain ⟨c,fr,e,p,hOc,⟨hc,haf⟩,B,hx,hq⟩:=I.i
 have b:=I.b
 have bf:f0.length≤m:=b.f0
 have W:WI n H ks hs g.X g.M ws:=I.W
 have N:Nums n H ks hs:=I.N
 have hsz:sz=szW n H:=I.sz
 have hk1:=B.i1
 subst hq
 have hst:=ajR0 (t:=t) (hs:=hs) (ks:=ks) (j:=j) (f1:=f1) (f2:=f2) (f3:=f3) (gt:=gt) (cl:=cl) (o1:=o1) (o2:=o2) (o3:=o3) (ck:=ck) (c0:=c0) (c1:=c1) (pk:=pk) (kk:=k) (f:=f) (rs:=rs) (q:=⟨true,0,tw n H,k⟩) ho I.lvp (by omega:f0.length+1≤1048576)
  ⟨hx,by rw [hsz];exact at_B N W.len (_k:=k),by show 0≤(k:Int);omega,by show (k:Int)<n;exact hk1⟩
 obtain ⟨g',I',e1,e2,e3⟩:=act0q (io':=.p k (reA x 12) f rs ⟨true,0,tw n H,k⟩ (newP (tw n H) k (ws.getD (tw n H).at'.toNat 0))) (j':=jLd ws (tw n H).at' j) I p W rfl fun O' T' hT hO=>⟨c,fr,e,p,by show O' c=_;rw [hO];exact hOc,⟨hT.2 hc,haf⟩,⟨B.t,B.made,B.err,B.ref,B.key,B.xi,B.hi,B.i0,B.i1⟩,rfl,PI.new N.g _⟩
 exact ⟨_,g',hst,I',.inr ⟨fun l hl=>(by
  have h1:4≤l+1:=hl
  show PL ws _ l
  exact ⟨fun _=>by omega,fun h=>absurd h f_ne.1,fun h=>absurd h f_ne.2.1⟩),rfl⟩,rfl,rfl,rfl,rfl,rfl⟩
theorem act0p (I:CI n H m ⟨t,sz,ks,hs,j,ws,f0,f1,f2,f3,gt,cl,o0,o1,o2,o3,ck,.p k x f rs q u,c0,c1,pk⟩ g) (ho:o0≥0) (hm:m<5000):AO0 n H m ⟨t,sz,ks,hs,j,ws,f0,f1,f2,f3,gt,cl,o0,o1,o2,o3,ck,.p k x f rs q u,c0,c1,pk⟩ g:=by
 obtain ⟨c,fr,e,p,hOc,⟨hc,haf⟩,B,hx,P⟩:=I.i
 have b:=I.b
 have bf:f0.length≤m:=b.f0
 have W:WI n H ks hs g.X g.M ws:=I.W
 have N:Nums n H ks hs:=I.N
 have hsz:sz=szW n H:=I.sz
 have hk1:=B.i1
 have hpl:c<cl.length:=p.1
 have e:o0=c:=e
 have hpre:pPre u sz ws:=by rw [hsz];exact P.pre N W.len B.i0 B.i1
 obtain ⟨W',hn⟩:=P.step (j:=j) N W B.i0 B.i1
 by_cases hv:pOver u ws
 ·have hst:=ajO0 (t:=t) (hs:=hs) (ks:=ks) (j:=j) (f1:=f1) (f2:=f2) (f3:=f3) (gt:=gt) (cl:=cl) (o1:=o1) (o2:=o2) (o3:=o3) (ck:=ck) (c0:=c0) (c1:=c1) (pk:=pk) (kk:=k) (f:=f) (rs:=rs) (q:=q) ho I.lvp (by omega:f0.length+1≤1048576) ⟨hx,hpre⟩ hv B.made
   ⟨by omega,by omega⟩ (by omega) (by rw [rs_len];omega) (by rw [rs_len,rs_len];omega) (by rw [rs_len,rs_len,rs_len];omega) B.err
  rw [B.err] at hst
  obtain ⟨g',I'⟩:=act0e (j':=(pstC u j ws).j) I hm e p hc hOc (by omega) W' rfl
  exact ⟨_,g',hst,I',.inl rfl,rfl,rfl,rfl,rfl,by show (clE cl o0 ck 0 0 0).length=_;unfold clE;rw [rs_len,rs_len,rs_len,rs_len]⟩
 ·have hst:=ajN0 (t:=t) (hs:=hs) (ks:=ks) (j:=j) (f1:=f1) (f2:=f2) (f3:=f3) (gt:=gt) (cl:=cl) (o1:=o1) (o2:=o2) (o3:=o3) (ck:=ck) (c0:=c0) (c1:=c1) (pk:=pk) (kk:=k) (f:=f) (rs:=rs) (q:=q) ho I.lvp (by omega:f0.length+1≤1048576) ⟨hx,hpre⟩ hv
  rw [keepP_eq] at hst
  obtain ⟨P',hl⟩:=hn hv
  obtain ⟨g',I',e1,e2,e3⟩:=act0q (io':=.p k (reA x 12) f rs q (pstC u j ws).x) (j':=(pstC u j ws).j) I p W' rfl fun O' T' hT hO=>⟨c,fr,e,p,by show O' c=_;rw [hO];exact hOc,⟨hT.2 hc,haf⟩,⟨B.t,B.made,B.err,B.ref,B.key,B.xi,B.hi,B.i0,B.i1⟩,rfl,P'⟩
  exact ⟨_,g',hst,I',.inr ⟨fun l h=>hl l h,rfl⟩,rfl,rfl,rfl,rfl,rfl⟩
theorem act0 {σ:CS} (I:CI n H m σ g) (ho:σ.o0≥0) (hm:m<5000):AO0 n H m σ g:=by
 obtain ⟨t,sz,ks,hs,j,ws,f0,f1,f2,f3,gt,cl,o0,o1,o2,o3,ck,io,c0,c1,pk⟩:=σ
 have ho:o0≥0:=ho
 cases io with
 |none=>have:=I.i;have:o0=-1:=this;omega
 |over k=>have:=I.i;have:o0=-1:=this;omega
 |a k x f rs=>
  by_cases h:x.ln=11
  ·exact act0b I ho hm h
  ·exact act0a I ho hm h
 |r k x f rs q=>exact act0r I ho hm
 |p k x f rs q u=>exact act0p I ho hm
end Go.Sx
