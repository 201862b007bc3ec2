/- An arena's crew: the ways between plays' loops. -/
import Derived.Test.YtgldnjmnoemccaaGreatSzB1
namespace Go.Sx
set_option maxRecDepth 100000
section
variable {σ : AS} {zs : List Int} {len cap : Nat} {i k : Int}
theorem pl_next (h0 : 0 ≤ i) (h1 : i < (len : Int)) (h2 : len = zs.length) : PlPz zs plH (slH len cap i) plM (slM len cap i (pickF (zs.getD i.toNat 0) 3)) σ σ := fun hβ hA =>
  have hi : i.toNat < zs.length := by omega
  Asrt.evalR (mk := []) (n := 400) (m := 9) (orc := bits 4 0b1111) (πl := id16) (nx' := 16) (far := far) (todo := plH) (todo' := plM) (l' := lA zs σ) (lr := lA zs σ) (sl' := slM len cap i (pickF (zs.getD i.toNat 0) 3)) (B := allB [decide (i.toNat < zs.length), decide (0 ≤ i ∧ i < (len : Int)), decide (i < (len : Int))]) FP_ok SP_ok _ _ hA (by kernel_rfl) (renA _ _) (by simp only [allB_iff, List.forall_mem_cons, decide_eq_true_eq]; exact ⟨hi, ⟨h0, h1⟩, h1, fun _ hb => by cases hb⟩) rfl rfl rfl rfl rfl (pA _) (fun m hm => pA_live _ _ _ m hm) (pA_old hβ) (by rw [hβ]; kernel_rfl) (obsA _ _) (by kernel_rfl)
theorem pl_exit (h : ¬ i < (len : Int)) : PlPc plH (slH len cap i) plK (slK 0) σ σ := fun hβ hA =>
  Asrt.evalR (mk := []) (n := 400) (m := 10) (orc := bits 1 0b0) (πl := id16) (nx' := 16) (far := far) (todo := plH) (todo' := plK) (l' := lA _ σ) (lr := lA _ σ) (sl' := slK 0) (B := allB [!(decide (i < (len : Int)))]) FP_ok SP_ok _ _ hA (by kernel_rfl) (renA _ _) (by simp only [allB_iff, List.forall_mem_cons, decide_eq_false h, Bool.not_false]; exact ⟨trivial, fun _ hb => by cases hb⟩) rfl rfl rfl rfl rfl (pA _) (fun m hm => pA_live _ _ _ m hm) (pA_old hβ) (by rw [hβ]; kernel_rfl) (obsA _ _) (by kernel_rfl)
theorem pl_in0 : PlPc plK (slK 0) plG (slG 0 0) σ σ := fun hβ hA =>
  Asrt.evalR (mk := []) (n := 400) (m := 11) (orc := bits 1 0b1) (πl := id16) (nx' := 16) (far := far) (todo := plK) (todo' := plG) (l' := lA _ σ) (lr := lA _ σ) (sl' := slG 0 0) (B := allB []) FP_ok SP_ok _ _ hA (by kernel_rfl) (renA _ _) rfl rfl rfl rfl rfl rfl (pA _) (fun m hm => pA_live _ _ _ m hm) (pA_old hβ) (by rw [hβ]; kernel_rfl) (obsA _ _) (by kernel_rfl)
theorem pl_out0 (h : ¬ σ.o0 ≥ 0) : PlPc plG (slG 0 k) plK (slK 1) σ σ := fun hβ hA =>
  Asrt.evalR (mk := []) (n := 400) (m := 8) (orc := bits 3 0b110) (πl := id16) (nx' := 16) (far := far) (todo := plG) (todo' := plK) (l' := lA _ σ) (lr := lA _ σ) (sl' := slK 1) (B := allB [!(decide (σ.o0 ≥ 0))]) FP_ok SP_ok _ _ hA (by kernel_rfl) (renA _ _) (by simp only [allB_iff, List.forall_mem_cons, decide_eq_false h, Bool.not_false]; exact ⟨trivial, fun _ hb => by cases hb⟩) rfl rfl rfl rfl rfl (pA _) (fun m hm => pA_live _ _ _ m hm) (pA_old hβ) (by rw [hβ]; kernel_rfl) (obsA _ _) (by kernel_rfl)
theorem pl_in1 : PlPc plK (slK 1) plG (slG 1 0) σ σ := fun hβ hA =>
  Asrt.evalR (mk := []) (n := 400) (m := 11) (orc := bits 1 0b1) (πl := id16) (nx' := 16) (far := far) (todo := plK) (todo' := plG) (l' := lA _ σ) (lr := lA _ σ) (sl' := slG 1 0) (B := allB []) FP_ok SP_ok _ _ hA (by kernel_rfl) (renA _ _) rfl rfl rfl rfl rfl rfl (pA _) (fun m hm => pA_live _ _ _ m hm) (pA_old hβ) (by rw [hβ]; kernel_rfl) (obsA _ _) (by kernel_rfl)
theorem pl_out1 (h : ¬ σ.o1 ≥ 0) : PlPc plG (slG 1 k) plK (slK 2) σ σ := fun hβ hA =>
  Asrt.evalR (mk := []) (n := 400) (m := 8) (orc := bits 3 0b110) (πl := id16) (nx' := 16) (far := far) (todo := plG) (todo' := plK) (l' := lA _ σ) (lr := lA _ σ) (sl' := slK 2) (B := allB [!(decide (σ.o1 ≥ 0))]) FP_ok SP_ok _ _ hA (by kernel_rfl) (renA _ _) (by simp only [allB_iff, List.forall_mem_cons, decide_eq_false h, Bool.not_false]; exact ⟨trivial, fun _ hb => by cases hb⟩) rfl rfl rfl rfl rfl (pA _) (fun m hm => pA_live _ _ _ m hm) (pA_old hβ) (by rw [hβ]; kernel_rfl) (obsA _ _) (by kernel_rfl)
theorem pl_in2 : PlPc plK (slK 2) plG (slG 2 0) σ σ := fun hβ hA =>
  Asrt.evalR (mk := []) (n := 400) (m := 11) (orc := bits 1 0b1) (πl := id16) (nx' := 16) (far := far) (todo := plK) (todo' := plG) (l' := lA _ σ) (lr := lA _ σ) (sl' := slG 2 0) (B := allB []) FP_ok SP_ok _ _ hA (by kernel_rfl) (renA _ _) rfl rfl rfl rfl rfl rfl (pA _) (fun m hm => pA_live _ _ _ m hm) (pA_old hβ) (by rw [hβ]; kernel_rfl) (obsA _ _) (by kernel_rfl)
theorem pl_out2 (h : ¬ σ.o2 ≥ 0) : PlPc plG (slG 2 k) plK (slK 3) σ σ := fun hβ hA =>
  Asrt.evalR (mk := []) (n := 400) (m := 8) (orc := bits 3 0b110) (πl := id16) (nx' := 16) (far := far) (todo := plG) (todo' := plK) (l' := lA _ σ) (lr := lA _ σ) (sl' := slK 3) (B := allB [!(decide (σ.o2 ≥ 0))]) FP_ok SP_ok _ _ hA (by kernel_rfl) (renA _ _) (by simp only [allB_iff, List.forall_mem_cons, decide_eq_false h, Bool.not_false]; exact ⟨trivial, fun _ hb => by cases hb⟩) rfl rfl rfl rfl rfl (pA _) (fun m hm => pA_live _ _ _ m hm) (pA_old hβ) (by rw [hβ]; kernel_rfl) (obsA _ _) (by kernel_rfl)
end
/-- Behind the loops: all have ended. -/
def σE (n : Int) (j : MJ) (ws hd : List Int) (b0 b1 b2 : Int) (cl : List (List Int)) (ck : Int) : AS := ⟨n, j, ws, hd, b0, b1, b2, -1, -1, -1, cl, .idle, .idle, .idle, ck⟩
def slR1 : List (Option V) := [none, none, none, none, some (.bool true)] ++ List.replicate 75 none
def lE (zs : List Int) (σ : AS) : List (Option Ob) := (lA zs σ).take 10
theorem pl_end {β : Base} {kind : CallKind} {cs : List Frame} {J : Nat → V} {A : Cf} {zs : List Int} {n : Int} {j : MJ} {ws hd : List Int} {b0 b1 b2 : Int} {cl : List (List Int)} {ck : Int} (hβ : β.n0 = 8) (hA : Asrt β frPl (trO (slots J 0 (slK 3))) [] (hO (lA zs (σE n j ws hd b0 b1 b2 cl ck))) 16 far A) :
    ∃ J' b', Asrt β frPl (trO (slots J' 0 slR1)) [] (hO (lE zs (σE n j ws hd b0 b1 b2 cl ck))) 10 far b' ∧ Steps Go.Proofs.Tryz.prog (At frPl none kind cs A plK) (At frPl none kind cs b' [.code .ret]) :=
  Asrt.eval (n := 400) (m := 7) (orc := bits 21 0b011000001010000001010) (πl := [0, 1, 2, 3, 4, 5, 6, 7, 8, 9]) (nx' := 16) (far := far) (todo := plK) (todo' := [.code .ret]) (l := lA zs (σE n j ws hd b0 b1 b2 cl ck)) (l' := lE zs (σE n j ws hd b0 b1 b2 cl ck)) (sl' := slR1) (B := allB []) FP_ok SP_ok kind cs hA
    (by kernel_rfl) rfl rfl rfl rfl rfl rfl (fun m => Nat.blt m 10) (p_all rfl rfl) (fun m hm => by rw [hβ] at hm; exact Nat.blt_eq.mpr (by omega)) (by rw [hβ]; kernel_rfl) (by kernel_rfl) (by kernel_rfl)
end Go.Sx
