/- Order: an order of calls, if there is one. Printed by gen_O8.py. -/
import Derived.Test.YtgldnjmnoemccaaGreatSzO6
namespace Go.Sx
set_option maxRecDepth 100000
noncomputable def smsO (K : Nat) : List (Nat × SmF) := [(23, smLf), (24, smRd), (20, smMay), (22, smCan K)]
noncomputable def F5 : Env := envOf tabT tabF (smOf (smsO 100)) seT
theorem F5_ok : EnvOK Go.Proofs.Tryz.prog F5 := env_ok _
theorem S5_ok : SumOK Go.Proofs.Tryz.prog F5 := sumOK_of rfl ⟨smLf_sm, smRd_sm, smMay_sm, smCan_sm 100, trivial⟩
abbrev frOr : Frs := ⟨8, none, 66⟩
noncomputable def orBody : Code := bodyOf Go.Proofs.Tryz.f8
def st0 : Ob := .mem (.cells [.nils, .nils, .osl 2 1]) 57 none
def lOr0 (cl : List (List Int)) (F : List Int) : List (Option Ob) := [some (callsOb cl), some st0, some (rowI F)]
def lOr (cl : List (List Int)) (F R O : List Int) : List (Option Ob) := [some (callsOb cl), some st0, some (rowI F), some (rowI R), some (rowI O)]
def slOr (room : Int) (a b : V) : List (Option V) := [some (.int .i64 3), some (.int .i64 room), some (.osl 0 10), none, none, none, none, none, none, none, some (.ptr 1 0 0 0), some a, some b] ++ List.replicate 53 none
def slOrI (room : Int) (k : Int) : List (Option V) := [some (.int .i64 3), some (.int .i64 room), some (.osl 0 10), none, none, none, none, none, none, none, some (.ptr 1 0 0 0), some (.osl 3 1), some (.osl 4 1), some (.int .i64 k)] ++ List.replicate 52 none
def slOrE : List (Option V) := [none, none, none, none, none, none, some (.osl 1 1), some (.bool true), some (.int .i64 0)] ++ List.replicate 57 none
noncomputable def todoOr : List Item := ((ctlN F5 (exec F5 400) frOr 21 [.code orBody] (Tr.ofList [.int .i64 3, .int .i64 1, .osl 0 10]) [] ⟨trO [some (callsOb [])], 1, bits 13 0b1011111111010, [], []⟩).map (·.1)).getD []
noncomputable def todoOrI : List Item := ((ctlN F5 (exec F5 400) frOr 11 todoOr (trO (slots (fun _ => .nilp) 0 (slOr 1 (.osl 3 1) (.osl 4 1)))) [] ⟨trO (lOr [[]] [] [] []), 5, bits 2 3, [], []⟩).map (·.1)).getD []
/-- A pool's first state. -/
def firstP (n : Nat) : List Int := (List.range n).map fun (i : Nat) => (i : Int)
theorem orStart1 {β : Base} {kind : CallKind} {cs : List Frame} {a : Cf}  {cl : List (List Int)} (hβ : β.n0 = 1) (hA : Asrt β frOr (Tr.ofList [.int .i64 3, .int .i64 1, .osl 0 10]) [] (hO ([some (callsOb cl)])) 1 far a) (hB : allB [!!canP cl (List.length cl + 1 - 0) (part ([] ++ [0]) 0 1) (part [] 0 0) (part [] 0 0), propB (CanPre cl (part ([] ++ [0]) 0 1) (part [] 0 0) (part [] 0 0) ∧ List.length cl + 1 - 0 ≤ 100), decide ((1 : Int) ≤ 1 ∧ (1 : Int) ≤ 64 ∧ List.length cl ≤ 10 ∧ Ended cl ∧ Named cl)] = true) :
    ∃ J' b', Asrt β frOr (trO (slots J' 0 (slOr 1 .nils .nils))) [] (hO (lOr0 cl (firstP 1))) 3 far b' ∧ Steps Go.Proofs.Tryz.prog (At frOr none kind cs a ([.code orBody])) (At frOr none kind cs b' (todoOr)) :=
  Asrt.eval (n := 400) (m := 21) (orc := bits 13 0b1011111111010) (πl := [0, 5, 4]) (nx' := 8) (far := far) (todo := [.code orBody]) (todo' := todoOr) (l := [some (callsOb cl)]) (l' := lOr0 cl (firstP 1)) (sl' := slOr 1 .nils .nils) (B := allB [!!canP cl (List.length cl + 1 - 0) (part ([] ++ [0]) 0 1) (part [] 0 0) (part [] 0 0), propB (CanPre cl (part ([] ++ [0]) 0 1) (part [] 0 0) (part [] 0 0) ∧ List.length cl + 1 - 0 ≤ 100), decide ((1 : Int) ≤ 1 ∧ (1 : Int) ≤ 64 ∧ List.length cl ≤ 10 ∧ Ended cl ∧ Named cl)]) F5_ok S5_ok kind cs hA
    (by kernel_rfl) hB rfl rfl rfl rfl rfl (fun m => Nat.blt m 3) (p_all rfl rfl) (fun m hm => by rw [hβ] at hm; exact Nat.blt_eq.mpr (by omega)) (by rw [hβ]; kernel_rfl) (by kernel_rfl) (by kernel_rfl)
theorem orStart2 {β : Base} {kind : CallKind} {cs : List Frame} {a : Cf}  {cl : List (List Int)} (hβ : β.n0 = 1) (hA : Asrt β frOr (Tr.ofList [.int .i64 3, .int .i64 2, .osl 0 10]) [] (hO ([some (callsOb cl)])) 1 far a) (hB : allB [!!canP cl (List.length cl + 1 - 0) (part ([] ++ [0] ++ [1]) 0 2) (part [] 0 0) (part [] 0 0), propB (CanPre cl (part ([] ++ [0] ++ [1]) 0 2) (part [] 0 0) (part [] 0 0) ∧ List.length cl + 1 - 0 ≤ 100), decide ((1 : Int) ≤ 2 ∧ (2 : Int) ≤ 64 ∧ List.length cl ≤ 10 ∧ Ended cl ∧ Named cl)] = true) :
    ∃ J' b', Asrt β frOr (trO (slots J' 0 (slOr 2 .nils .nils))) [] (hO (lOr0 cl (firstP 2))) 3 far b' ∧ Steps Go.Proofs.Tryz.prog (At frOr none kind cs a ([.code orBody])) (At frOr none kind cs b' (todoOr)) :=
  Asrt.eval (n := 400) (m := 21) (orc := bits 18 0b101111111111111010) (πl := [0, 7, 6]) (nx' := 10) (far := far) (todo := [.code orBody]) (todo' := todoOr) (l := [some (callsOb cl)]) (l' := lOr0 cl (firstP 2)) (sl' := slOr 2 .nils .nils) (B := allB [!!canP cl (List.length cl + 1 - 0) (part ([] ++ [0] ++ [1]) 0 2) (part [] 0 0) (part [] 0 0), propB (CanPre cl (part ([] ++ [0] ++ [1]) 0 2) (part [] 0 0) (part [] 0 0) ∧ List.length cl + 1 - 0 ≤ 100), decide ((1 : Int) ≤ 2 ∧ (2 : Int) ≤ 64 ∧ List.length cl ≤ 10 ∧ Ended cl ∧ Named cl)]) F5_ok S5_ok kind cs hA
    (by kernel_rfl) hB rfl rfl rfl rfl rfl (fun m => Nat.blt m 3) (p_all rfl rfl) (fun m hm => by rw [hβ] at hm; exact Nat.blt_eq.mpr (by omega)) (by rw [hβ]; kernel_rfl) (by kernel_rfl) (by kernel_rfl)
theorem orStart3 {β : Base} {kind : CallKind} {cs : List Frame} {a : Cf}  {cl : List (List Int)} (hβ : β.n0 = 1) (hA : Asrt β frOr (Tr.ofList [.int .i64 3, .int .i64 3, .osl 0 10]) [] (hO ([some (callsOb cl)])) 1 far a) (hB : allB [!!canP cl (List.length cl + 1 - 0) (part ([] ++ [0] ++ [1] ++ [2]) 0 3) (part [] 0 0) (part [] 0 0), propB (CanPre cl (part ([] ++ [0] ++ [1] ++ [2]) 0 3) (part [] 0 0) (part [] 0 0) ∧ List.length cl + 1 - 0 ≤ 100), decide ((1 : Int) ≤ 3 ∧ (3 : Int) ≤ 64 ∧ List.length cl ≤ 10 ∧ Ended cl ∧ Named cl)] = true) :
    ∃ J' b', Asrt β frOr (trO (slots J' 0 (slOr 3 .nils .nils))) [] (hO (lOr0 cl (firstP 3))) 3 far b' ∧ Steps Go.Proofs.Tryz.prog (At frOr none kind cs a ([.code orBody])) (At frOr none kind cs b' (todoOr)) :=
  Asrt.eval (n := 400) (m := 21) (orc := bits 23 0b10111111111111111111010) (πl := [0, 9, 8]) (nx' := 12) (far := far) (todo := [.code orBody]) (todo' := todoOr) (l := [some (callsOb cl)]) (l' := lOr0 cl (firstP 3)) (sl' := slOr 3 .nils .nils) (B := allB [!!canP cl (List.length cl + 1 - 0) (part ([] ++ [0] ++ [1] ++ [2]) 0 3) (part [] 0 0) (part [] 0 0), propB (CanPre cl (part ([] ++ [0] ++ [1] ++ [2]) 0 3) (part [] 0 0) (part [] 0 0) ∧ List.length cl + 1 - 0 ≤ 100), decide ((1 : Int) ≤ 3 ∧ (3 : Int) ≤ 64 ∧ List.length cl ≤ 10 ∧ Ended cl ∧ Named cl)]) F5_ok S5_ok kind cs hA
    (by kernel_rfl) hB rfl rfl rfl rfl rfl (fun m => Nat.blt m 3) (p_all rfl rfl) (fun m hm => by rw [hβ] at hm; exact Nat.blt_eq.mpr (by omega)) (by rw [hβ]; kernel_rfl) (by kernel_rfl) (by kernel_rfl)
theorem orStart4 {β : Base} {kind : CallKind} {cs : List Frame} {a : Cf}  {cl : List (List Int)} (hβ : β.n0 = 1) (hA : Asrt β frOr (Tr.ofList [.int .i64 3, .int .i64 4, .osl 0 10]) [] (hO ([some (callsOb cl)])) 1 far a) (hB : allB [!!canP cl (List.length cl + 1 - 0) (part ([] ++ [0] ++ [1] ++ [2] ++ [3]) 0 4) (part [] 0 0) (part [] 0 0), propB (CanPre cl (part ([] ++ [0] ++ [1] ++ [2] ++ [3]) 0 4) (part [] 0 0) (part [] 0 0) ∧ List.length cl + 1 - 0 ≤ 100), decide ((1 : Int) ≤ 4 ∧ (4 : Int) ≤ 64 ∧ List.length cl ≤ 10 ∧ Ended cl ∧ Named cl)] = true) :
    ∃ J' b', Asrt β frOr (trO (slots J' 0 (slOr 4 .nils .nils))) [] (hO (lOr0 cl (firstP 4))) 3 far b' ∧ Steps Go.Proofs.Tryz.prog (At frOr none kind cs a ([.code orBody])) (At frOr none kind cs b' (todoOr)) :=
  Asrt.eval (n := 400) (m := 21) (orc := bits 28 0b1011111111111111111111111010) (πl := [0, 11, 10]) (nx' := 14) (far := far) (todo := [.code orBody]) (todo' := todoOr) (l := [some (callsOb cl)]) (l' := lOr0 cl (firstP 4)) (sl' := slOr 4 .nils .nils) (B := allB [!!canP cl (List.length cl + 1 - 0) (part ([] ++ [0] ++ [1] ++ [2] ++ [3]) 0 4) (part [] 0 0) (part [] 0 0), propB (CanPre cl (part ([] ++ [0] ++ [1] ++ [2] ++ [3]) 0 4) (part [] 0 0) (part [] 0 0) ∧ List.length cl + 1 - 0 ≤ 100), decide ((1 : Int) ≤ 4 ∧ (4 : Int) ≤ 64 ∧ List.length cl ≤ 10 ∧ Ended cl ∧ Named cl)]) F5_ok S5_ok kind cs hA
    (by kernel_rfl) hB rfl rfl rfl rfl rfl (fun m => Nat.blt m 3) (p_all rfl rfl) (fun m hm => by rw [hβ] at hm; exact Nat.blt_eq.mpr (by omega)) (by rw [hβ]; kernel_rfl) (by kernel_rfl) (by kernel_rfl)
theorem orIn {β : Base} {kind : CallKind} {cs : List Frame} {J : Nat → V} {a : Cf}  {cl : List (List Int)} {F R O : List Int} {room : Int} (hβ : β.n0 = 1) (hA : Asrt β frOr (trO (slots J 0 (slOr room (.osl 3 1) (.osl 4 1)))) [] (hO (lOr cl F R O)) 5 far a) (hB : allB [leftP (List.length cl) (part R 0 (List.length R)), decide (List.length R ≤ 1048576 ∧ List.length cl ≤ 1048576 ∧ Ended cl)] = true) :
    ∃ J' b', Asrt β frOr (trO (slots J' 0 (slOrI room 0))) [] (hO (lOr cl F R O)) 5 far b' ∧ Steps Go.Proofs.Tryz.prog (At frOr none kind cs a (todoOr)) (At frOr none kind cs b' (todoOrI)) :=
  Asrt.eval (n := 400) (m := 11) (orc := bits 2 0b11) (πl := [0, 1, 2, 3, 4]) (nx' := 5) (far := far) (todo := todoOr) (todo' := todoOrI) (l := lOr cl F R O) (l' := lOr cl F R O) (sl' := slOrI room 0) (B := allB [leftP (List.length cl) (part R 0 (List.length R)), decide (List.length R ≤ 1048576 ∧ List.length cl ≤ 1048576 ∧ Ended cl)]) F5_ok S5_ok kind cs hA
    (by kernel_rfl) hB rfl rfl rfl rfl rfl (fun m => Nat.blt m 5) (p_all rfl rfl) (fun m hm => by rw [hβ] at hm; exact Nat.blt_eq.mpr (by omega)) (by rw [hβ]; kernel_rfl) (by kernel_rfl) (by kernel_rfl)
theorem orExit {β : Base} {kind : CallKind} {cs : List Frame} {J : Nat → V} {a : Cf}  {cl : List (List Int)} {F R O : List Int} {room : Int} (hβ : β.n0 = 1) (hA : Asrt β frOr (trO (slots J 0 (slOr room (.osl 3 1) (.osl 4 1)))) [] (hO (lOr cl F R O)) 5 far a) (hB : allB [!leftP (List.length cl) (part R 0 (List.length R)), decide (List.length R ≤ 1048576 ∧ List.length cl ≤ 1048576 ∧ Ended cl)] = true) :
    ∃ J' b', Asrt β frOr (trO (slots J' 0 (slOrE))) [] (hO ([some (callsOb cl), some (rowI O)])) 2 far b' ∧ Steps Go.Proofs.Tryz.prog (At frOr none kind cs a (todoOr)) (At frOr none kind cs b' ([.code .ret])) :=
  Asrt.eval (n := 400) (m := 7) (orc := bits 2 0b10) (πl := [0, 4]) (nx' := 5) (far := far) (todo := todoOr) (todo' := [.code .ret]) (l := lOr cl F R O) (l' := [some (callsOb cl), some (rowI O)]) (sl' := slOrE) (B := allB [!leftP (List.length cl) (part R 0 (List.length R)), decide (List.length R ≤ 1048576 ∧ List.length cl ≤ 1048576 ∧ Ended cl)]) F5_ok S5_ok kind cs hA
    (by kernel_rfl) hB rfl rfl rfl rfl rfl (fun m => Nat.blt m 2) (p_all rfl rfl) (fun m hm => by rw [hβ] at hm; exact Nat.blt_eq.mpr (by omega)) (by rw [hβ]; kernel_rfl) (by kernel_rfl) (by kernel_rfl)
theorem orNot {β : Base} {kind : CallKind} {cs : List Frame} {J : Nat → V} {a : Cf}  {cl : List (List Int)} {F R O : List Int} {room k : Int} (hβ : β.n0 = 1) (hA : Asrt β frOr (trO (slots J 0 (slOrI room k))) [] (hO (lOr cl F R O)) 5 far a) (hB : allB [!readyP cl (part R 0 (List.length R)) (Int.toNat k), decide (List.length R ≤ 1048576 ∧ List.length cl ≤ 1048576 ∧ Ended cl ∧ 0 ≤ k ∧ k < ((List.length cl : Nat) : Int))] = true) :
    ∃ J' b', Asrt β frOr (trO (slots J' 0 (slOrI room (IntKind.i64.wrap (k + 1))))) [] (hO (lOr cl F R O)) 5 far b' ∧ Steps Go.Proofs.Tryz.prog (At frOr none kind cs a (todoOrI)) (At frOr none kind cs b' (todoOrI)) :=
  Asrt.eval (n := 400) (m := 9) (orc := bits 14 0b11111111111111) (πl := [0, 1, 2, 3, 4]) (nx' := 5) (far := far) (todo := todoOrI) (todo' := todoOrI) (l := lOr cl F R O) (l' := lOr cl F R O) (sl' := slOrI room (IntKind.i64.wrap (k + 1))) (B := allB [!readyP cl (part R 0 (List.length R)) (Int.toNat k), decide (List.length R ≤ 1048576 ∧ List.length cl ≤ 1048576 ∧ Ended cl ∧ 0 ≤ k ∧ k < ((List.length cl : Nat) : Int))]) F5_ok S5_ok kind cs hA
    (by kernel_rfl) hB rfl rfl rfl rfl rfl (fun m => Nat.blt m 5) (p_all rfl rfl) (fun m hm => by rw [hβ] at hm; exact Nat.blt_eq.mpr (by omega)) (by rw [hβ]; kernel_rfl) (by kernel_rfl) (by kernel_rfl)
theorem orCant {β : Base} {kind : CallKind} {cs : List Frame} {J : Nat → V} {a : Cf}  {cl : List (List Int)} {F R O : List Int} {room k : Int} (hβ : β.n0 = 1) (hA : Asrt β frOr (trO (slots J 0 (slOrI room k))) [] (hO (lOr cl F R O)) 5 far a) (hB : allB [!canP cl (List.length cl + 1 - 0) (part F 0 (List.length F)) (part [] 0 0) (part ([] ++ R ++ [k]) 0 (List.length ([] ++ R ++ [k]))), propB (CanPre cl (part F 0 (List.length F)) (part [] 0 0) (part ([] ++ R ++ [k]) 0 (List.length ([] ++ R ++ [k]))) ∧ List.length cl + 1 - 0 ≤ 100), decide (List.length ([] ++ R) + 1 ≤ 1048576), decide (0 + List.length R ≤ 1048576), !!readyP cl (part R 0 (List.length R)) (Int.toNat k), decide (List.length R ≤ 1048576 ∧ List.length cl ≤ 1048576 ∧ Ended cl ∧ 0 ≤ k ∧ k < ((List.length cl : Nat) : Int))] = true) :
    ∃ J' b', Asrt β frOr (trO (slots J' 0 (slOrI room (IntKind.i64.wrap (k + 1))))) [] (hO (lOr cl F R O)) 5 far b' ∧ Steps Go.Proofs.Tryz.prog (At frOr none kind cs a (todoOrI)) (At frOr none kind cs b' (todoOrI)) :=
  Asrt.eval (n := 400) (m := 9) (orc := bits 16 0b1000000100010101) (πl := [0, 1, 2, 3, 4]) (nx' := 10) (far := far) (todo := todoOrI) (todo' := todoOrI) (l := lOr cl F R O) (l' := lOr cl F R O) (sl' := slOrI room (IntKind.i64.wrap (k + 1))) (B := allB [!canP cl (List.length cl + 1 - 0) (part F 0 (List.length F)) (part [] 0 0) (part ([] ++ R ++ [k]) 0 (List.length ([] ++ R ++ [k]))), propB (CanPre cl (part F 0 (List.length F)) (part [] 0 0) (part ([] ++ R ++ [k]) 0 (List.length ([] ++ R ++ [k]))) ∧ List.length cl + 1 - 0 ≤ 100), decide (List.length ([] ++ R) + 1 ≤ 1048576), decide (0 + List.length R ≤ 1048576), !!readyP cl (part R 0 (List.length R)) (Int.toNat k), decide (List.length R ≤ 1048576 ∧ List.length cl ≤ 1048576 ∧ Ended cl ∧ 0 ≤ k ∧ k < ((List.length cl : Nat) : Int))]) F5_ok S5_ok kind cs hA
    (by kernel_rfl) hB rfl rfl rfl rfl rfl (fun m => Nat.blt m 5) (p_all rfl rfl) (fun m hm => by rw [hβ] at hm; exact Nat.blt_eq.mpr (by omega)) (by rw [hβ]; kernel_rfl) (by kernel_rfl) (by kernel_rfl)
theorem orDo {β : Base} {kind : CallKind} {cs : List Frame} {J : Nat → V} {a : Cf}  {cl : List (List Int)} {F R O : List Int} {room k : Int} (hβ : β.n0 = 1) (hA : Asrt β frOr (trO (slots J 0 (slOrI room k))) [] (hO (lOr cl F R O)) 5 far a) (hB : allB [decide (List.length O + 1 ≤ 1048576), decide (Int.toNat k < List.length cl), decide (0 ≤ k ∧ k < ((List.length cl : Nat) : Int)), decide (List.length R + 1 ≤ 1048576), !!canP cl (List.length cl + 1 - 0) (part F 0 (List.length F)) (part [] 0 0) (part ([] ++ R ++ [k]) 0 (List.length ([] ++ R ++ [k]))), propB (CanPre cl (part F 0 (List.length F)) (part [] 0 0) (part ([] ++ R ++ [k]) 0 (List.length ([] ++ R ++ [k]))) ∧ List.length cl + 1 - 0 ≤ 100), decide (List.length ([] ++ R) + 1 ≤ 1048576), decide (0 + List.length R ≤ 1048576), !!readyP cl (part R 0 (List.length R)) (Int.toNat k), decide (List.length R ≤ 1048576 ∧ List.length cl ≤ 1048576 ∧ Ended cl ∧ 0 ≤ k ∧ k < ((List.length cl : Nat) : Int))] = true) :
    ∃ J' b', Asrt β frOr (trO (slots J' 0 (slOr room (.osl 3 1) (.osl 4 1)))) [] (hO (lOr cl F (R ++ [k]) (O ++ [(cl.getD k.toNat []).getD 0 0]))) 5 far b' ∧ Steps Go.Proofs.Tryz.prog (At frOr none kind cs a (todoOrI)) (At frOr none kind cs b' (todoOr)) :=
  Asrt.eval (n := 400) (m := 10) (orc := bits 20 0b10000001000101001111) (πl := [0, 1, 2, 11, 13]) (nx' := 14) (far := far) (todo := todoOrI) (todo' := todoOr) (l := lOr cl F R O) (l' := lOr cl F (R ++ [k]) (O ++ [(cl.getD k.toNat []).getD 0 0])) (sl' := slOr room (.osl 3 1) (.osl 4 1)) (B := allB [decide (List.length O + 1 ≤ 1048576), decide (Int.toNat k < List.length cl), decide (0 ≤ k ∧ k < ((List.length cl : Nat) : Int)), decide (List.length R + 1 ≤ 1048576), !!canP cl (List.length cl + 1 - 0) (part F 0 (List.length F)) (part [] 0 0) (part ([] ++ R ++ [k]) 0 (List.length ([] ++ R ++ [k]))), propB (CanPre cl (part F 0 (List.length F)) (part [] 0 0) (part ([] ++ R ++ [k]) 0 (List.length ([] ++ R ++ [k]))) ∧ List.length cl + 1 - 0 ≤ 100), decide (List.length ([] ++ R) + 1 ≤ 1048576), decide (0 + List.length R ≤ 1048576), !!readyP cl (part R 0 (List.length R)) (Int.toNat k), decide (List.length R ≤ 1048576 ∧ List.length cl ≤ 1048576 ∧ Ended cl ∧ 0 ≤ k ∧ k < ((List.length cl : Nat) : Int))]) F5_ok S5_ok kind cs hA
    (by kernel_rfl) hB rfl rfl rfl rfl rfl (fun m => Nat.blt m 5) (p_all rfl rfl) (fun m hm => by rw [hβ] at hm; exact Nat.blt_eq.mpr (by omega)) (by rw [hβ]; kernel_rfl) (by kernel_rfl) (by kernel_rfl)

/-- Behind calls that come to an end there is a next one. -/
theorem ord_next {cl : List (List Int)} : ∀ (R : List Int) (f : Nat) (F D : List Int), canP cl f F D R = true → leftP cl.length (D ++ R) = true → ∃ k, k < cl.length ∧ readyP cl (D ++ R) k = true ∧ canP cl f F D (R ++ [(k : Int)]) = true := by
  intro R
  induction R with
  | nil =>
    intro f F D h hl
    cases f with
    | zero => cases h
    | succ f =>
      rw [canP_succ] at h
      simp only [List.append_nil] at hl ⊢
      simp only [List.length_nil, decide_true, cond_true, hl, Bool.not_true, cond_false, List.any_eq_true, List.mem_range] at h
      obtain ⟨i, hi, hs⟩ := h
      unfold cnStep at hs
      simp only [List.length_nil, decide_true, cond_true] at hs
      cases hr : readyP cl D i with
      | false => rw [hr] at hs; cases hs
      | true =>
        cases hq : cnIs cl F i with
        | false => rw [hr, hq] at hs; cases hs
        | true =>
          rw [hr, hq] at hs
          simp only [cond_true, List.drop_nil] at hs
          refine ⟨i, hi, hr, ?_⟩
          rw [canP_succ]
          simp only [List.nil_append, List.length_singleton, Nat.one_ne_zero, decide_false, cond_false, List.any_eq_true, List.mem_range]
          refine ⟨i, hi, ?_⟩
          unfold cnStep
          simp [hr, hq, hs]
  | cons r R ih =>
    intro f F D h hl
    cases f with
    | zero => cases h
    | succ f =>
      rw [canP_succ] at h
      simp only [List.length_cons, Nat.succ_ne_zero, decide_false, cond_false, List.any_eq_true, List.mem_range] at h
      obtain ⟨i, hi, hs⟩ := h
      unfold cnStep at hs
      simp only [List.length_cons, Nat.succ_ne_zero, decide_false, cond_false, List.getD_cons_zero] at hs
      cases he : decide ((i : Int) = r) with
      | false => rw [he] at hs; cases hs
      | true =>
        cases hr : readyP cl D i with
        | false => rw [he, hr] at hs; cases hs
        | true =>
          cases hq : cnIs cl F i with
          | false => rw [he, hr, hq] at hs; cases hs
          | true =>
            rw [he, hr, hq] at hs
            simp only [cond_true, List.drop_one, List.tail_cons] at hs
            have hir : (i : Int) = r := of_decide_eq_true he
            have happ : D ++ [(i : Int)] ++ R = D ++ r :: R := by rw [hir]; simp
            obtain ⟨k, h1, h2, h3⟩ := ih f _ (D ++ [(i : Int)]) hs (by rw [happ]; exact hl)
            rw [happ] at h2
            refine ⟨k, h1, h2, ?_⟩
            rw [canP_succ]
            simp only [List.cons_append, List.length_cons, Nat.succ_ne_zero, decide_false, cond_false, List.any_eq_true, List.mem_range]
            refine ⟨i, hi, ?_⟩
            unfold cnStep
            simp only [List.length_cons, Nat.succ_ne_zero, decide_false, cond_false, List.getD_cons_zero, he, hr, hq, cond_true, List.drop_one, List.tail_cons, h3]

/-- What is asked of a call of Order. -/
structure OrdPre (cl : List (List Int)) (n : Nat) : Prop where
  ended : Ended cl
  many : cl.length ≤ 10
  room1 : 1 ≤ n
  room2 : n ≤ 4
  kinds : ∀ i, i < cl.length → (cl.getD i []).getD 3 0 = 7 ∨ (cl.getD i []).getD 3 0 = 8
  named : Named cl
  can : canP cl (cl.length + 1) (firstP n) [] [] = true
theorem firstP_pool {n : Nat} (h : n ≤ 4) : Pool (firstP n) := by
  constructor
  · unfold firstP
    rw [List.pairwise_map]
    exact List.Pairwise.imp (fun h => by omega) List.pairwise_lt_range
  · intro x hx
    obtain ⟨q, hq, rfl⟩ := List.mem_map.1 hx
    have := List.mem_range.1 hq
    omega
theorem firstP_len {n : Nat} : (firstP n).length = n := by simp [firstP]
theorem OrdPre.pre {cl : List (List Int)} {n : Nat} (h : OrdPre cl n) {N : List Int} (hN : N.length ≤ 64) : CanPre cl (firstP n) [] N :=
  ⟨h.ended, by have := h.many; omega, h.kinds, firstP_pool h.room2, by have := h.room2; rw [firstP_len]; omega, List.nodup_nil, fun x hx => (by cases hx), hN⟩

section
variable {β : Base} {kind : CallKind} {cs : List Frame} {J : Nat → V} {a : Cf} {cl : List (List Int)} {R O : List Int} {n : Nat} {room : Int}

/-- The next call is looked for. -/
theorem orLoopI (hβ : β.n0 = 1) (hp : OrdPre cl n) (hR : R.length ≤ 10) (hOl : O.length ≤ 10) {k0 : Nat} (hk0 : k0 < cl.length) (hr0 : readyP cl R k0 = true) (hc0 : canP cl (cl.length + 1) (firstP n) [] (R ++ [(k0 : Int)]) = true) :
    ∀ (d : Nat) (J : Nat → V) (a : Cf) (k : Nat), k0 = k + d → Asrt β frOr (trO (slots J 0 (slOrI room (k : Int)))) [] (hO (lOr cl (firstP n) R O)) 5 far a →
      ∃ J' b' q, q < cl.length ∧ readyP cl R q = true ∧ canP cl (cl.length + 1) (firstP n) [] (R ++ [(q : Int)]) = true ∧ Asrt β frOr (trO (slots J' 0 (slOr room (.osl 3 1) (.osl 4 1)))) [] (hO (lOr cl (firstP n) (R ++ [(q : Int)]) (O ++ [(cl.getD q []).getD 0 0]))) 5 far b' ∧
        Steps Go.Proofs.Tryz.prog (At frOr none kind cs a todoOrI) (At frOr none kind cs b' todoOr) := by
  have hm := hp.many
  have hE := hp.ended
  have w0 : part ([] : List Int) 0 0 = [] := rfl
  intro d
  induction d with
  | zero =>
    intro J a k hd hA
    have : k0 = k := by omega
    subst this
    have hpre : CanPre cl (part (firstP n) 0 (firstP n).length) (part [] 0 0) (part (([] ++ R : List Int) ++ [(k0 : Int)]) 0 (([] ++ R : List Int) ++ [(k0 : Int)]).length) := by
      rw [part_whole, part_whole, w0]
      exact hp.pre (by simp; omega)
    obtain ⟨J', b', h1, h2⟩ := orDo (kind := kind) (cs := cs) hβ hA (by
      simp only [allB_iff, List.forall_mem_cons, Int.toNat_natCast, part_whole, w0, Nat.sub_zero, List.nil_append, hr0, hc0, propB_iff, List.length_nil, List.length_singleton, decide_eq_true_eq, Bool.not_false, Bool.not_true]
      rw [part_whole, part_whole, w0] at hpre
      and_intros <;> first | trivial | exact hpre | assumption | omega | (intro _ hb; cases hb))
    exact ⟨J', b', k0, hk0, hr0, hc0, by simpa using h1, h2⟩
  | succ d ih =>
    intro J a k hd hA
    have hk : k < cl.length := by omega
    have next : ∀ (J1 : Nat → V) (b1 : Cf), Asrt β frOr (trO (slots J1 0 (slOrI room (IntKind.i64.wrap ((k : Int) + 1))))) [] (hO (lOr cl (firstP n) R O)) 5 far b1 → Steps Go.Proofs.Tryz.prog (At frOr none kind cs a todoOrI) (At frOr none kind cs b1 todoOrI) →
        ∃ J' b' q, q < cl.length ∧ readyP cl R q = true ∧ canP cl (cl.length + 1) (firstP n) [] (R ++ [(q : Int)]) = true ∧ Asrt β frOr (trO (slots J' 0 (slOr room (.osl 3 1) (.osl 4 1)))) [] (hO (lOr cl (firstP n) (R ++ [(q : Int)]) (O ++ [(cl.getD q []).getD 0 0]))) 5 far b' ∧
          Steps Go.Proofs.Tryz.prog (At frOr none kind cs a todoOrI) (At frOr none kind cs b' todoOr) := by
      intro J1 b1 h1 h2
      rw [wrap_i64 (by omega) (by omega)] at h1
      obtain ⟨J2, b2, q, g1, g2, g3, g4, g5⟩ := ih J1 b1 (k + 1) (by omega) (by exact_mod_cast h1)
      exact ⟨J2, b2, q, g1, g2, g3, g4, h2.trans g5⟩
    cases hr : readyP cl R k with
    | false =>
      obtain ⟨J1, b1, h1, h2⟩ := orNot (kind := kind) (cs := cs) hβ hA (by
        simp only [allB_iff, List.forall_mem_cons, Int.toNat_natCast, part_whole, hr, decide_eq_true_eq, Bool.not_false]
        and_intros <;> first | trivial | assumption | omega | (intro _ hb; cases hb))
      exact next J1 b1 h1 h2
    | true =>
      have hpre : CanPre cl (part (firstP n) 0 (firstP n).length) (part [] 0 0) (R ++ [(k : Int)]) := by
        rw [part_whole, w0]
        exact hp.pre (by simp; omega)
      rw [part_whole, w0] at hpre
      cases hc : canP cl (cl.length + 1) (firstP n) [] (R ++ [(k : Int)]) with
      | false =>
        obtain ⟨J1, b1, h1, h2⟩ := orCant (kind := kind) (cs := cs) hβ hA (by
          simp only [allB_iff, List.forall_mem_cons, Int.toNat_natCast, part_whole, w0, Nat.sub_zero, List.nil_append, hr, hc, propB_iff, List.length_nil, List.length_singleton, decide_eq_true_eq, Bool.not_false, Bool.not_true]
          and_intros <;> first | trivial | exact hpre | assumption | omega | (intro _ hb; cases hb))
        exact next J1 b1 h1 h2
      | true =>
        obtain ⟨J', b', h1, h2⟩ := orDo (kind := kind) (cs := cs) hβ hA (by
          simp only [allB_iff, List.forall_mem_cons, Int.toNat_natCast, part_whole, w0, Nat.sub_zero, List.nil_append, hr, hc, propB_iff, List.length_nil, List.length_singleton, decide_eq_true_eq, Bool.not_false, Bool.not_true]
          and_intros <;> first | trivial | exact hpre | assumption | omega | (intro _ hb; cases hb))
        exact ⟨J', b', k, hk, hr, hc, by simpa using h1, h2⟩

/-- Place by place. -/
theorem orLoop (hβ : β.n0 = 1) (hp : OrdPre cl n) : ∀ (d : Nat) (J : Nat → V) (a : Cf) (R O : List Int), cl.length + 1 = R.length + d → O.length = R.length → R.Nodup → (∀ x ∈ R, 0 ≤ x ∧ x < (cl.length : Int)) → canP cl (cl.length + 1) (firstP n) [] R = true →
    Asrt β frOr (trO (slots J 0 (slOr room (.osl 3 1) (.osl 4 1)))) [] (hO (lOr cl (firstP n) R O)) 5 far a →
    ∃ J' b' O', Asrt β frOr (trO (slots J' 0 slOrE)) [] (hO [some (callsOb cl), some (rowI O')]) 2 far b' ∧ Steps Go.Proofs.Tryz.prog (At frOr none kind cs a todoOr) (At frOr none kind cs b' [.code .ret]) := by
  have hm := hp.many
  have hE := hp.ended
  intro d
  induction d with
  | zero =>
    intro J a R O hd hOR hnd hrg hc hA
    have := nodup_int hnd hrg
    omega
  | succ d ih =>
    intro J a R O hd hOR hnd hrg hc hA
    have hl := nodup_int hnd hrg
    cases hlf : leftP cl.length R with
    | false =>
      obtain ⟨J', b', h1, h2⟩ := orExit (kind := kind) (cs := cs) hβ hA (by
        simp only [allB_iff, List.forall_mem_cons, part_whole, hlf, decide_eq_true_eq, Bool.not_false]
        and_intros <;> first | trivial | assumption | omega | (intro _ hb; cases hb))
      exact ⟨J', b', O, h1, h2⟩
    | true =>
      obtain ⟨k0, g1, g2, g3⟩ := ord_next R (cl.length + 1) (firstP n) [] hc (by simpa using hlf)
      simp only [List.nil_append] at g2
      obtain ⟨J1, b1, h1, h2⟩ := orIn (kind := kind) (cs := cs) hβ hA (by
        simp only [allB_iff, List.forall_mem_cons, part_whole, hlf, decide_eq_true_eq]
        and_intros <;> first | trivial | assumption | omega | (intro _ hb; cases hb))
      obtain ⟨J2, b2, q, q1, q2, q3, h3, h4⟩ := orLoopI (kind := kind) (cs := cs) hβ hp (by omega) (by omega) g1 g2 g3 k0 J1 b1 0 (by omega) h1
      obtain ⟨J3, b3, O', h5, h6⟩ := ih J2 b2 (R ++ [(q : Int)]) (O ++ [(cl.getD q []).getD 0 0]) (by simp; omega) (by simp [hOR]) (by
        rw [List.nodup_append]
        refine ⟨hnd, by simp, fun x hx y hy e => ?_⟩
        simp at hy
        subst hy; subst e
        exact readyP_notin q2 hx) (fun x hx => by
        rcases List.mem_append.1 hx with hx | hx
        · exact hrg x hx
        · simp at hx; subst hx; exact ⟨by omega, by omega⟩) q3 h3
      exact ⟨J3, b3, O', h5, (h2.trans h4).trans h6⟩

theorem orGo (hβ : β.n0 = 1) (hp : OrdPre cl n) {J : Nat → V} {a0 a1 : Cf} (h1 : Asrt β frOr (trO (slots J 0 (slOr room .nils .nils))) [] (hO (lOr0 cl (firstP n))) 3 far a1) (h2 : Steps Go.Proofs.Tryz.prog (At frOr none kind cs a0 [.code orBody]) (At frOr none kind cs a1 todoOr)) :
    ∃ (b : Cf) (T' : Tr V) (nx' hi' : Nat) (todo : List Item), Asrt β frOr T' [] (hO (lMy cl)) nx' hi' b ∧ (T'.get 6).getD undefV = .osl 1 1 ∧ (T'.get 7).getD undefV = .bool true ∧ (T'.get 8).getD undefV = .int .i64 0 ∧ Steps Go.Proofs.Tryz.prog (At frOr none kind cs a0 [.code orBody]) (At frOr none kind cs b todo) ∧ (todo = [] ∨ ∃ k, todo = .code .ret :: k) := by
  have hs := hO_snoc (l := lOr0 cl (firstP n)) (o := rowI [])
  have h3 := h1.ghost (T' := trO (slots J 0 (slOr room (.osl 3 1) .nils))) (b := .words .i64 []) (es := 1) (t := 3) (by decide) (by rw [hβ]; exact Nat.le_of_ble_eq_true rfl) rfl rfl hs.1 (fun m hm => .inl (hs.2 m hm)) (ghost_slots (k := 11) (sl := slOr room .nils .nils) rfl (Nat.blt_eq.mp (by kernel_rfl)))
  have hs2 := hO_snoc (l := lOr0 cl (firstP n) ++ [some (rowI [])]) (o := rowI [])
  have h4 := h3.ghost (T' := trO (slots J 0 (slOr room (.osl 3 1) (.osl 4 1)))) (b := .words .i64 []) (es := 1) (t := 3) (by decide) (by rw [hβ]; exact Nat.le_of_ble_eq_true rfl) rfl rfl hs2.1 (fun m hm => .inl (hs2.2 m hm)) (ghost_slots (k := 12) (sl := slOr room (.osl 3 1) .nils) rfl (Nat.blt_eq.mp (by kernel_rfl)))
  obtain ⟨J2, b2, O', h5, h6⟩ := orLoop (kind := kind) (cs := cs) hβ hp (cl.length + 1) J a1 [] [] (by simp) rfl List.nodup_nil (fun x hx => by cases hx) hp.can h4
  exact ⟨b2, _, 2, far, _, h5.less (fun m o ho => by
    match m, ho with
    | 0, ho => exact ho), rfl, rfl, rfl, h2.trans h6, .inr ⟨[], rfl⟩⟩
theorem order_call (hp : OrdPre cl n) : CallH Go.Proofs.Tryz.prog 8 [.int .i64 3, .int .i64 (n : Int), .osl 0 10] 1 (hO (lMy cl)) (.tup [.osl 1 1, .bool true, .int .i64 0]) 2 (hO (lMy cl)) := by
  have hm := hp.many
  have hc := hp.can
  have h1 := hp.room1
  have h2 := hp.room2
  have hE := hp.ended
  have hN := hp.named
  have w0 : part ([] : List Int) 0 0 = [] := rfl
  have hpre := hp.pre (N := []) (by simp)
  refine callH_of3 (c := orBody) (t1 := 6) (t2 := 7) (t3 := 8) (hi := far) Go.Proofs.Tryz.func8 (by kernel_rfl) (Nat.blt_eq.mp (by kernel_rfl)) (by kernel_rfl) (Nat.ble_eq.mp (by kernel_rfl)) (fun m o ho => ?_) (fun m o ho hr => ?_) rfl ?_
  · have := obsOK_ok (p := fun m => Nat.blt m 2) (lMy cl) 0 (by kernel_rfl) m o ho
    rw [blt_fun] at this
    exact ⟨by simpa using this.2.1, this.2.2⟩
  · rw [noRo_ok (lMy cl) (by kernel_rfl) m o ho] at hr; cases hr
  · intro L w kind cs a hA
    have hcase : n = 1 ∨ n = 2 ∨ n = 3 ∨ n = 4 := by omega
    rcases hcase with rfl | rfl | rfl | rfl
    · have w1 : part ([] ++ [0]) 0 1 = firstP 1 := rfl
      obtain ⟨J1, b1, g1, g2⟩ := orStart1 (kind := kind) (cs := cs) rfl hA (by
        simp only [allB_iff, List.forall_mem_cons, w0, w1, Nat.sub_zero, hc, propB_iff, decide_eq_true_eq, Bool.not_false, Bool.not_true]
        and_intros <;> first | trivial | exact hpre | assumption | omega | (intro _ hb; cases hb))
      exact orGo rfl hp g1 g2
    · have w1 : part ([] ++ [0] ++ [1]) 0 2 = firstP 2 := rfl
      obtain ⟨J1, b1, g1, g2⟩ := orStart2 (kind := kind) (cs := cs) rfl hA (by
        simp only [allB_iff, List.forall_mem_cons, w0, w1, Nat.sub_zero, hc, propB_iff, decide_eq_true_eq, Bool.not_false, Bool.not_true]
        and_intros <;> first | trivial | exact hpre | assumption | omega | (intro _ hb; cases hb))
      exact orGo rfl hp g1 g2
    · have w1 : part ([] ++ [0] ++ [1] ++ [2]) 0 3 = firstP 3 := rfl
      obtain ⟨J1, b1, g1, g2⟩ := orStart3 (kind := kind) (cs := cs) rfl hA (by
        simp only [allB_iff, List.forall_mem_cons, w0, w1, Nat.sub_zero, hc, propB_iff, decide_eq_true_eq, Bool.not_false, Bool.not_true]
        and_intros <;> first | trivial | exact hpre | assumption | omega | (intro _ hb; cases hb))
      exact orGo rfl hp g1 g2
    · have w1 : part ([] ++ [0] ++ [1] ++ [2] ++ [3]) 0 4 = firstP 4 := rfl
      obtain ⟨J1, b1, g1, g2⟩ := orStart4 (kind := kind) (cs := cs) rfl hA (by
        simp only [allB_iff, List.forall_mem_cons, w0, w1, Nat.sub_zero, hc, propB_iff, decide_eq_true_eq, Bool.not_false, Bool.not_true]
        and_intros <;> first | trivial | exact hpre | assumption | omega | (intro _ hb; cases hb))
      exact orGo rfl hp g1 g2
end

noncomputable def smOrd (args : List V) (s : St) : Option (V × St) :=
  match args with
  | [.int .i64 md, .int .i64 room, .osl c es] => (rowsOfN s c es).bind fun cl => (chk (decide (md = 3))).bind fun _ => (need (propB (0 ≤ room ∧ OrdPre cl room.toNat)) s).bind fun s1 => (s1.skip).bind fun r => match r with
    | (m, s2) => some (.tup [.osl m 1, .bool true, .int .i64 0], s2)
  | _ => none
theorem smOrd_sm : SmOK Go.Proofs.Tryz.prog 8 smOrd := by
  refine ⟨fun args s v s' h ho => ?_, Go.Proofs.Tryz.call8⟩
  unfold smOrd at h
  split at h
  · rename_i md room c es
    obtain ⟨cl, h1, h2⟩ := bind_some' h
    obtain ⟨_, h3, h4⟩ := bind_some' h2
    obtain ⟨s1, h5, h6⟩ := bind_some' h4
    obtain ⟨⟨m, s2⟩, h7, h8⟩ := bind_some' h6
    cases h8
    have hmd : md = 3 := of_decide_eq_true (chk_some h3)
    subst hmd
    obtain ⟨hg, rfl⟩ := rowsOfN_ok h1
    obtain ⟨n1, n2, n3, n4, n5⟩ := skip_ok h7
    have ho1 : Obl s1 := by unfold Obl at ho ⊢; rw [n4] at ho; exact ho
    obtain ⟨hd, hq⟩ := need_ok h5 ho1
    obtain ⟨hr, hp⟩ := propB_iff.1 hd
    have hcall := order_call hp
    rw [Int.toNat_of_nonneg hr] at hcall
    refine ⟨(Lg.of_same hq.1).trans (.skip h7), hq.2, ?_⟩
    have := embedSkip (l := lMy cl) (ac := [.int .i64 3, .int .i64 room, .osl 0 10]) (vc := .tup [.osl 1 1, .bool true, .int .i64 0]) (s := s1) (v := .tup [.osl m 1, .bool true, .int .i64 0]) (args := [.int .i64 3, .int .i64 room, .osl c 10]) hcall (fun m hm => allSome_ok rfl m hm) (by kernel_rfl) (by kernel_rfl) [c] rfl (fun q o ho => by
      match q, ho with
      | 0, ho => cases ho; rw [hq.1.H]; exact hg) (by simp) rfl h7 (by rw [n1]; rfl)
    refine CallOK.gh this (by rw [hq.1.nx]; exact Nat.le_refl _) (by omega) (fun D L w hSR hD hst => ⟨L, .of_same hq.1 hSR, fun L' hL' => ?_⟩)
    rw [grow_self hq.1.nx.symm] at hL'
    exact hst L' hL'
  · cases h
end Go.Sx
/- An order that fits: calls come to an end (a pool). -/
namespace Go.Sx
/-- Calls, one behind the other, from a queue on. -/
def runsL (cl : List (List Int)) : List Int → List Nat → Prop
  | _, [] => True
  | F, i :: r => cnIs cl F i = true ∧ runsL cl (cnNx cl F i) r

theorem can_lin {cl : List (List Int)} {lin : List Nat} (hnd : lin.Nodup) (hall : ∀ i, i < cl.length → i ∈ lin) (hlt : ∀ i ∈ lin, i < cl.length) (hord : lin.Pairwise fun x y => aheadP (cl.getD y []) (cl.getD x []) = false) :
    ∀ (post : List Nat) (f : Nat) (F : List Int) (pre : List Nat), pre ++ post = lin → runsL cl F post → post.length < f → canP cl f F (pre.map fun (i : Nat) => (i : Int)) [] = true := by
  intro post
  induction post with
  | nil =>
    intro f F pre hpre hr hf
    obtain ⟨f, rfl⟩ : ∃ q, f = q + 1 := ⟨f - 1, by simp at hf; omega⟩
    rw [canP_succ]
    have hl : leftP cl.length (pre.map fun (i : Nat) => (i : Int)) = false := by
      unfold leftP
      rw [List.any_eq_false]
      intro i hi
      simp only [List.mem_range] at hi
      have := hall i hi
      rw [← hpre, List.append_nil] at this
      have h2 : (i : Int) ∈ pre.map fun (i : Nat) => (i : Int) := List.mem_map.2 ⟨i, this, rfl⟩
      simp [h2]
    rw [hl]; rfl
  | cons i r ih =>
    intro f F pre hpre hr hf
    obtain ⟨f, rfl⟩ : ∃ q, f = q + 1 := ⟨f - 1, by simp at hf; omega⟩
    rw [canP_succ]
    have hin : i ∈ lin := by rw [← hpre]; simp
    have hi := hlt i hin
    rw [← hpre] at hnd hord
    have hni : ¬ i ∈ pre := fun h => (List.nodup_append.1 hnd).2.2 i h i (by simp) rfl
    have hnD : ¬ (i : Int) ∈ pre.map (fun (i : Nat) => (i : Int)) := fun h => by
      obtain ⟨q, hq, he⟩ := List.mem_map.1 h
      have : q = i := by omega
      exact hni (this ▸ hq)
    have hready : readyP cl (pre.map fun (i : Nat) => (i : Int)) i = true := by
      simp only [readyP, decide_eq_false hnD, cond_false, List.all_eq_true, List.mem_range]
      intro q hq
      by_cases hqi : q = i
      · simp [hqi]
      · by_cases hqD : (q : Int) ∈ pre.map (fun (i : Nat) => (i : Int))
        · simp [hqi, hqD]
        · have hqp : ¬ q ∈ pre := fun h => hqD (List.mem_map.2 ⟨q, h, rfl⟩)
          have hql : q ∈ lin := hall q hq
          rw [← hpre] at hql
          have hqr : q ∈ r := by
            rcases List.mem_append.1 hql with h | h
            · exact absurd h hqp
            · rcases List.mem_cons.1 h with h | h
              · exact absurd h hqi
              · exact h
          have hp := (List.pairwise_cons.1 (List.pairwise_append.1 hord).2.1).1 q hqr
          simp only [decide_eq_false hqi, decide_eq_false hqD, cond_false, hp, Bool.not_false]
    have hrec := ih f _ (pre ++ [i]) (by rw [← hpre]; simp) hr.2 (by simp at hf; omega)
    have hany : (List.range cl.length).any (cnStep cl f F (pre.map fun (i : Nat) => (i : Int)) []) = true := by
      rw [List.any_eq_true]
      refine ⟨i, List.mem_range.2 hi, ?_⟩
      unfold cnStep
      rw [hready, hr.1]
      simp only [List.length_nil, decide_true, cond_true, List.drop_nil]
      rw [List.map_append] at hrec
      exact hrec
    rw [hany]
    cases cond (decide (([] : List Int).length = 0)) (!(leftP cl.length (pre.map fun (i : Nat) => (i : Int)))) false <;> rfl

/-- So Order finds one. -/
theorem ordPre_of {cl : List (List Int)} {n : Nat} {lin : List Nat} (h1 : Ended cl) (h2 : cl.length ≤ 10) (h3 : 1 ≤ n) (h4 : n ≤ 4) (h5 : ∀ i, i < cl.length → (cl.getD i []).getD 3 0 = 7 ∨ (cl.getD i []).getD 3 0 = 8) (h6 : Named cl)
    (hnd : lin.Nodup) (hall : ∀ i, i < cl.length → i ∈ lin) (hlt : ∀ i ∈ lin, i < cl.length) (hord : lin.Pairwise fun x y => aheadP (cl.getD y []) (cl.getD x []) = false) (hr : runsL cl (firstP n) lin) : OrdPre cl n := by
  refine ⟨h1, h2, h3, h4, h5, h6, ?_⟩
  have hlen : lin.length ≤ cl.length := by
    have := nodup_le cl.length lin hnd hlt
    omega
  exact can_lin hnd hall hlt hord lin (cl.length + 1) (firstP n) [] rfl hr (by omega)
end Go.Sx
