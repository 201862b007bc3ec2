/- StackJudged: its way in and its way out. Printed by gen_in.py. -/
import Derived.Test.YtoiajdjmlbdfnaaSkH
namespace Go.Sx
set_option maxRecDepth 100000
noncomputable def todoA : List Item := ((ctlN E1 (exec E1 400) ⟨4, none, 69⟩ 11 [.code (bodyOf Go.Proofs.Try.f4)] (Tr.ofList [.int .i64 0, .slice 0 0 1 1 1]) [] ⟨trO [some (.ro .i64 [0])], 1, [], [], []⟩).map (·.1)).getD []
noncomputable def todoL : List Item := ((ctlN E1 (exec E1 400) ⟨4, none, 69⟩ 10 [.code (bodyOf Go.Proofs.Try.f4)] (Tr.ofList [.int .i64 0, .slice 0 0 1 301 301]) [] ⟨trO [some (.ro .i64 [0])], 1, [], [], []⟩).map (·.1)).getD []
def slA (sl : V) : List (Option V) := [none, some sl, none, none, none, some (.bool true), some (.ptr 1 0 0 0)] ++ List.replicate 62 none
def slN : List (Option V) := [none, some .nils, none, none, none, some (.bool true), some (.ptr 0 0 0 0)] ++ List.replicate 62 none
def lN (n : Int) : List (Option Ob) := [some (box43 n)]
def slE (b : Bool) : List (Option V) := [none, none, none, none, some (.bool b)] ++ List.replicate 64 none
def lA (zs : List Int) (n : Int) : List (Option Ob) := [some (.ro .i64 zs), some (box43 n)]
theorem liveA {zs : List Int} {n : Int} : ∀ m, m < 2 → ∃ o, ((lA zs n)[m]?).join = some o := by
  intro m hm
  match m, hm with
  | 0, _ => exact ⟨_, rfl⟩
  | 1, _ => exact ⟨_, rfl⟩
def nil15 : List V := [.nilp, .nilp, .nilp, .nils, .int .i64 0, .nilp, .nilp, .nilp, .nils, .int .i64 0, .nilp, .nilp, .nilp, .nils, .int .i64 0]
theorem live1 {a : Ob} : ∀ m, m < 1 → ∃ o, (([some a] : List (Option Ob))[m]?).join = some o := by
  intro m hm
  match m, hm with
  | 0, _ => exact ⟨_, rfl⟩
theorem live5 {a b c d e : Ob} : ∀ m, m < 5 → ∃ o, (([some a, some b, some c, some d, some e] : List (Option Ob))[m]?).join = some o := by
  intro m hm
  match m, hm with
  | 0, _ => exact ⟨_, rfl⟩
  | 1, _ => exact ⟨_, rfl⟩
  | 2, _ => exact ⟨_, rfl⟩
  | 3, _ => exact ⟨_, rfl⟩
  | 4, _ => exact ⟨_, rfl⟩
section
variable {β : Base} {kind : CallKind} {cs : List Frame} {J : Nat → V} {A : Cf} {zs : List Int} {len cap : Nat} {z n : Int}

theorem asrt_nx {fr : Frs} {T : Tr V} {df : List Dfr} {H : Nat → Option Ob} {nx nx' hi : Nat} {a : Cf} (h : Asrt β fr T df H nx hi a) (hle : nx ≤ nx') : Asrt β fr T df H nx' hi a := by
  obtain ⟨D, L, g1, g2, g3, g4, g5, g6⟩ := h
  exact ⟨D, L, g1, g2, fun n hn => (g3 n hn).imp (fun h => by omega) id, g4, g5, g6⟩

/-- Too many numbers. -/
theorem long4 (hβ : β.n0 = 1) (hA : Asrt β ⟨4, none, 69⟩ (Tr.ofList [.int .i64 z, .slice 0 0 1 len cap]) [] (hO [some (.ro .i64 zs)]) 1 far A) (h : (len : Int) > 300) :
    ∃ J' b', Asrt β ⟨4, none, 69⟩ (trO (slots J' 0 (slE true))) [] (hO [some (.ro .i64 zs)]) 1 far b' ∧ Steps Go.Proofs.Try.prog (At ⟨4, none, 69⟩ none kind cs A [.code (bodyOf Go.Proofs.Try.f4)]) (At ⟨4, none, 69⟩ none kind cs b' todoL) :=
  Asrt.eval (n := 400) (m := 10) (orc := [(0, true)]) (πl := [0]) (nx' := 1) (far := far) (todo := [.code (bodyOf Go.Proofs.Try.f4)]) (todo' := todoL) (l' := [some (.ro .i64 zs)]) (sl' := slE true) (B := allB [decide ((len : Int) > 300)]) E1_ok S1_ok kind cs hA
    (by kernel_rfl) (by simp [allB, h]) rfl rfl rfl rfl rfl (fun m => Nat.blt m 1) (p_ok rfl (fun m hm => by match m, hm with | 0, _ => exact ⟨_, rfl⟩)) (fun m hm => by rw [hβ] at hm; exact Nat.blt_eq.mpr hm) (by rw [hβ]; kernel_rfl) (by kernel_rfl) (by kernel_rfl)

/-- Up to the stack's size. -/
theorem inA4 (hβ : β.n0 = 1) (hA : Asrt β ⟨4, none, 69⟩ (Tr.ofList [.int .i64 z, .slice 0 0 1 len cap]) [] (hO [some (.ro .i64 zs)]) 1 far A) (h : ¬ (len : Int) > 300) :
    ∃ J' b', Asrt β ⟨4, none, 69⟩ (trO (slots J' 0 (slA (.slice 0 0 1 len cap)))) [] (hO (lA zs (IntKind.i64.wrap (1 + pickF z 12)))) 2 far b' ∧ Steps Go.Proofs.Try.prog (At ⟨4, none, 69⟩ none kind cs A [.code (bodyOf Go.Proofs.Try.f4)]) (At ⟨4, none, 69⟩ none kind cs b' todoA) := by
  by_cases h0 : z.tmod 12 < 0
  · have e : pickF z 12 = IntKind.i64.wrap (z.tmod 12 + 12) := by simp only [pickF, if_pos h0]
    rw [e]
    exact Asrt.eval (n := 400) (m := 11) (orc := [(0, false), (2, true)]) (πl := [0, 1]) (nx' := 2) (far := far) (todo := [.code (bodyOf Go.Proofs.Try.f4)]) (todo' := todoA) (l' := lA zs (IntKind.i64.wrap (1 + IntKind.i64.wrap (z.tmod 12 + 12)))) (sl' := slA (.slice 0 0 1 len cap)) (B := allB [decide (z.tmod 12 < 0), !(decide ((len : Int) > 300))]) E1_ok S1_ok kind cs hA
      (by kernel_rfl) (by simp [allB, h0]; omega) rfl rfl rfl rfl rfl (fun m => Nat.blt m 2) (p_ok rfl liveA) (fun m hm => by rw [hβ] at hm; exact Nat.blt_eq.mpr (by omega)) (by rw [hβ]; kernel_rfl) (by kernel_rfl) (by kernel_rfl)
  · have e : pickF z 12 = z.tmod 12 := by simp only [pickF, if_neg h0]
    rw [e]
    exact Asrt.eval (n := 400) (m := 11) (orc := [(0, false), (2, false)]) (πl := [0, 1]) (nx' := 2) (far := far) (todo := [.code (bodyOf Go.Proofs.Try.f4)]) (todo' := todoA) (l' := lA zs (IntKind.i64.wrap (1 + z.tmod 12))) (sl' := slA (.slice 0 0 1 len cap)) (B := allB [!(decide (z.tmod 12 < 0)), !(decide ((len : Int) > 300))]) E1_ok S1_ok kind cs hA
      (by kernel_rfl) (by simp [allB]; omega) rfl rfl rfl rfl rfl (fun m => Nat.blt m 2) (p_ok rfl liveA) (fun m hm => by rw [hβ] at hm; exact Nat.blt_eq.mpr (by omega)) (by rw [hβ]; kernel_rfl) (by kernel_rfl) (by kernel_rfl)

/-- Behind the last number. -/
theorem exit4 {i : Int} {σ : SS} (hβ : β.n0 = 1) (hA : Asrt β ⟨4, none, 69⟩ (trO (slots J 0 (slH len cap i))) [] (hO (lS zs σ)) 11 far A) (h : ¬ i < (len : Int)) :
    ∃ J' b', Asrt β ⟨4, none, 69⟩ (trO (slots J' 0 (slE true))) [] (hO [some (.ro .i64 zs)]) 1 far b' ∧ Steps Go.Proofs.Try.prog (At ⟨4, none, 69⟩ none kind cs A todoH) (At ⟨4, none, 69⟩ none kind cs b' [.code .ret]) :=
  Asrt.eval (n := 400) (m := 7) (orc := [(0, false)]) (πl := [0]) (nx' := 11) (far := far) (todo := todoH) (todo' := [.code .ret]) (l' := [some (.ro .i64 zs)]) (sl' := slE true) (B := allB [!(decide (i < (len : Int)))]) E1_ok S1_ok kind cs hA
    (by kernel_rfl) (by simp [allB]; omega) rfl rfl rfl rfl rfl (fun m => Nat.blt m 1) (p_ok rfl (fun m hm => by match m, hm with | 0, _ => exact ⟨_, rfl⟩)) (fun m hm => by rw [hβ] at hm; exact Nat.blt_eq.mpr hm) (by rw [hβ]; kernel_rfl) (by kernel_rfl) (by kernel_rfl)

/-- No list at all. -/
theorem nilA4 (hβ : β.n0 = 0) (hA : Asrt β ⟨4, none, 69⟩ (Tr.ofList [.int .i64 z, .nils]) [] (hO []) 0 far A) :
    ∃ J' b', Asrt β ⟨4, none, 69⟩ (trO (slots J' 0 slN)) [] (hO (lN (IntKind.i64.wrap (1 + pickF z 12)))) 1 far b' ∧ Steps Go.Proofs.Try.prog (At ⟨4, none, 69⟩ none kind cs A [.code (bodyOf Go.Proofs.Try.f4)]) (At ⟨4, none, 69⟩ none kind cs b' todoA) := by
  by_cases h0 : z.tmod 12 < 0
  · have e : pickF z 12 = IntKind.i64.wrap (z.tmod 12 + 12) := by simp only [pickF, if_pos h0]
    rw [e]
    exact Asrt.eval (n := 400) (m := 11) (orc := [(3, true)]) (πl := [0]) (nx' := 1) (far := far) (todo := [.code (bodyOf Go.Proofs.Try.f4)]) (todo' := todoA) (l := []) (l' := lN (IntKind.i64.wrap (1 + IntKind.i64.wrap (z.tmod 12 + 12)))) (sl' := slN) (B := allB [decide (z.tmod 12 < 0)]) E1_ok S1_ok kind cs hA
      (by kernel_rfl) (by simp only [allB, decide_eq_true h0]; rfl) (by kernel_rfl) (by kernel_rfl) (by kernel_rfl) (by kernel_rfl) (by kernel_rfl) (fun m => Nat.blt m 1) (p_ok rfl live1) (fun m hm => by rw [hβ] at hm; exact absurd hm (Nat.not_lt_zero _)) (by rw [hβ]; kernel_rfl) (by kernel_rfl) (by kernel_rfl)
  · have e : pickF z 12 = z.tmod 12 := by simp only [pickF, if_neg h0]
    rw [e]
    exact Asrt.eval (n := 400) (m := 11) (orc := [(3, false)]) (πl := [0]) (nx' := 1) (far := far) (todo := [.code (bodyOf Go.Proofs.Try.f4)]) (todo' := todoA) (l := []) (l' := lN (IntKind.i64.wrap (1 + z.tmod 12))) (sl' := slN) (B := allB [!(decide (z.tmod 12 < 0))]) E1_ok S1_ok kind cs hA
      (by kernel_rfl) (by simp only [allB, decide_eq_false h0]; rfl) (by kernel_rfl) (by kernel_rfl) (by kernel_rfl) (by kernel_rfl) (by kernel_rfl) (fun m => Nat.blt m 1) (p_ok rfl live1) (fun m hm => by rw [hβ] at hm; exact absurd hm (Nat.not_lt_zero _)) (by rw [hβ]; kernel_rfl) (by kernel_rfl) (by kernel_rfl)

theorem fill4_1 (hβ : β.n0 = 1) (hA : Asrt β ⟨4, none, 69⟩ (trO (slots J 0 (slA (.slice 0 0 1 len cap)))) [] (hO (lA zs 1)) 2 far A) :
    ∃ J' b', Asrt β ⟨4, none, 69⟩ (trO (slots J' 0 (slH len cap 0))) [] (hO [some (.ro .i64 zs), some (box43 1), some (memS 3 ⟨2, 4, 0, 0, true, 2⟩), some (wordsOb (((List.replicate 4096 0).set 2 1).set 4 0)), some (.mem (.cells nil15) 52 (some 5))]) 5 far b' ∧ Steps Go.Proofs.Try.prog (At ⟨4, none, 69⟩ none kind cs A todoA) (At ⟨4, none, 69⟩ none kind cs b' todoH) :=
  Asrt.eval (n := 400) (m := 16) (orc := []) (πl := [0, 1, 3, 2, 34]) (nx' := 35) (far := far) (todo := todoA) (todo' := todoH) (l' := [some (.ro .i64 zs), some (box43 1), some (memS 3 ⟨2, 4, 0, 0, true, 2⟩), some (wordsOb (((List.replicate 4096 0).set 2 1).set 4 0)), some (.mem (.cells nil15) 52 (some 5))]) (sl' := slH len cap 0) (B := true) E1_ok S1_ok kind cs hA
    (by kernel_rfl) rfl rfl rfl rfl rfl rfl (fun m => Nat.blt m 5) (p_ok rfl live5) (fun m hm => by rw [hβ] at hm; exact Nat.blt_eq.mpr (by omega)) (by rw [hβ]; kernel_rfl) (by kernel_rfl) (by kernel_rfl)

theorem fillN_1 (hβ : β.n0 = 0) (hA : Asrt β ⟨4, none, 69⟩ (trO (slots J 0 slN)) [] (hO (lN 1)) 1 far A) :
    ∃ J' b', Asrt β ⟨4, none, 69⟩ (trO (slots J' 0 (slE true))) [] (hO []) 0 far b' ∧ Steps Go.Proofs.Try.prog (At ⟨4, none, 69⟩ none kind cs A todoA) (At ⟨4, none, 69⟩ none kind cs b' [.code .ret]) :=
  Asrt.eval (n := 400) (m := 23) (orc := []) (πl := []) (nx' := 34) (far := far) (todo := todoA) (todo' := [.code .ret]) (l := lN 1) (l' := []) (sl' := slE true) (B := true) E1_ok S1_ok kind cs hA
    (by kernel_rfl) rfl rfl rfl rfl rfl rfl (fun m => Nat.blt m 0) (fun m hm => absurd (Nat.blt_eq.mp hm) (Nat.not_lt_zero _)) (fun m hm => by rw [hβ] at hm; exact absurd hm (Nat.not_lt_zero _)) (by rw [hβ]; kernel_rfl) (by kernel_rfl) (by kernel_rfl)

theorem fill4_2 (hβ : β.n0 = 1) (hA : Asrt β ⟨4, none, 69⟩ (trO (slots J 0 (slA (.slice 0 0 1 len cap)))) [] (hO (lA zs 2)) 2 far A) :
    ∃ J' b', Asrt β ⟨4, none, 69⟩ (trO (slots J' 0 (slH len cap 0))) [] (hO [some (.ro .i64 zs), some (box43 2), some (memS 3 ⟨2, 5, 0, 0, true, 3⟩), some (wordsOb ((((List.replicate 4096 0).set 2 1).set 4 2).set 5 0)), some (.mem (.cells nil15) 52 (some 5))]) 5 far b' ∧ Steps Go.Proofs.Try.prog (At ⟨4, none, 69⟩ none kind cs A todoA) (At ⟨4, none, 69⟩ none kind cs b' todoH) :=
  Asrt.eval (n := 400) (m := 16) (orc := []) (πl := [0, 1, 3, 2, 48]) (nx' := 49) (far := far) (todo := todoA) (todo' := todoH) (l' := [some (.ro .i64 zs), some (box43 2), some (memS 3 ⟨2, 5, 0, 0, true, 3⟩), some (wordsOb ((((List.replicate 4096 0).set 2 1).set 4 2).set 5 0)), some (.mem (.cells nil15) 52 (some 5))]) (sl' := slH len cap 0) (B := true) E1_ok S1_ok kind cs hA
    (by kernel_rfl) rfl rfl rfl rfl rfl rfl (fun m => Nat.blt m 5) (p_ok rfl live5) (fun m hm => by rw [hβ] at hm; exact Nat.blt_eq.mpr (by omega)) (by rw [hβ]; kernel_rfl) (by kernel_rfl) (by kernel_rfl)

theorem fillN_2 (hβ : β.n0 = 0) (hA : Asrt β ⟨4, none, 69⟩ (trO (slots J 0 slN)) [] (hO (lN 2)) 1 far A) :
    ∃ J' b', Asrt β ⟨4, none, 69⟩ (trO (slots J' 0 (slE true))) [] (hO []) 0 far b' ∧ Steps Go.Proofs.Try.prog (At ⟨4, none, 69⟩ none kind cs A todoA) (At ⟨4, none, 69⟩ none kind cs b' [.code .ret]) :=
  Asrt.eval (n := 400) (m := 23) (orc := []) (πl := []) (nx' := 48) (far := far) (todo := todoA) (todo' := [.code .ret]) (l := lN 2) (l' := []) (sl' := slE true) (B := true) E1_ok S1_ok kind cs hA
    (by kernel_rfl) rfl rfl rfl rfl rfl rfl (fun m => Nat.blt m 0) (fun m hm => absurd (Nat.blt_eq.mp hm) (Nat.not_lt_zero _)) (fun m hm => by rw [hβ] at hm; exact absurd hm (Nat.not_lt_zero _)) (by rw [hβ]; kernel_rfl) (by kernel_rfl) (by kernel_rfl)

theorem fill4_3 (hβ : β.n0 = 1) (hA : Asrt β ⟨4, none, 69⟩ (trO (slots J 0 (slA (.slice 0 0 1 len cap)))) [] (hO (lA zs 3)) 2 far A) :
    ∃ J' b', Asrt β ⟨4, none, 69⟩ (trO (slots J' 0 (slH len cap 0))) [] (hO [some (.ro .i64 zs), some (box43 3), some (memS 3 ⟨2, 6, 0, 0, true, 4⟩), some (wordsOb (((((List.replicate 4096 0).set 2 1).set 4 2).set 5 3).set 6 0)), some (.mem (.cells nil15) 52 (some 5))]) 5 far b' ∧ Steps Go.Proofs.Try.prog (At ⟨4, none, 69⟩ none kind cs A todoA) (At ⟨4, none, 69⟩ none kind cs b' todoH) :=
  Asrt.eval (n := 400) (m := 16) (orc := []) (πl := [0, 1, 3, 2, 62]) (nx' := 63) (far := far) (todo := todoA) (todo' := todoH) (l' := [some (.ro .i64 zs), some (box43 3), some (memS 3 ⟨2, 6, 0, 0, true, 4⟩), some (wordsOb (((((List.replicate 4096 0).set 2 1).set 4 2).set 5 3).set 6 0)), some (.mem (.cells nil15) 52 (some 5))]) (sl' := slH len cap 0) (B := true) E1_ok S1_ok kind cs hA
    (by kernel_rfl) rfl rfl rfl rfl rfl rfl (fun m => Nat.blt m 5) (p_ok rfl live5) (fun m hm => by rw [hβ] at hm; exact Nat.blt_eq.mpr (by omega)) (by rw [hβ]; kernel_rfl) (by kernel_rfl) (by kernel_rfl)

theorem fillN_3 (hβ : β.n0 = 0) (hA : Asrt β ⟨4, none, 69⟩ (trO (slots J 0 slN)) [] (hO (lN 3)) 1 far A) :
    ∃ J' b', Asrt β ⟨4, none, 69⟩ (trO (slots J' 0 (slE true))) [] (hO []) 0 far b' ∧ Steps Go.Proofs.Try.prog (At ⟨4, none, 69⟩ none kind cs A todoA) (At ⟨4, none, 69⟩ none kind cs b' [.code .ret]) :=
  Asrt.eval (n := 400) (m := 23) (orc := []) (πl := []) (nx' := 62) (far := far) (todo := todoA) (todo' := [.code .ret]) (l := lN 3) (l' := []) (sl' := slE true) (B := true) E1_ok S1_ok kind cs hA
    (by kernel_rfl) rfl rfl rfl rfl rfl rfl (fun m => Nat.blt m 0) (fun m hm => absurd (Nat.blt_eq.mp hm) (Nat.not_lt_zero _)) (fun m hm => by rw [hβ] at hm; exact absurd hm (Nat.not_lt_zero _)) (by rw [hβ]; kernel_rfl) (by kernel_rfl) (by kernel_rfl)

theorem fill4_4 (hβ : β.n0 = 1) (hA : Asrt β ⟨4, none, 69⟩ (trO (slots J 0 (slA (.slice 0 0 1 len cap)))) [] (hO (lA zs 4)) 2 far A) :
    ∃ J' b', Asrt β ⟨4, none, 69⟩ (trO (slots J' 0 (slH len cap 0))) [] (hO [some (.ro .i64 zs), some (box43 4), some (memS 3 ⟨2, 7, 0, 0, true, 5⟩), some (wordsOb ((((((List.replicate 4096 0).set 2 1).set 4 2).set 5 3).set 6 4).set 7 0)), some (.mem (.cells nil15) 52 (some 5))]) 5 far b' ∧ Steps Go.Proofs.Try.prog (At ⟨4, none, 69⟩ none kind cs A todoA) (At ⟨4, none, 69⟩ none kind cs b' todoH) :=
  Asrt.eval (n := 400) (m := 16) (orc := []) (πl := [0, 1, 3, 2, 76]) (nx' := 77) (far := far) (todo := todoA) (todo' := todoH) (l' := [some (.ro .i64 zs), some (box43 4), some (memS 3 ⟨2, 7, 0, 0, true, 5⟩), some (wordsOb ((((((List.replicate 4096 0).set 2 1).set 4 2).set 5 3).set 6 4).set 7 0)), some (.mem (.cells nil15) 52 (some 5))]) (sl' := slH len cap 0) (B := true) E1_ok S1_ok kind cs hA
    (by kernel_rfl) rfl rfl rfl rfl rfl rfl (fun m => Nat.blt m 5) (p_ok rfl live5) (fun m hm => by rw [hβ] at hm; exact Nat.blt_eq.mpr (by omega)) (by rw [hβ]; kernel_rfl) (by kernel_rfl) (by kernel_rfl)

theorem fillN_4 (hβ : β.n0 = 0) (hA : Asrt β ⟨4, none, 69⟩ (trO (slots J 0 slN)) [] (hO (lN 4)) 1 far A) :
    ∃ J' b', Asrt β ⟨4, none, 69⟩ (trO (slots J' 0 (slE true))) [] (hO []) 0 far b' ∧ Steps Go.Proofs.Try.prog (At ⟨4, none, 69⟩ none kind cs A todoA) (At ⟨4, none, 69⟩ none kind cs b' [.code .ret]) :=
  Asrt.eval (n := 400) (m := 23) (orc := []) (πl := []) (nx' := 76) (far := far) (todo := todoA) (todo' := [.code .ret]) (l := lN 4) (l' := []) (sl' := slE true) (B := true) E1_ok S1_ok kind cs hA
    (by kernel_rfl) rfl rfl rfl rfl rfl rfl (fun m => Nat.blt m 0) (fun m hm => absurd (Nat.blt_eq.mp hm) (Nat.not_lt_zero _)) (fun m hm => by rw [hβ] at hm; exact absurd hm (Nat.not_lt_zero _)) (by rw [hβ]; kernel_rfl) (by kernel_rfl) (by kernel_rfl)

theorem fill4_5 (hβ : β.n0 = 1) (hA : Asrt β ⟨4, none, 69⟩ (trO (slots J 0 (slA (.slice 0 0 1 len cap)))) [] (hO (lA zs 5)) 2 far A) :
    ∃ J' b', Asrt β ⟨4, none, 69⟩ (trO (slots J' 0 (slH len cap 0))) [] (hO [some (.ro .i64 zs), some (box43 5), some (memS 3 ⟨2, 8, 0, 0, true, 6⟩), some (wordsOb (((((((List.replicate 4096 0).set 2 1).set 4 2).set 5 3).set 6 4).set 7 5).set 8 0)), some (.mem (.cells nil15) 52 (some 5))]) 5 far b' ∧ Steps Go.Proofs.Try.prog (At ⟨4, none, 69⟩ none kind cs A todoA) (At ⟨4, none, 69⟩ none kind cs b' todoH) :=
  Asrt.eval (n := 400) (m := 16) (orc := []) (πl := [0, 1, 3, 2, 90]) (nx' := 91) (far := far) (todo := todoA) (todo' := todoH) (l' := [some (.ro .i64 zs), some (box43 5), some (memS 3 ⟨2, 8, 0, 0, true, 6⟩), some (wordsOb (((((((List.replicate 4096 0).set 2 1).set 4 2).set 5 3).set 6 4).set 7 5).set 8 0)), some (.mem (.cells nil15) 52 (some 5))]) (sl' := slH len cap 0) (B := true) E1_ok S1_ok kind cs hA
    (by kernel_rfl) rfl rfl rfl rfl rfl rfl (fun m => Nat.blt m 5) (p_ok rfl live5) (fun m hm => by rw [hβ] at hm; exact Nat.blt_eq.mpr (by omega)) (by rw [hβ]; kernel_rfl) (by kernel_rfl) (by kernel_rfl)

theorem fillN_5 (hβ : β.n0 = 0) (hA : Asrt β ⟨4, none, 69⟩ (trO (slots J 0 slN)) [] (hO (lN 5)) 1 far A) :
    ∃ J' b', Asrt β ⟨4, none, 69⟩ (trO (slots J' 0 (slE true))) [] (hO []) 0 far b' ∧ Steps Go.Proofs.Try.prog (At ⟨4, none, 69⟩ none kind cs A todoA) (At ⟨4, none, 69⟩ none kind cs b' [.code .ret]) :=
  Asrt.eval (n := 400) (m := 23) (orc := []) (πl := []) (nx' := 90) (far := far) (todo := todoA) (todo' := [.code .ret]) (l := lN 5) (l' := []) (sl' := slE true) (B := true) E1_ok S1_ok kind cs hA
    (by kernel_rfl) rfl rfl rfl rfl rfl rfl (fun m => Nat.blt m 0) (fun m hm => absurd (Nat.blt_eq.mp hm) (Nat.not_lt_zero _)) (fun m hm => by rw [hβ] at hm; exact absurd hm (Nat.not_lt_zero _)) (by rw [hβ]; kernel_rfl) (by kernel_rfl) (by kernel_rfl)

theorem fill4_6 (hβ : β.n0 = 1) (hA : Asrt β ⟨4, none, 69⟩ (trO (slots J 0 (slA (.slice 0 0 1 len cap)))) [] (hO (lA zs 6)) 2 far A) :
    ∃ J' b', Asrt β ⟨4, none, 69⟩ (trO (slots J' 0 (slH len cap 0))) [] (hO [some (.ro .i64 zs), some (box43 6), some (memS 3 ⟨2, 9, 0, 0, true, 7⟩), some (wordsOb ((((((((List.replicate 4096 0).set 2 1).set 4 2).set 5 3).set 6 4).set 7 5).set 8 6).set 9 0)), some (.mem (.cells nil15) 52 (some 5))]) 5 far b' ∧ Steps Go.Proofs.Try.prog (At ⟨4, none, 69⟩ none kind cs A todoA) (At ⟨4, none, 69⟩ none kind cs b' todoH) :=
  Asrt.eval (n := 400) (m := 16) (orc := []) (πl := [0, 1, 3, 2, 104]) (nx' := 105) (far := far) (todo := todoA) (todo' := todoH) (l' := [some (.ro .i64 zs), some (box43 6), some (memS 3 ⟨2, 9, 0, 0, true, 7⟩), some (wordsOb ((((((((List.replicate 4096 0).set 2 1).set 4 2).set 5 3).set 6 4).set 7 5).set 8 6).set 9 0)), some (.mem (.cells nil15) 52 (some 5))]) (sl' := slH len cap 0) (B := true) E1_ok S1_ok kind cs hA
    (by kernel_rfl) rfl rfl rfl rfl rfl rfl (fun m => Nat.blt m 5) (p_ok rfl live5) (fun m hm => by rw [hβ] at hm; exact Nat.blt_eq.mpr (by omega)) (by rw [hβ]; kernel_rfl) (by kernel_rfl) (by kernel_rfl)

theorem fillN_6 (hβ : β.n0 = 0) (hA : Asrt β ⟨4, none, 69⟩ (trO (slots J 0 slN)) [] (hO (lN 6)) 1 far A) :
    ∃ J' b', Asrt β ⟨4, none, 69⟩ (trO (slots J' 0 (slE true))) [] (hO []) 0 far b' ∧ Steps Go.Proofs.Try.prog (At ⟨4, none, 69⟩ none kind cs A todoA) (At ⟨4, none, 69⟩ none kind cs b' [.code .ret]) :=
  Asrt.eval (n := 400) (m := 23) (orc := []) (πl := []) (nx' := 104) (far := far) (todo := todoA) (todo' := [.code .ret]) (l := lN 6) (l' := []) (sl' := slE true) (B := true) E1_ok S1_ok kind cs hA
    (by kernel_rfl) rfl rfl rfl rfl rfl rfl (fun m => Nat.blt m 0) (fun m hm => absurd (Nat.blt_eq.mp hm) (Nat.not_lt_zero _)) (fun m hm => by rw [hβ] at hm; exact absurd hm (Nat.not_lt_zero _)) (by rw [hβ]; kernel_rfl) (by kernel_rfl) (by kernel_rfl)

theorem fill4_7 (hβ : β.n0 = 1) (hA : Asrt β ⟨4, none, 69⟩ (trO (slots J 0 (slA (.slice 0 0 1 len cap)))) [] (hO (lA zs 7)) 2 far A) :
    ∃ J' b', Asrt β ⟨4, none, 69⟩ (trO (slots J' 0 (slH len cap 0))) [] (hO [some (.ro .i64 zs), some (box43 7), some (memS 3 ⟨2, 10, 0, 0, true, 8⟩), some (wordsOb (((((((((List.replicate 4096 0).set 2 1).set 4 2).set 5 3).set 6 4).set 7 5).set 8 6).set 9 7).set 10 0)), some (.mem (.cells nil15) 52 (some 5))]) 5 far b' ∧ Steps Go.Proofs.Try.prog (At ⟨4, none, 69⟩ none kind cs A todoA) (At ⟨4, none, 69⟩ none kind cs b' todoH) :=
  Asrt.eval (n := 400) (m := 16) (orc := []) (πl := [0, 1, 3, 2, 118]) (nx' := 119) (far := far) (todo := todoA) (todo' := todoH) (l' := [some (.ro .i64 zs), some (box43 7), some (memS 3 ⟨2, 10, 0, 0, true, 8⟩), some (wordsOb (((((((((List.replicate 4096 0).set 2 1).set 4 2).set 5 3).set 6 4).set 7 5).set 8 6).set 9 7).set 10 0)), some (.mem (.cells nil15) 52 (some 5))]) (sl' := slH len cap 0) (B := true) E1_ok S1_ok kind cs hA
    (by kernel_rfl) rfl rfl rfl rfl rfl rfl (fun m => Nat.blt m 5) (p_ok rfl live5) (fun m hm => by rw [hβ] at hm; exact Nat.blt_eq.mpr (by omega)) (by rw [hβ]; kernel_rfl) (by kernel_rfl) (by kernel_rfl)

theorem fillN_7 (hβ : β.n0 = 0) (hA : Asrt β ⟨4, none, 69⟩ (trO (slots J 0 slN)) [] (hO (lN 7)) 1 far A) :
    ∃ J' b', Asrt β ⟨4, none, 69⟩ (trO (slots J' 0 (slE true))) [] (hO []) 0 far b' ∧ Steps Go.Proofs.Try.prog (At ⟨4, none, 69⟩ none kind cs A todoA) (At ⟨4, none, 69⟩ none kind cs b' [.code .ret]) :=
  Asrt.eval (n := 400) (m := 23) (orc := []) (πl := []) (nx' := 118) (far := far) (todo := todoA) (todo' := [.code .ret]) (l := lN 7) (l' := []) (sl' := slE true) (B := true) E1_ok S1_ok kind cs hA
    (by kernel_rfl) rfl rfl rfl rfl rfl rfl (fun m => Nat.blt m 0) (fun m hm => absurd (Nat.blt_eq.mp hm) (Nat.not_lt_zero _)) (fun m hm => by rw [hβ] at hm; exact absurd hm (Nat.not_lt_zero _)) (by rw [hβ]; kernel_rfl) (by kernel_rfl) (by kernel_rfl)

theorem fill4_8 (hβ : β.n0 = 1) (hA : Asrt β ⟨4, none, 69⟩ (trO (slots J 0 (slA (.slice 0 0 1 len cap)))) [] (hO (lA zs 8)) 2 far A) :
    ∃ J' b', Asrt β ⟨4, none, 69⟩ (trO (slots J' 0 (slH len cap 0))) [] (hO [some (.ro .i64 zs), some (box43 8), some (memS 3 ⟨2, 11, 0, 0, true, 9⟩), some (wordsOb ((((((((((List.replicate 4096 0).set 2 1).set 4 2).set 5 3).set 6 4).set 7 5).set 8 6).set 9 7).set 10 8).set 11 0)), some (.mem (.cells nil15) 52 (some 5))]) 5 far b' ∧ Steps Go.Proofs.Try.prog (At ⟨4, none, 69⟩ none kind cs A todoA) (At ⟨4, none, 69⟩ none kind cs b' todoH) :=
  Asrt.eval (n := 400) (m := 16) (orc := []) (πl := [0, 1, 3, 2, 132]) (nx' := 133) (far := far) (todo := todoA) (todo' := todoH) (l' := [some (.ro .i64 zs), some (box43 8), some (memS 3 ⟨2, 11, 0, 0, true, 9⟩), some (wordsOb ((((((((((List.replicate 4096 0).set 2 1).set 4 2).set 5 3).set 6 4).set 7 5).set 8 6).set 9 7).set 10 8).set 11 0)), some (.mem (.cells nil15) 52 (some 5))]) (sl' := slH len cap 0) (B := true) E1_ok S1_ok kind cs hA
    (by kernel_rfl) rfl rfl rfl rfl rfl rfl (fun m => Nat.blt m 5) (p_ok rfl live5) (fun m hm => by rw [hβ] at hm; exact Nat.blt_eq.mpr (by omega)) (by rw [hβ]; kernel_rfl) (by kernel_rfl) (by kernel_rfl)

theorem fillN_8 (hβ : β.n0 = 0) (hA : Asrt β ⟨4, none, 69⟩ (trO (slots J 0 slN)) [] (hO (lN 8)) 1 far A) :
    ∃ J' b', Asrt β ⟨4, none, 69⟩ (trO (slots J' 0 (slE true))) [] (hO []) 0 far b' ∧ Steps Go.Proofs.Try.prog (At ⟨4, none, 69⟩ none kind cs A todoA) (At ⟨4, none, 69⟩ none kind cs b' [.code .ret]) :=
  Asrt.eval (n := 400) (m := 23) (orc := []) (πl := []) (nx' := 132) (far := far) (todo := todoA) (todo' := [.code .ret]) (l := lN 8) (l' := []) (sl' := slE true) (B := true) E1_ok S1_ok kind cs hA
    (by kernel_rfl) rfl rfl rfl rfl rfl rfl (fun m => Nat.blt m 0) (fun m hm => absurd (Nat.blt_eq.mp hm) (Nat.not_lt_zero _)) (fun m hm => by rw [hβ] at hm; exact absurd hm (Nat.not_lt_zero _)) (by rw [hβ]; kernel_rfl) (by kernel_rfl) (by kernel_rfl)

theorem fill4_9 (hβ : β.n0 = 1) (hA : Asrt β ⟨4, none, 69⟩ (trO (slots J 0 (slA (.slice 0 0 1 len cap)))) [] (hO (lA zs 9)) 2 far A) :
    ∃ J' b', Asrt β ⟨4, none, 69⟩ (trO (slots J' 0 (slH len cap 0))) [] (hO [some (.ro .i64 zs), some (box43 9), some (memS 3 ⟨2, 12, 0, 0, true, 10⟩), some (wordsOb (((((((((((List.replicate 4096 0).set 2 1).set 4 2).set 5 3).set 6 4).set 7 5).set 8 6).set 9 7).set 10 8).set 11 9).set 12 0)), some (.mem (.cells nil15) 52 (some 5))]) 5 far b' ∧ Steps Go.Proofs.Try.prog (At ⟨4, none, 69⟩ none kind cs A todoA) (At ⟨4, none, 69⟩ none kind cs b' todoH) :=
  Asrt.eval (n := 400) (m := 16) (orc := []) (πl := [0, 1, 3, 2, 146]) (nx' := 147) (far := far) (todo := todoA) (todo' := todoH) (l' := [some (.ro .i64 zs), some (box43 9), some (memS 3 ⟨2, 12, 0, 0, true, 10⟩), some (wordsOb (((((((((((List.replicate 4096 0).set 2 1).set 4 2).set 5 3).set 6 4).set 7 5).set 8 6).set 9 7).set 10 8).set 11 9).set 12 0)), some (.mem (.cells nil15) 52 (some 5))]) (sl' := slH len cap 0) (B := true) E1_ok S1_ok kind cs hA
    (by kernel_rfl) rfl rfl rfl rfl rfl rfl (fun m => Nat.blt m 5) (p_ok rfl live5) (fun m hm => by rw [hβ] at hm; exact Nat.blt_eq.mpr (by omega)) (by rw [hβ]; kernel_rfl) (by kernel_rfl) (by kernel_rfl)

theorem fillN_9 (hβ : β.n0 = 0) (hA : Asrt β ⟨4, none, 69⟩ (trO (slots J 0 slN)) [] (hO (lN 9)) 1 far A) :
    ∃ J' b', Asrt β ⟨4, none, 69⟩ (trO (slots J' 0 (slE true))) [] (hO []) 0 far b' ∧ Steps Go.Proofs.Try.prog (At ⟨4, none, 69⟩ none kind cs A todoA) (At ⟨4, none, 69⟩ none kind cs b' [.code .ret]) :=
  Asrt.eval (n := 400) (m := 23) (orc := []) (πl := []) (nx' := 146) (far := far) (todo := todoA) (todo' := [.code .ret]) (l := lN 9) (l' := []) (sl' := slE true) (B := true) E1_ok S1_ok kind cs hA
    (by kernel_rfl) rfl rfl rfl rfl rfl rfl (fun m => Nat.blt m 0) (fun m hm => absurd (Nat.blt_eq.mp hm) (Nat.not_lt_zero _)) (fun m hm => by rw [hβ] at hm; exact absurd hm (Nat.not_lt_zero _)) (by rw [hβ]; kernel_rfl) (by kernel_rfl) (by kernel_rfl)

theorem fill4_10 (hβ : β.n0 = 1) (hA : Asrt β ⟨4, none, 69⟩ (trO (slots J 0 (slA (.slice 0 0 1 len cap)))) [] (hO (lA zs 10)) 2 far A) :
    ∃ J' b', Asrt β ⟨4, none, 69⟩ (trO (slots J' 0 (slH len cap 0))) [] (hO [some (.ro .i64 zs), some (box43 10), some (memS 3 ⟨2, 13, 0, 0, true, 11⟩), some (wordsOb ((((((((((((List.replicate 4096 0).set 2 1).set 4 2).set 5 3).set 6 4).set 7 5).set 8 6).set 9 7).set 10 8).set 11 9).set 12 10).set 13 0)), some (.mem (.cells nil15) 52 (some 5))]) 5 far b' ∧ Steps Go.Proofs.Try.prog (At ⟨4, none, 69⟩ none kind cs A todoA) (At ⟨4, none, 69⟩ none kind cs b' todoH) :=
  Asrt.eval (n := 400) (m := 16) (orc := []) (πl := [0, 1, 3, 2, 160]) (nx' := 161) (far := far) (todo := todoA) (todo' := todoH) (l' := [some (.ro .i64 zs), some (box43 10), some (memS 3 ⟨2, 13, 0, 0, true, 11⟩), some (wordsOb ((((((((((((List.replicate 4096 0).set 2 1).set 4 2).set 5 3).set 6 4).set 7 5).set 8 6).set 9 7).set 10 8).set 11 9).set 12 10).set 13 0)), some (.mem (.cells nil15) 52 (some 5))]) (sl' := slH len cap 0) (B := true) E1_ok S1_ok kind cs hA
    (by kernel_rfl) rfl rfl rfl rfl rfl rfl (fun m => Nat.blt m 5) (p_ok rfl live5) (fun m hm => by rw [hβ] at hm; exact Nat.blt_eq.mpr (by omega)) (by rw [hβ]; kernel_rfl) (by kernel_rfl) (by kernel_rfl)

theorem fillN_10 (hβ : β.n0 = 0) (hA : Asrt β ⟨4, none, 69⟩ (trO (slots J 0 slN)) [] (hO (lN 10)) 1 far A) :
    ∃ J' b', Asrt β ⟨4, none, 69⟩ (trO (slots J' 0 (slE true))) [] (hO []) 0 far b' ∧ Steps Go.Proofs.Try.prog (At ⟨4, none, 69⟩ none kind cs A todoA) (At ⟨4, none, 69⟩ none kind cs b' [.code .ret]) :=
  Asrt.eval (n := 400) (m := 23) (orc := []) (πl := []) (nx' := 160) (far := far) (todo := todoA) (todo' := [.code .ret]) (l := lN 10) (l' := []) (sl' := slE true) (B := true) E1_ok S1_ok kind cs hA
    (by kernel_rfl) rfl rfl rfl rfl rfl rfl (fun m => Nat.blt m 0) (fun m hm => absurd (Nat.blt_eq.mp hm) (Nat.not_lt_zero _)) (fun m hm => by rw [hβ] at hm; exact absurd hm (Nat.not_lt_zero _)) (by rw [hβ]; kernel_rfl) (by kernel_rfl) (by kernel_rfl)

theorem fill4_11 (hβ : β.n0 = 1) (hA : Asrt β ⟨4, none, 69⟩ (trO (slots J 0 (slA (.slice 0 0 1 len cap)))) [] (hO (lA zs 11)) 2 far A) :
    ∃ J' b', Asrt β ⟨4, none, 69⟩ (trO (slots J' 0 (slH len cap 0))) [] (hO [some (.ro .i64 zs), some (box43 11), some (memS 3 ⟨2, 14, 0, 0, true, 12⟩), some (wordsOb (((((((((((((List.replicate 4096 0).set 2 1).set 4 2).set 5 3).set 6 4).set 7 5).set 8 6).set 9 7).set 10 8).set 11 9).set 12 10).set 13 11).set 14 0)), some (.mem (.cells nil15) 52 (some 5))]) 5 far b' ∧ Steps Go.Proofs.Try.prog (At ⟨4, none, 69⟩ none kind cs A todoA) (At ⟨4, none, 69⟩ none kind cs b' todoH) :=
  Asrt.eval (n := 400) (m := 16) (orc := []) (πl := [0, 1, 3, 2, 174]) (nx' := 175) (far := far) (todo := todoA) (todo' := todoH) (l' := [some (.ro .i64 zs), some (box43 11), some (memS 3 ⟨2, 14, 0, 0, true, 12⟩), some (wordsOb (((((((((((((List.replicate 4096 0).set 2 1).set 4 2).set 5 3).set 6 4).set 7 5).set 8 6).set 9 7).set 10 8).set 11 9).set 12 10).set 13 11).set 14 0)), some (.mem (.cells nil15) 52 (some 5))]) (sl' := slH len cap 0) (B := true) E1_ok S1_ok kind cs hA
    (by kernel_rfl) rfl rfl rfl rfl rfl rfl (fun m => Nat.blt m 5) (p_ok rfl live5) (fun m hm => by rw [hβ] at hm; exact Nat.blt_eq.mpr (by omega)) (by rw [hβ]; kernel_rfl) (by kernel_rfl) (by kernel_rfl)

theorem fillN_11 (hβ : β.n0 = 0) (hA : Asrt β ⟨4, none, 69⟩ (trO (slots J 0 slN)) [] (hO (lN 11)) 1 far A) :
    ∃ J' b', Asrt β ⟨4, none, 69⟩ (trO (slots J' 0 (slE true))) [] (hO []) 0 far b' ∧ Steps Go.Proofs.Try.prog (At ⟨4, none, 69⟩ none kind cs A todoA) (At ⟨4, none, 69⟩ none kind cs b' [.code .ret]) :=
  Asrt.eval (n := 400) (m := 23) (orc := []) (πl := []) (nx' := 174) (far := far) (todo := todoA) (todo' := [.code .ret]) (l := lN 11) (l' := []) (sl' := slE true) (B := true) E1_ok S1_ok kind cs hA
    (by kernel_rfl) rfl rfl rfl rfl rfl rfl (fun m => Nat.blt m 0) (fun m hm => absurd (Nat.blt_eq.mp hm) (Nat.not_lt_zero _)) (fun m hm => by rw [hβ] at hm; exact absurd hm (Nat.not_lt_zero _)) (by rw [hβ]; kernel_rfl) (by kernel_rfl) (by kernel_rfl)

theorem fill4_12 (hβ : β.n0 = 1) (hA : Asrt β ⟨4, none, 69⟩ (trO (slots J 0 (slA (.slice 0 0 1 len cap)))) [] (hO (lA zs 12)) 2 far A) :
    ∃ J' b', Asrt β ⟨4, none, 69⟩ (trO (slots J' 0 (slH len cap 0))) [] (hO [some (.ro .i64 zs), some (box43 12), some (memS 3 ⟨2, 15, 0, 0, true, 13⟩), some (wordsOb ((((((((((((((List.replicate 4096 0).set 2 1).set 4 2).set 5 3).set 6 4).set 7 5).set 8 6).set 9 7).set 10 8).set 11 9).set 12 10).set 13 11).set 14 12).set 15 0)), some (.mem (.cells nil15) 52 (some 5))]) 5 far b' ∧ Steps Go.Proofs.Try.prog (At ⟨4, none, 69⟩ none kind cs A todoA) (At ⟨4, none, 69⟩ none kind cs b' todoH) :=
  Asrt.eval (n := 400) (m := 16) (orc := []) (πl := [0, 1, 3, 2, 188]) (nx' := 189) (far := far) (todo := todoA) (todo' := todoH) (l' := [some (.ro .i64 zs), some (box43 12), some (memS 3 ⟨2, 15, 0, 0, true, 13⟩), some (wordsOb ((((((((((((((List.replicate 4096 0).set 2 1).set 4 2).set 5 3).set 6 4).set 7 5).set 8 6).set 9 7).set 10 8).set 11 9).set 12 10).set 13 11).set 14 12).set 15 0)), some (.mem (.cells nil15) 52 (some 5))]) (sl' := slH len cap 0) (B := true) E1_ok S1_ok kind cs hA
    (by kernel_rfl) rfl rfl rfl rfl rfl rfl (fun m => Nat.blt m 5) (p_ok rfl live5) (fun m hm => by rw [hβ] at hm; exact Nat.blt_eq.mpr (by omega)) (by rw [hβ]; kernel_rfl) (by kernel_rfl) (by kernel_rfl)

theorem fillN_12 (hβ : β.n0 = 0) (hA : Asrt β ⟨4, none, 69⟩ (trO (slots J 0 slN)) [] (hO (lN 12)) 1 far A) :
    ∃ J' b', Asrt β ⟨4, none, 69⟩ (trO (slots J' 0 (slE true))) [] (hO []) 0 far b' ∧ Steps Go.Proofs.Try.prog (At ⟨4, none, 69⟩ none kind cs A todoA) (At ⟨4, none, 69⟩ none kind cs b' [.code .ret]) :=
  Asrt.eval (n := 400) (m := 23) (orc := []) (πl := []) (nx' := 188) (far := far) (todo := todoA) (todo' := [.code .ret]) (l := lN 12) (l' := []) (sl' := slE true) (B := true) E1_ok S1_ok kind cs hA
    (by kernel_rfl) rfl rfl rfl rfl rfl rfl (fun m => Nat.blt m 0) (fun m hm => absurd (Nat.blt_eq.mp hm) (Nat.not_lt_zero _)) (fun m hm => by rw [hβ] at hm; exact absurd hm (Nat.not_lt_zero _)) (by rw [hβ]; kernel_rfl) (by kernel_rfl) (by kernel_rfl)

end
end Go.Sx

