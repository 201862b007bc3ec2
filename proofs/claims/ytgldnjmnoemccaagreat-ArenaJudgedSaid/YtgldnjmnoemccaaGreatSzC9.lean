/- ArenaJudged: its summaries. -/
import Derived.Test.YtgldnjmnoemccaaGreatSzC5
namespace Go.Sx
set_option maxRecDepth 100000
/-- A closed call: what it lays is not asked for. -/
theorem closed_call {P : Program} {E : Env} (hE : EnvOK P E) (hS : SumOK P E) {n : Nat} {f : FuncId} {b : Bool} (h : (callX (exec E n) E f [] ⟨.nil, 0, [], [], []⟩).map (·.1) = some (.bool b)) (hob : (callX (exec E n) E f [] ⟨.nil, 0, [], [], []⟩).map (fun r => allB r.2.obl) = some true) (s : St) :
    CallOK P f [] s (.bool b) s ∧ ∀ av w, (callFunc f av).run P w = .ok (.enter f av) w := by
  cases hr : callX (exec E n) E f [] ⟨.nil, 0, [], [], []⟩ with
  | none => rw [hr] at h; cases h
  | some r =>
    obtain ⟨v, s1⟩ := r
    rw [hr] at h hob
    cases h
    have ho : Obl s1 := allB_ok (by simpa using hob)
    obtain ⟨c1, c2, c3, c4⟩ := call_ok hE hS n f [] _ _ _ hr ho
    refine ⟨?_, c4⟩
    intro D L w kind cs av hSR hav hD
    obtain ⟨L1, w1, val, m1, m2, m3, fr', m4, m5⟩ := c3 (fun _ => False) L w kind cs av (fun L' _ => ⟨fun n o ho => (by cases ho), fun n m on om hn => (by cases hn)⟩) (fun L' _ => by rw [hav L (.refl _ _)]; rfl) (fun n hn => hn.elim)
    have hkeep : ∀ k, k < w.heap.size → w1.heap[k]? = w.heap[k]? := fun k hk => m1.frame k hk fun n o ho => by cases ho
    refine ⟨L, w1, val, ⟨.refl _ _, m1.size, fun k hk _ => hkeep k hk, fun n o k ho hr hk => .inr ⟨n, o, ho, hr, hk⟩, m1.os, m1.tape, m1.output, fun _ _ h _ => h⟩, ?_, fun L'' _ => m3 L1 (.refl _ _), fr', m4, m5⟩
    rw [grow_self rfl]
    intro L' hL'
    have h0 := hSR L' hL'
    exact ⟨fun n o ho => (h0.ob n o ho).keep m1.size (fun k _ hk => hkeep k hk), h0.inj⟩
def smKn (args : List V) (s : St) : Option (V × St) :=
  match args with
  | [] => some (.bool true, s)
  | _ => none
theorem smKn_sm : SmOK Go.Proofs.Tryz.prog 4 smKn := by
  refine ⟨fun args s v s' h ho => ?_, Go.Proofs.Tryz.call4⟩
  unfold smKn at h
  split at h
  · cases h
    exact ⟨.refl _, ho, (closed_call (n := 400) F0_ok S0_ok (by kernel_rfl) (by kernel_rfl) s).1⟩
  · cases h
/-- The number chosen. -/
def smPk (p : Int) (args : List V) (s : St) : Option (V × St) :=
  match args with
  | [.int .i64 x, .int .i64 k] => (chk (decide (k = 4))).bind fun _ => (need (decide (pickF x 4 = p)) s).bind fun s1 => some (.int .i64 p, s1)
  | _ => none
theorem smPk_sm (p : Int) : SmOK Go.Proofs.Tryz.prog 6 (smPk p) := by
  refine ⟨fun args s v s' h ho => ?_, Go.Proofs.Tryz.call6⟩
  unfold smPk at h
  split at h
  · rename_i x k
    simp only [Option.bind_eq_some_iff] at h
    obtain ⟨_, h1, s1, h2, h3⟩ := h
    obtain rfl := chk_dec h1
    cases h3
    obtain ⟨hd, hq⟩ := need_ok h2 ho
    have hd := of_decide_eq_true hd
    subst hd
    refine ⟨Lg.of_same hq.1, hq.2, ?_⟩
    exact embed0 (l := []) (pick_call x 4 (by decide)) (fun m hm => absurd hm (Nat.not_lt_zero _)) (by kernel_rfl) (by kernel_rfl) [] rfl (fun m o ho => by simp at ho) List.nodup_nil rfl hq.1 rfl
  · cases h
noncomputable def smsJ (p : Int) (σ' : AS) : List (Nat × SmF) := [(6, smPk p), (4, smKn), (7, smPl σ'), (8, smOrd)]
noncomputable def FJ (p : Int) (σ' : AS) : Env := envOf tabT tabF (smOf (smsJ p σ')) seT
theorem FJ_ok (p : Int) (σ' : AS) : EnvOK Go.Proofs.Tryz.prog (FJ p σ') := env_ok _
theorem SJ_ok (p : Int) (σ' : AS) : SumOK Go.Proofs.Tryz.prog (FJ p σ') := sumOK_of rfl ⟨smPk_sm p, smKn_sm, smPl_sm σ', smOrd_sm, trivial⟩
noncomputable def FN (p : Int) : Env := envOf tabT tabF (smOf [(6, smPk p), (4, smKn)]) seT
theorem FN_ok (p : Int) : EnvOK Go.Proofs.Tryz.prog (FN p) := env_ok _
theorem SN_ok (p : Int) : SumOK Go.Proofs.Tryz.prog (FN p) := sumOK_of rfl ⟨smPk_sm p, smKn_sm, trivial⟩
end Go.Sx
/- ArenaJudged: its walk. Printed by gen_C10.py. -/
namespace Go.Sx
set_option maxRecDepth 100000
abbrev fr3 : Frs := ⟨3, none, 57⟩
def σ0z : AS := σE 1 ⟨0, 0, 0, 0, false, 0⟩ [] [] 0 0 0 [] 0
noncomputable def f3Body : Code := bodyOf Go.Proofs.Tryz.f3
noncomputable def todoB : List Item := ((ctlN (FJ 0 σ0z) (exec (FJ 0 σ0z) 400) fr3 11 [.code f3Body] (Tr.ofList [.int .i64 0, .slice 0 0 1 1 1]) [] ⟨trO [some (.ro .i64 [0])], 1, [], [], []⟩).map (·.1)).getD []
noncomputable def todoL3 : List Item := ((ctlN (FJ 0 σ0z) (exec (FJ 0 σ0z) 400) fr3 10 [.code f3Body] (Tr.ofList [.int .i64 0, .slice 0 0 1 71 71]) [] ⟨trO [some (.ro .i64 [0])], 1, [], [], []⟩).map (·.1)).getD []
def slB (len cap : Nat) : List (Option V) := [none, some (.slice 0 0 1 len cap), none, none, none, some (.bool true), some (.ptr 1 0 0 0)] ++ List.replicate 50 none
def σ9 : AS := σE 1 ⟨0, 0, 0, 0, false, 0⟩ [] [] 0 0 0 (List.replicate 9 []) 0
noncomputable def todoM3 : List Item := ((ctlN (FJ 0 σ9) (exec (FJ 0 σ9) 400) fr3 11 todoB (trO (slots (fun _ => undefV) 0 (slB 1 1))) [] ⟨trO (l0 [0] 1 ⟨0, 0, 0, 0, false, 0⟩ []), 8, bits 7 0b0001001, [], []⟩).map (·.1)).getD []
def slT : List (Option V) := [none, none, none, none, some (.bool true)] ++ List.replicate 52 none
section
variable {β : Base} {kind : CallKind} {cs : List Frame} {J : Nat → V} {A : Cf} {zs : List Int} {len cap : Nat} {z : Int}
theorem long3 (hβ : β.n0 = 1) (hA : Asrt β fr3 (Tr.ofList [.int .i64 z, .slice 0 0 1 len cap]) [] (hO [some (.ro .i64 zs)]) 1 far A) (h : (len : Int) > 70) :
    ∃ J' b', Asrt β fr3 (trO (slots J' 0 slT)) [] (hO [some (.ro .i64 zs)]) 1 far b' ∧ Steps Go.Proofs.Tryz.prog (At fr3 none kind cs A [.code f3Body]) (At fr3 none kind cs b' todoL3) :=
  Asrt.eval (n := 400) (m := 10) (orc := [(0, true)]) (πl := [0]) (nx' := 1) (far := far) (todo := [.code f3Body]) (todo' := todoL3) (l' := [some (.ro .i64 zs)]) (sl' := slT) (B := allB [decide ((len : Int) > 70)]) (FJ_ok 0 σ0z) (SJ_ok 0 σ0z) kind cs hA
    (by kernel_rfl) (by simp [allB, h]) rfl rfl rfl rfl rfl (fun m => Nat.blt m 1) (p_all rfl rfl) (fun m hm => by rw [hβ] at hm; exact Nat.blt_eq.mpr hm) (by rw [hβ]; kernel_rfl) (by kernel_rfl) (by kernel_rfl)
def ws1 : List Int := (((((List.replicate 4096 0).set 0 1).set 1 0).set 3 0).set 2 1)
def j1 : MJ := ⟨2, 2, 0, 1, true, 4⟩
theorem a3_1 (hβ : β.n0 = 1) (hA : Asrt β fr3 (Tr.ofList [.int .i64 z, .slice 0 0 1 len cap]) [] (hO [some (.ro .i64 zs)]) 1 far A) (h : ¬ (len : Int) > 70) (hp : pickF z 4 = 0) :
    ∃ J' b', Asrt β fr3 (trO (slots J' 0 (slB len cap))) [] (hO (l0 zs 1 j1 ws1)) 8 far b' ∧ Steps Go.Proofs.Tryz.prog (At fr3 none kind cs A [.code f3Body]) (At fr3 none kind cs b' todoB) :=
  Asrt.eval (n := 400) (m := 11) (orc := bits 193 0b0100000011110111011111000000111110000000011111111111000000000000000100000011111111110000001111100000000111111111110000000000000001000000111000000000000000100000011110000000000000010000001110111) (πl := [0, 46, 3, 2, 42, 43, 44, 45]) (nx' := 47) (far := far) (todo := [.code f3Body]) (todo' := todoB) (l' := l0 zs 1 j1 ws1) (sl' := slB len cap) (B := allB [decide (pickF z 4 = 0), !(decide ((len : Int) > 70))]) (FJ_ok 0 σ0z) (SJ_ok 0 σ0z) kind cs hA
    (by kernel_rfl) (by rw [decide_eq_true hp, decide_eq_false h]; rfl) rfl rfl rfl rfl rfl (fun m => Nat.blt m 8) (p_all rfl rfl) (fun m hm => by rw [hβ] at hm; exact Nat.blt_eq.mpr (by omega)) (by rw [hβ]; kernel_rfl) (by kernel_rfl) (by kernel_rfl)
theorem b3_1 {j : MJ} {ws : List Int} {σ' : AS} (hβ : β.n0 = 1) (hA : Asrt β fr3 (trO (slots J 0 (slB len cap))) [] (hO (l0 zs 1 j ws)) 8 far A) (h1 : PlaysTo zs len cap 1 j ws (σz σ')) (h2 : σ'.cl.length ≤ 8 → 0 ≤ σ'.n ∧ OrdPre σ'.cl σ'.n.toNat) :
    ∃ J' b' todo, Asrt β fr3 (trO (slots J' 0 slT)) [] (hO [some (.ro .i64 zs)]) 1 far b' ∧ Steps Go.Proofs.Tryz.prog (At fr3 none kind cs A todoB) (At fr3 none kind cs b' todo) ∧ ∃ k, todo = .code .ret :: k := by
  by_cases h : (σ'.cl.length : Int) > 8
  · obtain ⟨J', b', g1, g2⟩ := Asrt.eval (n := 400) (m := 11) (orc := bits 7 0b0001001) (πl := [0]) (nx' := 10) (far := far) (todo := todoB) (todo' := todoM3) (l' := [some (.ro .i64 zs)]) (sl' := slT) (B := allB [decide ((σ'.cl.length : Int) > 8), propB (PlaysTo zs len cap 1 j ws (σz σ'))]) (FJ_ok 0 σ') (SJ_ok 0 σ') kind cs hA (by kernel_rfl) (by rw [decide_eq_true h, propB_iff.2 h1]; rfl) rfl rfl rfl rfl rfl (fun m => Nat.blt m 1) (p_all rfl rfl) (fun m hm => by rw [hβ] at hm; exact Nat.blt_eq.mpr hm) (by rw [hβ]; kernel_rfl) (by kernel_rfl) (by kernel_rfl)
    exact ⟨J', b', _, g1, g2, todoM3.tail, by kernel_rfl⟩
  · obtain ⟨J', b', g1, g2⟩ := Asrt.eval (n := 400) (m := 14) (orc := bits 11 0b00010001111) (πl := [0]) (nx' := 11) (far := far) (todo := todoB) (todo' := [.code .ret]) (l' := [some (.ro .i64 zs)]) (sl' := slT) (B := allB [propB (0 ≤ σ'.n ∧ OrdPre σ'.cl σ'.n.toNat), !(decide ((σ'.cl.length : Int) > 8)), propB (PlaysTo zs len cap 1 j ws (σz σ'))]) (FJ_ok 0 σ') (SJ_ok 0 σ') kind cs hA (by kernel_rfl) (by rw [decide_eq_false h, propB_iff.2 h1, propB_iff.2 (h2 (by omega))]; rfl) rfl rfl rfl rfl rfl (fun m => Nat.blt m 1) (p_all rfl rfl) (fun m hm => by rw [hβ] at hm; exact Nat.blt_eq.mpr hm) (by rw [hβ]; kernel_rfl) (by kernel_rfl) (by kernel_rfl)
    exact ⟨J', b', _, g1, g2, [], rfl⟩
theorem n3_1 (hβ : β.n0 = 0) (hA : Asrt β fr3 (Tr.ofList [.int .i64 z, .nils]) [] (hO []) 0 far A) (hp : pickF z 4 = 0) :
    ∃ J' b', Asrt β fr3 (trO (slots J' 0 slT)) [] (hO []) 0 far b' ∧ Steps Go.Proofs.Tryz.prog (At fr3 none kind cs A [.code f3Body]) (At fr3 none kind cs b' [.code .ret]) :=
  Asrt.eval (n := 400) (m := 25) (orc := bits 271 0b0100000011110111011111000000111110000000011111111111000000000000000100000011111111110000001111100000000111111111110000000000000001000000111000000000000000100000011110000000000000010000001110111000011101110111001100000101000000101000000000000011010000111111110111011000111) (πl := []) (nx' := 52) (far := far) (todo := [.code f3Body]) (todo' := [.code .ret]) (l := []) (l' := []) (sl' := slT) (B := allB [decide (pickF z 4 = 0)]) (FN_ok 0) (SN_ok 0) kind cs hA
    (by kernel_rfl) (by rw [decide_eq_true hp]; rfl) (by kernel_rfl) (by kernel_rfl) (by kernel_rfl) (by kernel_rfl) (by kernel_rfl) (fun _ => false) (fun m hm => by cases hm) (fun m hm => by rw [hβ] at hm; exact absurd hm (Nat.not_lt_zero _)) (by rw [hβ]; kernel_rfl) (by kernel_rfl) (by kernel_rfl)
def ws2 : List Int := (((((((List.replicate 4096 0).set 0 1).set 1 2).set 2 0).set 5 0).set 3 1).set 4 1)
def j2 : MJ := ⟨2, 4, 0, 1, true, 6⟩
theorem a3_2 (hβ : β.n0 = 1) (hA : Asrt β fr3 (Tr.ofList [.int .i64 z, .slice 0 0 1 len cap]) [] (hO [some (.ro .i64 zs)]) 1 far A) (h : ¬ (len : Int) > 70) (hp : pickF z 4 = 1) :
    ∃ J' b', Asrt β fr3 (trO (slots J' 0 (slB len cap))) [] (hO (l0 zs 2 j2 ws2)) 8 far b' ∧ Steps Go.Proofs.Tryz.prog (At fr3 none kind cs A [.code f3Body]) (At fr3 none kind cs b' todoB) :=
  Asrt.eval (n := 400) (m := 11) (orc := bits 280 0b0100000011110111011111000000111110000000011111111111000000000000000100000011110111110000001111100000000111111111110000000000000001000000111111111100000011111000000001111111111100000000000000010000001110000000000000001000000111100000000000000100000011110000000000000010000001110111) (πl := [0, 63, 3, 2, 59, 60, 61, 62]) (nx' := 64) (far := far) (todo := [.code f3Body]) (todo' := todoB) (l' := l0 zs 2 j2 ws2) (sl' := slB len cap) (B := allB [decide (pickF z 4 = 1), !(decide ((len : Int) > 70))]) (FJ_ok 1 σ0z) (SJ_ok 1 σ0z) kind cs hA
    (by kernel_rfl) (by rw [decide_eq_true hp, decide_eq_false h]; rfl) rfl rfl rfl rfl rfl (fun m => Nat.blt m 8) (p_all rfl rfl) (fun m hm => by rw [hβ] at hm; exact Nat.blt_eq.mpr (by omega)) (by rw [hβ]; kernel_rfl) (by kernel_rfl) (by kernel_rfl)
theorem b3_2 {j : MJ} {ws : List Int} {σ' : AS} (hβ : β.n0 = 1) (hA : Asrt β fr3 (trO (slots J 0 (slB len cap))) [] (hO (l0 zs 2 j ws)) 8 far A) (h1 : PlaysTo zs len cap 2 j ws (σz σ')) (h2 : σ'.cl.length ≤ 8 → 0 ≤ σ'.n ∧ OrdPre σ'.cl σ'.n.toNat) :
    ∃ J' b' todo, Asrt β fr3 (trO (slots J' 0 slT)) [] (hO [some (.ro .i64 zs)]) 1 far b' ∧ Steps Go.Proofs.Tryz.prog (At fr3 none kind cs A todoB) (At fr3 none kind cs b' todo) ∧ ∃ k, todo = .code .ret :: k := by
  by_cases h : (σ'.cl.length : Int) > 8
  · obtain ⟨J', b', g1, g2⟩ := Asrt.eval (n := 400) (m := 11) (orc := bits 7 0b0001001) (πl := [0]) (nx' := 10) (far := far) (todo := todoB) (todo' := todoM3) (l' := [some (.ro .i64 zs)]) (sl' := slT) (B := allB [decide ((σ'.cl.length : Int) > 8), propB (PlaysTo zs len cap 2 j ws (σz σ'))]) (FJ_ok 0 σ') (SJ_ok 0 σ') kind cs hA (by kernel_rfl) (by rw [decide_eq_true h, propB_iff.2 h1]; rfl) rfl rfl rfl rfl rfl (fun m => Nat.blt m 1) (p_all rfl rfl) (fun m hm => by rw [hβ] at hm; exact Nat.blt_eq.mpr hm) (by rw [hβ]; kernel_rfl) (by kernel_rfl) (by kernel_rfl)
    exact ⟨J', b', _, g1, g2, todoM3.tail, by kernel_rfl⟩
  · obtain ⟨J', b', g1, g2⟩ := Asrt.eval (n := 400) (m := 14) (orc := bits 11 0b00010001111) (πl := [0]) (nx' := 11) (far := far) (todo := todoB) (todo' := [.code .ret]) (l' := [some (.ro .i64 zs)]) (sl' := slT) (B := allB [propB (0 ≤ σ'.n ∧ OrdPre σ'.cl σ'.n.toNat), !(decide ((σ'.cl.length : Int) > 8)), propB (PlaysTo zs len cap 2 j ws (σz σ'))]) (FJ_ok 0 σ') (SJ_ok 0 σ') kind cs hA (by kernel_rfl) (by rw [decide_eq_false h, propB_iff.2 h1, propB_iff.2 (h2 (by omega))]; rfl) rfl rfl rfl rfl rfl (fun m => Nat.blt m 1) (p_all rfl rfl) (fun m hm => by rw [hβ] at hm; exact Nat.blt_eq.mpr hm) (by rw [hβ]; kernel_rfl) (by kernel_rfl) (by kernel_rfl)
    exact ⟨J', b', _, g1, g2, [], rfl⟩
theorem n3_2 (hβ : β.n0 = 0) (hA : Asrt β fr3 (Tr.ofList [.int .i64 z, .nils]) [] (hO []) 0 far A) (hp : pickF z 4 = 1) :
    ∃ J' b', Asrt β fr3 (trO (slots J' 0 slT)) [] (hO []) 0 far b' ∧ Steps Go.Proofs.Tryz.prog (At fr3 none kind cs A [.code f3Body]) (At fr3 none kind cs b' [.code .ret]) :=
  Asrt.eval (n := 400) (m := 25) (orc := bits 363 0b010000001111011101111100000011111000000001111111111100000000000000010000001111011111000000111110000000011111111111000000000000000100000011111111110000001111100000000111111111110000000000000001000000111000000000000000100000011110000000000000010000001111000000000000001000000111011100001110111011100110000010100000010100000000000001101000011111111111110111011000111) (πl := []) (nx' := 71) (far := far) (todo := [.code f3Body]) (todo' := [.code .ret]) (l := []) (l' := []) (sl' := slT) (B := allB [decide (pickF z 4 = 1)]) (FN_ok 1) (SN_ok 1) kind cs hA
    (by kernel_rfl) (by rw [decide_eq_true hp]; rfl) (by kernel_rfl) (by kernel_rfl) (by kernel_rfl) (by kernel_rfl) (by kernel_rfl) (fun _ => false) (fun m hm => by cases hm) (fun m hm => by rw [hβ] at hm; exact absurd hm (Nat.not_lt_zero _)) (by rw [hβ]; kernel_rfl) (by kernel_rfl) (by kernel_rfl)
def ws3 : List Int := (((((((((List.replicate 4096 0).set 0 1).set 1 2).set 2 3).set 3 0).set 7 0).set 4 1).set 5 1).set 6 1)
def j3 : MJ := ⟨2, 6, 0, 1, true, 8⟩
theorem a3_3 (hβ : β.n0 = 1) (hA : Asrt β fr3 (Tr.ofList [.int .i64 z, .slice 0 0 1 len cap]) [] (hO [some (.ro .i64 zs)]) 1 far A) (h : ¬ (len : Int) > 70) (hp : pickF z 4 = 2) :
    ∃ J' b', Asrt β fr3 (trO (slots J' 0 (slB len cap))) [] (hO (l0 zs 3 j3 ws3)) 8 far b' ∧ Steps Go.Proofs.Tryz.prog (At fr3 none kind cs A [.code f3Body]) (At fr3 none kind cs b' todoB) :=
  Asrt.eval (n := 400) (m := 11) (orc := bits 367 0b0100000011110111011111000000111110000000011111111111000000000000000100000011110111110000001111100000000111111111110000000000000001000000111101111100000011111000000001111111111100000000000000010000001111111111000000111110000000011111111111000000000000000100000011100000000000000010000001111000000000000001000000111100000000000000100000011110000000000000010000001110111) (πl := [0, 80, 3, 2, 76, 77, 78, 79]) (nx' := 81) (far := far) (todo := [.code f3Body]) (todo' := todoB) (l' := l0 zs 3 j3 ws3) (sl' := slB len cap) (B := allB [decide (pickF z 4 = 2), !(decide ((len : Int) > 70))]) (FJ_ok 2 σ0z) (SJ_ok 2 σ0z) kind cs hA
    (by kernel_rfl) (by rw [decide_eq_true hp, decide_eq_false h]; rfl) rfl rfl rfl rfl rfl (fun m => Nat.blt m 8) (p_all rfl rfl) (fun m hm => by rw [hβ] at hm; exact Nat.blt_eq.mpr (by omega)) (by rw [hβ]; kernel_rfl) (by kernel_rfl) (by kernel_rfl)
theorem b3_3 {j : MJ} {ws : List Int} {σ' : AS} (hβ : β.n0 = 1) (hA : Asrt β fr3 (trO (slots J 0 (slB len cap))) [] (hO (l0 zs 3 j ws)) 8 far A) (h1 : PlaysTo zs len cap 3 j ws (σz σ')) (h2 : σ'.cl.length ≤ 8 → 0 ≤ σ'.n ∧ OrdPre σ'.cl σ'.n.toNat) :
    ∃ J' b' todo, Asrt β fr3 (trO (slots J' 0 slT)) [] (hO [some (.ro .i64 zs)]) 1 far b' ∧ Steps Go.Proofs.Tryz.prog (At fr3 none kind cs A todoB) (At fr3 none kind cs b' todo) ∧ ∃ k, todo = .code .ret :: k := by
  by_cases h : (σ'.cl.length : Int) > 8
  · obtain ⟨J', b', g1, g2⟩ := Asrt.eval (n := 400) (m := 11) (orc := bits 7 0b0001001) (πl := [0]) (nx' := 10) (far := far) (todo := todoB) (todo' := todoM3) (l' := [some (.ro .i64 zs)]) (sl' := slT) (B := allB [decide ((σ'.cl.length : Int) > 8), propB (PlaysTo zs len cap 3 j ws (σz σ'))]) (FJ_ok 0 σ') (SJ_ok 0 σ') kind cs hA (by kernel_rfl) (by rw [decide_eq_true h, propB_iff.2 h1]; rfl) rfl rfl rfl rfl rfl (fun m => Nat.blt m 1) (p_all rfl rfl) (fun m hm => by rw [hβ] at hm; exact Nat.blt_eq.mpr hm) (by rw [hβ]; kernel_rfl) (by kernel_rfl) (by kernel_rfl)
    exact ⟨J', b', _, g1, g2, todoM3.tail, by kernel_rfl⟩
  · obtain ⟨J', b', g1, g2⟩ := Asrt.eval (n := 400) (m := 14) (orc := bits 11 0b00010001111) (πl := [0]) (nx' := 11) (far := far) (todo := todoB) (todo' := [.code .ret]) (l' := [some (.ro .i64 zs)]) (sl' := slT) (B := allB [propB (0 ≤ σ'.n ∧ OrdPre σ'.cl σ'.n.toNat), !(decide ((σ'.cl.length : Int) > 8)), propB (PlaysTo zs len cap 3 j ws (σz σ'))]) (FJ_ok 0 σ') (SJ_ok 0 σ') kind cs hA (by kernel_rfl) (by rw [decide_eq_false h, propB_iff.2 h1, propB_iff.2 (h2 (by omega))]; rfl) rfl rfl rfl rfl rfl (fun m => Nat.blt m 1) (p_all rfl rfl) (fun m hm => by rw [hβ] at hm; exact Nat.blt_eq.mpr hm) (by rw [hβ]; kernel_rfl) (by kernel_rfl) (by kernel_rfl)
    exact ⟨J', b', _, g1, g2, [], rfl⟩
theorem n3_3 (hβ : β.n0 = 0) (hA : Asrt β fr3 (Tr.ofList [.int .i64 z, .nils]) [] (hO []) 0 far A) (hp : pickF z 4 = 2) :
    ∃ J' b', Asrt β fr3 (trO (slots J' 0 slT)) [] (hO []) 0 far b' ∧ Steps Go.Proofs.Tryz.prog (At fr3 none kind cs A [.code f3Body]) (At fr3 none kind cs b' [.code .ret]) :=
  Asrt.eval (n := 400) (m := 25) (orc := bits 455 0b01000000111101110111110000001111100000000111111111110000000000000001000000111101111100000011111000000001111111111100000000000000010000001111011111000000111110000000011111111111000000000000000100000011111111110000001111100000000111111111110000000000000001000000111000000000000000100000011110000000000000010000001111000000000000001000000111100000000000000100000011101110000111011101110011000001010000001010000000000000110100001111111111111111110111011000111) (πl := []) (nx' := 90) (far := far) (todo := [.code f3Body]) (todo' := [.code .ret]) (l := []) (l' := []) (sl' := slT) (B := allB [decide (pickF z 4 = 2)]) (FN_ok 2) (SN_ok 2) kind cs hA
    (by kernel_rfl) (by rw [decide_eq_true hp]; rfl) (by kernel_rfl) (by kernel_rfl) (by kernel_rfl) (by kernel_rfl) (by kernel_rfl) (fun _ => false) (fun m hm => by cases hm) (fun m hm => by rw [hβ] at hm; exact absurd hm (Nat.not_lt_zero _)) (by rw [hβ]; kernel_rfl) (by kernel_rfl) (by kernel_rfl)
def ws4 : List Int := (((((((((((List.replicate 4096 0).set 0 1).set 1 2).set 2 3).set 3 4).set 4 0).set 9 0).set 5 1).set 6 1).set 7 1).set 8 1)
def j4 : MJ := ⟨2, 8, 0, 1, true, 10⟩
theorem a3_4 (hβ : β.n0 = 1) (hA : Asrt β fr3 (Tr.ofList [.int .i64 z, .slice 0 0 1 len cap]) [] (hO [some (.ro .i64 zs)]) 1 far A) (h : ¬ (len : Int) > 70) (hp : pickF z 4 = 3) :
    ∃ J' b', Asrt β fr3 (trO (slots J' 0 (slB len cap))) [] (hO (l0 zs 4 j4 ws4)) 8 far b' ∧ Steps Go.Proofs.Tryz.prog (At fr3 none kind cs A [.code f3Body]) (At fr3 none kind cs b' todoB) :=
  Asrt.eval (n := 400) (m := 11) (orc := bits 454 0b0100000011110111011111000000111110000000011111111111000000000000000100000011110111110000001111100000000111111111110000000000000001000000111101111100000011111000000001111111111100000000000000010000001111011111000000111110000000011111111111000000000000000100000011111111110000001111100000000111111111110000000000000001000000111000000000000000100000011110000000000000010000001111000000000000001000000111100000000000000100000011110000000000000010000001110111) (πl := [0, 97, 3, 2, 93, 94, 95, 96]) (nx' := 98) (far := far) (todo := [.code f3Body]) (todo' := todoB) (l' := l0 zs 4 j4 ws4) (sl' := slB len cap) (B := allB [decide (pickF z 4 = 3), !(decide ((len : Int) > 70))]) (FJ_ok 3 σ0z) (SJ_ok 3 σ0z) kind cs hA
    (by kernel_rfl) (by rw [decide_eq_true hp, decide_eq_false h]; rfl) rfl rfl rfl rfl rfl (fun m => Nat.blt m 8) (p_all rfl rfl) (fun m hm => by rw [hβ] at hm; exact Nat.blt_eq.mpr (by omega)) (by rw [hβ]; kernel_rfl) (by kernel_rfl) (by kernel_rfl)
theorem b3_4 {j : MJ} {ws : List Int} {σ' : AS} (hβ : β.n0 = 1) (hA : Asrt β fr3 (trO (slots J 0 (slB len cap))) [] (hO (l0 zs 4 j ws)) 8 far A) (h1 : PlaysTo zs len cap 4 j ws (σz σ')) (h2 : σ'.cl.length ≤ 8 → 0 ≤ σ'.n ∧ OrdPre σ'.cl σ'.n.toNat) :
    ∃ J' b' todo, Asrt β fr3 (trO (slots J' 0 slT)) [] (hO [some (.ro .i64 zs)]) 1 far b' ∧ Steps Go.Proofs.Tryz.prog (At fr3 none kind cs A todoB) (At fr3 none kind cs b' todo) ∧ ∃ k, todo = .code .ret :: k := by
  by_cases h : (σ'.cl.length : Int) > 8
  · obtain ⟨J', b', g1, g2⟩ := Asrt.eval (n := 400) (m := 11) (orc := bits 7 0b0001001) (πl := [0]) (nx' := 10) (far := far) (todo := todoB) (todo' := todoM3) (l' := [some (.ro .i64 zs)]) (sl' := slT) (B := allB [decide ((σ'.cl.length : Int) > 8), propB (PlaysTo zs len cap 4 j ws (σz σ'))]) (FJ_ok 0 σ') (SJ_ok 0 σ') kind cs hA (by kernel_rfl) (by rw [decide_eq_true h, propB_iff.2 h1]; rfl) rfl rfl rfl rfl rfl (fun m => Nat.blt m 1) (p_all rfl rfl) (fun m hm => by rw [hβ] at hm; exact Nat.blt_eq.mpr hm) (by rw [hβ]; kernel_rfl) (by kernel_rfl) (by kernel_rfl)
    exact ⟨J', b', _, g1, g2, todoM3.tail, by kernel_rfl⟩
  · obtain ⟨J', b', g1, g2⟩ := Asrt.eval (n := 400) (m := 14) (orc := bits 11 0b00010001111) (πl := [0]) (nx' := 11) (far := far) (todo := todoB) (todo' := [.code .ret]) (l' := [some (.ro .i64 zs)]) (sl' := slT) (B := allB [propB (0 ≤ σ'.n ∧ OrdPre σ'.cl σ'.n.toNat), !(decide ((σ'.cl.length : Int) > 8)), propB (PlaysTo zs len cap 4 j ws (σz σ'))]) (FJ_ok 0 σ') (SJ_ok 0 σ') kind cs hA (by kernel_rfl) (by rw [decide_eq_false h, propB_iff.2 h1, propB_iff.2 (h2 (by omega))]; rfl) rfl rfl rfl rfl rfl (fun m => Nat.blt m 1) (p_all rfl rfl) (fun m hm => by rw [hβ] at hm; exact Nat.blt_eq.mpr hm) (by rw [hβ]; kernel_rfl) (by kernel_rfl) (by kernel_rfl)
    exact ⟨J', b', _, g1, g2, [], rfl⟩
theorem n3_4 (hβ : β.n0 = 0) (hA : Asrt β fr3 (Tr.ofList [.int .i64 z, .nils]) [] (hO []) 0 far A) (hp : pickF z 4 = 3) :
    ∃ J' b', Asrt β fr3 (trO (slots J' 0 slT)) [] (hO []) 0 far b' ∧ Steps Go.Proofs.Tryz.prog (At fr3 none kind cs A [.code f3Body]) (At fr3 none kind cs b' [.code .ret]) :=
  Asrt.eval (n := 400) (m := 25) (orc := bits 547 0b0100000011110111011111000000111110000000011111111111000000000000000100000011110111110000001111100000000111111111110000000000000001000000111101111100000011111000000001111111111100000000000000010000001111011111000000111110000000011111111111000000000000000100000011111111110000001111100000000111111111110000000000000001000000111000000000000000100000011110000000000000010000001111000000000000001000000111100000000000000100000011110000000000000010000001110111000011101110111001100000101000000101000000000000011010000111111111111111111111110111011000111) (πl := []) (nx' := 109) (far := far) (todo := [.code f3Body]) (todo' := [.code .ret]) (l := []) (l' := []) (sl' := slT) (B := allB [decide (pickF z 4 = 3)]) (FN_ok 3) (SN_ok 3) kind cs hA
    (by kernel_rfl) (by rw [decide_eq_true hp]; rfl) (by kernel_rfl) (by kernel_rfl) (by kernel_rfl) (by kernel_rfl) (by kernel_rfl) (fun _ => false) (fun m hm => by cases hm) (fun m hm => by rw [hβ] at hm; exact absurd hm (Nat.not_lt_zero _)) (by rw [hβ]; kernel_rfl) (by kernel_rfl) (by kernel_rfl)
end
end Go.Sx
