/- Is a number one of some: the contract of Among. -/
import Derived.Test.YtmmcpgjfkphgaaaGreatSmB0
namespace Go.Sx
set_option maxRecDepth 100000
def rowU (ws : List Int) : Ob := .mem (.words .u64 ws) 57 (some 1)
/-- What a part of a row holds. -/
def part (ws : List Int) (st ln : Nat) : List Int := (ws.drop st).take ln
theorem part_length {ws : List Int} {st ln : Nat} (h : st + ln ≤ ws.length) : (part ws st ln).length = ln := by simp [part]; omega
theorem part_getD {ws : List Int} {st ln i : Nat} (h : st + ln ≤ ws.length) (hi : i < ln) : (part ws st ln).getD i 0 = ws.getD (st + i) 0 := by
  simp only [part, List.getD_eq_getElem?_getD, List.getElem?_take, if_pos hi, List.getElem?_drop]
theorem part_mem {ws : List Int} {st ln : Nat} {x : Int} (h : st + ln ≤ ws.length) : x ∈ part ws st ln ↔ ∃ i, i < ln ∧ ws.getD (st + i) 0 = x := by
  constructor
  · intro hx
    obtain ⟨i, hi⟩ := List.getElem?_of_mem hx
    have hlt : i < (part ws st ln).length := (List.getElem?_eq_some_iff.1 hi).1
    rw [part_length h] at hlt
    refine ⟨i, hlt, ?_⟩
    rw [← part_getD h hlt, List.getD_eq_getElem?_getD, hi]; rfl
  · rintro ⟨i, hi, hx⟩
    rw [← part_getD h hi] at hx
    have hlt : i < (part ws st ln).length := by rw [part_length h]; exact hi
    rw [List.getD_eq_getElem?_getD, List.getElem?_eq_getElem hlt] at hx
    simp only [Option.getD_some] at hx
    rw [← hx]; exact List.getElem_mem _

noncomputable def todoAm : List Item := ((ctlN F0 (exec F0 400) ⟨49, none, 18⟩ 7 [.code (bodyOf Go.Proofs.Tryz.f49)] (Tr.ofList [.osv 0 1 0 0 1, .int .i64 5]) [] ⟨trO [some (rowI [1])], 1, [], [], []⟩).map (·.1)).getD []
noncomputable def todoAmF : List Item := ((ctlN F0 (exec F0 400) ⟨49, none, 18⟩ 19 [.code (bodyOf Go.Proofs.Tryz.f49)] (Tr.ofList [.osv 0 1 0 0 1, .int .i64 1]) [] ⟨trO [some (rowI [1])], 1, [], [], []⟩).map (·.1)).getD []
def slAm (bs st ln : Nat) (n : Int) (i : Int) : List (Option V) := [some (.osv 0 1 bs st ln), some (.int .i64 n), none, none, none, some (.int .i64 i)] ++ List.replicate 12 none
def slAmE (b : Bool) : List (Option V) := [none, none, none, none, some (.bool b)] ++ List.replicate 13 none
section
variable {β : Base} {kind : CallKind} {cs : List Frame} {J : Nat → V} {a : Cf} {ws : List Int} {bs st ln : Nat} {n i : Int}

theorem live1 {o : Ob} : ∀ m, m < 1 → ∃ q, (([some o] : List (Option Ob))[m]?).join = some q := by
  intro m hm
  match m, hm with
  | 0, _ => exact ⟨_, rfl⟩

theorem amStart (hβ : β.n0 = 1) (hA : Asrt β ⟨49, none, 18⟩ (Tr.ofList [.osv 0 1 bs st ln, .int .i64 n]) [] (hO [some (rowI ws)]) 1 far a) :
    ∃ J' b', Asrt β ⟨49, none, 18⟩ (trO (slots J' 0 (slAm bs st ln n 0))) [] (hO [some (rowI ws)]) 1 far b' ∧ Steps Go.Proofs.Tryz.prog (At ⟨49, none, 18⟩ none kind cs a [.code (bodyOf Go.Proofs.Tryz.f49)]) (At ⟨49, none, 18⟩ none kind cs b' todoAm) :=
  Asrt.eval (n := 400) (m := 7) (orc := []) (πl := [0]) (nx' := 1) (far := far) (todo := [.code (bodyOf Go.Proofs.Tryz.f49)]) (todo' := todoAm) (l' := [some (rowI ws)]) (sl' := slAm bs st ln n 0) (B := true) F0_ok S0_ok kind cs hA
    (by kernel_rfl) rfl rfl rfl rfl rfl rfl (fun m => Nat.blt m 1) (p_ok rfl live1) (fun m hm => by rw [hβ] at hm; exact Nat.blt_eq.mpr hm) (by rw [hβ]; kernel_rfl) (by kernel_rfl) (by kernel_rfl)

theorem amIter (hβ : β.n0 = 1) (hA : Asrt β ⟨49, none, 18⟩ (trO (slots J 0 (slAm bs st ln n i))) [] (hO [some (rowI ws)]) 1 far a)
    (hB : allB [!(ws.getD (st + i.toNat) 0 == n), decide (st + i.toNat < ws.length), decide (st + ln ≤ ws.length), decide (0 ≤ i ∧ i < (ln : Int)), decide (i < (ln : Int))] = true) :
    ∃ J' b', Asrt β ⟨49, none, 18⟩ (trO (slots J' 0 (slAm bs st ln n (IntKind.i64.wrap (i + 1))))) [] (hO [some (rowI ws)]) 1 far b' ∧ Steps Go.Proofs.Tryz.prog (At ⟨49, none, 18⟩ none kind cs a todoAm) (At ⟨49, none, 18⟩ none kind cs b' todoAm) :=
  Asrt.eval (n := 400) (m := 14) (orc := bits 5 0b11110) (πl := [0]) (nx' := 1) (far := far) (todo := todoAm) (todo' := todoAm) (l' := [some (rowI ws)]) (sl' := slAm bs st ln n (IntKind.i64.wrap (i + 1))) F0_ok S0_ok kind cs hA
    (by kernel_rfl) hB rfl rfl rfl rfl rfl (fun m => Nat.blt m 1) (p_ok rfl live1) (fun m hm => by rw [hβ] at hm; exact Nat.blt_eq.mpr hm) (by rw [hβ]; kernel_rfl) (by kernel_rfl) (by kernel_rfl)

theorem amFound (hβ : β.n0 = 1) (hA : Asrt β ⟨49, none, 18⟩ (trO (slots J 0 (slAm bs st ln n i))) [] (hO [some (rowI ws)]) 1 far a)
    (hB : allB [(ws.getD (st + i.toNat) 0 == n), decide (st + i.toNat < ws.length), decide (st + ln ≤ ws.length), decide (0 ≤ i ∧ i < (ln : Int)), decide (i < (ln : Int))] = true) :
    ∃ J' b', Asrt β ⟨49, none, 18⟩ (trO (slots J' 0 (slAmE true))) [] (hO [some (rowI ws)]) 1 far b' ∧ Steps Go.Proofs.Tryz.prog (At ⟨49, none, 18⟩ none kind cs a todoAm) (At ⟨49, none, 18⟩ none kind cs b' todoAmF) :=
  Asrt.eval (n := 400) (m := 12) (orc := bits 5 0b11111) (πl := [0]) (nx' := 1) (far := far) (todo := todoAm) (todo' := todoAmF) (l' := [some (rowI ws)]) (sl' := slAmE true) F0_ok S0_ok kind cs hA
    (by kernel_rfl) hB rfl rfl rfl rfl rfl (fun m => Nat.blt m 1) (p_ok rfl live1) (fun m hm => by rw [hβ] at hm; exact Nat.blt_eq.mpr hm) (by rw [hβ]; kernel_rfl) (by kernel_rfl) (by kernel_rfl)

theorem amExit (hβ : β.n0 = 1) (hA : Asrt β ⟨49, none, 18⟩ (trO (slots J 0 (slAm bs st ln n i))) [] (hO [some (rowI ws)]) 1 far a) (h : ¬ i < (ln : Int)) :
    ∃ J' b', Asrt β ⟨49, none, 18⟩ (trO (slots J' 0 (slAmE false))) [] (hO [some (rowI ws)]) 1 far b' ∧ Steps Go.Proofs.Tryz.prog (At ⟨49, none, 18⟩ none kind cs a todoAm) (At ⟨49, none, 18⟩ none kind cs b' [.code .ret]) :=
  Asrt.eval (n := 400) (m := 7) (orc := bits 1 0) (πl := [0]) (nx' := 1) (far := far) (todo := todoAm) (todo' := [.code .ret]) (l' := [some (rowI ws)]) (sl' := slAmE false) (B := allB [!(decide (i < (ln : Int)))]) F0_ok S0_ok kind cs hA
    (by kernel_rfl) (by simp only [allB, decide_eq_false h]; rfl) rfl rfl rfl rfl rfl (fun m => Nat.blt m 1) (p_ok rfl live1) (fun m hm => by rw [hβ] at hm; exact Nat.blt_eq.mpr hm) (by rw [hβ]; kernel_rfl) (by kernel_rfl) (by kernel_rfl)

theorem amLoop (hβ : β.n0 = 1) (hw : st + ln ≤ ws.length) (hbig : ln ≤ 1048576) : ∀ (d : Nat) (J : Nat → V) (a : Cf) (i : Nat), ln = i + d → (∀ k, k < i → ws.getD (st + k) 0 ≠ n) → Asrt β ⟨49, none, 18⟩ (trO (slots J 0 (slAm bs st ln n (i : Int)))) [] (hO [some (rowI ws)]) 1 far a →
    ∃ J' b' todo, Asrt β ⟨49, none, 18⟩ (trO (slots J' 0 (slAmE (decide (n ∈ part ws st ln))))) [] (hO [some (rowI ws)]) 1 far b' ∧ Steps Go.Proofs.Tryz.prog (At ⟨49, none, 18⟩ none kind cs a todoAm) (At ⟨49, none, 18⟩ none kind cs b' todo) ∧ ∃ k, todo = .code .ret :: k := by
  intro d
  induction d with
  | zero =>
    intro J a i hd hno hA
    obtain ⟨J', b', h1, h2⟩ := amExit (kind := kind) (cs := cs) hβ hA (by omega)
    have hf : decide (n ∈ part ws st ln) = false := decide_eq_false fun h => by
      obtain ⟨k, hk, he⟩ := (part_mem hw).1 h
      exact hno k (by omega) he
    rw [← hf] at h1
    exact ⟨J', b', _, h1, h2, [], rfl⟩
  | succ d ih =>
    intro J a i hd hno hA
    by_cases he : ws.getD (st + i) 0 = n
    · obtain ⟨J', b', h1, h2⟩ := amFound (kind := kind) (cs := cs) hβ hA (by simp only [allB_iff, List.forall_mem_cons, decide_eq_true_eq, Int.toNat_natCast, beq_iff_eq]; exact ⟨he, by omega, hw, by omega, by omega, fun _ hb => by cases hb⟩)
      have hf : decide (n ∈ part ws st ln) = true := decide_eq_true ((part_mem hw).2 ⟨i, by omega, he⟩)
      rw [← hf] at h1
      exact ⟨J', b', _, h1, h2, _, rfl⟩
    · obtain ⟨J1, b1, h1, h2⟩ := amIter (kind := kind) (cs := cs) hβ hA (by simp only [allB_iff, List.forall_mem_cons, decide_eq_true_eq, Int.toNat_natCast, Bool.not_eq_true', beq_eq_false_iff_ne]; exact ⟨he, by omega, hw, by omega, by omega, fun _ hb => by cases hb⟩)
      rw [wrap_i64 (by omega) (by omega)] at h1
      obtain ⟨J2, b2, todo, h3, h4, h5⟩ := ih J1 b1 (i + 1) (by omega) (fun k hk => by
        by_cases hki : k = i
        · subst hki; exact he
        · exact hno k (by omega)) (by exact_mod_cast h1)
      exact ⟨J2, b2, todo, h3, h2.trans h4, h5⟩

theorem among_call (hw : st + ln ≤ ws.length) (hbig : ln ≤ 1048576) : CallH Go.Proofs.Tryz.prog 49 [.osv 0 1 bs st ln, .int .i64 n] 1 (hO [some (rowI ws)]) (.bool (decide (n ∈ part ws st ln))) 1 (hO [some (rowI ws)]) := by
  refine callH_of (c := bodyOf Go.Proofs.Tryz.f49) (t := 4) (hi := far) Go.Proofs.Tryz.func49 (by kernel_rfl) (Nat.blt_eq.mp (by kernel_rfl)) (by kernel_rfl) (Nat.ble_eq.mp (by kernel_rfl)) (fun m o ho => ?_) (fun m o ho hr => ?_) rfl ?_
  · have := obsOK_ok (p := fun m => Nat.blt m 1) [some (rowI ws)] 0 (by kernel_rfl) m o ho
    rw [blt_fun] at this
    exact ⟨by simpa using this.2.1, this.2.2⟩
  · rw [noRo_ok [some (rowI ws)] (by kernel_rfl) m o ho] at hr; cases hr
  · intro L w kind cs a hA
    obtain ⟨J1, b1, h1, h2⟩ := amStart (kind := kind) (cs := cs) rfl hA
    obtain ⟨J2, b2, todo, h3, h4, h5⟩ := amLoop (kind := kind) (cs := cs) rfl hw hbig ln J1 b1 0 (by omega) (fun k hk => absurd hk (Nat.not_lt_zero _)) h1
    exact ⟨b2, _, 1, far, todo, h3, rfl, h2.trans h4, .inr h5⟩
end

/-- The summary. -/
def smAm (args : List V) (s : St) : Option (V × St) :=
  match args with
  | [x, .int .i64 n] => (nrm .i64 3 x s).bind fun r => match r with
    | ((_, _, st, ln, ws), s1) => (need (decide (ln ≤ 1048576)) s1).bind fun s2 => some (.bool (decide (n ∈ part ws st ln)), s2)
  | _ => none

theorem smAm_ok {args : List V} {s s' : St} {v : V} (h : smAm args s = some (v, s')) (ho : Obl s') : Lg s s' ∧ Obl s ∧ CallOK Go.Proofs.Tryz.prog 49 args s v s' := by
  unfold smAm at h
  split at h
  · rename_i x n
    obtain ⟨⟨⟨m, b, st, ln, ws⟩, s1⟩, h1, h2⟩ := bind_some' h
    obtain ⟨s2, h3, h4⟩ := bind_some' h2
    cases h4
    obtain ⟨hd, hq⟩ := need_ok h3 ho
    have hd : ln ≤ 1048576 := of_decide_eq_true hd
    obtain ⟨g1, g2, g3, g4, g5, g6⟩ := nrm_ok h1 hq.2
    refine ⟨g1.trans (.of_same hq.1), g2, ?_⟩
    have hcall : CallOK Go.Proofs.Tryz.prog 49 [.osv m 1 b st ln, .int .i64 n] s' (.bool (decide (n ∈ part ws st ln))) s' :=
      embedRO (l := [some (rowI ws)]) (ac := [.osv 0 1 b st ln, .int .i64 n]) (vc := .bool (decide (n ∈ part ws st ln))) (among_call g4 hd) (fun m hm => live1 m hm) (by kernel_rfl) (by kernel_rfl) [m] rfl (fun q o ho => by
        match q, ho with
        | 0, ho => cases ho; rw [hq.1.H]; exact g3) (by simp) rfl rfl
    refine CallOK.gh hcall (by rw [hq.1.nx]; exact g1.le) (Nat.le_refl _) (fun D L w hSR hD hst => ?_)
    have e1 : s'.nx = s1.nx := hq.1.nx
    have e2 : s'.H = s1.H := hq.1.H
    rw [e1] at hD
    obtain ⟨L', k1, k2⟩ := g6 D L w hSR hD
    refine ⟨L', ⟨by rw [e1]; exact k1.le, k1.agree, by rw [e1, e2]; exact k1.sr, fun n o b ho => by rw [e2] at ho; exact k1.sub n o b ho, fun n o ho => by rw [e2] at ho; exact k1.ro n o ho⟩, fun L'' hL'' => ?_⟩
    rw [e1] at hL''
    simp only [List.map_cons, List.map_nil, k2 L'' hL'']
    rfl
  · cases h
theorem smAm_sm : SmOK Go.Proofs.Tryz.prog 49 smAm := ⟨fun _ _ _ _ h ho => smAm_ok h ho, Go.Proofs.Tryz.call49⟩
end Go.Sx
/- left and ready: their contracts. -/
namespace Go.Sx
set_option maxRecDepth 100000
def smsA : List (Nat × SmF) := [(49, smAm)]
noncomputable def F1 : Env := envOf tabT tabF (smOf smsA) seT imT pzT
theorem F1_ok : EnvOK Go.Proofs.Tryz.prog F1 := env_ok _
theorem smsA_ok : AllSm Go.Proofs.Tryz.prog smsA := ⟨smAm_sm, trivial⟩
theorem S1_ok : SumOK Go.Proofs.Tryz.prog F1 := sumOK_of rfl smsA_ok

def lLf (cl : List (List Int)) (ws : List Int) : List (Option Ob) := [some (callsOb cl), some (rowI ws)]
noncomputable def todoLf : List Item := ((ctlN F1 (exec F1 400) ⟨28, none, 24⟩ 7 [.code (bodyOf Go.Proofs.Tryz.f28)] (Tr.ofList [.osl 0 10, .osv 1 1 0 0 1]) [] ⟨trO (lLf [[1,1,1,1,1,1,1,1,1,1]] [1]), 2, [], [], []⟩).map (·.1)).getD []
noncomputable def todoLfF : List Item := ((ctlN F1 (exec F1 400) ⟨28, none, 24⟩ 19 [.code (bodyOf Go.Proofs.Tryz.f28)] (Tr.ofList [.osl 0 10, .osv 1 1 0 0 1]) [] ⟨trO (lLf [[1,1,1,1,1,1,1,1,1,1]] [1]), 2, [], [], []⟩).map (·.1)).getD []
def slLf (bs st ln : Nat) (i : Int) : List (Option V) := [some (.osl 0 10), some (.osv 1 1 bs st ln), none, none, none, some (.int .i64 i)] ++ List.replicate 18 none
def slLfE (b : Bool) : List (Option V) := [none, none, none, none, some (.bool b)] ++ List.replicate 19 none
noncomputable def todoRd : List Item := ((ctlN F1 (exec F1 400) ⟨29, none, 37⟩ 12 [.code (bodyOf Go.Proofs.Tryz.f29)] (Tr.ofList [.osl 0 10, .osv 1 1 0 0 1, .int .i64 0]) [] ⟨trO (lLf [[1,1,1,1,1,1,1,1,1,1]] [1]), 2, bits 3 0b110, [], []⟩).map (·.1)).getD []
noncomputable def todoRdN : List Item := ((ctlN F1 (exec F1 400) ⟨29, none, 37⟩ 8 [.code (bodyOf Go.Proofs.Tryz.f29)] (Tr.ofList [.osl 0 10, .osv 1 1 0 0 1, .int .i64 0]) [] ⟨trO (lLf [[1,1,1,1,1,1,1,1,1,1]] [1]), 2, bits 3 0b111, [], []⟩).map (·.1)).getD []
noncomputable def todoRdF : List Item := ((ctlN F1 (exec F1 400) ⟨29, none, 37⟩ 12 todoRd (Tr.ofList [.osl 0 10, .osv 1 1 0 0 1, .int .i64 5, .nilp, .nilp, .nilp, .nilp, .int .i64 0]) [] ⟨trO (lLf [[1,1,1,1,1,1,1,1,1,1]] [1]), 2, bits 44 0b11111111111111111111111111111111111111111111, [], []⟩).map (·.1)).getD []
def slRd (bs st ln : Nat) (k i : Int) : List (Option V) := [some (.osl 0 10), some (.osv 1 1 bs st ln), some (.int .i64 k), none, none, none, none, some (.int .i64 i)] ++ List.replicate 29 none
def slRdE (b : Bool) : List (Option V) := [none, none, none, none, none, none, some (.bool b)] ++ List.replicate 30 none
/-- Is a call left? (All have ended.) -/
def leftP (n : Nat) (D : List Int) : Bool := (List.range n).any fun i => !decide ((i : Int) ∈ D)
/-- Is one call over ahead of the other? -/
def aheadP (x y : List Int) : Bool := decide (x.getD 2 0 < y.getD 1 0)
def readyP (cl : List (List Int)) (D : List Int) (k : Nat) : Bool := cond (decide ((k : Int) ∈ D)) false ((List.range cl.length).all fun i => cond (decide (i = k)) true (cond (decide ((i : Int) ∈ D)) true (!(aheadP (cl.getD i []) (cl.getD k [])))))
/-- All calls have ended. -/
def Ended (cl : List (List Int)) : Prop := ∀ i, i < cl.length → 0 ≤ (cl.getD i []).getD 2 0

section
variable {β : Base} {kind : CallKind} {cs : List Frame} {J : Nat → V} {a : Cf} {cl : List (List Int)} {ws : List Int} {bs st ln : Nat} {i : Int}

theorem live2 {o q : Ob} : ∀ m, m < 2 → ∃ r, (([some o, some q] : List (Option Ob))[m]?).join = some r := by
  intro m hm
  match m, hm with
  | 0, _ => exact ⟨_, rfl⟩
  | 1, _ => exact ⟨_, rfl⟩

abbrev frLf : Frs := ⟨28, none, 24⟩
theorem lfStart (hβ : β.n0 = 2) (hA : Asrt β frLf (Tr.ofList [.osl 0 10, .osv 1 1 bs st ln]) [] (hO (lLf cl ws)) 2 far a) :
    ∃ J' b', Asrt β frLf (trO (slots J' 0 (slLf bs st ln 0))) [] (hO (lLf cl ws)) 2 far b' ∧ Steps Go.Proofs.Tryz.prog (At frLf none kind cs a [.code (bodyOf Go.Proofs.Tryz.f28)]) (At frLf none kind cs b' todoLf) :=
  Asrt.eval (n := 400) (m := 7) (orc := []) (πl := [0, 1]) (nx' := 2) (far := far) (todo := [.code (bodyOf Go.Proofs.Tryz.f28)]) (todo' := todoLf) (l' := lLf cl ws) (sl' := slLf bs st ln 0) (B := true) F1_ok S1_ok kind cs hA
    (by kernel_rfl) rfl rfl rfl rfl rfl rfl (fun m => Nat.blt m 2) (p_ok rfl live2) (fun m hm => by rw [hβ] at hm; exact Nat.blt_eq.mpr hm) (by rw [hβ]; kernel_rfl) (by kernel_rfl) (by kernel_rfl)
theorem lfIter (hβ : β.n0 = 2) (hA : Asrt β frLf (trO (slots J 0 (slLf bs st ln i))) [] (hO (lLf cl ws)) 2 far a)
    (hB : allB [!(!(decide (i ∈ part ws st ln))), decide (ln ≤ 1048576), decide (st + ln ≤ ws.length), decide (0 ≤ (cl.getD i.toNat []).getD 2 0), decide (i.toNat < cl.length), decide (0 ≤ i ∧ i < (cl.length : Int)), decide (i < (cl.length : Int))] = true) :
    ∃ J' b', Asrt β frLf (trO (slots J' 0 (slLf bs st ln (IntKind.i64.wrap (i + 1))))) [] (hO (lLf cl ws)) 2 far b' ∧ Steps Go.Proofs.Tryz.prog (At frLf none kind cs a todoLf) (At frLf none kind cs b' todoLf) :=
  Asrt.eval (n := 400) (m := 14) (orc := bits 10 0b1111111110) (πl := [0, 1]) (nx' := 2) (far := far) (todo := todoLf) (todo' := todoLf) (l' := lLf cl ws) (sl' := slLf bs st ln (IntKind.i64.wrap (i + 1))) F1_ok S1_ok kind cs hA
    (by kernel_rfl) hB rfl rfl rfl rfl rfl (fun m => Nat.blt m 2) (p_ok rfl live2) (fun m hm => by rw [hβ] at hm; exact Nat.blt_eq.mpr hm) (by rw [hβ]; kernel_rfl) (by kernel_rfl) (by kernel_rfl)
theorem lfFound (hβ : β.n0 = 2) (hA : Asrt β frLf (trO (slots J 0 (slLf bs st ln i))) [] (hO (lLf cl ws)) 2 far a)
    (hB : allB [!(decide (i ∈ part ws st ln)), decide (ln ≤ 1048576), decide (st + ln ≤ ws.length), decide (0 ≤ (cl.getD i.toNat []).getD 2 0), decide (i.toNat < cl.length), decide (0 ≤ i ∧ i < (cl.length : Int)), decide (i < (cl.length : Int))] = true) :
    ∃ J' b', Asrt β frLf (trO (slots J' 0 (slLfE true))) [] (hO (lLf cl ws)) 2 far b' ∧ Steps Go.Proofs.Tryz.prog (At frLf none kind cs a todoLf) (At frLf none kind cs b' todoLfF) :=
  Asrt.eval (n := 400) (m := 12) (orc := bits 10 0b1111111111) (πl := [0, 1]) (nx' := 2) (far := far) (todo := todoLf) (todo' := todoLfF) (l' := lLf cl ws) (sl' := slLfE true) F1_ok S1_ok kind cs hA
    (by kernel_rfl) hB rfl rfl rfl rfl rfl (fun m => Nat.blt m 2) (p_ok rfl live2) (fun m hm => by rw [hβ] at hm; exact Nat.blt_eq.mpr hm) (by rw [hβ]; kernel_rfl) (by kernel_rfl) (by kernel_rfl)
theorem lfExit (hβ : β.n0 = 2) (hA : Asrt β frLf (trO (slots J 0 (slLf bs st ln i))) [] (hO (lLf cl ws)) 2 far a) (h : ¬ i < (cl.length : Int)) :
    ∃ J' b', Asrt β frLf (trO (slots J' 0 (slLfE false))) [] (hO (lLf cl ws)) 2 far b' ∧ Steps Go.Proofs.Tryz.prog (At frLf none kind cs a todoLf) (At frLf none kind cs b' [.code .ret]) :=
  Asrt.eval (n := 400) (m := 7) (orc := bits 1 0) (πl := [0, 1]) (nx' := 2) (far := far) (todo := todoLf) (todo' := [.code .ret]) (l' := lLf cl ws) (sl' := slLfE false) (B := allB [!(decide (i < (cl.length : Int)))]) F1_ok S1_ok kind cs hA
    (by kernel_rfl) (by simp only [allB, decide_eq_false h]; rfl) rfl rfl rfl rfl rfl (fun m => Nat.blt m 2) (p_ok rfl live2) (fun m hm => by rw [hβ] at hm; exact Nat.blt_eq.mpr hm) (by rw [hβ]; kernel_rfl) (by kernel_rfl) (by kernel_rfl)

theorem lfLoop (hβ : β.n0 = 2) (hw : st + ln ≤ ws.length) (hbig : ln ≤ 1048576) (hn : cl.length ≤ 1048576) (hE : Ended cl) : ∀ (d : Nat) (J : Nat → V) (a : Cf) (i : Nat), cl.length = i + d → (∀ k, k < i → (k : Int) ∈ part ws st ln) → Asrt β frLf (trO (slots J 0 (slLf bs st ln (i : Int)))) [] (hO (lLf cl ws)) 2 far a →
    ∃ J' b' todo, Asrt β frLf (trO (slots J' 0 (slLfE (leftP cl.length (part ws st ln))))) [] (hO (lLf cl ws)) 2 far b' ∧ Steps Go.Proofs.Tryz.prog (At frLf none kind cs a todoLf) (At frLf none kind cs b' todo) ∧ ∃ k, todo = .code .ret :: k := by
  intro d
  induction d with
  | zero =>
    intro J a i hd hno hA
    obtain ⟨J', b', h1, h2⟩ := lfExit (kind := kind) (cs := cs) hβ hA (by omega)
    have hf : leftP cl.length (part ws st ln) = false := by
      unfold leftP
      rw [List.any_eq_false]
      intro k hk
      simp only [List.mem_range] at hk
      simp [hno k (by omega)]
    rw [← hf] at h1
    exact ⟨J', b', _, h1, h2, [], rfl⟩
  | succ d ih =>
    intro J a i hd hno hA
    have h0 := hE i (by omega)
    by_cases he : (i : Int) ∈ part ws st ln
    · obtain ⟨J1, b1, h1, h2⟩ := lfIter (kind := kind) (cs := cs) hβ hA (by simp only [allB_iff, List.forall_mem_cons, decide_eq_true_eq, Int.toNat_natCast, Bool.not_not]; exact ⟨he, hbig, hw, h0, by omega, by omega, by omega, fun _ hb => by cases hb⟩)
      rw [wrap_i64 (by omega) (by omega)] at h1
      obtain ⟨J2, b2, todo, h3, h4, h5⟩ := ih J1 b1 (i + 1) (by omega) (fun k hk => by
        by_cases hki : k = i
        · subst hki; exact he
        · exact hno k (by omega)) (by exact_mod_cast h1)
      exact ⟨J2, b2, todo, h3, h2.trans h4, h5⟩
    · obtain ⟨J', b', h1, h2⟩ := lfFound (kind := kind) (cs := cs) hβ hA (by simp only [allB_iff, List.forall_mem_cons, decide_eq_true_eq, Int.toNat_natCast, Bool.not_eq_true', decide_eq_false_iff_not]; exact ⟨he, hbig, hw, h0, by omega, by omega, by omega, fun _ hb => by cases hb⟩)
      have hf : leftP cl.length (part ws st ln) = true := by
        unfold leftP
        rw [List.any_eq_true]
        exact ⟨i, List.mem_range.2 (by omega), by simp [he]⟩
      rw [← hf] at h1
      exact ⟨J', b', _, h1, h2, _, rfl⟩

theorem left_call (hw : st + ln ≤ ws.length) (hbig : ln ≤ 1048576) (hn : cl.length ≤ 1048576) (hE : Ended cl) : CallH Go.Proofs.Tryz.prog 28 [.osl 0 10, .osv 1 1 bs st ln] 2 (hO (lLf cl ws)) (.bool (leftP cl.length (part ws st ln))) 2 (hO (lLf cl ws)) := by
  refine callH_of (c := bodyOf Go.Proofs.Tryz.f28) (t := 4) (hi := far) Go.Proofs.Tryz.func28 (by kernel_rfl) (Nat.blt_eq.mp (by kernel_rfl)) (by kernel_rfl) (Nat.ble_eq.mp (by kernel_rfl)) (fun m o ho => ?_) (fun m o ho hr => ?_) rfl ?_
  · have := obsOK_ok (p := fun m => Nat.blt m 2) (lLf cl ws) 0 (by kernel_rfl) m o ho
    rw [blt_fun] at this
    exact ⟨by simpa using this.2.1, this.2.2⟩
  · rw [noRo_ok (lLf cl ws) (by kernel_rfl) m o ho] at hr; cases hr
  · intro L w kind cs a hA
    obtain ⟨J1, b1, h1, h2⟩ := lfStart (kind := kind) (cs := cs) rfl hA
    obtain ⟨J2, b2, todo, h3, h4, h5⟩ := lfLoop (kind := kind) (cs := cs) rfl hw hbig hn hE cl.length J1 b1 0 (by omega) (fun k hk => absurd hk (Nat.not_lt_zero _)) h1
    exact ⟨b2, _, 2, far, todo, h3, rfl, h2.trans h4, .inr h5⟩

abbrev frRd : Frs := ⟨29, none, 37⟩
variable {k : Int}
theorem rdStart (hβ : β.n0 = 2) (hA : Asrt β frRd (Tr.ofList [.osl 0 10, .osv 1 1 bs st ln, .int .i64 k]) [] (hO (lLf cl ws)) 2 far a) (hw : st + ln ≤ ws.length) (hbig : ln ≤ 1048576) (hk : ¬ k ∈ part ws st ln) :
    ∃ J' b', Asrt β frRd (trO (slots J' 0 (slRd bs st ln k 0))) [] (hO (lLf cl ws)) 2 far b' ∧ Steps Go.Proofs.Tryz.prog (At frRd none kind cs a [.code (bodyOf Go.Proofs.Tryz.f29)]) (At frRd none kind cs b' todoRd) :=
  Asrt.eval (n := 400) (m := 12) (orc := bits 3 0b110) (πl := [0, 1]) (nx' := 2) (far := far) (todo := [.code (bodyOf Go.Proofs.Tryz.f29)]) (todo' := todoRd) (l' := lLf cl ws) (sl' := slRd bs st ln k 0) (B := allB [!(decide (k ∈ part ws st ln)), decide (ln ≤ 1048576), decide (st + ln ≤ ws.length)]) F1_ok S1_ok kind cs hA
    (by kernel_rfl) (by simp [allB, hk, hw, hbig]) rfl rfl rfl rfl rfl (fun m => Nat.blt m 2) (p_ok rfl live2) (fun m hm => by rw [hβ] at hm; exact Nat.blt_eq.mpr hm) (by rw [hβ]; kernel_rfl) (by kernel_rfl) (by kernel_rfl)
theorem rdNot (hβ : β.n0 = 2) (hA : Asrt β frRd (Tr.ofList [.osl 0 10, .osv 1 1 bs st ln, .int .i64 k]) [] (hO (lLf cl ws)) 2 far a) (hw : st + ln ≤ ws.length) (hbig : ln ≤ 1048576) (hk : k ∈ part ws st ln) :
    ∃ J' b', Asrt β frRd (trO (slots J' 0 (slRdE false))) [] (hO (lLf cl ws)) 2 far b' ∧ Steps Go.Proofs.Tryz.prog (At frRd none kind cs a [.code (bodyOf Go.Proofs.Tryz.f29)]) (At frRd none kind cs b' todoRdN) :=
  Asrt.eval (n := 400) (m := 8) (orc := bits 3 0b111) (πl := [0, 1]) (nx' := 2) (far := far) (todo := [.code (bodyOf Go.Proofs.Tryz.f29)]) (todo' := todoRdN) (l' := lLf cl ws) (sl' := slRdE false) (B := allB [decide (k ∈ part ws st ln), decide (ln ≤ 1048576), decide (st + ln ≤ ws.length)]) F1_ok S1_ok kind cs hA
    (by kernel_rfl) (by simp [allB, hk, hw, hbig]) rfl rfl rfl rfl rfl (fun m => Nat.blt m 2) (p_ok rfl live2) (fun m hm => by rw [hβ] at hm; exact Nat.blt_eq.mpr hm) (by rw [hβ]; kernel_rfl) (by kernel_rfl) (by kernel_rfl)
theorem rdExit (hβ : β.n0 = 2) (hA : Asrt β frRd (trO (slots J 0 (slRd bs st ln k i))) [] (hO (lLf cl ws)) 2 far a) (h : ¬ i < (cl.length : Int)) :
    ∃ J' b', Asrt β frRd (trO (slots J' 0 (slRdE true))) [] (hO (lLf cl ws)) 2 far b' ∧ Steps Go.Proofs.Tryz.prog (At frRd none kind cs a todoRd) (At frRd none kind cs b' [.code .ret]) :=
  Asrt.eval (n := 400) (m := 7) (orc := bits 1 0) (πl := [0, 1]) (nx' := 2) (far := far) (todo := todoRd) (todo' := [.code .ret]) (l' := lLf cl ws) (sl' := slRdE true) (B := allB [!(decide (i < (cl.length : Int)))]) F1_ok S1_ok kind cs hA
    (by kernel_rfl) (by simp only [allB, decide_eq_false h]; rfl) rfl rfl rfl rfl rfl (fun m => Nat.blt m 2) (p_ok rfl live2) (fun m hm => by rw [hβ] at hm; exact Nat.blt_eq.mpr hm) (by rw [hβ]; kernel_rfl) (by kernel_rfl) (by kernel_rfl)
theorem rdSelf (hβ : β.n0 = 2) (hA : Asrt β frRd (trO (slots J 0 (slRd bs st ln k i))) [] (hO (lLf cl ws)) 2 far a)
    (hB : allB [!(i != k), decide (i < (cl.length : Int))] = true) :
    ∃ J' b', Asrt β frRd (trO (slots J' 0 (slRd bs st ln k (IntKind.i64.wrap (i + 1))))) [] (hO (lLf cl ws)) 2 far b' ∧ Steps Go.Proofs.Tryz.prog (At frRd none kind cs a todoRd) (At frRd none kind cs b' todoRd) :=
  Asrt.eval (n := 400) (m := 14) (orc := bits 17 0b10000000000000000) (πl := [0, 1]) (nx' := 2) (far := far) (todo := todoRd) (todo' := todoRd) (l' := lLf cl ws) (sl' := slRd bs st ln k (IntKind.i64.wrap (i + 1))) F1_ok S1_ok kind cs hA
    (by kernel_rfl) hB rfl rfl rfl rfl rfl (fun m => Nat.blt m 2) (p_ok rfl live2) (fun m hm => by rw [hβ] at hm; exact Nat.blt_eq.mpr hm) (by rw [hβ]; kernel_rfl) (by kernel_rfl) (by kernel_rfl)
theorem rdDone (hβ : β.n0 = 2) (hA : Asrt β frRd (trO (slots J 0 (slRd bs st ln k i))) [] (hO (lLf cl ws)) 2 far a)
    (hB : allB [!(!(decide (i ∈ part ws st ln))), decide (ln ≤ 1048576), decide (st + ln ≤ ws.length), (i != k), decide (i < (cl.length : Int))] = true) :
    ∃ J' b', Asrt β frRd (trO (slots J' 0 (slRd bs st ln k (IntKind.i64.wrap (i + 1))))) [] (hO (lLf cl ws)) 2 far b' ∧ Steps Go.Proofs.Tryz.prog (At frRd none kind cs a todoRd) (At frRd none kind cs b' todoRd) :=
  Asrt.eval (n := 400) (m := 14) (orc := bits 18 0b111111100000000000) (πl := [0, 1]) (nx' := 2) (far := far) (todo := todoRd) (todo' := todoRd) (l' := lLf cl ws) (sl' := slRd bs st ln k (IntKind.i64.wrap (i + 1))) F1_ok S1_ok kind cs hA
    (by kernel_rfl) hB rfl rfl rfl rfl rfl (fun m => Nat.blt m 2) (p_ok rfl live2) (fun m hm => by rw [hβ] at hm; exact Nat.blt_eq.mpr hm) (by rw [hβ]; kernel_rfl) (by kernel_rfl) (by kernel_rfl)
def rdB (cl : List (List Int)) (ws : List Int) (st ln : Nat) (k i : Int) : List Bool := [decide (0 ≤ (cl.getD i.toNat []).getD 2 0)] ++ List.replicate 10 (decide (k.toNat < cl.length)) ++ [decide (0 ≤ k ∧ k < (cl.length : Int))] ++ List.replicate 10 (decide (i.toNat < cl.length)) ++
  [decide (0 ≤ i ∧ i < (cl.length : Int)), !(decide (i ∈ part ws st ln)), decide (ln ≤ 1048576), decide (st + ln ≤ ws.length), (i != k), decide (i < (cl.length : Int))]
theorem rdClear (hβ : β.n0 = 2) (hA : Asrt β frRd (trO (slots J 0 (slRd bs st ln k i))) [] (hO (lLf cl ws)) 2 far a)
    (hB : allB ((!(decide ((cl.getD i.toNat []).getD 2 0 < (cl.getD k.toNat []).getD 1 0))) :: rdB cl ws st ln k i) = true) :
    ∃ J' b', Asrt β frRd (trO (slots J' 0 (slRd bs st ln k (IntKind.i64.wrap (i + 1))))) [] (hO (lLf cl ws)) 2 far b' ∧ Steps Go.Proofs.Tryz.prog (At frRd none kind cs a todoRd) (At frRd none kind cs b' todoRd) :=
  Asrt.eval (n := 400) (m := 14) (orc := bits 44 0b11111111111111111111111111111111111111111110) (πl := [0, 1]) (nx' := 4) (far := far) (todo := todoRd) (todo' := todoRd) (l' := lLf cl ws) (sl' := slRd bs st ln k (IntKind.i64.wrap (i + 1))) F1_ok S1_ok kind cs hA
    (by kernel_rfl) hB rfl rfl rfl rfl rfl (fun m => Nat.blt m 2) (p_ok rfl live2) (fun m hm => by rw [hβ] at hm; exact Nat.blt_eq.mpr hm) (by rw [hβ]; kernel_rfl) (by kernel_rfl) (by kernel_rfl)
theorem rdAhead (hβ : β.n0 = 2) (hA : Asrt β frRd (trO (slots J 0 (slRd bs st ln k i))) [] (hO (lLf cl ws)) 2 far a)
    (hB : allB (decide ((cl.getD i.toNat []).getD 2 0 < (cl.getD k.toNat []).getD 1 0) :: rdB cl ws st ln k i) = true) :
    ∃ J' b', Asrt β frRd (trO (slots J' 0 (slRdE false))) [] (hO (lLf cl ws)) 2 far b' ∧ Steps Go.Proofs.Tryz.prog (At frRd none kind cs a todoRd) (At frRd none kind cs b' todoRdF) :=
  Asrt.eval (n := 400) (m := 12) (orc := bits 44 0b11111111111111111111111111111111111111111111) (πl := [0, 1]) (nx' := 4) (far := far) (todo := todoRd) (todo' := todoRdF) (l' := lLf cl ws) (sl' := slRdE false) F1_ok S1_ok kind cs hA
    (by kernel_rfl) hB rfl rfl rfl rfl rfl (fun m => Nat.blt m 2) (p_ok rfl live2) (fun m hm => by rw [hβ] at hm; exact Nat.blt_eq.mpr hm) (by rw [hβ]; kernel_rfl) (by kernel_rfl) (by kernel_rfl)

theorem rdB_ok {k i : Nat} (hk : k < cl.length) (hi : i < cl.length) (hw : st + ln ≤ ws.length) (hbig : ln ≤ 1048576) (hE : Ended cl) (hik : i ≠ k) (hno : ¬ (i : Int) ∈ part ws st ln) : ∀ b ∈ rdB cl ws st ln (k : Int) (i : Int), b = true := by
  have h0 := hE i hi
  intro b hb
  simp only [rdB, List.mem_append, List.mem_cons, List.mem_replicate, Int.toNat_natCast, List.not_mem_nil, or_false] at hb
  rcases hb with (((rfl | ⟨_, rfl⟩) | rfl) | ⟨_, rfl⟩) | rfl | rfl | rfl | rfl | rfl | rfl
  · exact decide_eq_true h0
  · exact decide_eq_true hk
  · exact decide_eq_true (by omega)
  · exact decide_eq_true hi
  · exact decide_eq_true (by omega)
  · simp [hno]
  · exact decide_eq_true hbig
  · exact decide_eq_true hw
  · simp; omega
  · exact decide_eq_true (by omega)

theorem rdLoop {k : Nat} (hβ : β.n0 = 2) (hw : st + ln ≤ ws.length) (hbig : ln ≤ 1048576) (hn : cl.length ≤ 1048576) (hE : Ended cl) (hk : k < cl.length) (hkD : ¬ (k : Int) ∈ part ws st ln) : ∀ (d : Nat) (J : Nat → V) (a : Cf) (i : Nat), cl.length = i + d →
    (∀ q, q < i → q = k ∨ (q : Int) ∈ part ws st ln ∨ ¬ (cl.getD q []).getD 2 0 < (cl.getD k []).getD 1 0) → Asrt β frRd (trO (slots J 0 (slRd bs st ln (k : Int) (i : Int)))) [] (hO (lLf cl ws)) 2 far a →
    ∃ J' b' todo, Asrt β frRd (trO (slots J' 0 (slRdE (readyP cl (part ws st ln) k)))) [] (hO (lLf cl ws)) 2 far b' ∧ Steps Go.Proofs.Tryz.prog (At frRd none kind cs a todoRd) (At frRd none kind cs b' todo) ∧ ∃ q, todo = .code .ret :: q := by
  intro d
  induction d with
  | zero =>
    intro J a i hd hno hA
    obtain ⟨J', b', h1, h2⟩ := rdExit (kind := kind) (cs := cs) hβ hA (by omega)
    have hf : readyP cl (part ws st ln) k = true := by
      simp only [readyP, decide_eq_false hkD, cond_false, List.all_eq_true, List.mem_range]
      intro q hq
      rcases hno q (by omega) with h | h | h
      · simp [h]
      · by_cases hqk : q = k
        · simp [hqk]
        · simp [hqk, h]
      · by_cases hqk : q = k
        · simp [hqk]
        · by_cases hqd : (q : Int) ∈ part ws st ln
          · simp [hqk, hqd]
          · simp only [decide_eq_false hqk, decide_eq_false hqd, cond_false, aheadP, decide_eq_false h, Bool.not_false]
    rw [← hf] at h1
    exact ⟨J', b', _, h1, h2, [], rfl⟩
  | succ d ih =>
    intro J a i hd hno hA
    have next : ∀ (J1 : Nat → V) (b1 : Cf), (i = k ∨ (i : Int) ∈ part ws st ln ∨ ¬ (cl.getD i []).getD 2 0 < (cl.getD k []).getD 1 0) → Asrt β frRd (trO (slots J1 0 (slRd bs st ln (k : Int) (IntKind.i64.wrap ((i : Int) + 1))))) [] (hO (lLf cl ws)) 2 far b1 → Steps Go.Proofs.Tryz.prog (At frRd none kind cs a todoRd) (At frRd none kind cs b1 todoRd) →
        ∃ J' b' todo, Asrt β frRd (trO (slots J' 0 (slRdE (readyP cl (part ws st ln) k)))) [] (hO (lLf cl ws)) 2 far b' ∧ Steps Go.Proofs.Tryz.prog (At frRd none kind cs a todoRd) (At frRd none kind cs b' todo) ∧ ∃ q, todo = .code .ret :: q := by
      intro J1 b1 hc h1 h2
      rw [wrap_i64 (by omega) (by omega)] at h1
      obtain ⟨J2, b2, todo, h3, h4, h5⟩ := ih J1 b1 (i + 1) (by omega) (fun q hq => by
        by_cases hqi : q = i
        · subst hqi; exact hc
        · exact hno q (by omega)) (by exact_mod_cast h1)
      exact ⟨J2, b2, todo, h3, h2.trans h4, h5⟩
    by_cases hik : i = k
    · obtain ⟨J1, b1, h1, h2⟩ := rdSelf (kind := kind) (cs := cs) hβ hA (by simp only [allB_iff, List.forall_mem_cons]; exact ⟨by simp [hik], by simp; omega, fun _ hb => by cases hb⟩)
      exact next J1 b1 (.inl hik) h1 h2
    · by_cases hid : (i : Int) ∈ part ws st ln
      · obtain ⟨J1, b1, h1, h2⟩ := rdDone (kind := kind) (cs := cs) hβ hA (by simp only [allB_iff, List.forall_mem_cons, decide_eq_true_eq, Bool.not_not]; exact ⟨hid, hbig, hw, by simp; omega, by omega, fun _ hb => by cases hb⟩)
        exact next J1 b1 (.inr (.inl hid)) h1 h2
      · by_cases ha : (cl.getD i []).getD 2 0 < (cl.getD k []).getD 1 0
        · obtain ⟨J', b', h1, h2⟩ := rdAhead (kind := kind) (cs := cs) hβ hA (by rw [allB_iff, List.forall_mem_cons]; exact ⟨decide_eq_true (by simpa using ha), rdB_ok hk (by omega) hw hbig hE hik hid⟩)
          have hf : readyP cl (part ws st ln) k = false := by
            simp only [readyP, decide_eq_false hkD, cond_false, List.all_eq_false, List.mem_range]
            exact ⟨i, by omega, by simp only [decide_eq_false hik, decide_eq_false hid, cond_false, aheadP, decide_eq_true ha]; simp⟩
          rw [← hf] at h1
          exact ⟨J', b', _, h1, h2, _, rfl⟩
        · obtain ⟨J1, b1, h1, h2⟩ := rdClear (kind := kind) (cs := cs) hβ hA (by rw [allB_iff, List.forall_mem_cons]; exact ⟨by simp only [Int.toNat_natCast, decide_eq_false ha, Bool.not_false], rdB_ok hk (by omega) hw hbig hE hik hid⟩)
          exact next J1 b1 (.inr (.inr ha)) h1 h2

theorem ready_call {k : Nat} (hw : st + ln ≤ ws.length) (hbig : ln ≤ 1048576) (hn : cl.length ≤ 1048576) (hE : Ended cl) (hk : k < cl.length) : CallH Go.Proofs.Tryz.prog 29 [.osl 0 10, .osv 1 1 bs st ln, .int .i64 (k : Int)] 2 (hO (lLf cl ws)) (.bool (readyP cl (part ws st ln) k)) 2 (hO (lLf cl ws)) := by
  refine callH_of (c := bodyOf Go.Proofs.Tryz.f29) (t := 6) (hi := far) Go.Proofs.Tryz.func29 (by kernel_rfl) (Nat.blt_eq.mp (by kernel_rfl)) (by kernel_rfl) (Nat.ble_eq.mp (by kernel_rfl)) (fun m o ho => ?_) (fun m o ho hr => ?_) rfl ?_
  · have := obsOK_ok (p := fun m => Nat.blt m 2) (lLf cl ws) 0 (by kernel_rfl) m o ho
    rw [blt_fun] at this
    exact ⟨by simpa using this.2.1, this.2.2⟩
  · rw [noRo_ok (lLf cl ws) (by kernel_rfl) m o ho] at hr; cases hr
  · intro L w kind cs a hA
    by_cases hkD : (k : Int) ∈ part ws st ln
    · obtain ⟨J1, b1, h1, h2⟩ := rdNot (kind := kind) (cs := cs) rfl hA hw hbig hkD
      have hf : readyP cl (part ws st ln) k = false := by simp only [readyP, decide_eq_true hkD, cond_true]
      rw [← hf] at h1
      exact ⟨b1, _, 2, far, _, h1, rfl, h2, .inr ⟨_, rfl⟩⟩
    · obtain ⟨J1, b1, h1, h2⟩ := rdStart (kind := kind) (cs := cs) rfl hA hw hbig hkD
      obtain ⟨J2, b2, todo, h3, h4, h5⟩ := rdLoop (kind := kind) (cs := cs) rfl hw hbig hn hE hk hkD cl.length J1 b1 0 (by omega) (fun k hk => absurd hk (Nat.not_lt_zero _)) h1
      exact ⟨b2, _, 2, far, todo, h3, rfl, h2.trans h4, .inr h5⟩
end
end Go.Sx
/- left and ready: their summaries. -/
namespace Go.Sx
set_option maxRecDepth 100000
theorem shEq_ok : ∀ {a b : List Sh}, shEq a b = true → a = b := by
  intro a
  induction a with
  | nil => intro b h; cases b with
    | nil => rfl
    | cons => cases h
  | cons x l ih =>
    intro b h
    cases b with
    | nil => cases x <;> cases h
    | cons y r =>
      cases x with
      | int k =>
        cases y with
        | int k' =>
          simp only [shEq] at h
          cases hk : decide (k = k') with
          | false => rw [hk] at h; cases h
          | true => rw [hk] at h; have := of_decide_eq_true hk; subst this; rw [ih h]
        | bool => cases h
      | bool =>
        cases y with
        | int => cases h
        | bool => simp only [shEq] at h; rw [ih h]

instance (cl : List (List Int)) : Decidable (Ended cl) := inferInstanceAs (Decidable (∀ i, i < cl.length → 0 ≤ (cl.getD i []).getD 2 0))

/-- The calls that a number stands for. -/
def rowsOfN (s : St) (c es : Nat) : Option (List (List Int)) :=
  match s.H.get c with
  | some (.mem (.rows sh cl) t (some e)) => (chk (decide (t = 63 ∧ es = 10 ∧ e = 10))).bind fun _ => (chk (shEq sh shSpan)).bind fun _ => some cl
  | _ => none
theorem rowsOfN_ok {s : St} {c es : Nat} {cl : List (List Int)} (h : rowsOfN s c es = some cl) : s.H.get c = some (callsOb cl) ∧ es = 10 := by
  unfold rowsOfN at h
  split at h
  · rename_i sh cl' t e hg
    obtain ⟨_, h1, h2⟩ := bind_some' h
    obtain ⟨_, h3, h4⟩ := bind_some' h2
    cases h4
    have h5 : t = 63 ∧ es = 10 ∧ e = 10 := of_decide_eq_true (chk_some h1)
    obtain ⟨rfl, rfl, rfl⟩ := h5
    rw [shEq_ok (chk_some h3)] at hg
    exact ⟨hg, rfl⟩
  · cases h

/-- A call over the calls and one row. -/
theorem rowCall {f : FuncId} {ex : List V} (hex : ex = [] ∨ ∃ k, ex = [.int .i64 k]) {c n b st ln : Nat} {cl : List (List Int)} {ws : List Int} {v : Bool} {x : V} {s s1 s' : St} (hc : s.H.get c = some (callsOb cl)) (hnr : nrm .i64 3 x s = some ((n, b, st, ln, ws), s1)) (hcn : c ≠ n)
    (hs : Same s1 s') (ho : Obl s') (ho1 : Obl s1) (h : st + ln ≤ ws.length → CallH Go.Proofs.Tryz.prog f (.osl 0 10 :: .osv 1 1 b st ln :: ex) 2 (hO (lLf cl ws)) (.bool v) 2 (hO (lLf cl ws))) :
    Lg s s' ∧ Obl s ∧ CallOK Go.Proofs.Tryz.prog f (.osl c 10 :: x :: ex) s (.bool v) s' := by
  obtain ⟨g1, g2, g3, g4, g5, g6⟩ := nrm_ok hnr ho1
  refine ⟨g1.trans (.of_same hs), g2, ?_⟩
  have e1 : s'.nx = s1.nx := hs.nx
  have e2 : s'.H = s1.H := hs.H
  have hren : ∀ π, ex.map (V.ren π) = ex := by rcases hex with rfl | ⟨k, rfl⟩ <;> intro π <;> rfl
  have hden : ∀ L L', ex.map (V.den L) = ex.map (V.den L') := by rcases hex with rfl | ⟨k, rfl⟩ <;> intro L L' <;> rfl
  have hcall : CallOK Go.Proofs.Tryz.prog f (.osl c 10 :: .osv n 1 b st ln :: ex) s' (.bool v) s' :=
    embedRO (l := lLf cl ws) (ac := .osl 0 10 :: .osv 1 1 b st ln :: ex) (vc := .bool v) (h g4) (fun m hm => live2 m hm) (by kernel_rfl) (by rcases hex with rfl | ⟨k, rfl⟩ <;> rfl) [c, n] rfl (fun q o ho => by
      match q, ho with
      | 0, ho => cases ho; rw [e2]; exact g5 c _ hcn hc
      | 1, ho => cases ho; rw [e2]; exact g3) (by simp [hcn]) (by simp only [List.map_cons, hren]; rfl) rfl
  refine CallOK.gh hcall (by rw [e1]; exact g1.le) (Nat.le_refl _) (fun D L w hSR hD hst => ?_)
  rw [e1] at hD
  obtain ⟨L', k1, k2⟩ := g6 D L w hSR hD
  refine ⟨L', ⟨by rw [e1]; exact k1.le, k1.agree, by rw [e1, e2]; exact k1.sr, fun n o b ho => by rw [e2] at ho; exact k1.sub n o b ho, fun n o ho => by rw [e2] at ho; exact k1.ro n o ho⟩, fun L'' hL'' => ?_⟩
  rw [e1] at hL''
  have hDc := hSR.live hc
  have hLc : L'' c = L c := by rw [← hL'' c (.inl hDc)]; exact (k1.agree c hDc).symm
  simp only [List.map_cons, k2 L'' hL'', hden L'' L]
  congr 1
  simp only [V.den, hLc]

def smLf (args : List V) (s : St) : Option (V × St) :=
  match args with
  | [.osl c es, x] => (rowsOfN s c es).bind fun cl => (nrm .i64 3 x s).bind fun r => match r with
    | ((n, _, st, ln, ws), s1) => (chk (!(Nat.beq c n))).bind fun _ => (need (decide (ln ≤ 1048576 ∧ cl.length ≤ 1048576 ∧ Ended cl)) s1).bind fun s2 => some (.bool (leftP cl.length (part ws st ln)), s2)
  | _ => none
def smRd (args : List V) (s : St) : Option (V × St) :=
  match args with
  | [.osl c es, x, .int .i64 k] => (rowsOfN s c es).bind fun cl => (nrm .i64 3 x s).bind fun r => match r with
    | ((n, _, st, ln, ws), s1) => (chk (!(Nat.beq c n))).bind fun _ => (need (decide (ln ≤ 1048576 ∧ cl.length ≤ 1048576 ∧ Ended cl ∧ 0 ≤ k ∧ k < (cl.length : Int))) s1).bind fun s2 => some (.bool (readyP cl (part ws st ln) k.toNat), s2)
  | _ => none

theorem ne_of_chk {c n : Nat} {u : Unit} (h : chk (!(Nat.beq c n)) = some u) : c ≠ n := by
  intro e
  have := chk_some h
  rw [e, Nat.beq_refl] at this
  cases this

theorem smLf_sm : SmOK Go.Proofs.Tryz.prog 28 smLf := by
  refine ⟨fun args s v s' h ho => ?_, Go.Proofs.Tryz.call28⟩
  unfold smLf at h
  split at h
  · rename_i c es x
    obtain ⟨cl, h1, h2⟩ := bind_some' h
    obtain ⟨⟨⟨n, b, st, ln, ws⟩, s1⟩, h3, h4⟩ := bind_some' h2
    obtain ⟨_, h5, h6⟩ := bind_some' h4
    obtain ⟨s2, h7, h8⟩ := bind_some' h6
    cases h8
    obtain ⟨hg, rfl⟩ := rowsOfN_ok h1
    obtain ⟨hd, hq⟩ := need_ok h7 ho
    obtain ⟨d1, d2, d3⟩ := of_decide_eq_true hd
    exact rowCall (.inl rfl) hg h3 (ne_of_chk h5) hq.1 ho hq.2 (fun hw => left_call hw d1 d2 d3)
  · cases h
theorem smRd_sm : SmOK Go.Proofs.Tryz.prog 29 smRd := by
  refine ⟨fun args s v s' h ho => ?_, Go.Proofs.Tryz.call29⟩
  unfold smRd at h
  split at h
  · rename_i c es x k
    obtain ⟨cl, h1, h2⟩ := bind_some' h
    obtain ⟨⟨⟨n, b, st, ln, ws⟩, s1⟩, h3, h4⟩ := bind_some' h2
    obtain ⟨_, h5, h6⟩ := bind_some' h4
    obtain ⟨s2, h7, h8⟩ := bind_some' h6
    cases h8
    obtain ⟨hg, rfl⟩ := rowsOfN_ok h1
    obtain ⟨hd, hq⟩ := need_ok h7 ho
    obtain ⟨d1, d2, d3, d4, d5⟩ := of_decide_eq_true hd
    refine rowCall (.inr ⟨k, rfl⟩) hg h3 (ne_of_chk h5) hq.1 ho hq.2 (fun hw => ?_)
    have := ready_call (bs := b) (k := k.toNat) hw d1 d2 d3 (by omega)
    rw [Int.toNat_of_nonneg d4] at this
    exact this
  · cases h
end Go.Sx
