/- Is a number one of some: the contract of Among. -/
import Derived.Test.YtgldnjmnoemccaaSxTabR
import Derived.Test.YtgldnjmnoemccaaSxLib
namespace Go.Sx
set_option maxRecDepth 100000
noncomputable def F0 : Env := envOf tabT tabF (fun _ => none) seT
theorem F0_ok : EnvOK Go.Proofs.Try.prog F0 := env_ok _
theorem S0_ok : SumOK Go.Proofs.Try.prog F0 := fun f F h => by cases h
def rowI (ws : List Int) : Ob := .mem (.words .i64 ws) 3 (some 1)
def rowU (ws : List Int) : Ob := .mem (.words .u64 ws) 47 (some 1)
/-- What a part of a row holds. -/
def part (ws : List Int) (st ln : Nat) : List Int := (ws.drop st).take ln
theorem part_length {ws : List Int} {st ln : Nat} (h : st + ln ≤ ws.length) : (part ws st ln).length = ln := by simp [part]; omega
theorem part_getD {ws : List Int} {st ln i : Nat} (h : st + ln ≤ ws.length) (hi : i < ln) : (part ws st ln).getD i 0 = ws.getD (st + i) 0 := by
  simp only [part, List.getD_eq_getElem?_getD, List.getElem?_take, if_pos hi, List.getElem?_drop]
theorem part_mem {ws : List Int} {st ln : Nat} {x : Int} (h : st + ln ≤ ws.length) : x ∈ part ws st ln ↔ ∃ i, i < ln ∧ ws.getD (st + i) 0 = x := by
  constructor
  · intro hx
    obtain ⟨i, hi⟩ := List.getElem?_of_mem hx
    have hlt : i < (part ws st ln).length := (List.getElem?_eq_some_iff.1 hi).1
    rw [part_length h] at hlt
    refine ⟨i, hlt, ?_⟩
    rw [← part_getD h hlt, List.getD_eq_getElem?_getD, hi]; rfl
  · rintro ⟨i, hi, hx⟩
    rw [← part_getD h hi] at hx
    have hlt : i < (part ws st ln).length := by rw [part_length h]; exact hi
    rw [List.getD_eq_getElem?_getD, List.getElem?_eq_getElem hlt] at hx
    simp only [Option.getD_some] at hx
    rw [← hx]; exact List.getElem_mem _

noncomputable def todoAm : List Item := ((ctlN F0 (exec F0 400) ⟨63, none, 18⟩ 7 [.code (bodyOf Go.Proofs.Try.f63)] (Tr.ofList [.osv 0 1 0 0 1, .int .i64 5]) [] ⟨trO [some (rowI [1])], 1, [], [], []⟩).map (·.1)).getD []
noncomputable def todoAmF : List Item := ((ctlN F0 (exec F0 400) ⟨63, none, 18⟩ 19 [.code (bodyOf Go.Proofs.Try.f63)] (Tr.ofList [.osv 0 1 0 0 1, .int .i64 1]) [] ⟨trO [some (rowI [1])], 1, [], [], []⟩).map (·.1)).getD []
def slAm (bs st ln : Nat) (n : Int) (i : Int) : List (Option V) := [some (.osv 0 1 bs st ln), some (.int .i64 n), none, none, none, some (.int .i64 i)] ++ List.replicate 12 none
def slAmE (b : Bool) : List (Option V) := [none, none, none, none, some (.bool b)] ++ List.replicate 13 none
section
variable {β : Base} {kind : CallKind} {cs : List Frame} {J : Nat → V} {a : Cf} {ws : List Int} {bs st ln : Nat} {n i : Int}

theorem live1 {o : Ob} : ∀ m, m < 1 → ∃ q, (([some o] : List (Option Ob))[m]?).join = some q := by
  intro m hm
  match m, hm with
  | 0, _ => exact ⟨_, rfl⟩

theorem amStart (hβ : β.n0 = 1) (hA : Asrt β ⟨63, none, 18⟩ (Tr.ofList [.osv 0 1 bs st ln, .int .i64 n]) [] (hO [some (rowI ws)]) 1 far a) :
    ∃ J' b', Asrt β ⟨63, none, 18⟩ (trO (slots J' 0 (slAm bs st ln n 0))) [] (hO [some (rowI ws)]) 1 far b' ∧ Steps Go.Proofs.Try.prog (At ⟨63, none, 18⟩ none kind cs a [.code (bodyOf Go.Proofs.Try.f63)]) (At ⟨63, none, 18⟩ none kind cs b' todoAm) :=
  Asrt.eval (n := 400) (m := 7) (orc := []) (πl := [0]) (nx' := 1) (far := far) (todo := [.code (bodyOf Go.Proofs.Try.f63)]) (todo' := todoAm) (l' := [some (rowI ws)]) (sl' := slAm bs st ln n 0) (B := true) F0_ok S0_ok kind cs hA
    (by kernel_rfl) rfl rfl rfl rfl rfl rfl (fun m => Nat.blt m 1) (p_ok rfl live1) (fun m hm => by rw [hβ] at hm; exact Nat.blt_eq.mpr hm) (by rw [hβ]; kernel_rfl) (by kernel_rfl) (by kernel_rfl)

theorem amIter (hβ : β.n0 = 1) (hA : Asrt β ⟨63, none, 18⟩ (trO (slots J 0 (slAm bs st ln n i))) [] (hO [some (rowI ws)]) 1 far a)
    (hB : allB [!(ws.getD (st + i.toNat) 0 == n), decide (st + i.toNat < ws.length), decide (st + ln ≤ ws.length), decide (0 ≤ i ∧ i < (ln : Int)), decide (i < (ln : Int))] = true) :
    ∃ J' b', Asrt β ⟨63, none, 18⟩ (trO (slots J' 0 (slAm bs st ln n (IntKind.i64.wrap (i + 1))))) [] (hO [some (rowI ws)]) 1 far b' ∧ Steps Go.Proofs.Try.prog (At ⟨63, none, 18⟩ none kind cs a todoAm) (At ⟨63, none, 18⟩ none kind cs b' todoAm) :=
  Asrt.eval (n := 400) (m := 14) (orc := bits 5 0b11110) (πl := [0]) (nx' := 1) (far := far) (todo := todoAm) (todo' := todoAm) (l' := [some (rowI ws)]) (sl' := slAm bs st ln n (IntKind.i64.wrap (i + 1))) F0_ok S0_ok kind cs hA
    (by kernel_rfl) hB rfl rfl rfl rfl rfl (fun m => Nat.blt m 1) (p_ok rfl live1) (fun m hm => by rw [hβ] at hm; exact Nat.blt_eq.mpr hm) (by rw [hβ]; kernel_rfl) (by kernel_rfl) (by kernel_rfl)

theorem amFound (hβ : β.n0 = 1) (hA : Asrt β ⟨63, none, 18⟩ (trO (slots J 0 (slAm bs st ln n i))) [] (hO [some (rowI ws)]) 1 far a)
    (hB : allB [(ws.getD (st + i.toNat) 0 == n), decide (st + i.toNat < ws.length), decide (st + ln ≤ ws.length), decide (0 ≤ i ∧ i < (ln : Int)), decide (i < (ln : Int))] = true) :
    ∃ J' b', Asrt β ⟨63, none, 18⟩ (trO (slots J' 0 (slAmE true))) [] (hO [some (rowI ws)]) 1 far b' ∧ Steps Go.Proofs.Try.prog (At ⟨63, none, 18⟩ none kind cs a todoAm) (At ⟨63, none, 18⟩ none kind cs b' todoAmF) :=
  Asrt.eval (n := 400) (m := 12) (orc := bits 5 0b11111) (πl := [0]) (nx' := 1) (far := far) (todo := todoAm) (todo' := todoAmF) (l' := [some (rowI ws)]) (sl' := slAmE true) F0_ok S0_ok kind cs hA
    (by kernel_rfl) hB rfl rfl rfl rfl rfl (fun m => Nat.blt m 1) (p_ok rfl live1) (fun m hm => by rw [hβ] at hm; exact Nat.blt_eq.mpr hm) (by rw [hβ]; kernel_rfl) (by kernel_rfl) (by kernel_rfl)

theorem amExit (hβ : β.n0 = 1) (hA : Asrt β ⟨63, none, 18⟩ (trO (slots J 0 (slAm bs st ln n i))) [] (hO [some (rowI ws)]) 1 far a) (h : ¬ i < (ln : Int)) :
    ∃ J' b', Asrt β ⟨63, none, 18⟩ (trO (slots J' 0 (slAmE false))) [] (hO [some (rowI ws)]) 1 far b' ∧ Steps Go.Proofs.Try.prog (At ⟨63, none, 18⟩ none kind cs a todoAm) (At ⟨63, none, 18⟩ none kind cs b' [.code .ret]) :=
  Asrt.eval (n := 400) (m := 7) (orc := bits 1 0) (πl := [0]) (nx' := 1) (far := far) (todo := todoAm) (todo' := [.code .ret]) (l' := [some (rowI ws)]) (sl' := slAmE false) (B := allB [!(decide (i < (ln : Int)))]) F0_ok S0_ok kind cs hA
    (by kernel_rfl) (by simp only [allB, decide_eq_false h]; rfl) rfl rfl rfl rfl rfl (fun m => Nat.blt m 1) (p_ok rfl live1) (fun m hm => by rw [hβ] at hm; exact Nat.blt_eq.mpr hm) (by rw [hβ]; kernel_rfl) (by kernel_rfl) (by kernel_rfl)

theorem amLoop (hβ : β.n0 = 1) (hw : st + ln ≤ ws.length) (hbig : ln ≤ 1048576) : ∀ (d : Nat) (J : Nat → V) (a : Cf) (i : Nat), ln = i + d → (∀ k, k < i → ws.getD (st + k) 0 ≠ n) → Asrt β ⟨63, none, 18⟩ (trO (slots J 0 (slAm bs st ln n (i : Int)))) [] (hO [some (rowI ws)]) 1 far a →
    ∃ J' b' todo, Asrt β ⟨63, none, 18⟩ (trO (slots J' 0 (slAmE (decide (n ∈ part ws st ln))))) [] (hO [some (rowI ws)]) 1 far b' ∧ Steps Go.Proofs.Try.prog (At ⟨63, none, 18⟩ none kind cs a todoAm) (At ⟨63, none, 18⟩ none kind cs b' todo) ∧ ∃ k, todo = .code .ret :: k := by
  intro d
  induction d with
  | zero =>
    intro J a i hd hno hA
    obtain ⟨J', b', h1, h2⟩ := amExit (kind := kind) (cs := cs) hβ hA (by omega)
    have hf : decide (n ∈ part ws st ln) = false := decide_eq_false fun h => by
      obtain ⟨k, hk, he⟩ := (part_mem hw).1 h
      exact hno k (by omega) he
    rw [← hf] at h1
    exact ⟨J', b', _, h1, h2, [], rfl⟩
  | succ d ih =>
    intro J a i hd hno hA
    by_cases he : ws.getD (st + i) 0 = n
    · obtain ⟨J', b', h1, h2⟩ := amFound (kind := kind) (cs := cs) hβ hA (by simp only [allB_iff, List.forall_mem_cons, decide_eq_true_eq, Int.toNat_natCast, beq_iff_eq]; exact ⟨he, by omega, hw, by omega, by omega, fun _ hb => by cases hb⟩)
      have hf : decide (n ∈ part ws st ln) = true := decide_eq_true ((part_mem hw).2 ⟨i, by omega, he⟩)
      rw [← hf] at h1
      exact ⟨J', b', _, h1, h2, _, rfl⟩
    · obtain ⟨J1, b1, h1, h2⟩ := amIter (kind := kind) (cs := cs) hβ hA (by simp only [allB_iff, List.forall_mem_cons, decide_eq_true_eq, Int.toNat_natCast, Bool.not_eq_true', beq_eq_false_iff_ne]; exact ⟨he, by omega, hw, by omega, by omega, fun _ hb => by cases hb⟩)
      rw [wrap_i64 (by omega) (by omega)] at h1
      obtain ⟨J2, b2, todo, h3, h4, h5⟩ := ih J1 b1 (i + 1) (by omega) (fun k hk => by
        by_cases hki : k = i
        · subst hki; exact he
        · exact hno k (by omega)) (by exact_mod_cast h1)
      exact ⟨J2, b2, todo, h3, h2.trans h4, h5⟩

theorem among_call (hw : st + ln ≤ ws.length) (hbig : ln ≤ 1048576) : CallH Go.Proofs.Try.prog 63 [.osv 0 1 bs st ln, .int .i64 n] 1 (hO [some (rowI ws)]) (.bool (decide (n ∈ part ws st ln))) 1 (hO [some (rowI ws)]) := by
  refine callH_of (c := bodyOf Go.Proofs.Try.f63) (t := 4) (hi := far) Go.Proofs.Try.func63 (by kernel_rfl) (Nat.blt_eq.mp (by kernel_rfl)) (by kernel_rfl) (Nat.ble_eq.mp (by kernel_rfl)) (fun m o ho => ?_) (fun m o ho hr => ?_) rfl ?_
  · have := obsOK_ok (p := fun m => Nat.blt m 1) [some (rowI ws)] 0 (by kernel_rfl) m o ho
    rw [blt_fun] at this
    exact ⟨by simpa using this.2.1, this.2.2⟩
  · rw [noRo_ok [some (rowI ws)] (by kernel_rfl) m o ho] at hr; cases hr
  · intro L w kind cs a hA
    obtain ⟨J1, b1, h1, h2⟩ := amStart (kind := kind) (cs := cs) rfl hA
    obtain ⟨J2, b2, todo, h3, h4, h5⟩ := amLoop (kind := kind) (cs := cs) rfl hw hbig ln J1 b1 0 (by omega) (fun k hk => absurd hk (Nat.not_lt_zero _)) h1
    exact ⟨b2, _, 1, far, todo, h3, rfl, h2.trans h4, .inr h5⟩
end

/-- The summary. -/
def smAm (args : List V) (s : St) : Option (V × St) :=
  match args with
  | [x, .int .i64 n] => (nrm .i64 3 x s).bind fun r => match r with
    | ((_, _, st, ln, ws), s1) => (need (decide (ln ≤ 1048576)) s1).bind fun s2 => some (.bool (decide (n ∈ part ws st ln)), s2)
  | _ => none

theorem smAm_ok {args : List V} {s s' : St} {v : V} (h : smAm args s = some (v, s')) (ho : Obl s') : Lg s s' ∧ Obl s ∧ CallOK Go.Proofs.Try.prog 63 args s v s' := by
  unfold smAm at h
  split at h
  · rename_i x n
    obtain ⟨⟨⟨m, b, st, ln, ws⟩, s1⟩, h1, h2⟩ := bind_some' h
    obtain ⟨s2, h3, h4⟩ := bind_some' h2
    cases h4
    obtain ⟨hd, hq⟩ := need_ok h3 ho
    have hd : ln ≤ 1048576 := of_decide_eq_true hd
    obtain ⟨g1, g2, g3, g4, g5, g6⟩ := nrm_ok h1 hq.2
    refine ⟨g1.trans (.of_same hq.1), g2, ?_⟩
    have hcall : CallOK Go.Proofs.Try.prog 63 [.osv m 1 b st ln, .int .i64 n] s' (.bool (decide (n ∈ part ws st ln))) s' :=
      embedRO (l := [some (rowI ws)]) (ac := [.osv 0 1 b st ln, .int .i64 n]) (vc := .bool (decide (n ∈ part ws st ln))) (among_call g4 hd) (fun m hm => live1 m hm) (by kernel_rfl) (by kernel_rfl) [m] rfl (fun q o ho => by
        match q, ho with
        | 0, ho => cases ho; rw [hq.1.H]; exact g3) (by simp) rfl rfl
    refine CallOK.gh hcall (by rw [hq.1.nx]; exact g1.le) (Nat.le_refl _) (fun D L w hSR hD hst => ?_)
    have e1 : s'.nx = s1.nx := hq.1.nx
    have e2 : s'.H = s1.H := hq.1.H
    rw [e1] at hD
    obtain ⟨L', k1, k2⟩ := g6 D L w hSR hD
    refine ⟨L', ⟨by rw [e1]; exact k1.le, k1.agree, by rw [e1, e2]; exact k1.sr, fun n o b ho => by rw [e2] at ho; exact k1.sub n o b ho, fun n o ho => by rw [e2] at ho; exact k1.ro n o ho⟩, fun L'' hL'' => ?_⟩
    rw [e1] at hL''
    simp only [List.map_cons, List.map_nil, k2 L'' hL'']
    rfl
  · cases h
theorem smAm_sm : SmOK Go.Proofs.Try.prog 63 smAm := ⟨fun _ _ _ _ h ho => smAm_ok h ho, Go.Proofs.Try.call63⟩
end Go.Sx
