/- Pools: Check's contract. Printed by gen_O4.py. -/
import Derived.Test.YtgldnjmnoemccaaGreatSzO1
namespace Go.Sx
set_option maxRecDepth 100000
abbrev frCk : Frs := ⟨100, none, 33⟩
noncomputable def ckBody : Code := bodyOf Go.Proofs.Tryz.f100
noncomputable def ckT1 : List Item := ((ctlN F1 (exec F1 400) frCk 7 [.code ckBody] (Tr.ofList [.osv 0 1 0 0 1]) [] ⟨trO [some (rowI [0])], 1, [], [], []⟩).map (·.1)).getD []
noncomputable def ckT2 : List Item := ((ctlN F1 (exec F1 400) frCk 17 [.code ckBody] (Tr.ofList [.osv 0 1 0 0 0]) [] ⟨trO [some (rowI [])], 1, [], [], []⟩).map (·.1)).getD []
def slCk1 (bs st ln : Nat) (i : Int) : List (Option V) := [some (.osv 0 1 bs st ln), none, none, some (.int .i64 i)] ++ List.replicate 29 none
def slCk2 (bs st ln : Nat) (i : Int) : List (Option V) := [some (.osv 0 1 bs st ln), none, none, none, some (.int .i64 i)] ++ List.replicate 28 none
def slCkE : List (Option V) := [none, none, some (.int .i64 0)] ++ List.replicate 30 none
/-- A pool's list: rising, of indices. -/
def Pool (F : List Int) : Prop := F.Pairwise (· < ·) ∧ ∀ x ∈ F, 0 ≤ x ∧ x < 1024
theorem ckSt {β : Base} {kind : CallKind} {cs : List Frame} {a : Cf}  {ws : List Int} {bs st ln : Nat} (hβ : β.n0 = 1) (hA : Asrt β frCk (Tr.ofList [.osv 0 1 bs st ln]) [] (hO ([some (rowI ws)])) 1 far a) :
    ∃ J' b', Asrt β frCk (trO (slots J' 0 (slCk1 bs st ln 0))) [] (hO ([some (rowI ws)])) 1 far b' ∧ Steps Go.Proofs.Tryz.prog (At frCk none kind cs a ([.code ckBody])) (At frCk none kind cs b' (ckT1)) :=
  Asrt.eval (n := 400) (m := 7) (orc := bits 0 0b0) (πl := [0]) (nx' := 1) (far := far) (todo := [.code ckBody]) (todo' := ckT1) (l := [some (rowI ws)]) (l' := [some (rowI ws)]) (sl' := slCk1 bs st ln 0) (B := allB []) F1_ok S1_ok kind cs hA
    (by kernel_rfl) rfl rfl rfl rfl rfl rfl (fun m => Nat.blt m 1) (p_all rfl rfl) (fun m hm => by rw [hβ] at hm; exact Nat.blt_eq.mpr (by omega)) (by rw [hβ]; kernel_rfl) (by kernel_rfl) (by kernel_rfl)
theorem ckI1 {β : Base} {kind : CallKind} {cs : List Frame} {J : Nat → V} {a : Cf}  {ws : List Int} {bs st ln : Nat} {i : Int} (hβ : β.n0 = 1) (hA : Asrt β frCk (trO (slots J 0 (slCk1 bs st ln i))) [] (hO ([some (rowI ws)])) 1 far a) (hB : allB [!!decide (List.getD ws (st + Int.toNat i) 0 < 1024), decide (List.getD ws (st + Int.toNat i) 0 ≥ 0), decide (st + Int.toNat i < List.length ws), decide (st + ln ≤ List.length ws), decide (0 ≤ i ∧ i < ((ln : Nat) : Int)), decide (i < ((ln : Nat) : Int))] = true) :
    ∃ J' b', Asrt β frCk (trO (slots J' 0 (slCk1 bs st ln (IntKind.i64.wrap (i + 1))))) [] (hO ([some (rowI ws)])) 1 far b' ∧ Steps Go.Proofs.Tryz.prog (At frCk none kind cs a (ckT1)) (At frCk none kind cs b' (ckT1)) :=
  Asrt.eval (n := 400) (m := 14) (orc := bits 7 0b1111110) (πl := [0]) (nx' := 1) (far := far) (todo := ckT1) (todo' := ckT1) (l := [some (rowI ws)]) (l' := [some (rowI ws)]) (sl' := slCk1 bs st ln (IntKind.i64.wrap (i + 1))) (B := allB [!!decide (List.getD ws (st + Int.toNat i) 0 < 1024), decide (List.getD ws (st + Int.toNat i) 0 ≥ 0), decide (st + Int.toNat i < List.length ws), decide (st + ln ≤ List.length ws), decide (0 ≤ i ∧ i < ((ln : Nat) : Int)), decide (i < ((ln : Nat) : Int))]) F1_ok S1_ok kind cs hA
    (by kernel_rfl) hB rfl rfl rfl rfl rfl (fun m => Nat.blt m 1) (p_all rfl rfl) (fun m hm => by rw [hβ] at hm; exact Nat.blt_eq.mpr (by omega)) (by rw [hβ]; kernel_rfl) (by kernel_rfl) (by kernel_rfl)
theorem ckE1 {β : Base} {kind : CallKind} {cs : List Frame} {J : Nat → V} {a : Cf}  {ws : List Int} {bs st ln : Nat} {i : Int} (hβ : β.n0 = 1) (hA : Asrt β frCk (trO (slots J 0 (slCk1 bs st ln i))) [] (hO ([some (rowI ws)])) 1 far a) (hB : allB [!decide (i < ((ln : Nat) : Int))] = true) :
    ∃ J' b', Asrt β frCk (trO (slots J' 0 (slCk2 bs st ln 1))) [] (hO ([some (rowI ws)])) 1 far b' ∧ Steps Go.Proofs.Tryz.prog (At frCk none kind cs a (ckT1)) (At frCk none kind cs b' (ckT2)) :=
  Asrt.eval (n := 400) (m := 10) (orc := bits 1 0b0) (πl := [0]) (nx' := 1) (far := far) (todo := ckT1) (todo' := ckT2) (l := [some (rowI ws)]) (l' := [some (rowI ws)]) (sl' := slCk2 bs st ln 1) (B := allB [!decide (i < ((ln : Nat) : Int))]) F1_ok S1_ok kind cs hA
    (by kernel_rfl) hB rfl rfl rfl rfl rfl (fun m => Nat.blt m 1) (p_all rfl rfl) (fun m hm => by rw [hβ] at hm; exact Nat.blt_eq.mpr (by omega)) (by rw [hβ]; kernel_rfl) (by kernel_rfl) (by kernel_rfl)
theorem ckI2 {β : Base} {kind : CallKind} {cs : List Frame} {J : Nat → V} {a : Cf}  {ws : List Int} {bs st ln : Nat} {i : Int} (hβ : β.n0 = 1) (hA : Asrt β frCk (trO (slots J 0 (slCk2 bs st ln i))) [] (hO ([some (rowI ws)])) 1 far a) (hB : allB [!decide (List.getD ws (st + Int.toNat (IntKind.i64.wrap (i - 1))) 0 ≥ List.getD ws (st + Int.toNat i) 0), decide (st + Int.toNat i < List.length ws), decide (st + ln ≤ List.length ws), decide (0 ≤ i ∧ i < ((ln : Nat) : Int)), decide (st + Int.toNat (IntKind.i64.wrap (i - 1)) < List.length ws), decide (st + ln ≤ List.length ws), decide (0 ≤ IntKind.i64.wrap (i - 1) ∧ IntKind.i64.wrap (i - 1) < ((ln : Nat) : Int)), decide (i < ((ln : Nat) : Int))] = true) :
    ∃ J' b', Asrt β frCk (trO (slots J' 0 (slCk2 bs st ln (IntKind.i64.wrap (i + 1))))) [] (hO ([some (rowI ws)])) 1 far b' ∧ Steps Go.Proofs.Tryz.prog (At frCk none kind cs a (ckT2)) (At frCk none kind cs b' (ckT2)) :=
  Asrt.eval (n := 400) (m := 14) (orc := bits 8 0b11111110) (πl := [0]) (nx' := 1) (far := far) (todo := ckT2) (todo' := ckT2) (l := [some (rowI ws)]) (l' := [some (rowI ws)]) (sl' := slCk2 bs st ln (IntKind.i64.wrap (i + 1))) (B := allB [!decide (List.getD ws (st + Int.toNat (IntKind.i64.wrap (i - 1))) 0 ≥ List.getD ws (st + Int.toNat i) 0), decide (st + Int.toNat i < List.length ws), decide (st + ln ≤ List.length ws), decide (0 ≤ i ∧ i < ((ln : Nat) : Int)), decide (st + Int.toNat (IntKind.i64.wrap (i - 1)) < List.length ws), decide (st + ln ≤ List.length ws), decide (0 ≤ IntKind.i64.wrap (i - 1) ∧ IntKind.i64.wrap (i - 1) < ((ln : Nat) : Int)), decide (i < ((ln : Nat) : Int))]) F1_ok S1_ok kind cs hA
    (by kernel_rfl) hB rfl rfl rfl rfl rfl (fun m => Nat.blt m 1) (p_all rfl rfl) (fun m hm => by rw [hβ] at hm; exact Nat.blt_eq.mpr (by omega)) (by rw [hβ]; kernel_rfl) (by kernel_rfl) (by kernel_rfl)
theorem ckE2 {β : Base} {kind : CallKind} {cs : List Frame} {J : Nat → V} {a : Cf}  {ws : List Int} {bs st ln : Nat} {i : Int} (hβ : β.n0 = 1) (hA : Asrt β frCk (trO (slots J 0 (slCk2 bs st ln i))) [] (hO ([some (rowI ws)])) 1 far a) (hB : allB [!decide (i < ((ln : Nat) : Int))] = true) :
    ∃ J' b', Asrt β frCk (trO (slots J' 0 (slCkE))) [] (hO ([some (rowI ws)])) 1 far b' ∧ Steps Go.Proofs.Tryz.prog (At frCk none kind cs a (ckT2)) (At frCk none kind cs b' ([.code .ret])) :=
  Asrt.eval (n := 400) (m := 7) (orc := bits 1 0b0) (πl := [0]) (nx' := 1) (far := far) (todo := ckT2) (todo' := [.code .ret]) (l := [some (rowI ws)]) (l' := [some (rowI ws)]) (sl' := slCkE) (B := allB [!decide (i < ((ln : Nat) : Int))]) F1_ok S1_ok kind cs hA
    (by kernel_rfl) hB rfl rfl rfl rfl rfl (fun m => Nat.blt m 1) (p_all rfl rfl) (fun m hm => by rw [hβ] at hm; exact Nat.blt_eq.mpr (by omega)) (by rw [hβ]; kernel_rfl) (by kernel_rfl) (by kernel_rfl)
section
variable {β : Base} {kind : CallKind} {cs : List Frame} {ws : List Int} {bs st ln : Nat}
theorem Pool.at {F : List Int} (h : Pool F) {i : Nat} (hi : i < F.length) : 0 ≤ F.getD i 0 ∧ F.getD i 0 < 1024 := by
  rw [List.getD_eq_getElem?_getD, List.getElem?_eq_getElem hi]
  exact h.2 _ (List.getElem_mem hi)
theorem Pool.lt {F : List Int} (h : Pool F) {i j : Nat} (hij : i < j) (hj : j < F.length) : F.getD i 0 < F.getD j 0 := by
  rw [List.getD_eq_getElem?_getD, List.getD_eq_getElem?_getD, List.getElem?_eq_getElem hj, List.getElem?_eq_getElem (show i < F.length by omega)]
  exact List.pairwise_iff_getElem.1 h.1 i j (by omega) hj hij
theorem ckLoop2 (hβ : β.n0 = 1) (hw : st + ln ≤ ws.length) (hbig : ln ≤ 1048576) (hp : Pool (part ws st ln)) : ∀ (d : Nat) (J : Nat → V) (a : Cf) (i : Nat), 1 ≤ i → (ln = i + d ∨ (d = 0 ∧ ln ≤ i)) → i ≤ 1048577 → Asrt β frCk (trO (slots J 0 (slCk2 bs st ln (i : Int)))) [] (hO [some (rowI ws)]) 1 far a →
    ∃ J' b', Asrt β frCk (trO (slots J' 0 slCkE)) [] (hO [some (rowI ws)]) 1 far b' ∧ Steps Go.Proofs.Tryz.prog (At frCk none kind cs a ckT2) (At frCk none kind cs b' [.code .ret]) := by
  intro d
  induction d with
  | zero =>
    intro J a i h1 hd hi hA
    exact ckE2 hβ hA (by simp only [allB_iff, List.forall_mem_cons, Bool.not_eq_true', decide_eq_false_iff_not]; exact ⟨by omega, fun _ hb => by cases hb⟩)
  | succ d ih =>
    intro J a i h1 hd hi hA
    have e1 : IntKind.i64.wrap ((i : Int) - 1) = ((i - 1 : Nat) : Int) := by rw [wrap_i64 (by omega) (by omega)]; omega
    have hlen := part_length hw
    have hlt := hp.lt (i := i - 1) (j := i) (by omega) (by rw [hlen]; omega)
    rw [part_getD hw (by omega), part_getD hw (by omega)] at hlt
    obtain ⟨J1, b1, h3, h4⟩ := ckI2 (kind := kind) (cs := cs) hβ hA (by
      simp only [allB_iff, List.forall_mem_cons, Bool.not_eq_true', decide_eq_false_iff_not, decide_eq_true_eq, e1, Int.toNat_natCast]
      and_intros <;> first | omega | assumption | (intro _ hb; cases hb))
    rw [wrap_i64 (by omega) (by omega)] at h3
    obtain ⟨J2, b2, h5, h6⟩ := ih J1 b1 (i + 1) (by omega) (by omega) (by omega) (by exact_mod_cast h3)
    exact ⟨J2, b2, h5, h4.trans h6⟩
theorem ckLoop1 (hβ : β.n0 = 1) (hw : st + ln ≤ ws.length) (hbig : ln ≤ 1048576) (hp : Pool (part ws st ln)) : ∀ (d : Nat) (J : Nat → V) (a : Cf) (i : Nat), ln = i + d → Asrt β frCk (trO (slots J 0 (slCk1 bs st ln (i : Int)))) [] (hO [some (rowI ws)]) 1 far a →
    ∃ J' b', Asrt β frCk (trO (slots J' 0 slCkE)) [] (hO [some (rowI ws)]) 1 far b' ∧ Steps Go.Proofs.Tryz.prog (At frCk none kind cs a ckT1) (At frCk none kind cs b' [.code .ret]) := by
  intro d
  induction d with
  | zero =>
    intro J a i hd hA
    obtain ⟨J1, b1, h3, h4⟩ := ckE1 (kind := kind) (cs := cs) hβ hA (by simp only [allB_iff, List.forall_mem_cons, Bool.not_eq_true', decide_eq_false_iff_not]; exact ⟨by omega, fun _ hb => by cases hb⟩)
    obtain ⟨J2, b2, h5, h6⟩ := ckLoop2 (kind := kind) (cs := cs) hβ hw hbig hp (ln - 1) J1 b1 1 (by omega) (by omega) (by omega) h3
    exact ⟨J2, b2, h5, h4.trans h6⟩
  | succ d ih =>
    intro J a i hd hA
    have hlen := part_length hw
    have hlt := hp.at (i := i) (by rw [hlen]; omega)
    rw [part_getD hw (by omega)] at hlt
    obtain ⟨J1, b1, h3, h4⟩ := ckI1 (kind := kind) (cs := cs) hβ hA (by
      simp only [allB_iff, List.forall_mem_cons, Bool.not_not, decide_eq_true_eq, Int.toNat_natCast]
      and_intros <;> first | omega | assumption | (intro _ hb; cases hb))
    rw [wrap_i64 (by omega) (by omega)] at h3
    obtain ⟨J2, b2, h5, h6⟩ := ih J1 b1 (i + 1) (by omega) (by exact_mod_cast h3)
    exact ⟨J2, b2, h5, h4.trans h6⟩
theorem check_call (hw : st + ln ≤ ws.length) (hbig : ln ≤ 1048576) (hp : Pool (part ws st ln)) : CallH Go.Proofs.Tryz.prog 100 [.osv 0 1 bs st ln] 1 (hO [some (rowI ws)]) (.int .i64 0) 1 (hO [some (rowI ws)]) := by
  refine callH_of (c := ckBody) (t := 2) (hi := far) Go.Proofs.Tryz.func100 (by kernel_rfl) (Nat.blt_eq.mp (by kernel_rfl)) (by kernel_rfl) (Nat.ble_eq.mp (by kernel_rfl)) (fun m o ho => ?_) (fun m o ho hr => ?_) rfl ?_
  · have := obsOK_ok (p := fun m => Nat.blt m 1) [some (rowI ws)] 0 (by kernel_rfl) m o ho
    rw [blt_fun] at this
    exact ⟨by simpa using this.2.1, this.2.2⟩
  · rw [noRo_ok [some (rowI ws)] (by kernel_rfl) m o ho] at hr; cases hr
  · intro L w kind cs a hA
    obtain ⟨J1, b1, h1, h2⟩ := ckSt (kind := kind) (cs := cs) rfl hA
    obtain ⟨J2, b2, h3, h4⟩ := ckLoop1 (kind := kind) (cs := cs) rfl hw hbig hp ln J1 b1 0 (by omega) h1
    exact ⟨b2, _, 1, far, _, h3, rfl, h2.trans h4, .inr ⟨[], rfl⟩⟩
end
noncomputable def propB (p : Prop) : Bool := @decide p (Classical.propDecidable p)
theorem propB_iff {p : Prop} : propB p = true ↔ p := by unfold propB; exact @decide_eq_true_iff p (Classical.propDecidable p)
noncomputable def smCk (args : List V) (s : St) : Option (V × St) :=
  match args with
  | [x] => (nrm .i64 3 x s).bind fun r => match r with
    | ((_, _, st, ln, ws), s1) => (need (propB (ln ≤ 1048576 ∧ Pool (part ws st ln))) s1).bind fun s2 => some (.int .i64 0, s2)
  | _ => none
theorem smCk_sm : SmOK Go.Proofs.Tryz.prog 100 smCk := by
  refine ⟨fun args s v s' h ho => ?_, Go.Proofs.Tryz.call100⟩
  unfold smCk at h
  split at h
  · rename_i x
    obtain ⟨⟨⟨m, b, st, ln, ws⟩, s1⟩, h1, h2⟩ := bind_some' h
    obtain ⟨s2, h3, h4⟩ := bind_some' h2
    cases h4
    obtain ⟨hd, hq⟩ := need_ok h3 ho
    obtain ⟨hb, hd⟩ := propB_iff.1 hd
    obtain ⟨g1, g2, g3, g4, g5, g6⟩ := nrm_ok h1 hq.2
    refine ⟨g1.trans (.of_same hq.1), g2, ?_⟩
    have hcall : CallOK Go.Proofs.Tryz.prog 100 [.osv m 1 b st ln] s' (.int .i64 0) s' :=
      embedRO (l := [some (rowI ws)]) (ac := [.osv 0 1 b st ln]) (vc := .int .i64 0) (check_call g4 hb hd) (fun m hm => live1 m hm) (by kernel_rfl) (by kernel_rfl) [m] rfl (fun q o ho => by
        match q, ho with
        | 0, ho => cases ho; rw [hq.1.H]; exact g3) (by simp) rfl rfl
    refine CallOK.gh hcall (by rw [hq.1.nx]; exact g1.le) (Nat.le_refl _) (fun D L w hSR hD hst => ?_)
    have e1 : s'.nx = s1.nx := hq.1.nx
    have e2 : s'.H = s1.H := hq.1.H
    rw [e1] at hD
    obtain ⟨L', k1, k2⟩ := g6 D L w hSR hD
    refine ⟨L', ⟨by rw [e1]; exact k1.le, k1.agree, by rw [e1, e2]; exact k1.sr, fun n o b ho => by rw [e2] at ho; exact k1.sub n o b ho, fun n o ho => by rw [e2] at ho; exact k1.ro n o ho⟩, fun L'' hL'' => ?_⟩
    rw [e1] at hL''
    simp only [List.map_cons, List.map_nil, k2 L'' hL'']
  · cases h
end Go.Sx
/- Pools: All's contract. Printed by gen_O4b.py. -/
namespace Go.Sx
set_option maxRecDepth 100000
def shAns : List Sh := [.int .i64, .int .i64, .int .u64]
def ansOb (rs : List (List Int)) : Ob := .mem (.rows shAns rs) 67 (some 3)
def opBx (k a b w : Int) : Ob := .mem (.cells [.int .i64 k, .int .i64 a, .int .i64 b, .int .u64 w]) 65 none
noncomputable def smsB : List (Nat × SmF) := [(43, smAm), (100, smCk)]
noncomputable def F2 : Env := envOf tabT tabF (smOf smsB) seT
theorem F2_ok : EnvOK Go.Proofs.Tryz.prog F2 := env_ok _
theorem S2_ok : SumOK Go.Proofs.Tryz.prog F2 := sumOK_of rfl ⟨smAm_sm, smCk_sm, trivial⟩
abbrev frAl : Frs := ⟨86, none, 59⟩
noncomputable def alBody : Code := bodyOf Go.Proofs.Tryz.f86
noncomputable def alT : List Item := ((ctlN F2 (exec F2 400) frAl 19 [.code alBody] (Tr.ofList [.osv 0 1 0 0 1, .agg [.int .i64 7, .int .i64 0, .int .i64 0, .int .u64 0]]) [] ⟨trO [some (rowI [0])], 1, bits 4 0b1101, [], []⟩).map (·.1)).getD []
def slAl (bs st ln : Nat) (x : V) (i : Int) : List (Option V) := [some (.osv 0 1 bs st ln), none, none, some (.ptr 1 0 0 0), none, some x, some (.int .i64 i)] ++ List.replicate 52 none
def slAlE : List (Option V) := [none, none, none, none, some (.osl 1 3)] ++ List.replicate 54 none
noncomputable def alTE : List Item := ((ctlN F2 (exec F2 400) frAl 7 alT (trO (slots (fun _ => .nilp) 0 (slAl 0 0 0 .nils 0))) [] ⟨trO [some (rowI [0]), some (opBx 7 0 0 0)], 2, [], [], []⟩).map (·.1)).getD []
/-- The answers that there may be. -/
def poolAns (F : List Int) (k a : Int) : List (List Int) :=
  if k = 7 then F.map (fun v => [0, v, 0]) ++ [[7, 0, 0], [12, 0, 0]] else if ¬ (0 ≤ a ∧ a < 1024) then [[3, 0, 0]] else if a ∈ F then [[8, 0, 0]] else [[0, 0, 0]]
theorem alSt {β : Base} {kind : CallKind} {cs : List Frame} {a : Cf}  {ws : List Int} {bs st ln : Nat} {a1 b1 w1 : Int} (hβ : β.n0 = 1) (hA : Asrt β frAl (Tr.ofList [.osv 0 1 bs st ln, .agg [.int .i64 7, .int .i64 a1, .int .i64 b1, .int .u64 w1]]) [] (hO ([some (rowI ws)])) 1 far a) (hB : allB [propB (ln ≤ 1048576 ∧ Pool (part ws st ln)), decide (st + ln ≤ List.length ws)] = true) :
    ∃ J' b', Asrt β frAl (trO (slots J' 0 (slAl bs st ln .nils 0))) [] (hO ([some (rowI ws), some (opBx 7 a1 b1 w1)])) 2 far b' ∧ Steps Go.Proofs.Tryz.prog (At frAl none kind cs a ([.code alBody])) (At frAl none kind cs b' (alT)) :=
  Asrt.eval (n := 400) (m := 19) (orc := bits 4 0b1101) (πl := [0, 1]) (nx' := 2) (far := far) (todo := [.code alBody]) (todo' := alT) (l := [some (rowI ws)]) (l' := [some (rowI ws), some (opBx 7 a1 b1 w1)]) (sl' := slAl bs st ln .nils 0) (B := allB [propB (ln ≤ 1048576 ∧ Pool (part ws st ln)), decide (st + ln ≤ List.length ws)]) F2_ok S2_ok kind cs hA
    (by kernel_rfl) hB rfl rfl rfl rfl rfl (fun m => Nat.blt m 2) (p_all rfl rfl) (fun m hm => by rw [hβ] at hm; exact Nat.blt_eq.mpr (by omega)) (by rw [hβ]; kernel_rfl) (by kernel_rfl) (by kernel_rfl)
theorem alIt {β : Base} {kind : CallKind} {cs : List Frame} {J : Nat → V} {a : Cf}  {ws : List Int} {rs : List (List Int)} {bs st ln : Nat} {i a1 b1 w1 : Int} (hβ : β.n0 = 1) (hA : Asrt β frAl (trO (slots J 0 (slAl bs st ln (.osl 2 3) i))) [] (hO ([some (rowI ws), some (opBx 7 a1 b1 w1), some (ansOb rs)])) 3 far a) (hB : allB [decide (List.length rs + 1 ≤ 1048576), decide (st + Int.toNat i < List.length ws), decide (st + ln ≤ List.length ws), decide (0 ≤ i ∧ i < ((ln : Nat) : Int)), decide (i < ((ln : Nat) : Int))] = true) :
    ∃ J' b', Asrt β frAl (trO (slots J' 0 (slAl bs st ln (.osl 2 3) (IntKind.i64.wrap (i + 1))))) [] (hO ([some (rowI ws), some (opBx 7 a1 b1 w1), some (ansOb (rs ++ [[0, ws.getD (st + i.toNat) 0, 0]]))])) 3 far b' ∧ Steps Go.Proofs.Tryz.prog (At frAl none kind cs a (alT)) (At frAl none kind cs b' (alT)) :=
  Asrt.eval (n := 400) (m := 11) (orc := bits 5 0b11111) (πl := [0, 1, 4]) (nx' := 5) (far := far) (todo := alT) (todo' := alT) (l := [some (rowI ws), some (opBx 7 a1 b1 w1), some (ansOb rs)]) (l' := [some (rowI ws), some (opBx 7 a1 b1 w1), some (ansOb (rs ++ [[0, ws.getD (st + i.toNat) 0, 0]]))]) (sl' := slAl bs st ln (.osl 2 3) (IntKind.i64.wrap (i + 1))) (B := allB [decide (List.length rs + 1 ≤ 1048576), decide (st + Int.toNat i < List.length ws), decide (st + ln ≤ List.length ws), decide (0 ≤ i ∧ i < ((ln : Nat) : Int)), decide (i < ((ln : Nat) : Int))]) F2_ok S2_ok kind cs hA
    (by kernel_rfl) hB rfl rfl rfl rfl rfl (fun m => Nat.blt m 3) (p_all rfl rfl) (fun m hm => by rw [hβ] at hm; exact Nat.blt_eq.mpr (by omega)) (by rw [hβ]; kernel_rfl) (by kernel_rfl) (by kernel_rfl)
theorem alEx {β : Base} {kind : CallKind} {cs : List Frame} {J : Nat → V} {a : Cf}  {ws : List Int} {rs : List (List Int)} {bs st ln : Nat} {i a1 b1 w1 : Int} (hβ : β.n0 = 1) (hA : Asrt β frAl (trO (slots J 0 (slAl bs st ln (.osl 2 3) i))) [] (hO ([some (rowI ws), some (opBx 7 a1 b1 w1), some (ansOb rs)])) 3 far a) (hB : allB [decide (List.length rs + 2 ≤ 1048576), !decide (i < ((ln : Nat) : Int))] = true) :
    ∃ J' b', Asrt β frAl (trO (slots J' 0 (slAlE))) [] (hO ([some (rowI ws), some (ansOb (rs ++ [[7, 0, 0], [12, 0, 0]]))])) 2 far b' ∧ Steps Go.Proofs.Tryz.prog (At frAl none kind cs a (alT)) (At frAl none kind cs b' (alTE)) :=
  Asrt.eval (n := 400) (m := 7) (orc := bits 2 0b01) (πl := [0, 4]) (nx' := 5) (far := far) (todo := alT) (todo' := alTE) (l := [some (rowI ws), some (opBx 7 a1 b1 w1), some (ansOb rs)]) (l' := [some (rowI ws), some (ansOb (rs ++ [[7, 0, 0], [12, 0, 0]]))]) (sl' := slAlE) (B := allB [decide (List.length rs + 2 ≤ 1048576), !decide (i < ((ln : Nat) : Int))]) F2_ok S2_ok kind cs hA
    (by kernel_rfl) hB rfl rfl rfl rfl rfl (fun m => Nat.blt m 2) (p_all rfl rfl) (fun m hm => by rw [hβ] at hm; exact Nat.blt_eq.mpr (by omega)) (by rw [hβ]; kernel_rfl) (by kernel_rfl) (by kernel_rfl)
theorem alR {ws : List Int} {bs st ln : Nat} {a1 b1 w1 : Int} (hB : allB [!decide (a1 < 1024), decide (a1 ≥ 0), propB (ln ≤ 1048576 ∧ Pool (part ws st ln)), decide (st + ln ≤ List.length ws)] = true) : CallH Go.Proofs.Tryz.prog 86 [.osv 0 1 bs st ln, .agg [.int .i64 8, .int .i64 a1, .int .i64 b1, .int .u64 w1]] 1 (hO [some (rowI ws)]) (.osl 1 3) 2 (hO [some (rowI ws), some (ansOb [[3, 0, 0]])]) :=
  callH_eval (n := 400) (l := [some (rowI ws)]) (l' := [some (rowI ws), some (ansOb [[3, 0, 0]])]) (orc := bits 9 0b110001111) (πl := [0, 3]) (nx' := 4) F2_ok S2_ok (by kernel_rfl) hB rfl rfl rfl rfl rfl
theorem alN {ws : List Int} {bs st ln : Nat} {a1 b1 w1 : Int} (hB : allB [!decide (a1 ≥ 0), propB (ln ≤ 1048576 ∧ Pool (part ws st ln)), decide (st + ln ≤ List.length ws)] = true) : CallH Go.Proofs.Tryz.prog 86 [.osv 0 1 bs st ln, .agg [.int .i64 8, .int .i64 a1, .int .i64 b1, .int .u64 w1]] 1 (hO [some (rowI ws)]) (.osl 1 3) 2 (hO [some (rowI ws), some (ansOb [[3, 0, 0]])]) :=
  callH_eval (n := 400) (l := [some (rowI ws)]) (l' := [some (rowI ws), some (ansOb [[3, 0, 0]])]) (orc := bits 10 0b1100000011) (πl := [0, 3]) (nx' := 4) F2_ok S2_ok (by kernel_rfl) hB rfl rfl rfl rfl rfl
theorem alD {ws : List Int} {bs st ln : Nat} {a1 b1 w1 : Int} (hB : allB [decide (a1 ∈ part ws st ln), decide (ln ≤ 1048576), decide (st + ln ≤ List.length ws), !!decide (a1 < 1024), decide (a1 ≥ 0), propB (ln ≤ 1048576 ∧ Pool (part ws st ln)), decide (st + ln ≤ List.length ws)] = true) : CallH Go.Proofs.Tryz.prog 86 [.osv 0 1 bs st ln, .agg [.int .i64 8, .int .i64 a1, .int .i64 b1, .int .u64 w1]] 1 (hO [some (rowI ws)]) (.osl 1 3) 2 (hO [some (rowI ws), some (ansOb [[8, 0, 0]])]) :=
  callH_eval (n := 400) (l := [some (rowI ws)]) (l' := [some (rowI ws), some (ansOb [[8, 0, 0]])]) (orc := bits 12 0b110001101111) (πl := [0, 3]) (nx' := 4) F2_ok S2_ok (by kernel_rfl) hB rfl rfl rfl rfl rfl
theorem alO {ws : List Int} {bs st ln : Nat} {a1 b1 w1 : Int} (hB : allB [!decide (a1 ∈ part ws st ln), decide (ln ≤ 1048576), decide (st + ln ≤ List.length ws), !!decide (a1 < 1024), decide (a1 ≥ 0), propB (ln ≤ 1048576 ∧ Pool (part ws st ln)), decide (st + ln ≤ List.length ws)] = true) : CallH Go.Proofs.Tryz.prog 86 [.osv 0 1 bs st ln, .agg [.int .i64 8, .int .i64 a1, .int .i64 b1, .int .u64 w1]] 1 (hO [some (rowI ws)]) (.osl 1 3) 2 (hO [some (rowI ws), some (ansOb [[0, 0, 0]])]) :=
  callH_eval (n := 400) (l := [some (rowI ws)]) (l' := [some (rowI ws), some (ansOb [[0, 0, 0]])]) (orc := bits 12 0b110001101101) (πl := [0, 3]) (nx' := 4) F2_ok S2_ok (by kernel_rfl) hB rfl rfl rfl rfl rfl
section
variable {β : Base} {kind : CallKind} {cs : List Frame} {ws : List Int} {bs st ln : Nat} {a1 b1 w1 : Int}
theorem alLoop (hβ : β.n0 = 1) (hw : st + ln ≤ ws.length) (hbig : ln ≤ 1048) : ∀ (d : Nat) (J : Nat → V) (a : Cf) (i : Nat), ln = i + d → Asrt β frAl (trO (slots J 0 (slAl bs st ln (.osl 2 3) (i : Int)))) [] (hO [some (rowI ws), some (opBx 7 a1 b1 w1), some (ansOb (((part ws st ln).take i).map fun v => [0, v, 0]))]) 3 far a →
    ∃ J' b', Asrt β frAl (trO (slots J' 0 slAlE)) [] (hO [some (rowI ws), some (ansOb (poolAns (part ws st ln) 7 a1))]) 2 far b' ∧ Steps Go.Proofs.Tryz.prog (At frAl none kind cs a alT) (At frAl none kind cs b' alTE) := by
  have hlen := part_length hw
  intro d
  induction d with
  | zero =>
    intro J a i hd hA
    obtain ⟨J1, b1', h3, h4⟩ := alEx (kind := kind) (cs := cs) hβ hA (by
      simp only [allB_iff, List.forall_mem_cons, Bool.not_eq_true', decide_eq_false_iff_not, decide_eq_true_eq, List.length_map, List.length_take, hlen]
      and_intros <;> first | omega | (intro _ hb; cases hb))
    have e : poolAns (part ws st ln) 7 a1 = ((part ws st ln).take i).map (fun v => [0, v, 0]) ++ [[7, 0, 0], [12, 0, 0]] := by
      unfold poolAns
      rw [if_pos rfl, List.take_of_length_le (by omega)]
    rw [e]
    exact ⟨J1, b1', h3, h4⟩
  | succ d ih =>
    intro J a i hd hA
    obtain ⟨J1, b1', h3, h4⟩ := alIt (kind := kind) (cs := cs) hβ hA (by
      simp only [allB_iff, List.forall_mem_cons, decide_eq_true_eq, Int.toNat_natCast, List.length_map, List.length_take, hlen]
      and_intros <;> first | omega | assumption | (intro _ hb; cases hb))
    rw [wrap_i64 (by omega) (by omega)] at h3
    have e : ((part ws st ln).take i).map (fun v => [0, v, 0]) ++ [[0, ws.getD (st + (i : Int).toNat) 0, 0]] = ((part ws st ln).take (i + 1)).map fun v => [0, v, 0] := by
      rw [Int.toNat_natCast, ← part_getD hw (show i < ln by omega), List.take_add_one, List.map_append]
      rw [List.getD_eq_getElem?_getD, List.getElem?_eq_getElem (by omega)]
      rfl
    rw [e] at h3
    obtain ⟨J2, b2, h5, h6⟩ := ih J1 b1' (i + 1) (by omega) (by exact_mod_cast h3)
    exact ⟨J2, b2, h5, h4.trans h6⟩
theorem all7_call (hw : st + ln ≤ ws.length) (hbig : ln ≤ 1048) (hp : Pool (part ws st ln)) : CallH Go.Proofs.Tryz.prog 86 [.osv 0 1 bs st ln, .agg [.int .i64 7, .int .i64 a1, .int .i64 b1, .int .u64 w1]] 1 (hO [some (rowI ws)]) (.osl 1 3) 2 (hO [some (rowI ws), some (ansOb (poolAns (part ws st ln) 7 a1))]) := by
  refine callH_of (c := alBody) (t := 4) (hi := far) Go.Proofs.Tryz.func86 (by kernel_rfl) (Nat.blt_eq.mp (by kernel_rfl)) (by kernel_rfl) (Nat.ble_eq.mp (by kernel_rfl)) (fun m o ho => ?_) (fun m o ho hr => ?_) rfl ?_
  · have := obsOK_ok (p := fun m => Nat.blt m 2) [some (rowI ws), some (ansOb (poolAns (part ws st ln) 7 a1))] 0 (by kernel_rfl) m o ho
    rw [blt_fun] at this
    exact ⟨by simpa using this.2.1, this.2.2⟩
  · rw [noRo_ok [some (rowI ws), some (ansOb (poolAns (part ws st ln) 7 a1))] (by kernel_rfl) m o ho] at hr; cases hr
  · intro L w kind cs a hA
    obtain ⟨J1, b1', h1, h2⟩ := alSt (kind := kind) (cs := cs) rfl hA (by
      simp only [allB_iff, List.forall_mem_cons, decide_eq_true_eq, propB_iff]
      and_intros <;> first | omega | assumption | (intro _ hb; cases hb) | exact hp.1 | exact hp.2)
    have hs := hO_snoc (l := [some (rowI ws), some (opBx 7 a1 b1 w1)]) (o := ansOb [])
    have h3 := h1.ghost (T' := trO (slots J1 0 (slAl bs st ln (.osl 2 3) 0))) (b := .rows shAns []) (es := 3) (t := 67) (by decide) (Nat.le_of_ble_eq_true rfl) rfl rfl hs.1 (fun m hm => .inl (hs.2 m hm)) (ghost_slots (k := 5) (sl := slAl bs st ln .nils 0) rfl (Nat.blt_eq.mp (by kernel_rfl)))
    obtain ⟨J2, b2, h5, h6⟩ := alLoop (kind := kind) (cs := cs) rfl hw hbig ln J1 b1' 0 (by omega) h3
    exact ⟨b2, _, 2, far, _, h5, rfl, h2.trans h6, .inr ⟨alTE.tail, by kernel_rfl⟩⟩
theorem all8_call (hw : st + ln ≤ ws.length) (hbig : ln ≤ 1048) (hp : Pool (part ws st ln)) : CallH Go.Proofs.Tryz.prog 86 [.osv 0 1 bs st ln, .agg [.int .i64 8, .int .i64 a1, .int .i64 b1, .int .u64 w1]] 1 (hO [some (rowI ws)]) (.osl 1 3) 2 (hO [some (rowI ws), some (ansOb (poolAns (part ws st ln) 8 a1))]) := by
  unfold poolAns
  rw [if_neg (by decide)]
  by_cases h0 : 0 ≤ a1 ∧ a1 < 1024
  · rw [if_neg (by simpa using h0)]
    by_cases h1 : a1 ∈ part ws st ln
    · rw [if_pos h1]
      exact alD (by
        simp only [allB_iff, List.forall_mem_cons, decide_eq_true_eq, propB_iff, Bool.not_not]
        and_intros <;> first | omega | assumption | (intro _ hb; cases hb) | exact hp.1 | exact hp.2)
    · rw [if_neg h1]
      exact alO (by
        simp only [allB_iff, List.forall_mem_cons, decide_eq_true_eq, propB_iff, Bool.not_not, Bool.not_eq_true', decide_eq_false_iff_not]
        and_intros <;> first | omega | assumption | (intro _ hb; cases hb) | exact hp.1 | exact hp.2)
  · rw [if_pos h0]
    by_cases h1 : a1 ≥ 0
    · exact alR (by
        simp only [allB_iff, List.forall_mem_cons, decide_eq_true_eq, propB_iff, Bool.not_not, Bool.not_eq_true', decide_eq_false_iff_not]
        and_intros <;> first | omega | assumption | (intro _ hb; cases hb) | exact hp.1 | exact hp.2)
    · exact alN (by
        simp only [allB_iff, List.forall_mem_cons, decide_eq_true_eq, propB_iff, Bool.not_not, Bool.not_eq_true', decide_eq_false_iff_not]
        and_intros <;> first | omega | assumption | (intro _ hb; cases hb) | exact hp.1 | exact hp.2)
end
/-- A call over one row that makes a new one. -/
theorem rowNew {f : FuncId} {ex : List V} (hren : ∀ π, ex.map (V.ren π) = ex) (hden : ∀ L L', ex.map (V.den L) = ex.map (V.den L')) {q b st ln m es : Nat} {ws : List Int} {o : Ob} {x : V} {s s1 s2 s3 : St} (hnm : liveNames (fun m => Nat.blt m 1) ((.osv 0 1 b st ln :: ex).map some) = true) (hnr : nrm .i64 3 x s = some ((q, b, st, ln, ws), s1)) (hq : Same s1 s2) (ho1 : Obl s1) (hn : s2.new o = some (m, s3))
    (hob : obsOK (fun m => Nat.blt m 2) 0 [some (rowI ws), some o] = true) (hren' : ∀ π, o.ren π = o)
    (h : st + ln ≤ ws.length → CallH Go.Proofs.Tryz.prog f (.osv 0 1 b st ln :: ex) 1 (hO [some (rowI ws)]) (.osl 1 es) 2 (hO [some (rowI ws), some o])) :
    Lg s s3 ∧ Obl s ∧ CallOK Go.Proofs.Tryz.prog f (x :: ex) s (.osl m es) s3 := by
  obtain ⟨n1, n2, n3, n4, n5⟩ := new_ok hn
  obtain ⟨g1, g2, g3, g4, g5, g6⟩ := nrm_ok hnr ho1
  have e1 : s2.nx = s1.nx := hq.nx
  have e2 : s2.H = s1.H := hq.H
  refine ⟨(g1.trans (.of_same hq)).trans (.new hn), g2, ?_⟩
  have hcall : CallOK Go.Proofs.Tryz.prog f (.osv q 1 b st ln :: ex) s2 (.osl m es) s3 := by
    have h1 := embed1 (l := [some (rowI ws)]) (o := o) (ac := .osv 0 1 b st ln :: ex) (s := s2) (s1 := s2) (args := .osv q 1 b st ln :: ex) (v := .osl s2.nx es) (h g4) (fun m hm => live1 m hm) rfl hob hnm [q] rfl (fun m o ho => by
        match m, ho with
        | 0, ho => cases ho; rw [e2]; exact g3) (by simp) (by simp only [List.map_cons, hren]; rfl) ⟨rfl, rfl, rfl⟩ hn (by rw [hren']) rfl
    rw [n1]
    exact h1
  refine CallOK.gh hcall (by rw [e1]; exact g1.le) (by omega) (fun D L w hSR hD hst => ?_)
  rw [e1] at hD
  obtain ⟨L', k1, k2⟩ := g6 D L w hSR hD
  refine ⟨L', ⟨by rw [e1]; exact k1.le, k1.agree, by rw [e1, e2]; exact k1.sr, fun n o b ho => by rw [e2] at ho; exact k1.sub n o b ho, fun n o ho => by rw [e2] at ho; exact k1.ro n o ho⟩, fun L'' hL'' => ?_⟩
  rw [e1] at hL''
  simp only [List.map_cons, k2 L'' hL'', hden L'' L]
/-- All's summary. -/
noncomputable def smAl (args : List V) (s : St) : Option (V × St) :=
  match args with
  | [x, .agg [.int .i64 k, .int .i64 a, .int .i64 b, .int .u64 w]] => (nrm .i64 3 x s).bind fun r => match r with
    | ((_, _, st, ln, ws), s1) => (need (propB (ln ≤ 1048 ∧ Pool (part ws st ln) ∧ (k = 7 ∨ k = 8))) s1).bind fun s2 => (s2.new (ansOb (poolAns (part ws st ln) k a))).bind fun r2 => match r2 with
      | (m, s3) => some (.osl m 3, s3)
  | _ => none
theorem smAl_sm : SmOK Go.Proofs.Tryz.prog 86 smAl := by
  refine ⟨fun args s v s' h ho => ?_, Go.Proofs.Tryz.call86⟩
  unfold smAl at h
  split at h
  · rename_i x k a b w
    obtain ⟨⟨⟨q, bb, st, ln, ws⟩, s1⟩, h1, h2⟩ := bind_some' h
    obtain ⟨s2, h3, h4⟩ := bind_some' h2
    obtain ⟨⟨m, s3⟩, h5, h6⟩ := bind_some' h4
    cases h6
    obtain ⟨n1, n2, n3, n4, n5⟩ := new_ok h5
    have ho2 : Obl s2 := by unfold Obl at ho ⊢; rw [n4] at ho; exact ho
    obtain ⟨hd, hq⟩ := need_ok h3 ho2
    obtain ⟨d1, d2, d3⟩ := propB_iff.1 hd
    refine rowNew (ex := [.agg [.int .i64 k, .int .i64 a, .int .i64 b, .int .u64 w]]) (fun _ => rfl) (fun _ _ => rfl) rfl h1 hq.1 hq.2 h5 rfl (fun _ => rfl) (fun hw => ?_)
    rcases d3 with rfl | rfl
    · exact all7_call hw d1 d2
    · exact all8_call hw d1 d2
  · cases h
end Go.Sx
/- Pools: behind's contract. Printed by gen_O4c.py. -/
namespace Go.Sx
set_option maxRecDepth 100000
def anBx (e n x : Int) : Ob := .mem (.cells [.int .i64 e, .int .i64 n, .int .u64 x]) 67 none
abbrev frBh : Frs := ⟨87, none, 46⟩
noncomputable def bhBody : Code := bodyOf Go.Proofs.Tryz.f87
noncomputable def bhT : List Item := ((ctlN F2 (exec F2 400) frBh 14 [.code bhBody] (Tr.ofList [.osv 0 1 0 0 1, .agg [.int .i64 7, .int .i64 0, .int .i64 0, .int .u64 0], .agg [.int .i64 0, .int .i64 0, .int .u64 0]]) [] ⟨trO [some (rowI [0])], 1, bits 1 0, [], []⟩).map (·.1)).getD []
def slBh (bs st ln : Nat) (x : V) (i : Int) : List (Option V) := [some (.osv 0 1 bs st ln), none, none, none, some (.ptr 1 0 0 0), some (.ptr 2 0 0 0), none, some x, some (.int .i64 i)] ++ List.replicate 37 none
def slBhE : List (Option V) := [none, none, none, none, none, none, some (.osl 1 1)] ++ List.replicate 39 none
/-- Is an index free behind an answer that is OK? -/
def freeB (F : List Int) (k a n i : Int) : Bool := if k = 8 ∧ i = a then true else if k = 7 ∧ i = n then false else decide (i ∈ F)
/-- What is free behind an answer. -/
def poolNx (F : List Int) (k a e n : Int) : List Int := if e = 0 then ((List.range 1024).map fun (i : Nat) => (i : Int)).filter (freeB F k a n) else F
theorem bhSt {β : Base} {kind : CallKind} {cs : List Frame} {a : Cf}  {ws : List Int} {bs st ln : Nat} {k1 a1 b1 w1 n1 y1 : Int} (hβ : β.n0 = 1) (hA : Asrt β frBh (Tr.ofList [.osv 0 1 bs st ln, .agg [.int .i64 k1, .int .i64 a1, .int .i64 b1, .int .u64 w1], .agg [.int .i64 0, .int .i64 n1, .int .u64 y1]]) [] (hO ([some (rowI ws)])) 1 far a) :
    ∃ J' b', Asrt β frBh (trO (slots J' 0 (slBh bs st ln .nils 0))) [] (hO ([some (rowI ws), some (opBx k1 a1 b1 w1), some (anBx 0 n1 y1)])) 3 far b' ∧ Steps Go.Proofs.Tryz.prog (At frBh none kind cs a ([.code bhBody])) (At frBh none kind cs b' (bhT)) :=
  Asrt.eval (n := 400) (m := 14) (orc := bits 1 0b0) (πl := [0, 1, 2]) (nx' := 3) (far := far) (todo := [.code bhBody]) (todo' := bhT) (l := [some (rowI ws)]) (l' := [some (rowI ws), some (opBx k1 a1 b1 w1), some (anBx 0 n1 y1)]) (sl' := slBh bs st ln .nils 0) (B := allB []) F2_ok S2_ok kind cs hA
    (by kernel_rfl) rfl rfl rfl rfl rfl rfl (fun m => Nat.blt m 3) (p_all rfl rfl) (fun m hm => by rw [hβ] at hm; exact Nat.blt_eq.mpr (by omega)) (by rw [hβ]; kernel_rfl) (by kernel_rfl) (by kernel_rfl)
theorem bh7A {β : Base} {kind : CallKind} {cs : List Frame} {J : Nat → V} {a : Cf}  {ws out : List Int} {bs st ln : Nat} {a1 b1 w1 n1 y1 i : Int} (hβ : β.n0 = 1) (hA : Asrt β frBh (trO (slots J 0 (slBh bs st ln (.osl 3 1) i))) [] (hO ([some (rowI ws), some (opBx 7 a1 b1 w1), some (anBx 0 n1 y1), some (rowI (out))])) 4 far a) (hB : allB [i == n1, decide (ln ≤ 1048576), decide (st + ln ≤ List.length ws), decide (i < 1024)] = true) :
    ∃ J' b', Asrt β frBh (trO (slots J' 0 (slBh bs st ln (.osl 3 1) (IntKind.i64.wrap (i + 1))))) [] (hO ([some (rowI ws), some (opBx 7 a1 b1 w1), some (anBx 0 n1 y1), some (rowI (out))])) 4 far b' ∧ Steps Go.Proofs.Tryz.prog (At frBh none kind cs a (bhT)) (At frBh none kind cs b' (bhT)) :=
  Asrt.eval (n := 400) (m := 26) (orc := bits 15 0b111111110000000) (πl := [0, 1, 2, 3]) (nx' := 4) (far := far) (todo := bhT) (todo' := bhT) (l := [some (rowI ws), some (opBx 7 a1 b1 w1), some (anBx 0 n1 y1), some (rowI (out))]) (l' := [some (rowI ws), some (opBx 7 a1 b1 w1), some (anBx 0 n1 y1), some (rowI (out))]) (sl' := slBh bs st ln (.osl 3 1) (IntKind.i64.wrap (i + 1))) (B := allB [i == n1, decide (ln ≤ 1048576), decide (st + ln ≤ List.length ws), decide (i < 1024)]) F2_ok S2_ok kind cs hA
    (by kernel_rfl) hB rfl rfl rfl rfl rfl (fun m => Nat.blt m 4) (p_all rfl rfl) (fun m hm => by rw [hβ] at hm; exact Nat.blt_eq.mpr (by omega)) (by rw [hβ]; kernel_rfl) (by kernel_rfl) (by kernel_rfl)
theorem bh7B {β : Base} {kind : CallKind} {cs : List Frame} {J : Nat → V} {a : Cf}  {ws out : List Int} {bs st ln : Nat} {a1 b1 w1 n1 y1 i : Int} (hβ : β.n0 = 1) (hA : Asrt β frBh (trO (slots J 0 (slBh bs st ln (.osl 3 1) i))) [] (hO ([some (rowI ws), some (opBx 7 a1 b1 w1), some (anBx 0 n1 y1), some (rowI (out))])) 4 far a) (hB : allB [decide (List.length out + 1 ≤ 1048576), decide (i ∈ part ws st ln), !i == n1, decide (ln ≤ 1048576), decide (st + ln ≤ List.length ws), decide (i < 1024)] = true) :
    ∃ J' b', Asrt β frBh (trO (slots J' 0 (slBh bs st ln (.osl 3 1) (IntKind.i64.wrap (i + 1))))) [] (hO ([some (rowI ws), some (opBx 7 a1 b1 w1), some (anBx 0 n1 y1), some (rowI (out ++ [i]))])) 4 far b' ∧ Steps Go.Proofs.Tryz.prog (At frBh none kind cs a (bhT)) (At frBh none kind cs b' (bhT)) :=
  Asrt.eval (n := 400) (m := 26) (orc := bits 16 0b1111111000000011) (πl := [0, 1, 2, 5]) (nx' := 6) (far := far) (todo := bhT) (todo' := bhT) (l := [some (rowI ws), some (opBx 7 a1 b1 w1), some (anBx 0 n1 y1), some (rowI (out))]) (l' := [some (rowI ws), some (opBx 7 a1 b1 w1), some (anBx 0 n1 y1), some (rowI (out ++ [i]))]) (sl' := slBh bs st ln (.osl 3 1) (IntKind.i64.wrap (i + 1))) (B := allB [decide (List.length out + 1 ≤ 1048576), decide (i ∈ part ws st ln), !i == n1, decide (ln ≤ 1048576), decide (st + ln ≤ List.length ws), decide (i < 1024)]) F2_ok S2_ok kind cs hA
    (by kernel_rfl) hB rfl rfl rfl rfl rfl (fun m => Nat.blt m 4) (p_all rfl rfl) (fun m hm => by rw [hβ] at hm; exact Nat.blt_eq.mpr (by omega)) (by rw [hβ]; kernel_rfl) (by kernel_rfl) (by kernel_rfl)
theorem bh7C {β : Base} {kind : CallKind} {cs : List Frame} {J : Nat → V} {a : Cf}  {ws out : List Int} {bs st ln : Nat} {a1 b1 w1 n1 y1 i : Int} (hβ : β.n0 = 1) (hA : Asrt β frBh (trO (slots J 0 (slBh bs st ln (.osl 3 1) i))) [] (hO ([some (rowI ws), some (opBx 7 a1 b1 w1), some (anBx 0 n1 y1), some (rowI (out))])) 4 far a) (hB : allB [!decide (i ∈ part ws st ln), !i == n1, decide (ln ≤ 1048576), decide (st + ln ≤ List.length ws), decide (i < 1024)] = true) :
    ∃ J' b', Asrt β frBh (trO (slots J' 0 (slBh bs st ln (.osl 3 1) (IntKind.i64.wrap (i + 1))))) [] (hO ([some (rowI ws), some (opBx 7 a1 b1 w1), some (anBx 0 n1 y1), some (rowI (out))])) 4 far b' ∧ Steps Go.Proofs.Tryz.prog (At frBh none kind cs a (bhT)) (At frBh none kind cs b' (bhT)) :=
  Asrt.eval (n := 400) (m := 26) (orc := bits 15 0b111111100000000) (πl := [0, 1, 2, 3]) (nx' := 4) (far := far) (todo := bhT) (todo' := bhT) (l := [some (rowI ws), some (opBx 7 a1 b1 w1), some (anBx 0 n1 y1), some (rowI (out))]) (l' := [some (rowI ws), some (opBx 7 a1 b1 w1), some (anBx 0 n1 y1), some (rowI (out))]) (sl' := slBh bs st ln (.osl 3 1) (IntKind.i64.wrap (i + 1))) (B := allB [!decide (i ∈ part ws st ln), !i == n1, decide (ln ≤ 1048576), decide (st + ln ≤ List.length ws), decide (i < 1024)]) F2_ok S2_ok kind cs hA
    (by kernel_rfl) hB rfl rfl rfl rfl rfl (fun m => Nat.blt m 4) (p_all rfl rfl) (fun m hm => by rw [hβ] at hm; exact Nat.blt_eq.mpr (by omega)) (by rw [hβ]; kernel_rfl) (by kernel_rfl) (by kernel_rfl)
theorem bh8A {β : Base} {kind : CallKind} {cs : List Frame} {J : Nat → V} {a : Cf}  {ws out : List Int} {bs st ln : Nat} {a1 b1 w1 n1 y1 i : Int} (hβ : β.n0 = 1) (hA : Asrt β frBh (trO (slots J 0 (slBh bs st ln (.osl 3 1) i))) [] (hO ([some (rowI ws), some (opBx 8 a1 b1 w1), some (anBx 0 n1 y1), some (rowI (out))])) 4 far a) (hB : allB [decide (List.length out + 1 ≤ 1048576), i == a1, decide (ln ≤ 1048576), decide (st + ln ≤ List.length ws), decide (i < 1024)] = true) :
    ∃ J' b', Asrt β frBh (trO (slots J' 0 (slBh bs st ln (.osl 3 1) (IntKind.i64.wrap (i + 1))))) [] (hO ([some (rowI ws), some (opBx 8 a1 b1 w1), some (anBx 0 n1 y1), some (rowI (out ++ [i]))])) 4 far b' ∧ Steps Go.Proofs.Tryz.prog (At frBh none kind cs a (bhT)) (At frBh none kind cs b' (bhT)) :=
  Asrt.eval (n := 400) (m := 26) (orc := bits 16 0b1110000001111111) (πl := [0, 1, 2, 5]) (nx' := 6) (far := far) (todo := bhT) (todo' := bhT) (l := [some (rowI ws), some (opBx 8 a1 b1 w1), some (anBx 0 n1 y1), some (rowI (out))]) (l' := [some (rowI ws), some (opBx 8 a1 b1 w1), some (anBx 0 n1 y1), some (rowI (out ++ [i]))]) (sl' := slBh bs st ln (.osl 3 1) (IntKind.i64.wrap (i + 1))) (B := allB [decide (List.length out + 1 ≤ 1048576), i == a1, decide (ln ≤ 1048576), decide (st + ln ≤ List.length ws), decide (i < 1024)]) F2_ok S2_ok kind cs hA
    (by kernel_rfl) hB rfl rfl rfl rfl rfl (fun m => Nat.blt m 4) (p_all rfl rfl) (fun m hm => by rw [hβ] at hm; exact Nat.blt_eq.mpr (by omega)) (by rw [hβ]; kernel_rfl) (by kernel_rfl) (by kernel_rfl)
theorem bh8B {β : Base} {kind : CallKind} {cs : List Frame} {J : Nat → V} {a : Cf}  {ws out : List Int} {bs st ln : Nat} {a1 b1 w1 n1 y1 i : Int} (hβ : β.n0 = 1) (hA : Asrt β frBh (trO (slots J 0 (slBh bs st ln (.osl 3 1) i))) [] (hO ([some (rowI ws), some (opBx 8 a1 b1 w1), some (anBx 0 n1 y1), some (rowI (out))])) 4 far a) (hB : allB [decide (List.length out + 1 ≤ 1048576), decide (i ∈ part ws st ln), !i == a1, decide (ln ≤ 1048576), decide (st + ln ≤ List.length ws), decide (i < 1024)] = true) :
    ∃ J' b', Asrt β frBh (trO (slots J' 0 (slBh bs st ln (.osl 3 1) (IntKind.i64.wrap (i + 1))))) [] (hO ([some (rowI ws), some (opBx 8 a1 b1 w1), some (anBx 0 n1 y1), some (rowI (out ++ [i]))])) 4 far b' ∧ Steps Go.Proofs.Tryz.prog (At frBh none kind cs a (bhT)) (At frBh none kind cs b' (bhT)) :=
  Asrt.eval (n := 400) (m := 26) (orc := bits 16 0b1110000001111011) (πl := [0, 1, 2, 5]) (nx' := 6) (far := far) (todo := bhT) (todo' := bhT) (l := [some (rowI ws), some (opBx 8 a1 b1 w1), some (anBx 0 n1 y1), some (rowI (out))]) (l' := [some (rowI ws), some (opBx 8 a1 b1 w1), some (anBx 0 n1 y1), some (rowI (out ++ [i]))]) (sl' := slBh bs st ln (.osl 3 1) (IntKind.i64.wrap (i + 1))) (B := allB [decide (List.length out + 1 ≤ 1048576), decide (i ∈ part ws st ln), !i == a1, decide (ln ≤ 1048576), decide (st + ln ≤ List.length ws), decide (i < 1024)]) F2_ok S2_ok kind cs hA
    (by kernel_rfl) hB rfl rfl rfl rfl rfl (fun m => Nat.blt m 4) (p_all rfl rfl) (fun m hm => by rw [hβ] at hm; exact Nat.blt_eq.mpr (by omega)) (by rw [hβ]; kernel_rfl) (by kernel_rfl) (by kernel_rfl)
theorem bh8C {β : Base} {kind : CallKind} {cs : List Frame} {J : Nat → V} {a : Cf}  {ws out : List Int} {bs st ln : Nat} {a1 b1 w1 n1 y1 i : Int} (hβ : β.n0 = 1) (hA : Asrt β frBh (trO (slots J 0 (slBh bs st ln (.osl 3 1) i))) [] (hO ([some (rowI ws), some (opBx 8 a1 b1 w1), some (anBx 0 n1 y1), some (rowI (out))])) 4 far a) (hB : allB [!decide (i ∈ part ws st ln), !i == a1, decide (ln ≤ 1048576), decide (st + ln ≤ List.length ws), decide (i < 1024)] = true) :
    ∃ J' b', Asrt β frBh (trO (slots J' 0 (slBh bs st ln (.osl 3 1) (IntKind.i64.wrap (i + 1))))) [] (hO ([some (rowI ws), some (opBx 8 a1 b1 w1), some (anBx 0 n1 y1), some (rowI (out))])) 4 far b' ∧ Steps Go.Proofs.Tryz.prog (At frBh none kind cs a (bhT)) (At frBh none kind cs b' (bhT)) :=
  Asrt.eval (n := 400) (m := 26) (orc := bits 15 0b111000000111100) (πl := [0, 1, 2, 3]) (nx' := 4) (far := far) (todo := bhT) (todo' := bhT) (l := [some (rowI ws), some (opBx 8 a1 b1 w1), some (anBx 0 n1 y1), some (rowI (out))]) (l' := [some (rowI ws), some (opBx 8 a1 b1 w1), some (anBx 0 n1 y1), some (rowI (out))]) (sl' := slBh bs st ln (.osl 3 1) (IntKind.i64.wrap (i + 1))) (B := allB [!decide (i ∈ part ws st ln), !i == a1, decide (ln ≤ 1048576), decide (st + ln ≤ List.length ws), decide (i < 1024)]) F2_ok S2_ok kind cs hA
    (by kernel_rfl) hB rfl rfl rfl rfl rfl (fun m => Nat.blt m 4) (p_all rfl rfl) (fun m hm => by rw [hβ] at hm; exact Nat.blt_eq.mpr (by omega)) (by rw [hβ]; kernel_rfl) (by kernel_rfl) (by kernel_rfl)
theorem bhEx {β : Base} {kind : CallKind} {cs : List Frame} {J : Nat → V} {a : Cf}  {ws out : List Int} {bs st ln : Nat} {k1 a1 b1 w1 n1 y1 i : Int} (hβ : β.n0 = 1) (hA : Asrt β frBh (trO (slots J 0 (slBh bs st ln (.osl 3 1) i))) [] (hO ([some (rowI ws), some (opBx k1 a1 b1 w1), some (anBx 0 n1 y1), some (rowI (out))])) 4 far a) (hB : allB [!decide (i < 1024)] = true) :
    ∃ J' b', Asrt β frBh (trO (slots J' 0 (slBhE))) [] (hO ([some (rowI ws), some (rowI out)])) 2 far b' ∧ Steps Go.Proofs.Tryz.prog (At frBh none kind cs a (bhT)) (At frBh none kind cs b' ([.code .ret])) :=
  Asrt.eval (n := 400) (m := 7) (orc := bits 1 0b0) (πl := [0, 3]) (nx' := 4) (far := far) (todo := bhT) (todo' := [.code .ret]) (l := [some (rowI ws), some (opBx k1 a1 b1 w1), some (anBx 0 n1 y1), some (rowI (out))]) (l' := [some (rowI ws), some (rowI out)]) (sl' := slBhE) (B := allB [!decide (i < 1024)]) F2_ok S2_ok kind cs hA
    (by kernel_rfl) hB rfl rfl rfl rfl rfl (fun m => Nat.blt m 2) (p_all rfl rfl) (fun m hm => by rw [hβ] at hm; exact Nat.blt_eq.mpr (by omega)) (by rw [hβ]; kernel_rfl) (by kernel_rfl) (by kernel_rfl)
theorem bhCp {ws : List Int} {bs st ln : Nat} {k1 a1 b1 w1 n1 y1 e1 : Int} (hB : allB [decide (0 + ln ≤ 1048576), decide (st + ln ≤ List.length ws), e1 != 0] = true) : CallH Go.Proofs.Tryz.prog 87 [.osv 0 1 bs st ln, .agg [.int .i64 k1, .int .i64 a1, .int .i64 b1, .int .u64 w1], .agg [.int .i64 e1, .int .i64 n1, .int .u64 y1]] 1 (hO [some (rowI ws)]) (.osl 1 1) 2 (hO [some (rowI ws), some (rowI ([] ++ (ws.drop st).take ln))]) :=
  callH_eval (n := 400) (l := [some (rowI ws)]) (l' := [some (rowI ws), some (rowI ([] ++ (ws.drop st).take ln))]) (orc := bits 3 0b111) (πl := [0, 4]) (nx' := 5) F2_ok S2_ok (by kernel_rfl) hB rfl rfl rfl rfl rfl
def upTo (i : Nat) (f : Int → Bool) : List Int := ((List.range i).map fun (i : Nat) => (i : Int)).filter f
theorem upTo_succ {i : Nat} {f : Int → Bool} : upTo (i + 1) f = if f (i : Int) then upTo i f ++ [(i : Int)] else upTo i f := by
  unfold upTo
  rw [List.range_succ, List.map_append, List.filter_append]
  cases h : f (i : Int) <;> simp [h]
theorem upTo_len {i : Nat} {f : Int → Bool} : (upTo i f).length ≤ i := by
  unfold upTo
  have := List.length_filter_le f ((List.range i).map fun (i : Nat) => (i : Int))
  simpa using this
section
variable {β : Base} {kind : CallKind} {cs : List Frame} {ws : List Int} {bs st ln : Nat} {k1 a1 b1 w1 n1 y1 e1 : Int}
theorem bhIter (hβ : β.n0 = 1) (hw : st + ln ≤ ws.length) (hbig : ln ≤ 1048576) (hk : k1 = 7 ∨ k1 = 8) {J : Nat → V} {a : Cf} {i : Nat} (hi : i < 1024) (hA : Asrt β frBh (trO (slots J 0 (slBh bs st ln (.osl 3 1) (i : Int)))) [] (hO [some (rowI ws), some (opBx k1 a1 b1 w1), some (anBx 0 n1 y1), some (rowI (upTo i (freeB (part ws st ln) k1 a1 n1)))]) 4 far a) :
    ∃ J' b', Asrt β frBh (trO (slots J' 0 (slBh bs st ln (.osl 3 1) ((i + 1 : Nat) : Int)))) [] (hO [some (rowI ws), some (opBx k1 a1 b1 w1), some (anBx 0 n1 y1), some (rowI (upTo (i + 1) (freeB (part ws st ln) k1 a1 n1)))]) 4 far b' ∧ Steps Go.Proofs.Tryz.prog (At frBh none kind cs a bhT) (At frBh none kind cs b' bhT) := by
  have hl : (upTo i (freeB (part ws st ln) k1 a1 n1)).length ≤ i := upTo_len
  have e0 : IntKind.i64.wrap ((i : Int) + 1) = ((i + 1 : Nat) : Int) := by rw [wrap_i64 (by omega) (by omega)]; omega
  rw [upTo_succ, ← e0]
  rcases hk with rfl | rfl
  · by_cases h1 : (i : Int) = n1
    · have hf : freeB (part ws st ln) 7 a1 n1 (i : Int) = false := by simp [freeB, h1]
      rw [hf, if_neg (by decide)]
      exact bh7A hβ hA (by
        simp only [allB_iff, List.forall_mem_cons, decide_eq_true_eq, beq_iff_eq]
        and_intros <;> first | omega | assumption | (intro _ hb; cases hb))
    · by_cases h2 : (i : Int) ∈ part ws st ln
      · have hf : freeB (part ws st ln) 7 a1 n1 (i : Int) = true := by simp [freeB, h1, h2]
        rw [hf, if_pos rfl]
        exact bh7B hβ hA (by
          simp only [allB_iff, List.forall_mem_cons, decide_eq_true_eq, Bool.not_eq_true', beq_eq_false_iff_ne]
          and_intros <;> first | omega | assumption | (intro _ hb; cases hb))
      · have hf : freeB (part ws st ln) 7 a1 n1 (i : Int) = false := by simp [freeB, h1, h2]
        rw [hf, if_neg (by decide)]
        exact bh7C hβ hA (by
          simp only [allB_iff, List.forall_mem_cons, decide_eq_true_eq, Bool.not_eq_true', beq_eq_false_iff_ne, decide_eq_false_iff_not]
          and_intros <;> first | omega | assumption | (intro _ hb; cases hb))
  · by_cases h1 : (i : Int) = a1
    · have hf : freeB (part ws st ln) 8 a1 n1 (i : Int) = true := by simp [freeB, h1]
      rw [hf, if_pos rfl]
      exact bh8A hβ hA (by
        simp only [allB_iff, List.forall_mem_cons, decide_eq_true_eq, beq_iff_eq]
        and_intros <;> first | omega | assumption | (intro _ hb; cases hb))
    · by_cases h2 : (i : Int) ∈ part ws st ln
      · have hf : freeB (part ws st ln) 8 a1 n1 (i : Int) = true := by simp [freeB, h2]
        rw [hf, if_pos rfl]
        exact bh8B hβ hA (by
          simp only [allB_iff, List.forall_mem_cons, decide_eq_true_eq, Bool.not_eq_true', beq_eq_false_iff_ne]
          and_intros <;> first | omega | assumption | (intro _ hb; cases hb))
      · have hf : freeB (part ws st ln) 8 a1 n1 (i : Int) = false := by simp [freeB, h1, h2]
        rw [hf, if_neg (by decide)]
        exact bh8C hβ hA (by
          simp only [allB_iff, List.forall_mem_cons, decide_eq_true_eq, Bool.not_eq_true', beq_eq_false_iff_ne, decide_eq_false_iff_not]
          and_intros <;> first | omega | assumption | (intro _ hb; cases hb))
theorem bhLoop (hβ : β.n0 = 1) (hw : st + ln ≤ ws.length) (hbig : ln ≤ 1048576) (hk : k1 = 7 ∨ k1 = 8) : ∀ (d : Nat) (J : Nat → V) (a : Cf) (i : Nat), 1024 = i + d → Asrt β frBh (trO (slots J 0 (slBh bs st ln (.osl 3 1) (i : Int)))) [] (hO [some (rowI ws), some (opBx k1 a1 b1 w1), some (anBx 0 n1 y1), some (rowI (upTo i (freeB (part ws st ln) k1 a1 n1)))]) 4 far a →
    ∃ J' b', Asrt β frBh (trO (slots J' 0 slBhE)) [] (hO [some (rowI ws), some (rowI (poolNx (part ws st ln) k1 a1 0 n1))]) 2 far b' ∧ Steps Go.Proofs.Tryz.prog (At frBh none kind cs a bhT) (At frBh none kind cs b' [.code .ret]) := by
  intro d
  induction d with
  | zero =>
    intro J a i hd hA
    have hi : i = 1024 := by omega
    subst hi
    have e : poolNx (part ws st ln) k1 a1 0 n1 = upTo 1024 (freeB (part ws st ln) k1 a1 n1) := by unfold poolNx upTo; rw [if_pos rfl]
    rw [e]
    exact bhEx hβ hA (by
      simp only [allB_iff, List.forall_mem_cons, Bool.not_eq_true', decide_eq_false_iff_not]
      exact ⟨by omega, fun _ hb => by cases hb⟩)
  | succ d ih =>
    intro J a i hd hA
    obtain ⟨J1, b1', h3, h4⟩ := bhIter (kind := kind) (cs := cs) hβ hw hbig hk (by omega) hA
    obtain ⟨J2, b2, h5, h6⟩ := ih J1 b1' (i + 1) (by omega) h3
    exact ⟨J2, b2, h5, h4.trans h6⟩
theorem behind_call (hw : st + ln ≤ ws.length) (hbig : ln ≤ 1048) (hk : k1 = 7 ∨ k1 = 8) : CallH Go.Proofs.Tryz.prog 87 [.osv 0 1 bs st ln, .agg [.int .i64 k1, .int .i64 a1, .int .i64 b1, .int .u64 w1], .agg [.int .i64 e1, .int .i64 n1, .int .u64 y1]] 1 (hO [some (rowI ws)]) (.osl 1 1) 2 (hO [some (rowI ws), some (rowI (poolNx (part ws st ln) k1 a1 e1 n1))]) := by
  by_cases he : e1 = 0
  · subst he
    refine callH_of (c := bhBody) (t := 6) (hi := far) Go.Proofs.Tryz.func87 (by kernel_rfl) (Nat.blt_eq.mp (by kernel_rfl)) (by kernel_rfl) (Nat.ble_eq.mp (by kernel_rfl)) (fun m o ho => ?_) (fun m o ho hr => ?_) rfl ?_
    · have := obsOK_ok (p := fun m => Nat.blt m 2) [some (rowI ws), some (rowI (poolNx (part ws st ln) k1 a1 0 n1))] 0 (by kernel_rfl) m o ho
      rw [blt_fun] at this
      exact ⟨by simpa using this.2.1, this.2.2⟩
    · rw [noRo_ok [some (rowI ws), some (rowI (poolNx (part ws st ln) k1 a1 0 n1))] (by kernel_rfl) m o ho] at hr; cases hr
    · intro L w kind cs a hA
      obtain ⟨J1, b1', h1, h2⟩ := bhSt (kind := kind) (cs := cs) rfl hA
      have hs := hO_snoc (l := [some (rowI ws), some (opBx k1 a1 b1 w1), some (anBx 0 n1 y1)]) (o := rowI [])
      have h3 := h1.ghost (T' := trO (slots J1 0 (slBh bs st ln (.osl 3 1) 0))) (b := .words .i64 []) (es := 1) (t := 3) (by decide) (Nat.le_of_ble_eq_true rfl) rfl rfl hs.1 (fun m hm => .inl (hs.2 m hm)) (ghost_slots (k := 7) (sl := slBh bs st ln .nils 0) rfl (Nat.blt_eq.mp (by kernel_rfl)))
      obtain ⟨J2, b2, h5, h6⟩ := bhLoop (kind := kind) (cs := cs) (a1 := a1) (n1 := n1) rfl hw (by omega) hk 1024 J1 b1' 0 (by omega) h3
      exact ⟨b2, _, 2, far, _, h5, rfl, h2.trans h6, .inr ⟨[], rfl⟩⟩
  · have e : poolNx (part ws st ln) k1 a1 e1 n1 = [] ++ (ws.drop st).take ln := by unfold poolNx; rw [if_neg he]; rfl
    rw [e]
    exact bhCp (by
      simp only [allB_iff, List.forall_mem_cons, decide_eq_true_eq, bne_iff_ne, ne_eq]
      and_intros <;> first | omega | assumption | (intro _ hb; cases hb))
end
/-- behind's summary. -/
def smBh (args : List V) (s : St) : Option (V × St) :=
  match args with
  | [x, .agg [.int .i64 k, .int .i64 a, .int .i64 _, .int .u64 _], .agg [.int .i64 e, .int .i64 n, .int .u64 _]] => (nrm .i64 3 x s).bind fun r => match r with
    | ((_, _, st, ln, ws), s1) => (need (decide (ln ≤ 1048 ∧ (k = 7 ∨ k = 8))) s1).bind fun s2 => (s2.new (rowI (poolNx (part ws st ln) k a e n))).bind fun r2 => match r2 with
      | (m, s3) => some (.osl m 1, s3)
  | _ => none
theorem smBh_sm : SmOK Go.Proofs.Tryz.prog 87 smBh := by
  refine ⟨fun args s v s' h ho => ?_, Go.Proofs.Tryz.call87⟩
  unfold smBh at h
  split at h
  · rename_i x k a b w e n y
    obtain ⟨⟨⟨q, bb, st, ln, ws⟩, s1⟩, h1, h2⟩ := bind_some' h
    obtain ⟨s2, h3, h4⟩ := bind_some' h2
    obtain ⟨⟨m, s3⟩, h5, h6⟩ := bind_some' h4
    cases h6
    obtain ⟨n1, n2, n3, n4, n5⟩ := new_ok h5
    have ho2 : Obl s2 := by unfold Obl at ho ⊢; rw [n4] at ho; exact ho
    obtain ⟨hd, hq⟩ := need_ok h3 ho2
    obtain ⟨d1, d3⟩ := of_decide_eq_true hd
    exact rowNew (ex := [.agg [.int .i64 k, .int .i64 a, .int .i64 b, .int .u64 w], .agg [.int .i64 e, .int .i64 n, .int .u64 y]]) (fun _ => rfl) (fun _ _ => rfl) rfl h1 hq.1 hq.2 h5 rfl (fun _ => rfl) (fun hw => behind_call hw d1 d3)
  · cases h
end Go.Sx
/- Pools: Next's contract. Printed by gen_O4d.py. -/
namespace Go.Sx
set_option maxRecDepth 100000
abbrev frNx : Frs := ⟨66, none, 29⟩
noncomputable def nxBody : Code := bodyOf Go.Proofs.Tryz.f66
noncomputable def F3 : Env := envOf tabT tabF (smOf [(86, smAl), (87, smBh)]) seT
theorem F3_ok : EnvOK Go.Proofs.Tryz.prog F3 := env_ok _
theorem S3_ok : SumOK Go.Proofs.Tryz.prog F3 := sumOK_of rfl ⟨smAl_sm, smBh_sm, trivial⟩
noncomputable def nxT : List Item := ((ctlN F3 (exec F3 400) frNx 9 [.code nxBody] (Tr.ofList [.osv 0 1 0 0 1, .agg [.int .i64 7, .int .i64 0, .int .i64 0, .int .u64 0], .agg [.int .i64 0, .int .i64 0, .int .u64 0]]) [] ⟨trO [some (rowI [0])], 1, bits 2 0b11, [], []⟩).map (·.1)).getD []
def slNx (bs st ln : Nat) (i : Int) : List (Option V) := [some (.osv 0 1 bs st ln), none, none, none, some (.ptr 1 0 0 0), some (.ptr 2 0 0 0), none, none, some (.osl 3 3), some (.int .i64 i)] ++ List.replicate 19 none
def slNxY : List (Option V) := [none, none, none, none, none, none, some (.osl 1 1), some (.bool true)] ++ List.replicate 21 none
def slNxN : List (Option V) := [none, none, none, none, none, none, some .nils, some (.bool false)] ++ List.replicate 21 none
noncomputable def nxTY : List Item := ((ctlN F3 (exec F3 400) frNx 12 nxT (trO (slots (fun _ => .nilp) 0 (slNx 0 0 1 0))) [] ⟨trO [some (rowI [0]), some (opBx 7 0 0 0), some (anBx 0 0 0), some (ansOb [[0, 0, 0]])], 4, bits 8 0b11111111, [], []⟩).map (·.1)).getD []
/-- May that be answered? -/
def poolIs (F : List Int) (k a e n x : Int) : Bool := decide ([e, n, x] ∈ poolAns F k a)
theorem nxSt {β : Base} {kind : CallKind} {cs : List Frame} {a : Cf}  {ws : List Int} {bs st ln : Nat} {k1 a1 b1 w1 n1 y1 e1 : Int} (hβ : β.n0 = 1) (hA : Asrt β frNx (Tr.ofList [.osv 0 1 bs st ln, .agg [.int .i64 k1, .int .i64 a1, .int .i64 b1, .int .u64 w1], .agg [.int .i64 e1, .int .i64 n1, .int .u64 y1]]) [] (hO ([some (rowI ws)])) 1 far a) (hB : allB [propB (ln ≤ 1048 ∧ Pool (part ws st ln) ∧ (k1 = 7 ∨ k1 = 8)), decide (st + ln ≤ List.length ws)] = true) :
    ∃ J' b', Asrt β frNx (trO (slots J' 0 (slNx bs st ln 0))) [] (hO ([some (rowI ws), some (opBx k1 a1 b1 w1), some (anBx e1 n1 y1), some (ansOb (poolAns (part ws st ln) k1 a1))])) 4 far b' ∧ Steps Go.Proofs.Tryz.prog (At frNx none kind cs a ([.code nxBody])) (At frNx none kind cs b' (nxT)) :=
  Asrt.eval (n := 400) (m := 9) (orc := bits 2 0b11) (πl := [0, 1, 2, 3]) (nx' := 4) (far := far) (todo := [.code nxBody]) (todo' := nxT) (l := [some (rowI ws)]) (l' := [some (rowI ws), some (opBx k1 a1 b1 w1), some (anBx e1 n1 y1), some (ansOb (poolAns (part ws st ln) k1 a1))]) (sl' := slNx bs st ln 0) (B := allB [propB (ln ≤ 1048 ∧ Pool (part ws st ln) ∧ (k1 = 7 ∨ k1 = 8)), decide (st + ln ≤ List.length ws)]) F3_ok S3_ok kind cs hA
    (by kernel_rfl) hB rfl rfl rfl rfl rfl (fun m => Nat.blt m 4) (p_all rfl rfl) (fun m hm => by rw [hβ] at hm; exact Nat.blt_eq.mpr (by omega)) (by rw [hβ]; kernel_rfl) (by kernel_rfl) (by kernel_rfl)
theorem nxIt {β : Base} {kind : CallKind} {cs : List Frame} {J : Nat → V} {a : Cf}  {ws : List Int} {rs : List (List Int)} {bs st ln : Nat} {k1 a1 b1 w1 n1 y1 e1 i : Int} (hβ : β.n0 = 1) (hA : Asrt β frNx (trO (slots J 0 (slNx bs st ln i))) [] (hO ([some (rowI ws), some (opBx k1 a1 b1 w1), some (anBx e1 n1 y1), some (ansOb (rs))])) 4 far a) (hB : allB [!eqL [List.getD (List.getD rs (Int.toNat i) []) 0 0, List.getD (List.getD rs (Int.toNat i) []) 1 0, List.getD (List.getD rs (Int.toNat i) []) 2 0] [e1, n1, y1], decide (Int.toNat i < List.length rs), decide (Int.toNat i < List.length rs), decide (Int.toNat i < List.length rs), decide (0 ≤ i ∧ i < ((List.length rs : Nat) : Int)), decide (i < ((List.length rs : Nat) : Int))] = true) :
    ∃ J' b', Asrt β frNx (trO (slots J' 0 (slNx bs st ln (IntKind.i64.wrap (i + 1))))) [] (hO ([some (rowI ws), some (opBx k1 a1 b1 w1), some (anBx e1 n1 y1), some (ansOb (rs))])) 4 far b' ∧ Steps Go.Proofs.Tryz.prog (At frNx none kind cs a (nxT)) (At frNx none kind cs b' (nxT)) :=
  Asrt.eval (n := 400) (m := 14) (orc := bits 6 0b111110) (πl := [0, 1, 2, 3]) (nx' := 4) (far := far) (todo := nxT) (todo' := nxT) (l := [some (rowI ws), some (opBx k1 a1 b1 w1), some (anBx e1 n1 y1), some (ansOb (rs))]) (l' := [some (rowI ws), some (opBx k1 a1 b1 w1), some (anBx e1 n1 y1), some (ansOb (rs))]) (sl' := slNx bs st ln (IntKind.i64.wrap (i + 1))) (B := allB [!eqL [List.getD (List.getD rs (Int.toNat i) []) 0 0, List.getD (List.getD rs (Int.toNat i) []) 1 0, List.getD (List.getD rs (Int.toNat i) []) 2 0] [e1, n1, y1], decide (Int.toNat i < List.length rs), decide (Int.toNat i < List.length rs), decide (Int.toNat i < List.length rs), decide (0 ≤ i ∧ i < ((List.length rs : Nat) : Int)), decide (i < ((List.length rs : Nat) : Int))]) F3_ok S3_ok kind cs hA
    (by kernel_rfl) hB rfl rfl rfl rfl rfl (fun m => Nat.blt m 4) (p_all rfl rfl) (fun m hm => by rw [hβ] at hm; exact Nat.blt_eq.mpr (by omega)) (by rw [hβ]; kernel_rfl) (by kernel_rfl) (by kernel_rfl)
theorem nxYes {β : Base} {kind : CallKind} {cs : List Frame} {J : Nat → V} {a : Cf}  {ws : List Int} {rs : List (List Int)} {bs st ln : Nat} {k1 a1 b1 w1 n1 y1 e1 i : Int} (hβ : β.n0 = 1) (hA : Asrt β frNx (trO (slots J 0 (slNx bs st ln i))) [] (hO ([some (rowI ws), some (opBx k1 a1 b1 w1), some (anBx e1 n1 y1), some (ansOb (rs))])) 4 far a) (hB : allB [decide (ln ≤ 1048 ∧ (k1 = 7 ∨ k1 = 8)), decide (st + ln ≤ List.length ws), eqL [List.getD (List.getD rs (Int.toNat i) []) 0 0, List.getD (List.getD rs (Int.toNat i) []) 1 0, List.getD (List.getD rs (Int.toNat i) []) 2 0] [e1, n1, y1], decide (Int.toNat i < List.length rs), decide (Int.toNat i < List.length rs), decide (Int.toNat i < List.length rs), decide (0 ≤ i ∧ i < ((List.length rs : Nat) : Int)), decide (i < ((List.length rs : Nat) : Int))] = true) :
    ∃ J' b', Asrt β frNx (trO (slots J' 0 (slNxY))) [] (hO ([some (rowI ws), some (rowI (poolNx (part ws st ln) k1 a1 e1 n1))])) 2 far b' ∧ Steps Go.Proofs.Tryz.prog (At frNx none kind cs a (nxT)) (At frNx none kind cs b' (nxTY)) :=
  Asrt.eval (n := 400) (m := 12) (orc := bits 8 0b11111111) (πl := [0, 4]) (nx' := 5) (far := far) (todo := nxT) (todo' := nxTY) (l := [some (rowI ws), some (opBx k1 a1 b1 w1), some (anBx e1 n1 y1), some (ansOb (rs))]) (l' := [some (rowI ws), some (rowI (poolNx (part ws st ln) k1 a1 e1 n1))]) (sl' := slNxY) (B := allB [decide (ln ≤ 1048 ∧ (k1 = 7 ∨ k1 = 8)), decide (st + ln ≤ List.length ws), eqL [List.getD (List.getD rs (Int.toNat i) []) 0 0, List.getD (List.getD rs (Int.toNat i) []) 1 0, List.getD (List.getD rs (Int.toNat i) []) 2 0] [e1, n1, y1], decide (Int.toNat i < List.length rs), decide (Int.toNat i < List.length rs), decide (Int.toNat i < List.length rs), decide (0 ≤ i ∧ i < ((List.length rs : Nat) : Int)), decide (i < ((List.length rs : Nat) : Int))]) F3_ok S3_ok kind cs hA
    (by kernel_rfl) hB rfl rfl rfl rfl rfl (fun m => Nat.blt m 2) (p_all rfl rfl) (fun m hm => by rw [hβ] at hm; exact Nat.blt_eq.mpr (by omega)) (by rw [hβ]; kernel_rfl) (by kernel_rfl) (by kernel_rfl)
theorem nxNo {β : Base} {kind : CallKind} {cs : List Frame} {J : Nat → V} {a : Cf}  {ws : List Int} {rs : List (List Int)} {bs st ln : Nat} {k1 a1 b1 w1 n1 y1 e1 i : Int} (hβ : β.n0 = 1) (hA : Asrt β frNx (trO (slots J 0 (slNx bs st ln i))) [] (hO ([some (rowI ws), some (opBx k1 a1 b1 w1), some (anBx e1 n1 y1), some (ansOb (rs))])) 4 far a) (hB : allB [!decide (i < ((List.length rs : Nat) : Int))] = true) :
    ∃ J' b', Asrt β frNx (trO (slots J' 0 (slNxN))) [] (hO ([some (rowI ws)])) 1 far b' ∧ Steps Go.Proofs.Tryz.prog (At frNx none kind cs a (nxT)) (At frNx none kind cs b' ([.code .ret])) :=
  Asrt.eval (n := 400) (m := 7) (orc := bits 1 0b0) (πl := [0]) (nx' := 4) (far := far) (todo := nxT) (todo' := [.code .ret]) (l := [some (rowI ws), some (opBx k1 a1 b1 w1), some (anBx e1 n1 y1), some (ansOb (rs))]) (l' := [some (rowI ws)]) (sl' := slNxN) (B := allB [!decide (i < ((List.length rs : Nat) : Int))]) F3_ok S3_ok kind cs hA
    (by kernel_rfl) hB rfl rfl rfl rfl rfl (fun m => Nat.blt m 1) (p_all rfl rfl) (fun m hm => by rw [hβ] at hm; exact Nat.blt_eq.mpr (by omega)) (by rw [hβ]; kernel_rfl) (by kernel_rfl) (by kernel_rfl)
theorem results_two {P : Program} {fn : Func} {t1 t2 : Tmp} (h : fn.results = #[.tmp t1, .tmp t2]) (arr : Array Value) (w : World) : (results fn arr).run P w = .ok (.tuple #[arr.getD t1 undef, arr.getD t2 undef]) w := by
  simp [results, h]
/-- The contract of a function of two results. -/
theorem callH_of2 {P : Program} {f : FuncId} {fn : Func} {c : Code} {t1 t2 : Tmp} (hf : P.funcs[f]? = some fn) (hb : fn.body = some c) (hnt : fn.ntmps < big) (hres : fn.results = #[.tmp t1, .tmp t2]) {args : List V} (hlen : args.length ≤ fn.ntmps)
    {n0 n1 hi : Nat} {Hc Hc' : Nat → Option Ob} {v1 v2 : V} (hnew : ∀ m o, Hc' m = some o → m < n1 ∧ o.names (fun n => decide (n < n1)) = true) (hro : ∀ m o, Hc' m = some o → o.isRo = true → Hc m = some o) (hv : (V.tup [v1, v2]).names (fun n => decide (n < n1)) = true)
    (h : ∀ (L : LM) (w : World) (kind : CallKind) (cs : List Frame) (a : Cf), Asrt ⟨w, Handed Hc L, n0, L⟩ ⟨f, none, fn.ntmps⟩ (Tr.ofList args) [] Hc n0 hi a →
      ∃ (b : Cf) (T' : Tr V) (nx' hi' : Nat) (todo : List Item), Asrt ⟨w, Handed Hc L, n0, L⟩ ⟨f, none, fn.ntmps⟩ T' [] Hc' nx' hi' b ∧ (T'.get t1).getD undefV = v1 ∧ (T'.get t2).getD undefV = v2 ∧ Steps P (At ⟨f, none, fn.ntmps⟩ none kind cs a [.code c]) (At ⟨f, none, fn.ntmps⟩ none kind cs b todo) ∧
        (todo = [] ∨ ∃ k, todo = .code .ret :: k)) : CallH P f args n0 Hc (.tup [v1, v2]) n1 Hc' := by
  intro L w kind cs av hSR hav
  obtain ⟨a, haw, hent, hA⟩ := enter_asrt (hi := hi) hf hb hnt hlen hSR hav (Handed Hc L) (fun b hb => .inr hb) kind cs
  obtain ⟨b, T', nx', hi', todo, ⟨D, L', g1, g2, g3, g4, g5, g6⟩, e1, e11, e2, e3⟩ := h L w kind cs a hA
  obtain ⟨tt, e4⟩ := leave_steps (P := P) (fr := ⟨f, none, fn.ntmps⟩) (kind := kind) (cs := cs) (b := b) e3
  have hC := g2 L' (.refl _ _)
  refine ⟨L', b.w, Value.tuple #[b.arr.getD t1 undef, b.arr.getD t2 undef], ⟨fun m hm => ((g6 m hm).2).symm, g4.size, fun k hk hn => g4.old k hk ?_, fun n o k ho hr hk => ?_, g4.os, g4.tape, g4.output, hro⟩, ?_, ?_, _, by rw [hent]; exact e2.trans e4, rfl, hC.2.1, rfl, rfl, fn, hf, results_two hres _ _⟩
  · rintro ⟨m, o, h1, h2, h3⟩
    exact hn m o h1 h2 h3
  · rcases g5 n o k ho hr hk with h1 | ⟨m, om, h1, h2, h3⟩
    · exact .inl h1
    · exact .inr ⟨m, om, h1, h2, h3⟩
  · intro L'' hL''
    have h0 := g1 L' (.refl _ _)
    refine ⟨fun m o ho => ObR_names (p := fun n => decide (n < n1)) (fun n hn => hL'' n (by simpa using hn)) (by simpa using (hnew m o ho).1) (hnew m o ho).2 (h0.ob m o ho), fun n m on om hn hm hne hr hbl => ?_⟩
    rw [← hL'' n (hnew n on hn).1, ← hL'' m (hnew m om hm).1]
    rw [← hL'' n (hnew n on hn).1] at hbl
    exact h0.inj n m on om hn hm hne hr hbl
  · intro L'' hL''
    have h3 := den_names (p := fun n => decide (n < n1)) (fun n hn => hL'' n (by simpa using hn)) _ hv
    rw [← h3, hC.1.2 t1, hC.1.2 t2, e1, e11]
    rfl



theorem eqL_iff : ∀ (a b : List Int), eqL a b = true ↔ a = b := by
  intro a
  induction a with
  | nil => intro b; cases b <;> simp [eqL]
  | cons u l ih =>
    intro b
    cases b with
    | nil => simp [eqL]
    | cons v r =>
      simp only [eqL, List.cons.injEq]
      cases huv : (u == v) with
      | true => rw [cond_true, ih]; simp [eq_of_beq huv]
      | false =>
        rw [cond_false]
        constructor
        · intro h; cases h
        · rintro ⟨h, _⟩; rw [h, beq_self_eq_true] at huv; cases huv
theorem eqL_false {a b : List Int} (h : a ≠ b) : eqL a b = false := by
  cases hb : eqL a b with
  | false => rfl
  | true => exact absurd ((eqL_iff a b).1 hb) h
theorem poolAns_3 {F : List Int} {k a : Int} : ∀ r ∈ poolAns F k a, ∃ e n x, r = [e, n, x] := by
  unfold poolAns
  split
  · intro r hr
    rcases List.mem_append.1 hr with hr | hr
    · obtain ⟨v, _, rfl⟩ := List.mem_map.1 hr
      exact ⟨_, _, _, rfl⟩
    · simp at hr
      rcases hr with rfl | rfl <;> exact ⟨_, _, _, rfl⟩
  · split
    · intro r hr; simp at hr; subst hr; exact ⟨_, _, _, rfl⟩
    · split
      · intro r hr; simp at hr; subst hr; exact ⟨_, _, _, rfl⟩
      · intro r hr; simp at hr; subst hr; exact ⟨_, _, _, rfl⟩
theorem poolAns_len {F : List Int} {k a : Int} : (poolAns F k a).length ≤ F.length + 2 := by
  unfold poolAns
  split
  · simp
  · split
    · simp
    · split <;> simp
section
variable {β : Base} {kind : CallKind} {cs : List Frame} {ws : List Int} {rs : List (List Int)} {bs st ln : Nat} {k1 a1 b1 w1 n1 y1 e1 : Int}
theorem nxLoop (hβ : β.n0 = 1) (hw : st + ln ≤ ws.length) (hbig : ln ≤ 1048) (hk : k1 = 7 ∨ k1 = 8) (hr3 : ∀ r ∈ rs, ∃ e n x, r = [e, n, x]) (hrl : rs.length ≤ 1048576) : ∀ (d : Nat) (J : Nat → V) (a : Cf) (i : Nat), rs.length = i + d → (∀ q, q < i → rs.getD q [] ≠ [e1, n1, y1]) → Asrt β frNx (trO (slots J 0 (slNx bs st ln (i : Int)))) [] (hO [some (rowI ws), some (opBx k1 a1 b1 w1), some (anBx e1 n1 y1), some (ansOb rs)]) 4 far a →
    (([e1, n1, y1] ∈ rs ∧ ∃ J' b', Asrt β frNx (trO (slots J' 0 slNxY)) [] (hO [some (rowI ws), some (rowI (poolNx (part ws st ln) k1 a1 e1 n1))]) 2 far b' ∧ Steps Go.Proofs.Tryz.prog (At frNx none kind cs a nxT) (At frNx none kind cs b' nxTY)) ∨
    (¬ [e1, n1, y1] ∈ rs ∧ ∃ J' b', Asrt β frNx (trO (slots J' 0 slNxN)) [] (hO [some (rowI ws)]) 1 far b' ∧ Steps Go.Proofs.Tryz.prog (At frNx none kind cs a nxT) (At frNx none kind cs b' [.code .ret]))) := by
  intro d
  induction d with
  | zero =>
    intro J a i hd hno hA
    refine .inr ⟨fun hm => ?_, nxNo hβ hA (by simp only [allB_iff, List.forall_mem_cons, Bool.not_eq_true', decide_eq_false_iff_not]; exact ⟨by omega, fun _ hb => by cases hb⟩)⟩
    obtain ⟨q, hq⟩ := List.getElem?_of_mem hm
    have hlt : q < rs.length := (List.getElem?_eq_some_iff.1 hq).1
    refine hno q (by omega) ?_
    rw [List.getD_eq_getElem?_getD, hq]; rfl
  | succ d ih =>
    intro J a i hd hno hA
    have hi : i < rs.length := by omega
    have hmem : rs.getD i [] ∈ rs := by
      rw [List.getD_eq_getElem?_getD, List.getElem?_eq_getElem hi]; exact List.getElem_mem _
    obtain ⟨e, n, x, hr⟩ := hr3 _ hmem
    by_cases he : rs.getD i [] = [e1, n1, y1]
    · refine .inl ⟨he ▸ hmem, nxYes hβ hA ?_⟩
      simp only [allB_iff, List.forall_mem_cons, decide_eq_true_eq, Int.toNat_natCast, he, List.getD_cons_zero, List.getD_cons_succ, eqL_iff]
      and_intros <;> first | trivial | omega | assumption | (intro _ hb; cases hb)
    · have hne : eqL [e, n, x] [e1, n1, y1] = false := eqL_false (by rw [← hr]; exact he)
      obtain ⟨J1, b1', h3, h4⟩ := nxIt (kind := kind) (cs := cs) hβ hA (by
        simp only [allB_iff, List.forall_mem_cons, decide_eq_true_eq, Int.toNat_natCast, hr, List.getD_cons_zero, List.getD_cons_succ, hne]
        and_intros <;> first | trivial | omega | assumption | (intro _ hb; cases hb))
      rw [wrap_i64 (by omega) (by omega)] at h3
      rcases ih J1 b1' (i + 1) (by omega) (fun q hq => by
        by_cases hqi : q = i
        · subst hqi; exact he
        · exact hno q (by omega)) (by exact_mod_cast h3) with ⟨g1, J2, b2, g2, g3⟩ | ⟨g1, J2, b2, g2, g3⟩
      · exact .inl ⟨g1, J2, b2, g2, h4.trans g3⟩
      · exact .inr ⟨g1, J2, b2, g2, h4.trans g3⟩
def nxArgs (bs st ln : Nat) (k a b w e n x : Int) : List V := [.osv 0 1 bs st ln, .agg [.int .i64 k, .int .i64 a, .int .i64 b, .int .u64 w], .agg [.int .i64 e, .int .i64 n, .int .u64 x]]
theorem nx_yes (hw : st + ln ≤ ws.length) (hbig : ln ≤ 1048) (hp : Pool (part ws st ln)) (hk : k1 = 7 ∨ k1 = 8) (h : poolIs (part ws st ln) k1 a1 e1 n1 y1 = true) : CallH Go.Proofs.Tryz.prog 66 (nxArgs bs st ln k1 a1 b1 w1 e1 n1 y1) 1 (hO [some (rowI ws)]) (.tup [.osl 1 1, .bool true]) 2 (hO [some (rowI ws), some (rowI (poolNx (part ws st ln) k1 a1 e1 n1))]) := by
  have hl := poolAns_len (F := part ws st ln) (k := k1) (a := a1)
  rw [part_length hw] at hl
  refine callH_of2 (c := nxBody) (t1 := 6) (t2 := 7) (hi := far) Go.Proofs.Tryz.func66 (by kernel_rfl) (Nat.blt_eq.mp (by kernel_rfl)) (by kernel_rfl) (Nat.ble_eq.mp (by kernel_rfl)) (fun m o ho => ?_) (fun m o ho hr => ?_) rfl ?_
  · have := obsOK_ok (p := fun m => Nat.blt m 2) [some (rowI ws), some (rowI (poolNx (part ws st ln) k1 a1 e1 n1))] 0 (by kernel_rfl) m o ho
    rw [blt_fun] at this
    exact ⟨by simpa using this.2.1, this.2.2⟩
  · rw [noRo_ok [some (rowI ws), some (rowI (poolNx (part ws st ln) k1 a1 e1 n1))] (by kernel_rfl) m o ho] at hr; cases hr
  · intro L w kind cs a hA
    obtain ⟨J1, b1', h1, h2⟩ := nxSt (kind := kind) (cs := cs) rfl hA (by
      simp only [allB_iff, List.forall_mem_cons, decide_eq_true_eq, propB_iff]
      and_intros <;> first | omega | assumption | (intro _ hb; cases hb) | exact hp.1 | exact hp.2)
    rcases nxLoop (kind := kind) (cs := cs) (a1 := a1) (n1 := n1) rfl hw hbig hk poolAns_3 (by omega) _ J1 b1' 0 (Nat.zero_add _).symm (fun q hq => absurd hq (Nat.not_lt_zero _)) h1 with ⟨g1, J2, b2, g2, g3⟩ | ⟨g1, _⟩
    · exact ⟨b2, _, 2, far, _, g2, rfl, rfl, h2.trans g3, .inr ⟨nxTY.tail, by kernel_rfl⟩⟩
    · exact absurd (of_decide_eq_true h) g1
theorem nx_no (hw : st + ln ≤ ws.length) (hbig : ln ≤ 1048) (hp : Pool (part ws st ln)) (hk : k1 = 7 ∨ k1 = 8) (h : poolIs (part ws st ln) k1 a1 e1 n1 y1 = false) : CallH Go.Proofs.Tryz.prog 66 (nxArgs bs st ln k1 a1 b1 w1 e1 n1 y1) 1 (hO [some (rowI ws)]) (.tup [.nils, .bool false]) 1 (hO [some (rowI ws)]) := by
  have hl := poolAns_len (F := part ws st ln) (k := k1) (a := a1)
  rw [part_length hw] at hl
  refine callH_of2 (c := nxBody) (t1 := 6) (t2 := 7) (hi := far) Go.Proofs.Tryz.func66 (by kernel_rfl) (Nat.blt_eq.mp (by kernel_rfl)) (by kernel_rfl) (Nat.ble_eq.mp (by kernel_rfl)) (fun m o ho => ?_) (fun m o ho hr => ?_) rfl ?_
  · have := obsOK_ok (p := fun m => Nat.blt m 1) [some (rowI ws)] 0 (by kernel_rfl) m o ho
    rw [blt_fun] at this
    exact ⟨by simpa using this.2.1, this.2.2⟩
  · rw [noRo_ok [some (rowI ws)] (by kernel_rfl) m o ho] at hr; cases hr
  · intro L w kind cs a hA
    obtain ⟨J1, b1', h1, h2⟩ := nxSt (kind := kind) (cs := cs) rfl hA (by
      simp only [allB_iff, List.forall_mem_cons, decide_eq_true_eq, propB_iff]
      and_intros <;> first | omega | assumption | (intro _ hb; cases hb) | exact hp.1 | exact hp.2)
    rcases nxLoop (kind := kind) (cs := cs) (a1 := a1) (n1 := n1) rfl hw hbig hk poolAns_3 (by omega) _ J1 b1' 0 (Nat.zero_add _).symm (fun q hq => absurd hq (Nat.not_lt_zero _)) h1 with ⟨g1, _⟩ | ⟨g1, J2, b2, g2, g3⟩
    · exact absurd g1 (of_decide_eq_false h)
    · exact ⟨b2, _, 1, far, _, g2, rfl, rfl, h2.trans g3, .inr ⟨[], rfl⟩⟩
end
/-- The next row: what is free behind an answer that may be; else none. -/
def nxRow (F : List Int) (k a e n x : Int) : List Int := cond (poolIs F k a e n x) (poolNx F k a e n) []
def nxLn (F : List Int) (k a e n x : Int) : Nat := cond (poolIs F k a e n x) (poolNx F k a e n).length 0
noncomputable def smNx (args : List V) (s : St) : Option (V × St) :=
  match args with
  | [q, .agg [.int .i64 k, .int .i64 a, .int .i64 _, .int .u64 _], .agg [.int .i64 e, .int .i64 n, .int .u64 x]] => (nrm .i64 3 q s).bind fun r => match r with
    | ((_, _, st, ln, ws), s1) => (need (propB (ln ≤ 1048 ∧ Pool (part ws st ln) ∧ (k = 7 ∨ k = 8))) s1).bind fun s2 =>
      (s2.new (rowI (nxRow (part ws st ln) k a e n x))).bind fun r2 => match r2 with
      | (m, s3) => some (.tup [.osv m 1 0 0 (nxLn (part ws st ln) k a e n x), .bool (poolIs (part ws st ln) k a e n x)], s3)
  | _ => none
theorem nx_key {s2 s3 : St} {q b st ln m : Nat} {ws : List Int} {k a bb w e n x : Int} (hg : s2.H.get q = some (rowI ws)) (hw : st + ln ≤ ws.length) (hd : ln ≤ 1048 ∧ Pool (part ws st ln) ∧ (k = 7 ∨ k = 8))
    (hn : s2.new (rowI (nxRow (part ws st ln) k a e n x)) = some (m, s3)) :
    CallOK Go.Proofs.Tryz.prog 66 [.osv q 1 b st ln, .agg [.int .i64 k, .int .i64 a, .int .i64 bb, .int .u64 w], .agg [.int .i64 e, .int .i64 n, .int .u64 x]] s2
      (.tup [.osv m 1 0 0 (nxLn (part ws st ln) k a e n x), .bool (poolIs (part ws st ln) k a e n x)]) s3 := by
  obtain ⟨d1, d2, d3⟩ := hd
  have hst : ∀ m o, (([some (rowI ws)] : List (Option Ob))[m]?).join = some o → s2.H.get (πf [q] m) = some (o.ren (πf [q])) := fun m o ho => by
    match m, ho with
    | 0, ho => cases ho; exact hg
  obtain ⟨c1, c2, c3, c4, c5⟩ := new_ok hn
  have c6 := c5 m
  rw [if_pos c1] at c6
  cases his : poolIs (part ws st ln) k a e n x with
  | true =>
    have hX : nxRow (part ws st ln) k a e n x = poolNx (part ws st ln) k a e n := by unfold nxRow; rw [his]; rfl
    have hL : nxLn (part ws st ln) k a e n x = (poolNx (part ws st ln) k a e n).length - 0 := by unfold nxLn; rw [his]; rfl
    rw [hX] at hn c6
    rw [hL]
    have hc := nx_yes (bs := b) (b1 := bb) (w1 := w) hw d1 d2 d3 his
    have h1 := embed1 (l := [some (rowI ws)]) (o := rowI (poolNx (part ws st ln) k a e n)) (ac := nxArgs b st ln k a bb w e n x) (s := s2) (s1 := s2) hc (fun m hm => live1 m hm) rfl rfl rfl [q] rfl hst (by simp) rfl ⟨rfl, rfl, rfl⟩ hn rfl rfl
    refine CallOK.val h1 fun L w hR => ?_
    have h2 := osl_osv hR (n := m) (es := 1) (b := .words .i64 (poolNx (part ws st ln) k a e n)) c6
    have h3 : (V.osv m 1 0 0 ((poolNx (part ws st ln) k a e n).length - 0)).den L = (V.osl s2.nx 1).den L := by rw [← c1]; exact h2
    show Value.tuple [(V.osv m 1 0 0 ((poolNx (part ws st ln) k a e n).length - 0)).den L, Value.bool true].toArray = Value.tuple [(V.osl s2.nx 1).den L, Value.bool true].toArray
    rw [h3]
  | false =>
    have hX : nxRow (part ws st ln) k a e n x = [] := by unfold nxRow; rw [his]; rfl
    have hL : nxLn (part ws st ln) k a e n x = 0 := by unfold nxLn; rw [his]; rfl
    rw [hX] at hn
    rw [hL]
    have h1 := embedRO (l := [some (rowI ws)]) (ac := nxArgs b st ln k a bb w e n x) (s := s2) (v := .tup [.nils, .bool false]) (nx_no (bs := b) (b1 := bb) (w1 := w) hw d1 d2 d3 his) (fun m hm => live1 m hm) rfl rfl [q] rfl hst (by simp) rfl rfl
    refine CallOK.after h1 (Nat.le_refl _) hn fun L hL => ?_
    simp [V.den, V.denL, hL]
theorem smNx_sm : SmOK Go.Proofs.Tryz.prog 66 smNx := by
  refine ⟨fun args s v s' h ho => ?_, Go.Proofs.Tryz.call66⟩
  unfold smNx at h
  split at h
  · rename_i q k a bb w e n x
    obtain ⟨⟨⟨m, b, st, ln, ws⟩, s1⟩, h1, h2⟩ := bind_some' h
    obtain ⟨s2, h3, h4⟩ := bind_some' h2
    obtain ⟨⟨g, s3⟩, h5, h6⟩ := bind_some' h4
    cases h6
    obtain ⟨n1, n2, n3, n4, n5⟩ := new_ok h5
    have ho2 : Obl s2 := by unfold Obl at ho ⊢; rw [n4] at ho; exact ho
    obtain ⟨hd, hq⟩ := need_ok h3 ho2
    obtain ⟨g1, g2, g3, g4, g5, g6⟩ := nrm_ok h1 hq.2
    have e1 : s2.nx = s1.nx := hq.1.nx
    have e2 : s2.H = s1.H := hq.1.H
    refine ⟨(g1.trans (.of_same hq.1)).trans (.new h5), g2, ?_⟩
    have hcall := nx_key (b := b) (a := a) (bb := bb) (w := w) (q := m) (by rw [e2]; exact g3) g4 (propB_iff.1 hd) h5
    refine CallOK.gh hcall (by rw [e1]; exact g1.le) (by omega) (fun D L w hSR hD hst => ?_)
    rw [e1] at hD
    obtain ⟨L', k1, k2⟩ := g6 D L w hSR hD
    refine ⟨L', ⟨by rw [e1]; exact k1.le, k1.agree, by rw [e1, e2]; exact k1.sr, fun n o b ho => by rw [e2] at ho; exact k1.sub n o b ho, fun n o ho => by rw [e2] at ho; exact k1.ro n o ho⟩, fun L'' hL'' => ?_⟩
    rw [e1] at hL''
    simp only [List.map_cons, List.map_nil, k2 L'' hL'']
    rfl
  · cases h
end Go.Sx
