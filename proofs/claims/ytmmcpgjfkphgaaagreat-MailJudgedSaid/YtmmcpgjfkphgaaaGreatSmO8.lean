/- Order: an order of calls, if there is one. -/
import Derived.Test.YtmmcpgjfkphgaaaGreatSmO6
namespace Go.Sx
set_option maxRecDepth 100000
noncomputable def smsO (K : Nat) : List (Nat × SmF) := [(28, smLf), (29, smRd), (25, smMay), (27, smCan K)]
noncomputable def F3 : Env := envOf tabT tabF (smOf (smsO 100)) seT imT pzT
theorem F3_ok : EnvOK Go.Proofs.Tryz.prog F3 := env_ok _
theorem S3_ok : SumOK Go.Proofs.Tryz.prog F3 := sumOK_of rfl ⟨smLf_sm, smRd_sm, smMay_sm, smCan_sm 100, trivial⟩
abbrev frOr : Frs := ⟨6, none, 66⟩
noncomputable def orBody : Code := bodyOf Go.Proofs.Tryz.f6
def st0 : Ob := .mem (.cells [.nils, .nils, .nils]) 76 none
def lOr0 (cl : List (List Int)) : List (Option Ob) := [some (callsOb cl), some st0]
def lOr (cl : List (List Int)) (R O : List Int) : List (Option Ob) := [some (callsOb cl), some st0, some (rowI R), some (rowI O)]
def slOr (room : Int) (a b : V) : List (Option V) := [some (.int .i64 1), some (.int .i64 room), some (.osl 0 10), none, none, none, none, none, none, none, some (.ptr 1 0 0 0), some a, some b] ++ List.replicate 53 none
def slOrI (room : Int) (k : Int) : List (Option V) := [some (.int .i64 1), some (.int .i64 room), some (.osl 0 10), none, none, none, none, none, none, none, some (.ptr 1 0 0 0), some (.osl 2 1), some (.osl 3 1), some (.int .i64 k)] ++ List.replicate 52 none
def slOrE : List (Option V) := [none, none, none, none, none, none, some (.osl 1 1), some (.bool true), some (.int .i64 0)] ++ List.replicate 57 none
noncomputable def todoOr : List Item := ((ctlN F3 (exec F3 400) frOr 21 [.code orBody] (Tr.ofList [.int .i64 1, .int .i64 1, .osl 0 10]) [] ⟨trO [some (callsOb [])], 1, bits 9 0b100000010, [], []⟩).map (·.1)).getD []
noncomputable def todoOrI : List Item := ((ctlN F3 (exec F3 400) frOr 11 todoOr (trO (slots (fun _ => .nilp) 0 (slOr 1 (.osl 2 1) (.osl 3 1)))) [] ⟨trO (lOr [[]] [] []), 4, bits 2 3, [], []⟩).map (·.1)).getD []
-- PIECES (printed by gen_O8.py)
section
variable {β : Base} {kind : CallKind} {cs : List Frame} {J : Nat → V} {a : Cf} {cl : List (List Int)} {R O : List Int} {room k : Int}
theorem orStart (hβ : β.n0 = 1) (hA : Asrt β frOr (Tr.ofList [.int .i64 1, .int .i64 room, .osl 0 10]) [] (hO ([some (callsOb cl)])) 1 far a) (hB : allB [!(!(canP cl room (cl.length + 1 - 0) (part [] 0 0) (part [] 0 0) (part [] 0 0))), propB (CanPre cl room (part [] 0 0) (part [] 0 0) (part [] 0 0) ∧ cl.length + 1 - 0 ≤ 100), decide (1 ≤ room ∧ room ≤ 64 ∧ cl.length ≤ 10 ∧ Named cl)] = true) :
    ∃ J' b', Asrt β frOr (trO (slots J' 0 (slOr room .nils .nils))) [] (hO (lOr0 cl)) 2 far b' ∧ Steps Go.Proofs.Tryz.prog (At frOr none kind cs a [.code orBody]) (At frOr none kind cs b' todoOr) :=
  Asrt.eval (n := 400) (m := 21) (orc := bits 9 0b100000010) (πl := [0, 3]) (nx' := 7) (far := far) (todo := [.code orBody]) (todo' := todoOr) (l := [some (callsOb cl)]) (l' := lOr0 cl) (sl' := slOr room .nils .nils) F3_ok S3_ok kind cs hA
    (by kernel_rfl) hB rfl rfl rfl rfl rfl (fun m => Nat.blt m 2) (p_all rfl rfl) (fun m hm => by rw [hβ] at hm; exact Nat.blt_eq.mpr (by omega)) (by rw [hβ]; kernel_rfl) (by kernel_rfl) (by kernel_rfl)
theorem orIn (hβ : β.n0 = 1) (hA : Asrt β frOr (trO (slots J 0 (slOr room (.osl 2 1) (.osl 3 1)))) [] (hO (lOr cl R O)) 4 far a) (hB : allB [(leftP cl.length (part R 0 R.length)), decide (R.length ≤ 1048576 ∧ cl.length ≤ 1048576 ∧ Ended cl)] = true) :
    ∃ J' b', Asrt β frOr (trO (slots J' 0 (slOrI room 0))) [] (hO (lOr cl R O)) 4 far b' ∧ Steps Go.Proofs.Tryz.prog (At frOr none kind cs a todoOr) (At frOr none kind cs b' todoOrI) :=
  Asrt.eval (n := 400) (m := 11) (orc := bits 2 0b11) (πl := [0, 1, 2, 3]) (nx' := 4) (far := far) (todo := todoOr) (todo' := todoOrI) (l := lOr cl R O) (l' := lOr cl R O) (sl' := slOrI room 0) F3_ok S3_ok kind cs hA
    (by kernel_rfl) hB rfl rfl rfl rfl rfl (fun m => Nat.blt m 4) (p_all rfl rfl) (fun m hm => by rw [hβ] at hm; exact Nat.blt_eq.mpr (by omega)) (by rw [hβ]; kernel_rfl) (by kernel_rfl) (by kernel_rfl)
theorem orExit (hβ : β.n0 = 1) (hA : Asrt β frOr (trO (slots J 0 (slOr room (.osl 2 1) (.osl 3 1)))) [] (hO (lOr cl R O)) 4 far a) (hB : allB [!(leftP cl.length (part R 0 R.length)), decide (R.length ≤ 1048576 ∧ cl.length ≤ 1048576 ∧ Ended cl)] = true) :
    ∃ J' b', Asrt β frOr (trO (slots J' 0 (slOrE))) [] (hO ([some (callsOb cl), some (rowI O)])) 2 far b' ∧ Steps Go.Proofs.Tryz.prog (At frOr none kind cs a todoOr) (At frOr none kind cs b' [.code .ret]) :=
  Asrt.eval (n := 400) (m := 7) (orc := bits 2 0b10) (πl := [0, 3]) (nx' := 4) (far := far) (todo := todoOr) (todo' := [.code .ret]) (l := lOr cl R O) (l' := [some (callsOb cl), some (rowI O)]) (sl' := slOrE) F3_ok S3_ok kind cs hA
    (by kernel_rfl) hB rfl rfl rfl rfl rfl (fun m => Nat.blt m 2) (p_all rfl rfl) (fun m hm => by rw [hβ] at hm; exact Nat.blt_eq.mpr (by omega)) (by rw [hβ]; kernel_rfl) (by kernel_rfl) (by kernel_rfl)
theorem orNot (hβ : β.n0 = 1) (hA : Asrt β frOr (trO (slots J 0 (slOrI room k))) [] (hO (lOr cl R O)) 4 far a) (hB : allB [!(readyP cl (part R 0 R.length) k.toNat), decide (R.length ≤ 1048576 ∧ cl.length ≤ 1048576 ∧ Ended cl ∧ 0 ≤ k ∧ k < (cl.length : Int))] = true) :
    ∃ J' b', Asrt β frOr (trO (slots J' 0 (slOrI room (IntKind.i64.wrap (k + 1))))) [] (hO (lOr cl R O)) 4 far b' ∧ Steps Go.Proofs.Tryz.prog (At frOr none kind cs a todoOrI) (At frOr none kind cs b' todoOrI) :=
  Asrt.eval (n := 400) (m := 9) (orc := bits 14 0b11111111111111) (πl := [0, 1, 2, 3]) (nx' := 4) (far := far) (todo := todoOrI) (todo' := todoOrI) (l := lOr cl R O) (l' := lOr cl R O) (sl' := slOrI room (IntKind.i64.wrap (k + 1))) F3_ok S3_ok kind cs hA
    (by kernel_rfl) hB rfl rfl rfl rfl rfl (fun m => Nat.blt m 4) (p_all rfl rfl) (fun m hm => by rw [hβ] at hm; exact Nat.blt_eq.mpr (by omega)) (by rw [hβ]; kernel_rfl) (by kernel_rfl) (by kernel_rfl)
theorem orCant (hβ : β.n0 = 1) (hA : Asrt β frOr (trO (slots J 0 (slOrI room k))) [] (hO (lOr cl R O)) 4 far a) (hB : allB [!(canP cl room (cl.length + 1 - 0) (part [] 0 0) (part [] 0 0) (part (([] ++ R : List Int) ++ [k]) 0 (([] ++ R : List Int) ++ [k]).length)), propB (CanPre cl room (part [] 0 0) (part [] 0 0) (part (([] ++ R : List Int) ++ [k]) 0 (([] ++ R : List Int) ++ [k]).length) ∧ cl.length + 1 - 0 ≤ 100), decide (([] ++ R : List Int).length + [k].length ≤ 1048576), decide (([] : List Int).length + R.length ≤ 1048576), !(!(readyP cl (part R 0 R.length) k.toNat)), decide (R.length ≤ 1048576 ∧ cl.length ≤ 1048576 ∧ Ended cl ∧ 0 ≤ k ∧ k < (cl.length : Int))] = true) :
    ∃ J' b', Asrt β frOr (trO (slots J' 0 (slOrI room (IntKind.i64.wrap (k + 1))))) [] (hO (lOr cl R O)) 4 far b' ∧ Steps Go.Proofs.Tryz.prog (At frOr none kind cs a todoOrI) (At frOr none kind cs b' todoOrI) :=
  Asrt.eval (n := 400) (m := 9) (orc := bits 16 0b1000000100010101) (πl := [0, 1, 2, 3]) (nx' := 10) (far := far) (todo := todoOrI) (todo' := todoOrI) (l := lOr cl R O) (l' := lOr cl R O) (sl' := slOrI room (IntKind.i64.wrap (k + 1))) F3_ok S3_ok kind cs hA
    (by kernel_rfl) hB rfl rfl rfl rfl rfl (fun m => Nat.blt m 4) (p_all rfl rfl) (fun m hm => by rw [hβ] at hm; exact Nat.blt_eq.mpr (by omega)) (by rw [hβ]; kernel_rfl) (by kernel_rfl) (by kernel_rfl)
theorem orDo (hβ : β.n0 = 1) (hA : Asrt β frOr (trO (slots J 0 (slOrI room k))) [] (hO (lOr cl R O)) 4 far a) (hB : allB [decide (O.length + [(cl.getD k.toNat []).getD 0 0].length ≤ 1048576), decide (k.toNat < cl.length), decide (0 ≤ k ∧ k < (cl.length : Int)), decide (R.length + [k].length ≤ 1048576), !(!(canP cl room (cl.length + 1 - 0) (part [] 0 0) (part [] 0 0) (part (([] ++ R : List Int) ++ [k]) 0 (([] ++ R : List Int) ++ [k]).length))), propB (CanPre cl room (part [] 0 0) (part [] 0 0) (part (([] ++ R : List Int) ++ [k]) 0 (([] ++ R : List Int) ++ [k]).length) ∧ cl.length + 1 - 0 ≤ 100), decide (([] ++ R : List Int).length + [k].length ≤ 1048576), decide (([] : List Int).length + R.length ≤ 1048576), !(!(readyP cl (part R 0 R.length) k.toNat)), decide (R.length ≤ 1048576 ∧ cl.length ≤ 1048576 ∧ Ended cl ∧ 0 ≤ k ∧ k < (cl.length : Int))] = true) :
    ∃ J' b', Asrt β frOr (trO (slots J' 0 (slOr room (.osl 2 1) (.osl 3 1)))) [] (hO (lOr cl (R ++ [k]) (O ++ [(cl.getD k.toNat []).getD 0 0]))) 4 far b' ∧ Steps Go.Proofs.Tryz.prog (At frOr none kind cs a todoOrI) (At frOr none kind cs b' todoOr) :=
  Asrt.eval (n := 400) (m := 10) (orc := bits 20 0b10000001000101001111) (πl := [0, 1, 11, 13]) (nx' := 14) (far := far) (todo := todoOrI) (todo' := todoOr) (l := lOr cl R O) (l' := lOr cl (R ++ [k]) (O ++ [(cl.getD k.toNat []).getD 0 0])) (sl' := slOr room (.osl 2 1) (.osl 3 1)) F3_ok S3_ok kind cs hA
    (by kernel_rfl) hB rfl rfl rfl rfl rfl (fun m => Nat.blt m 4) (p_all rfl rfl) (fun m hm => by rw [hβ] at hm; exact Nat.blt_eq.mpr (by omega)) (by rw [hβ]; kernel_rfl) (by kernel_rfl) (by kernel_rfl)
end

/-- Behind calls that come to an end there is a next one. -/
theorem ord_next {cl : List (List Int)} {room : Int} : ∀ (R : List Int) (f : Nat) (F D : List Int), canP cl room f F D R = true → leftP cl.length (D ++ R) = true → ∃ k, k < cl.length ∧ readyP cl (D ++ R) k = true ∧ canP cl room f F D (R ++ [(k : Int)]) = true := by
  intro R
  induction R with
  | nil =>
    intro f F D h hl
    cases f with
    | zero => cases h
    | succ f =>
      rw [canP_succ] at h
      simp only [List.append_nil] at hl ⊢
      simp only [List.length_nil, decide_true, cond_true, hl, Bool.not_true, cond_false, List.any_eq_true, List.mem_range] at h
      obtain ⟨i, hi, hs⟩ := h
      unfold cnStep at hs
      simp only [List.length_nil, decide_true, cond_true] at hs
      cases hr : readyP cl D i with
      | false => rw [hr] at hs; cases hs
      | true =>
        cases hq : cnIs cl room F i with
        | false => rw [hr, hq] at hs; cases hs
        | true =>
          rw [hr, hq] at hs
          simp only [cond_true, List.drop_nil] at hs
          refine ⟨i, hi, hr, ?_⟩
          rw [canP_succ]
          simp only [List.nil_append, List.length_singleton, Nat.one_ne_zero, decide_false, cond_false, List.any_eq_true, List.mem_range]
          refine ⟨i, hi, ?_⟩
          unfold cnStep
          simp [hr, hq, hs]
  | cons r R ih =>
    intro f F D h hl
    cases f with
    | zero => cases h
    | succ f =>
      rw [canP_succ] at h
      simp only [List.length_cons, Nat.succ_ne_zero, decide_false, cond_false, List.any_eq_true, List.mem_range] at h
      obtain ⟨i, hi, hs⟩ := h
      unfold cnStep at hs
      simp only [List.length_cons, Nat.succ_ne_zero, decide_false, cond_false, List.getD_cons_zero] at hs
      cases he : decide ((i : Int) = r) with
      | false => rw [he] at hs; cases hs
      | true =>
        cases hr : readyP cl D i with
        | false => rw [he, hr] at hs; cases hs
        | true =>
          cases hq : cnIs cl room F i with
          | false => rw [he, hr, hq] at hs; cases hs
          | true =>
            rw [he, hr, hq] at hs
            simp only [cond_true, List.drop_one, List.tail_cons] at hs
            have hir : (i : Int) = r := of_decide_eq_true he
            have happ : D ++ [(i : Int)] ++ R = D ++ r :: R := by rw [hir]; simp
            obtain ⟨k, h1, h2, h3⟩ := ih f _ (D ++ [(i : Int)]) hs (by rw [happ]; exact hl)
            rw [happ] at h2
            refine ⟨k, h1, h2, ?_⟩
            rw [canP_succ]
            simp only [List.cons_append, List.length_cons, Nat.succ_ne_zero, decide_false, cond_false, List.any_eq_true, List.mem_range]
            refine ⟨i, hi, ?_⟩
            unfold cnStep
            simp only [List.length_cons, Nat.succ_ne_zero, decide_false, cond_false, List.getD_cons_zero, he, hr, hq, cond_true, List.drop_one, List.tail_cons, h3]

/-- What is asked of a call of Order. -/
structure OrdPre (cl : List (List Int)) (room : Int) : Prop where
  ended : Ended cl
  many : cl.length ≤ 10
  room1 : 1 ≤ room
  room2 : room ≤ 64
  kinds : ∀ i, i < cl.length → 1 ≤ (cl.getD i []).getD 3 0 ∧ (cl.getD i []).getD 3 0 ≤ 3
  named : Named cl
  can : canP cl room (cl.length + 1) [] [] [] = true

theorem OrdPre.pre {cl : List (List Int)} {room : Int} (h : OrdPre cl room) {N : List Int} (hN : N.length ≤ 64) : CanPre cl room [] [] N :=
  ⟨h.ended, by have := h.many; omega, h.room1, by have := h.room2; omega, h.kinds, by have := h.room1; simp; omega, List.nodup_nil, fun x hx => (by cases hx), hN⟩

section
variable {β : Base} {kind : CallKind} {cs : List Frame} {J : Nat → V} {a : Cf} {cl : List (List Int)} {R O : List Int} {room : Int}

/-- The next call is looked for. -/
theorem orLoopI (hβ : β.n0 = 1) (hp : OrdPre cl room) (hR : R.length ≤ 10) (hOl : O.length ≤ 10) {k0 : Nat} (hk0 : k0 < cl.length) (hr0 : readyP cl R k0 = true) (hc0 : canP cl room (cl.length + 1) [] [] (R ++ [(k0 : Int)]) = true) :
    ∀ (d : Nat) (J : Nat → V) (a : Cf) (k : Nat), k0 = k + d → Asrt β frOr (trO (slots J 0 (slOrI room (k : Int)))) [] (hO (lOr cl R O)) 4 far a →
      ∃ J' b' q, q < cl.length ∧ readyP cl R q = true ∧ canP cl room (cl.length + 1) [] [] (R ++ [(q : Int)]) = true ∧ Asrt β frOr (trO (slots J' 0 (slOr room (.osl 2 1) (.osl 3 1)))) [] (hO (lOr cl (R ++ [(q : Int)]) (O ++ [(cl.getD q []).getD 0 0]))) 4 far b' ∧
        Steps Go.Proofs.Tryz.prog (At frOr none kind cs a todoOrI) (At frOr none kind cs b' todoOr) := by
  have hm := hp.many
  have hE := hp.ended
  have w0 : part ([] : List Int) 0 0 = [] := rfl
  intro d
  induction d with
  | zero =>
    intro J a k hd hA
    have : k0 = k := by omega
    subst this
    have hpre : CanPre cl room (part [] 0 0) (part [] 0 0) (part (([] ++ R : List Int) ++ [(k0 : Int)]) 0 (([] ++ R : List Int) ++ [(k0 : Int)]).length) := by
      rw [part_whole, w0]
      exact hp.pre (by simp; omega)
    obtain ⟨J', b', h1, h2⟩ := orDo (kind := kind) (cs := cs) hβ hA (by
      simp only [allB_iff, List.forall_mem_cons, Int.toNat_natCast, part_whole, w0, Nat.sub_zero, List.nil_append, hr0, hc0, propB_iff, List.length_nil, List.length_singleton, decide_eq_true_eq, Bool.not_false, Bool.not_true]
      rw [part_whole, w0] at hpre
      and_intros <;> first | trivial | exact hpre | assumption | omega | (intro _ hb; cases hb))
    exact ⟨J', b', k0, hk0, hr0, hc0, by simpa using h1, h2⟩
  | succ d ih =>
    intro J a k hd hA
    have hk : k < cl.length := by omega
    have next : ∀ (J1 : Nat → V) (b1 : Cf), Asrt β frOr (trO (slots J1 0 (slOrI room (IntKind.i64.wrap ((k : Int) + 1))))) [] (hO (lOr cl R O)) 4 far b1 → Steps Go.Proofs.Tryz.prog (At frOr none kind cs a todoOrI) (At frOr none kind cs b1 todoOrI) →
        ∃ J' b' q, q < cl.length ∧ readyP cl R q = true ∧ canP cl room (cl.length + 1) [] [] (R ++ [(q : Int)]) = true ∧ Asrt β frOr (trO (slots J' 0 (slOr room (.osl 2 1) (.osl 3 1)))) [] (hO (lOr cl (R ++ [(q : Int)]) (O ++ [(cl.getD q []).getD 0 0]))) 4 far b' ∧
          Steps Go.Proofs.Tryz.prog (At frOr none kind cs a todoOrI) (At frOr none kind cs b' todoOr) := by
      intro J1 b1 h1 h2
      rw [wrap_i64 (by omega) (by omega)] at h1
      obtain ⟨J2, b2, q, g1, g2, g3, g4, g5⟩ := ih J1 b1 (k + 1) (by omega) (by exact_mod_cast h1)
      exact ⟨J2, b2, q, g1, g2, g3, g4, h2.trans g5⟩
    cases hr : readyP cl R k with
    | false =>
      obtain ⟨J1, b1, h1, h2⟩ := orNot (kind := kind) (cs := cs) hβ hA (by
        simp only [allB_iff, List.forall_mem_cons, Int.toNat_natCast, part_whole, hr, decide_eq_true_eq, Bool.not_false]
        and_intros <;> first | trivial | assumption | omega | (intro _ hb; cases hb))
      exact next J1 b1 h1 h2
    | true =>
      have hpre : CanPre cl room (part [] 0 0) (part [] 0 0) (R ++ [(k : Int)]) := by
        rw [w0]
        exact hp.pre (by simp; omega)
      rw [w0] at hpre
      cases hc : canP cl room (cl.length + 1) [] [] (R ++ [(k : Int)]) with
      | false =>
        obtain ⟨J1, b1, h1, h2⟩ := orCant (kind := kind) (cs := cs) hβ hA (by
          simp only [allB_iff, List.forall_mem_cons, Int.toNat_natCast, part_whole, w0, Nat.sub_zero, List.nil_append, hr, hc, propB_iff, List.length_nil, List.length_singleton, decide_eq_true_eq, Bool.not_false, Bool.not_true]
          and_intros <;> first | trivial | exact hpre | assumption | omega | (intro _ hb; cases hb))
        exact next J1 b1 h1 h2
      | true =>
        obtain ⟨J', b', h1, h2⟩ := orDo (kind := kind) (cs := cs) hβ hA (by
          simp only [allB_iff, List.forall_mem_cons, Int.toNat_natCast, part_whole, w0, Nat.sub_zero, List.nil_append, hr, hc, propB_iff, List.length_nil, List.length_singleton, decide_eq_true_eq, Bool.not_false, Bool.not_true]
          and_intros <;> first | trivial | exact hpre | assumption | omega | (intro _ hb; cases hb))
        exact ⟨J', b', k, hk, hr, hc, by simpa using h1, h2⟩

/-- Place by place. -/
theorem orLoop (hβ : β.n0 = 1) (hp : OrdPre cl room) : ∀ (d : Nat) (J : Nat → V) (a : Cf) (R O : List Int), cl.length + 1 = R.length + d → O.length = R.length → R.Nodup → (∀ x ∈ R, 0 ≤ x ∧ x < (cl.length : Int)) → canP cl room (cl.length + 1) [] [] R = true →
    Asrt β frOr (trO (slots J 0 (slOr room (.osl 2 1) (.osl 3 1)))) [] (hO (lOr cl R O)) 4 far a →
    ∃ J' b' O', Asrt β frOr (trO (slots J' 0 slOrE)) [] (hO [some (callsOb cl), some (rowI O')]) 2 far b' ∧ Steps Go.Proofs.Tryz.prog (At frOr none kind cs a todoOr) (At frOr none kind cs b' [.code .ret]) := by
  have hm := hp.many
  have hE := hp.ended
  intro d
  induction d with
  | zero =>
    intro J a R O hd hOR hnd hrg hc hA
    have := nodup_int hnd hrg
    omega
  | succ d ih =>
    intro J a R O hd hOR hnd hrg hc hA
    have hl := nodup_int hnd hrg
    cases hlf : leftP cl.length R with
    | false =>
      obtain ⟨J', b', h1, h2⟩ := orExit (kind := kind) (cs := cs) hβ hA (by
        simp only [allB_iff, List.forall_mem_cons, part_whole, hlf, decide_eq_true_eq, Bool.not_false]
        and_intros <;> first | trivial | assumption | omega | (intro _ hb; cases hb))
      exact ⟨J', b', O, h1, h2⟩
    | true =>
      obtain ⟨k0, g1, g2, g3⟩ := ord_next R (cl.length + 1) [] [] hc (by simpa using hlf)
      simp only [List.nil_append] at g2
      obtain ⟨J1, b1, h1, h2⟩ := orIn (kind := kind) (cs := cs) hβ hA (by
        simp only [allB_iff, List.forall_mem_cons, part_whole, hlf, decide_eq_true_eq]
        and_intros <;> first | trivial | assumption | omega | (intro _ hb; cases hb))
      obtain ⟨J2, b2, q, q1, q2, q3, h3, h4⟩ := orLoopI (kind := kind) (cs := cs) hβ hp (by omega) (by omega) g1 g2 g3 k0 J1 b1 0 (by omega) h1
      obtain ⟨J3, b3, O', h5, h6⟩ := ih J2 b2 (R ++ [(q : Int)]) (O ++ [(cl.getD q []).getD 0 0]) (by simp; omega) (by simp [hOR]) (by
        rw [List.nodup_append]
        refine ⟨hnd, by simp, fun x hx y hy e => ?_⟩
        simp at hy
        subst hy; subst e
        exact readyP_notin q2 hx) (fun x hx => by
        rcases List.mem_append.1 hx with hx | hx
        · exact hrg x hx
        · simp at hx; subst hx; exact ⟨by omega, by omega⟩) q3 h3
      exact ⟨J3, b3, O', h5, (h2.trans h4).trans h6⟩

theorem order_call (hp : OrdPre cl room) : CallH Go.Proofs.Tryz.prog 6 [.int .i64 1, .int .i64 room, .osl 0 10] 1 (hO (lMy cl)) (.tup [.osl 1 1, .bool true, .int .i64 0]) 2 (hO (lMy cl)) := by
  have hm := hp.many
  have w0 : part ([] : List Int) 0 0 = [] := rfl
  refine callH_of3 (c := orBody) (t1 := 6) (t2 := 7) (t3 := 8) (hi := far) Go.Proofs.Tryz.func6 (by kernel_rfl) (Nat.blt_eq.mp (by kernel_rfl)) (by kernel_rfl) (Nat.ble_eq.mp (by kernel_rfl)) (fun m o ho => ?_) (fun m o ho hr => ?_) rfl ?_
  · have := obsOK_ok (p := fun m => Nat.blt m 2) (lMy cl) 0 (by kernel_rfl) m o ho
    rw [blt_fun] at this
    exact ⟨by simpa using this.2.1, this.2.2⟩
  · rw [noRo_ok (lMy cl) (by kernel_rfl) m o ho] at hr; cases hr
  · intro L w kind cs a hA
    have hpre := hp.pre (N := []) (by simp)
    obtain ⟨J1, b1, h1, h2⟩ := orStart (kind := kind) (cs := cs) rfl hA (by
      simp only [allB_iff, List.forall_mem_cons, w0, Nat.sub_zero, hp.can, propB_iff, decide_eq_true_eq, Bool.not_false, Bool.not_true]
      and_intros <;> first | trivial | exact hpre | exact hp.room1 | exact hp.room2 | exact hp.named | omega | (intro _ hb; cases hb))
    have hs := hO_snoc (l := lOr0 cl) (o := rowI [])
    have h3 := h1.ghost (T' := trO (slots J1 0 (slOr room (.osl 2 1) .nils))) (b := .words .i64 []) (es := 1) (t := 3) (by decide) (Nat.le_of_ble_eq_true rfl) rfl rfl hs.1 (fun m hm => .inl (hs.2 m hm)) (ghost_slots (k := 11) (sl := slOr room .nils .nils) rfl (Nat.blt_eq.mp (by kernel_rfl)))
    have hs2 := hO_snoc (l := lOr0 cl ++ [some (rowI [])]) (o := rowI [])
    have h4 := h3.ghost (T' := trO (slots J1 0 (slOr room (.osl 2 1) (.osl 3 1)))) (b := .words .i64 []) (es := 1) (t := 3) (by decide) (Nat.le_of_ble_eq_true rfl) rfl rfl hs2.1 (fun m hm => .inl (hs2.2 m hm)) (ghost_slots (k := 12) (sl := slOr room (.osl 2 1) .nils) rfl (Nat.blt_eq.mp (by kernel_rfl)))
    obtain ⟨J2, b2, O', h5, h6⟩ := orLoop (kind := kind) (cs := cs) rfl hp (cl.length + 1) J1 b1 [] [] (by simp) rfl List.nodup_nil (fun x hx => by cases hx) hp.can h4
    exact ⟨b2, _, 2, far, _, h5.less (fun m o ho => by
      match m, ho with
      | 0, ho => exact ho), rfl, rfl, rfl, h2.trans h6, .inr ⟨[], rfl⟩⟩
end

noncomputable def smOrd (args : List V) (s : St) : Option (V × St) :=
  match args with
  | [.int .i64 md, .int .i64 room, .osl c es] => (rowsOfN s c es).bind fun cl => (chk (decide (md = 1))).bind fun _ => (need (propB (OrdPre cl room)) s).bind fun s1 => (s1.skip).bind fun r => match r with
    | (m, s2) => some (.tup [.osl m 1, .bool true, .int .i64 0], s2)
  | _ => none
theorem smOrd_sm : SmOK Go.Proofs.Tryz.prog 6 smOrd := by
  refine ⟨fun args s v s' h ho => ?_, Go.Proofs.Tryz.call6⟩
  unfold smOrd at h
  split at h
  · rename_i md room c es
    obtain ⟨cl, h1, h2⟩ := bind_some' h
    obtain ⟨_, h3, h4⟩ := bind_some' h2
    obtain ⟨s1, h5, h6⟩ := bind_some' h4
    obtain ⟨⟨m, s2⟩, h7, h8⟩ := bind_some' h6
    cases h8
    have hmd : md = 1 := of_decide_eq_true (chk_some h3)
    subst hmd
    obtain ⟨hg, rfl⟩ := rowsOfN_ok h1
    obtain ⟨n1, n2, n3, n4, n5⟩ := skip_ok h7
    have ho1 : Obl s1 := by unfold Obl at ho ⊢; rw [n4] at ho; exact ho
    obtain ⟨hd, hq⟩ := need_ok h5 ho1
    have hp := propB_iff.1 hd
    refine ⟨(Lg.of_same hq.1).trans (.skip h7), hq.2, ?_⟩
    have := embedSkip (l := lMy cl) (ac := [.int .i64 1, .int .i64 room, .osl 0 10]) (vc := .tup [.osl 1 1, .bool true, .int .i64 0]) (s := s1) (v := .tup [.osl m 1, .bool true, .int .i64 0]) (args := [.int .i64 1, .int .i64 room, .osl c 10]) (order_call hp) (fun m hm => allSome_ok rfl m hm) (by kernel_rfl) (by kernel_rfl) [c] rfl (fun q o ho => by
      match q, ho with
      | 0, ho => cases ho; rw [hq.1.H]; exact hg) (by simp) rfl h7 (by rw [n1]; rfl)
    refine CallOK.gh this (by rw [hq.1.nx]; exact Nat.le_refl _) (by omega) (fun D L w hSR hD hst => ⟨L, .of_same hq.1 hSR, fun L' hL' => ?_⟩)
    rw [grow_self hq.1.nx.symm] at hL'
    exact hst L' hL'
  · cases h
end Go.Sx
/- An order that fits: calls come to an end. -/
namespace Go.Sx
/-- Calls, one behind the other, from a queue on. -/
def runsL (cl : List (List Int)) (room : Int) : List Int → List Nat → Prop
  | _, [] => True
  | F, i :: r => cnIs cl room F i = true ∧ runsL cl room ((cnG cl room F i).2.1.drop (cnG cl room F i).2.2) r

theorem can_lin {cl : List (List Int)} {room : Int} {lin : List Nat} (hnd : lin.Nodup) (hall : ∀ i, i < cl.length → i ∈ lin) (hlt : ∀ i ∈ lin, i < cl.length) (hord : lin.Pairwise fun x y => aheadP (cl.getD y []) (cl.getD x []) = false) :
    ∀ (post : List Nat) (f : Nat) (F : List Int) (pre : List Nat), pre ++ post = lin → runsL cl room F post → post.length < f → canP cl room f F (pre.map fun (i : Nat) => (i : Int)) [] = true := by
  intro post
  induction post with
  | nil =>
    intro f F pre hpre hr hf
    obtain ⟨f, rfl⟩ : ∃ q, f = q + 1 := ⟨f - 1, by simp at hf; omega⟩
    rw [canP_succ]
    have hl : leftP cl.length (pre.map fun (i : Nat) => (i : Int)) = false := by
      unfold leftP
      rw [List.any_eq_false]
      intro i hi
      simp only [List.mem_range] at hi
      have := hall i hi
      rw [← hpre, List.append_nil] at this
      have h2 : (i : Int) ∈ pre.map fun (i : Nat) => (i : Int) := List.mem_map.2 ⟨i, this, rfl⟩
      simp [h2]
    rw [hl]; rfl
  | cons i r ih =>
    intro f F pre hpre hr hf
    obtain ⟨f, rfl⟩ : ∃ q, f = q + 1 := ⟨f - 1, by simp at hf; omega⟩
    rw [canP_succ]
    have hin : i ∈ lin := by rw [← hpre]; simp
    have hi := hlt i hin
    rw [← hpre] at hnd hord
    have hni : ¬ i ∈ pre := fun h => (List.nodup_append.1 hnd).2.2 i h i (by simp) rfl
    have hnD : ¬ (i : Int) ∈ pre.map (fun (i : Nat) => (i : Int)) := fun h => by
      obtain ⟨q, hq, he⟩ := List.mem_map.1 h
      have : q = i := by omega
      exact hni (this ▸ hq)
    have hready : readyP cl (pre.map fun (i : Nat) => (i : Int)) i = true := by
      simp only [readyP, decide_eq_false hnD, cond_false, List.all_eq_true, List.mem_range]
      intro q hq
      by_cases hqi : q = i
      · simp [hqi]
      · by_cases hqD : (q : Int) ∈ pre.map (fun (i : Nat) => (i : Int))
        · simp [hqi, hqD]
        · have hqp : ¬ q ∈ pre := fun h => hqD (List.mem_map.2 ⟨q, h, rfl⟩)
          have hql : q ∈ lin := hall q hq
          rw [← hpre] at hql
          have hqr : q ∈ r := by
            rcases List.mem_append.1 hql with h | h
            · exact absurd h hqp
            · rcases List.mem_cons.1 h with h | h
              · exact absurd h hqi
              · exact h
          have hp := (List.pairwise_cons.1 (List.pairwise_append.1 hord).2.1).1 q hqr
          simp only [decide_eq_false hqi, decide_eq_false hqD, cond_false, hp, Bool.not_false]
    have hrec := ih f _ (pre ++ [i]) (by rw [← hpre]; simp) hr.2 (by simp at hf; omega)
    have hany : (List.range cl.length).any (cnStep cl room f F (pre.map fun (i : Nat) => (i : Int)) []) = true := by
      rw [List.any_eq_true]
      refine ⟨i, List.mem_range.2 hi, ?_⟩
      unfold cnStep
      rw [hready, hr.1]
      simp only [List.length_nil, decide_true, cond_true, List.drop_nil]
      rw [List.map_append] at hrec
      exact hrec
    rw [hany]
    cases cond (decide (([] : List Int).length = 0)) (!(leftP cl.length (pre.map fun (i : Nat) => (i : Int)))) false <;> rfl

/-- So Order finds one. -/
theorem ordPre_of {cl : List (List Int)} {room : Int} {lin : List Nat} (h1 : Ended cl) (h2 : cl.length ≤ 10) (h3 : 1 ≤ room) (h4 : room ≤ 64) (h5 : ∀ i, i < cl.length → 1 ≤ (cl.getD i []).getD 3 0 ∧ (cl.getD i []).getD 3 0 ≤ 3) (h6 : Named cl)
    (hnd : lin.Nodup) (hall : ∀ i, i < cl.length → i ∈ lin) (hlt : ∀ i ∈ lin, i < cl.length) (hord : lin.Pairwise fun x y => aheadP (cl.getD y []) (cl.getD x []) = false) (hr : runsL cl room [] lin) : OrdPre cl room := by
  refine ⟨h1, h2, h3, h4, h5, h6, ?_⟩
  have hlen : lin.length ≤ cl.length := by
    have := nodup_le cl.length lin hnd hlt
    omega
  exact can_lin hnd hall hlt hord lin (cl.length + 1) [] [] rfl hr (by omega)
end Go.Sx
/- The plain law of a mailbox: its calls. -/
namespace Go.Sx
set_option maxRecDepth 100000
def rowM (i f t kd w e x : Int) : List Int := [i, f, t, kd, 0, 0, w, e, 0, x]
def stepR (room : Int) (F row : List Int) : List Int × List Int × Nat := fifoS room F (row.getD 3 0) (row.getD 6 0)
def ansR (row : List Int) : List Int := [row.getD 7 0, row.getD 8 0, row.getD 9 0]
/-- Calls, one behind the other, from a queue to a queue. -/
def runR (r : Nat → List Int) (room : Int) : List Int → List Nat → List Int → Prop
  | F, [], Q => F = Q
  | F, i :: l, Q => eqL (stepR room F (r i)).1 (ansR (r i)) = true ∧ runR r room ((stepR room F (r i)).2.1.drop (stepR room F (r i)).2.2) l Q
theorem runR_L {r : Nat → List Int} {cl : List (List Int)} {room : Int} : ∀ {l : List Nat} {F Q : List Int}, (∀ i ∈ l, r i = cl.getD i []) → runR r room F l Q → runsL cl room F l
  | [], _, _, _, _ => trivial
  | i :: l, _, _, hs, h => by
    have h1 := hs i (by simp)
    have h2 := h.1
    have h3 := h.2
    rw [h1] at h2 h3
    exact ⟨h2, runR_L (fun j hj => hs j (by simp [hj])) h3⟩
theorem runR_snoc {r : Nat → List Int} {room : Int} {k : Nat} : ∀ {l : List Nat} {F Q : List Int}, runR r room F l Q → eqL (stepR room Q (r k)).1 (ansR (r k)) = true → runR r room F (l ++ [k]) ((stepR room Q (r k)).2.1.drop (stepR room Q (r k)).2.2)
  | [], _, _, h, hk => by cases h; exact ⟨hk, rfl⟩
  | _ :: _, _, _, h, hk => ⟨h.1, runR_snoc h.2 hk⟩
def sameR (a b : List Int) : Prop := ansR a = ansR b ∧ a.getD 3 0 = b.getD 3 0 ∧ a.getD 6 0 = b.getD 6 0
theorem sameR.rfl {a : List Int} : sameR a a := ⟨Eq.refl _, Eq.refl _, Eq.refl _⟩
theorem runR_map {r r' : Nat → List Int} {room : Int} {g : Nat → Nat} : ∀ {l : List Nat} {F Q : List Int}, (∀ i ∈ l, sameR (r i) (r' (g i))) → runR r room F l Q → runR r' room F (l.map g) Q
  | [], _, _, _, h => h
  | i :: l, F, Q, hs, h => by
    have h1 := hs i (by simp)
    have e1 : stepR room F (r i) = stepR room F (r' (g i)) := by unfold stepR; rw [h1.2.1, h1.2.2]
    have h2 := h.1
    have h3 := h.2
    rw [e1, h1.1] at h2
    rw [e1] at h3
    exact ⟨h2, runR_map (fun j hj => hs j (by simp [hj])) h3⟩
theorem runR_congr {r r' : Nat → List Int} {room : Int} {l : List Nat} {F Q : List Int} (hs : ∀ i ∈ l, sameR (r i) (r' i)) (h : runR r room F l Q) : runR r' room F l Q := by
  have := runR_map (g := fun i => i) hs h
  simpa using this
def updR (r : Nat → List Int) (k : Nat) (row : List Int) (j : Nat) : List Int := if j = k then row else r j
theorem updR_eq {r : Nat → List Int} {k : Nat} {row : List Int} : updR r k row k = row := by simp [updR]
theorem updR_ne {r : Nat → List Int} {k j : Nat} {row : List Int} (h : j ≠ k) : updR r k row j = r j := by simp [updR, h]
structure Hist (S : Int) (r : Nat → List Int) (dom : Nat → Prop) (q : List Int) (lin : List Nat) (ck : Int) (O : Nat → Prop) : Prop where
  ck0 : 0 ≤ ck
  rows : ∀ k, dom k → ∃ i f t kd w e x, r k = rowM i f t kd w e x ∧ 1 ≤ kd ∧ kd ≤ 3 ∧ f ≤ ck ∧ (t = -1 ∨ 0 ≤ t)
  nd : lin.Nodup
  lt : ∀ k ∈ lin, dom k
  done : ∀ k, dom k → (r k).getD 2 0 ≠ -1 → k ∈ lin
  order : lin.Pairwise fun x y => (r y).getD 2 0 = -1 ∨ ¬ (r y).getD 2 0 < (r x).getD 1 0
  run : runR r S [] lin q
  opn : ∀ k, dom k → (r k).getD 2 0 = -1 → O k
section
variable {S ck : Int} {r : Nat → List Int} {dom : Nat → Prop} {q : List Int} {lin : List Nat} {O O' : Nat → Prop}
/-- Only what the calls are counts; the clock may go on. -/
theorem Hist.to {r' : Nat → List Int} {dom' : Nat → Prop} {ck' : Int} (H : Hist S r dom q lin ck O) (hd : ∀ k, dom' k ↔ dom k) (hr : ∀ k, dom k → r' k = r k) (hc : ck ≤ ck') (hO : ∀ k, dom k → O k → O' k) : Hist S r' dom' q lin ck' O' := by
  have hck := H.ck0
  refine ⟨by omega, fun k hk => ?_, H.nd, fun k hk => (hd k).2 (H.lt k hk), fun k hk ht => ?_, ?_, runR_congr (fun i hi => ?_) H.run, fun k hk ht => ?_⟩
  · obtain ⟨i, f, t, kd, w, e, x, g1, g2, g3, g4, g5⟩ := H.rows k ((hd k).1 hk)
    exact ⟨i, f, t, kd, w, e, x, (hr k ((hd k).1 hk)).trans g1, g2, g3, by omega, g5⟩
  · rw [hr k ((hd k).1 hk)] at ht; exact H.done k ((hd k).1 hk) ht
  · refine List.Pairwise.imp_of_mem (fun {a b} ha hb h => ?_) H.order
    rw [hr a (H.lt a ha), hr b (H.lt b hb)]; exact h
  · rw [hr i (H.lt i hi)]; exact .rfl
  · rw [hr k ((hd k).1 hk)] at ht; exact hO k ((hd k).1 hk) (H.opn k ((hd k).1 hk) ht)
/-- A call begins. -/
theorem Hist.begin (H : Hist S r dom q lin ck O) {k : Nat} {ck' i f kd w : Int} (hk : ¬ dom k) (hc : ck ≤ ck') (hf : f ≤ ck') (h1 : 1 ≤ kd) (h2 : kd ≤ 3) (hO : ∀ j, dom j → O j → O' j) (hn : O' k) :
    Hist S (updR r k (rowM i f (-1) kd w 0 0)) (fun j => j = k ∨ dom j) q lin ck' O' := by
  have hck := H.ck0
  have hne : ∀ j, dom j → j ≠ k := fun j hj e => hk (e ▸ hj)
  have hlt : ∀ j ∈ lin, updR r k (rowM i f (-1) kd w 0 0) j = r j := fun j hj => updR_ne (hne j (H.lt j hj))
  refine ⟨by omega, fun j hj => ?_, H.nd, fun j hj => .inr (H.lt j hj), fun j hj ht => ?_, ?_, runR_congr (fun j hj => ?_) H.run, fun j hj ht => ?_⟩
  · rcases hj with rfl | hj
    · exact ⟨_, _, _, _, _, _, _, updR_eq, h1, h2, hf, .inl rfl⟩
    · obtain ⟨i', f', t, kd', w', e', x, g1, g2, g3, g4, g5⟩ := H.rows j hj
      exact ⟨i', f', t, kd', w', e', x, by rw [updR_ne (hne j hj)]; exact g1, g2, g3, by omega, g5⟩
  · rcases hj with rfl | hj
    · rw [updR_eq] at ht; exact absurd rfl ht
    · rw [updR_ne (hne j hj)] at ht; exact H.done j hj ht
  · refine List.Pairwise.imp_of_mem (fun {a b} ha hb h => ?_) H.order
    rw [hlt a ha, hlt b hb]; exact h
  · rw [hlt j hj]; exact .rfl
  · rcases hj with rfl | hj
    · exact hn
    · rw [updR_ne (hne j hj)] at ht; exact hO j hj (H.opn j hj ht)
/-- An answer, before its effect. -/
theorem Hist.ans (H : Hist S r dom q lin ck O) {k : Nat} {i f kd w e0 x0 : Int} (e x : Int) (hk : dom k) (hr : r k = rowM i f (-1) kd w e0 x0) (hl : ¬ k ∈ lin) :
    Hist S (updR r k (rowM i f (-1) kd w e x)) dom q lin ck O := by
  have hne : ∀ j ∈ lin, updR r k (rowM i f (-1) kd w e x) j = r j := fun j hj => updR_ne (fun h => hl (h ▸ hj))
  refine ⟨H.ck0, fun j hj => ?_, H.nd, H.lt, fun j hj ht => ?_, ?_, runR_congr (fun j hj => ?_) H.run, fun j hj ht => ?_⟩
  · obtain ⟨i', f', t', kd', w', e', x', g1, g2, g3, g4, g5⟩ := H.rows j hj
    by_cases ej : j = k
    · subst ej
      rw [hr] at g1
      simp only [rowM, List.cons.injEq] at g1
      obtain ⟨rfl, rfl, rfl, rfl, _, _, rfl, _, _, _⟩ := g1
      exact ⟨_, _, _, _, _, _, _, updR_eq, g2, g3, g4, .inl rfl⟩
    · exact ⟨i', f', t', kd', w', e', x', by rw [updR_ne ej]; exact g1, g2, g3, g4, g5⟩
  · by_cases ej : j = k
    · subst ej; rw [updR_eq] at ht; exact absurd rfl ht
    · rw [updR_ne ej] at ht; exact H.done j hj ht
  · refine List.Pairwise.imp_of_mem (fun {a b} ha hb h => ?_) H.order
    rw [hne a ha, hne b hb]; exact h
  · rw [hne j hj]; exact .rfl
  · by_cases ej : j = k
    · subst ej; exact H.opn j hk (by rw [hr]; rfl)
    · rw [updR_ne ej] at ht; exact H.opn j hj ht
/-- A call takes effect. -/
theorem Hist.eff (H : Hist S r dom q lin ck O) {k : Nat} {i f kd w e x : Int} {q1 : List Int} {d : Nat} (hk : dom k) (hr : r k = rowM i f (-1) kd w e x) (hl : ¬ k ∈ lin)
    (hf : fifoS S q kd w = ([e, 0, x], q1, d)) : Hist S r dom (q1.drop d) (lin ++ [k]) ck O := by
  have hg : stepR S q (r k) = ([e, 0, x], q1, d) := by unfold stepR; rw [hr]; exact hf
  have hi : eqL (stepR S q (r k)).1 (ansR (r k)) = true := by
    have ha : ansR (r k) = [e, 0, x] := by unfold ansR; rw [hr]; rfl
    rw [hg, ha]; exact eqL3.2 rfl
  have hq := runR_snoc H.run hi
  rw [hg] at hq
  refine ⟨H.ck0, H.rows, ?_, fun j hj => ?_, fun j hj ht => List.mem_append_left _ (H.done j hj ht), ?_, hq, H.opn⟩
  · exact List.nodup_append.2 ⟨H.nd, by simp, fun a ha b hb => by rw [List.mem_singleton.1 hb]; exact fun h => hl (h ▸ ha)⟩
  · rcases List.mem_append.1 hj with hj | hj
    · exact H.lt j hj
    · rw [List.mem_singleton.1 hj]; exact hk
  · refine List.pairwise_append.2 ⟨H.order, by simp, fun a _ b hb => ?_⟩
    rw [List.mem_singleton.1 hb, hr]; exact .inl rfl
/-- A call that has taken effect ends; its name may change. -/
theorem Hist.fin (H : Hist S r dom q lin ck O) {k : Nat} {i i' f kd w e x t : Int} (hk : dom k) (hr : r k = rowM i f (-1) kd w e x) (hl : k ∈ lin) (ht0 : ck ≤ t) (hO : ∀ j, dom j → j ≠ k → O j → O' j) :
    Hist S (updR r k (rowM i' f t kd w e x)) dom q lin t O' := by
  have hck := H.ck0
  refine ⟨by omega, fun j hj => ?_, H.nd, H.lt, fun j hj ht => ?_, ?_, runR_congr (fun j hj => ?_) H.run, fun j hj ht => ?_⟩
  · obtain ⟨i1, f', t', kd', w', e', x', g1, g2, g3, g4, g5⟩ := H.rows j hj
    by_cases ej : j = k
    · subst ej
      rw [hr] at g1
      simp only [rowM, List.cons.injEq] at g1
      obtain ⟨rfl, rfl, rfl, rfl, _, _, rfl, _, _, _⟩ := g1
      exact ⟨_, _, _, _, _, _, _, updR_eq, g2, g3, by omega, .inr (by omega)⟩
    · exact ⟨i1, f', t', kd', w', e', x', by rw [updR_ne ej]; exact g1, g2, g3, by omega, g5⟩
  · by_cases ej : j = k
    · subst ej; exact hl
    · rw [updR_ne ej] at ht; exact H.done j hj ht
  · have hfrom : ∀ a ∈ lin, (updR r k (rowM i' f t kd w e x) a).getD 1 0 ≤ ck := fun a ha => by
      obtain ⟨i1, f', t', kd', w', e', x', g1, g2, g3, g4, g5⟩ := H.rows a (H.lt a ha)
      by_cases ea : a = k
      · subst ea
        rw [hr] at g1
        simp only [rowM, List.cons.injEq] at g1
        rw [updR_eq]
        show f ≤ ck
        omega
      · rw [updR_ne ea, g1]; exact g4
    refine List.Pairwise.imp_of_mem (fun {a b} ha hb h => ?_) H.order
    have h1 := hfrom a ha
    by_cases eb : b = k
    · subst eb
      refine .inr ?_
      rw [updR_eq (k := b)]
      show ¬ (t < _)
      omega
    · rw [updR_ne eb]
      by_cases ea : a = k
      · subst ea
        rw [hr] at h
        rw [updR_eq]; exact h
      · rw [updR_ne ea]; exact h
  · by_cases ej : j = k
    · subst ej; rw [updR_eq, hr]; exact ⟨rfl, rfl, rfl⟩
    · rw [updR_ne ej]; exact .rfl
  · by_cases ej : j = k
    · subst ej
      rw [updR_eq] at ht
      have : t = -1 := ht
      omega
    · rw [updR_ne ej] at ht; exact hO j hj ej (H.opn j hj ht)
/-- A call gets another number. -/
theorem Hist.rename (H : Hist S r dom q lin ck O) {a b : Nat} {r' : Nat → List Int} {dom' : Nat → Prop} (hb : ¬ dom b) (hd : ∀ k, dom' k ↔ (k ≠ a ∧ dom k) ∨ (k = b ∧ dom a)) (hr : ∀ k, dom k → k ≠ a → r' k = r k) (hrb : r' b = r a) (hO : ∀ k, dom k → k ≠ a → O k → O' k) (hOb : O a → O' b) :
    Hist S r' dom' q (lin.map fun k => if k = a then b else k) ck O' := by
  have hg : ∀ k, dom k → r' (if k = a then b else k) = r k := fun k hk => by
    by_cases e : k = a
    · rw [if_pos e, e]; exact hrb
    · rw [if_neg e]; exact hr k hk e
  have hdg : ∀ k, dom k → dom' (if k = a then b else k) := fun k hk => by
    by_cases e : k = a
    · rw [if_pos e]; exact (hd b).2 (.inr ⟨rfl, e ▸ hk⟩)
    · rw [if_neg e]; exact (hd k).2 (.inl ⟨e, hk⟩)
  have hback : ∀ k, dom' k → ∃ j, dom j ∧ (if j = a then b else j) = k := fun k hk => by
    rcases (hd k).1 hk with ⟨h1, h2⟩ | ⟨h1, h2⟩
    · exact ⟨k, h2, if_neg h1⟩
    · exact ⟨a, h2, by rw [if_pos rfl, h1]⟩
  refine ⟨H.ck0, fun k hk => ?_, ?_, fun k hk => ?_, fun k hk ht => ?_, ?_, runR_map (fun i hi => ?_) H.run, fun k hk ht => ?_⟩
  · obtain ⟨j, hj, rfl⟩ := hback k hk
    rw [hg j hj]; exact H.rows j hj
  · refine List.Pairwise.map _ (fun x y h => h) ?_
    refine List.Pairwise.imp_of_mem (fun {x y} hx hy h => ?_) H.nd
    have d1 := H.lt x hx
    have d2 := H.lt y hy
    by_cases ex : x = a
    · rw [if_pos ex]
      by_cases ey : y = a
      · exact absurd (ex.trans ey.symm) h
      · rw [if_neg ey]; exact fun e => hb (e ▸ d2)
    · rw [if_neg ex]
      by_cases ey : y = a
      · rw [if_pos ey]; exact fun e => hb (e ▸ d1)
      · rw [if_neg ey]; exact h
  · obtain ⟨j, hj, rfl⟩ := List.mem_map.1 hk
    exact hdg j (H.lt j hj)
  · obtain ⟨j, hj, rfl⟩ := hback k hk
    rw [hg j hj] at ht
    exact List.mem_map.2 ⟨j, H.done j hj ht, rfl⟩
  · refine List.Pairwise.map _ (fun x y h => h) ?_
    refine List.Pairwise.imp_of_mem (fun {x y} hx hy h => ?_) H.order
    rw [hg x (H.lt x hx), hg y (H.lt y hy)]; exact h
  · rw [hg i (H.lt i hi)]; exact .rfl
  · obtain ⟨j, hj, rfl⟩ := hback k hk
    rw [hg j hj] at ht
    have := H.opn j hj ht
    by_cases e : j = a
    · rw [if_pos e]; exact hOb (e ▸ this)
    · rw [if_neg e]; exact hO j hj e this
/-- All have ended: there is an order. -/
theorem Hist.ord {cl : List (List Int)} (H : Hist S r (fun j => j < cl.length) q lin ck O) (hr : ∀ k, k < cl.length → r k = cl.getD k []) (hO : ∀ k, ¬ O k) (h1 : 1 ≤ S) (h2 : S ≤ 4) (h3 : cl.length ≤ 8) (hn : Named cl) : OrdPre cl S := by
  have hto : ∀ k, k < cl.length → 0 ≤ (cl.getD k []).getD 2 0 := fun k hk => by
    obtain ⟨i, f, t, kd, w, e, x, g1, g2, g3, g4, g5⟩ := H.rows k hk
    have : (r k).getD 2 0 = t := by rw [g1]; rfl
    rw [← hr k hk, this]
    rcases g5 with g5 | g5
    · exact absurd (H.opn k hk (by rw [this]; exact g5)) (hO k)
    · omega
  refine ordPre_of (lin := lin) hto (by omega) h1 (by omega) (fun k hk => ?_) hn H.nd (fun k hk => H.done k hk (by have := hto k hk; rw [hr k hk]; omega)) H.lt ?_ (runR_L (fun i hi => hr i (H.lt i hi)) H.run)
  · obtain ⟨i, f, t, kd, w, e, x, g1, g2, g3, g4, g5⟩ := H.rows k hk
    rw [← hr k hk, g1]; exact ⟨g2, g3⟩
  · refine List.Pairwise.imp_of_mem (fun {a b} ha hb h => ?_) H.order
    have hb1 := H.lt b hb
    have ha1 := H.lt a ha
    rw [hr a ha1, hr b hb1] at h
    have := hto b hb1
    unfold aheadP
    refine decide_eq_false ?_
    rcases h with h | h <;> omega
end
end Go.Sx
