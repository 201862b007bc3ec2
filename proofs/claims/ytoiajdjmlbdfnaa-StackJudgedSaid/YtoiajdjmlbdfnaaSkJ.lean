/- StackJudged answers true: its walk. Printed by gen_row.py. -/
import Derived.Test.YtoiajdjmlbdfnaaSkI
import Derived.Test.YtoiajdjmlbdfnaaSxRow
namespace Go.Sx
set_option maxRecDepth 100000

def lkB (ws : List Int) : List Int → Bool
  | [] => true
  | x :: r => cond (decide (ws.getD (4 + x).toNat 0 = r.headD (-1) + 1)) (lkB ws r) false
theorem lkB_ok {ws : List Int} : ∀ {C : List Int}, lkB ws C = true → Lk ws C := by
  intro C
  induction C with
  | nil => intro _; trivial
  | cons x r ih =>
    intro h
    simp only [lkB] at h
    cases hd : decide (ws.getD (4 + x).toNat 0 = r.headD (-1) + 1) with
    | false => rw [hd] at h; cases h
    | true => rw [hd] at h; exact ⟨of_decide_eq_true hd, ih h⟩
theorem Lk_mem {n : Int} {ws : List Int} : ∀ {C : List Int}, Lk ws C → (∀ x ∈ C, 0 ≤ x ∧ x < n) → 0 ≤ n → ∀ i ∈ C, ∃ j, -1 ≤ j ∧ j < n ∧ ws.getD (4 + i).toNat 0 = j + 1 := by
  intro C
  induction C with
  | nil => intro _ _ _ i hi; cases hi
  | cons x r ih =>
    intro h hr hn i hi
    rcases List.mem_cons.1 hi with rfl | hi
    · have := headD_rg (n := n) (C := r) (fun y hy => hr y (List.mem_cons_of_mem _ hy)) hn
      exact ⟨_, this.1, this.2, h.1⟩
    · exact ih h.2 (fun y hy => hr y (List.mem_cons_of_mem _ hy)) hn i hi

theorem init_of {n : Int} {j : MJ} {ws C : List Int} (n1 : 1 ≤ n) (n12 : n ≤ 12) (hl : ws.length = 4096) (htop : ws.getD 2 0 = topW (C.headD (-1)) 0) (hL : lkB ws C = true) (hnd : C.Nodup) (hrg : ∀ x ∈ C, 0 ≤ x ∧ x < n) (hall : ∀ i, 0 ≤ i → i < n → i ∈ C) :
    InvS 0 ⟨n, j, ws, ⟨.idle, [], 0⟩, ⟨.idle, [], 0⟩, ⟨.idle, [], 0⟩⟩ :=
  ⟨C, 0, n1, n12, hl, htop, by decide, by decide, lkB_ok hL, fun i h0 h1 => Lk_mem (lkB_ok hL) hrg (by omega) i (hall i h0 h1), by simpa [own] using hnd, by simpa [own] using hrg, trivial, trivial, trivial⟩

theorem mem_iota (n : Nat) {C : List Int} (h : C = (List.range n).map Int.ofNat) : ∀ i, 0 ≤ i → i < (n : Int) → i ∈ C := by
  intro i h0 h1
  rw [h]
  exact List.mem_map.2 ⟨i.toNat, List.mem_range.2 (by omega), by simp; omega⟩
theorem init4_1 {j : MJ} : InvS 0 ⟨1, j, ((List.replicate 4096 0).set 2 1).set 4 0, ⟨.idle, [], 0⟩, ⟨.idle, [], 0⟩, ⟨.idle, [], 0⟩⟩ :=
  init_of (C := [0]) (by decide) (by decide) (by simp only [List.length_set, List.length_replicate]) (by kernel_rfl) (by kernel_rfl) (by decide) (by decide) (mem_iota 1 rfl)

theorem init4_2 {j : MJ} : InvS 0 ⟨2, j, (((List.replicate 4096 0).set 2 1).set 4 2).set 5 0, ⟨.idle, [], 0⟩, ⟨.idle, [], 0⟩, ⟨.idle, [], 0⟩⟩ :=
  init_of (C := [0, 1]) (by decide) (by decide) (by simp only [List.length_set, List.length_replicate]) (by kernel_rfl) (by kernel_rfl) (by decide) (by decide) (mem_iota 2 rfl)

theorem init4_3 {j : MJ} : InvS 0 ⟨3, j, ((((List.replicate 4096 0).set 2 1).set 4 2).set 5 3).set 6 0, ⟨.idle, [], 0⟩, ⟨.idle, [], 0⟩, ⟨.idle, [], 0⟩⟩ :=
  init_of (C := [0, 1, 2]) (by decide) (by decide) (by simp only [List.length_set, List.length_replicate]) (by kernel_rfl) (by kernel_rfl) (by decide) (by decide) (mem_iota 3 rfl)

theorem init4_4 {j : MJ} : InvS 0 ⟨4, j, (((((List.replicate 4096 0).set 2 1).set 4 2).set 5 3).set 6 4).set 7 0, ⟨.idle, [], 0⟩, ⟨.idle, [], 0⟩, ⟨.idle, [], 0⟩⟩ :=
  init_of (C := [0, 1, 2, 3]) (by decide) (by decide) (by simp only [List.length_set, List.length_replicate]) (by kernel_rfl) (by kernel_rfl) (by decide) (by decide) (mem_iota 4 rfl)

theorem init4_5 {j : MJ} : InvS 0 ⟨5, j, ((((((List.replicate 4096 0).set 2 1).set 4 2).set 5 3).set 6 4).set 7 5).set 8 0, ⟨.idle, [], 0⟩, ⟨.idle, [], 0⟩, ⟨.idle, [], 0⟩⟩ :=
  init_of (C := [0, 1, 2, 3, 4]) (by decide) (by decide) (by simp only [List.length_set, List.length_replicate]) (by kernel_rfl) (by kernel_rfl) (by decide) (by decide) (mem_iota 5 rfl)

theorem init4_6 {j : MJ} : InvS 0 ⟨6, j, (((((((List.replicate 4096 0).set 2 1).set 4 2).set 5 3).set 6 4).set 7 5).set 8 6).set 9 0, ⟨.idle, [], 0⟩, ⟨.idle, [], 0⟩, ⟨.idle, [], 0⟩⟩ :=
  init_of (C := [0, 1, 2, 3, 4, 5]) (by decide) (by decide) (by simp only [List.length_set, List.length_replicate]) (by kernel_rfl) (by kernel_rfl) (by decide) (by decide) (mem_iota 6 rfl)

theorem init4_7 {j : MJ} : InvS 0 ⟨7, j, ((((((((List.replicate 4096 0).set 2 1).set 4 2).set 5 3).set 6 4).set 7 5).set 8 6).set 9 7).set 10 0, ⟨.idle, [], 0⟩, ⟨.idle, [], 0⟩, ⟨.idle, [], 0⟩⟩ :=
  init_of (C := [0, 1, 2, 3, 4, 5, 6]) (by decide) (by decide) (by simp only [List.length_set, List.length_replicate]) (by kernel_rfl) (by kernel_rfl) (by decide) (by decide) (mem_iota 7 rfl)

theorem init4_8 {j : MJ} : InvS 0 ⟨8, j, (((((((((List.replicate 4096 0).set 2 1).set 4 2).set 5 3).set 6 4).set 7 5).set 8 6).set 9 7).set 10 8).set 11 0, ⟨.idle, [], 0⟩, ⟨.idle, [], 0⟩, ⟨.idle, [], 0⟩⟩ :=
  init_of (C := [0, 1, 2, 3, 4, 5, 6, 7]) (by decide) (by decide) (by simp only [List.length_set, List.length_replicate]) (by kernel_rfl) (by kernel_rfl) (by decide) (by decide) (mem_iota 8 rfl)

theorem init4_9 {j : MJ} : InvS 0 ⟨9, j, ((((((((((List.replicate 4096 0).set 2 1).set 4 2).set 5 3).set 6 4).set 7 5).set 8 6).set 9 7).set 10 8).set 11 9).set 12 0, ⟨.idle, [], 0⟩, ⟨.idle, [], 0⟩, ⟨.idle, [], 0⟩⟩ :=
  init_of (C := [0, 1, 2, 3, 4, 5, 6, 7, 8]) (by decide) (by decide) (by simp only [List.length_set, List.length_replicate]) (by kernel_rfl) (by kernel_rfl) (by decide) (by decide) (mem_iota 9 rfl)

theorem init4_10 {j : MJ} : InvS 0 ⟨10, j, (((((((((((List.replicate 4096 0).set 2 1).set 4 2).set 5 3).set 6 4).set 7 5).set 8 6).set 9 7).set 10 8).set 11 9).set 12 10).set 13 0, ⟨.idle, [], 0⟩, ⟨.idle, [], 0⟩, ⟨.idle, [], 0⟩⟩ :=
  init_of (C := [0, 1, 2, 3, 4, 5, 6, 7, 8, 9]) (by decide) (by decide) (by simp only [List.length_set, List.length_replicate]) (by kernel_rfl) (by kernel_rfl) (by decide) (by decide) (mem_iota 10 rfl)

theorem init4_11 {j : MJ} : InvS 0 ⟨11, j, ((((((((((((List.replicate 4096 0).set 2 1).set 4 2).set 5 3).set 6 4).set 7 5).set 8 6).set 9 7).set 10 8).set 11 9).set 12 10).set 13 11).set 14 0, ⟨.idle, [], 0⟩, ⟨.idle, [], 0⟩, ⟨.idle, [], 0⟩⟩ :=
  init_of (C := [0, 1, 2, 3, 4, 5, 6, 7, 8, 9, 10]) (by decide) (by decide) (by simp only [List.length_set, List.length_replicate]) (by kernel_rfl) (by kernel_rfl) (by decide) (by decide) (mem_iota 11 rfl)

theorem init4_12 {j : MJ} : InvS 0 ⟨12, j, (((((((((((((List.replicate 4096 0).set 2 1).set 4 2).set 5 3).set 6 4).set 7 5).set 8 6).set 9 7).set 10 8).set 11 9).set 12 10).set 13 11).set 14 12).set 15 0, ⟨.idle, [], 0⟩, ⟨.idle, [], 0⟩, ⟨.idle, [], 0⟩⟩ :=
  init_of (C := [0, 1, 2, 3, 4, 5, 6, 7, 8, 9, 10, 11]) (by decide) (by decide) (by simp only [List.length_set, List.length_replicate]) (by kernel_rfl) (by kernel_rfl) (by decide) (by decide) (mem_iota 12 rfl)

section
variable {β : Base} {kind : CallKind} {cs : List Frame} {J : Nat → V} {A : Cf} {zs : List Int} {len cap : Nat} {z n : Int} {fr : Frs} {T : Tr V} {hi : Nat}

theorem ghostStep {a b c d : Option Ob} {t1 : List (Option Ob)} {vs vs' : List V} {k : Nat} (hk : k = 5 + t1.length) (hA : Asrt β fr T [] (hO (a :: b :: c :: d :: some (.mem (.cells vs) 52 (some 5)) :: t1)) k hi A) (hlt : k < hi) (hβ : β.n0 ≤ k) (hg : GhL k 1 vs vs') :
    Asrt β fr T [] (hO (a :: b :: c :: d :: some (.mem (.cells vs') 52 (some 5)) :: (t1 ++ [some (outOb [])]))) (k + 1) hi A := by
  subst hk
  refine hA.ghost (b := .words .i64 []) (es := 1) (t := 3) hlt hβ rfl rfl ?_ (fun m hm => ?_) (fun u => .inl rfl)
  · show ((a :: b :: c :: d :: some (.mem (.cells vs') 52 (some 5)) :: (t1 ++ [some (outOb [])]))[5 + t1.length]?).join = _
    rw [show 5 + t1.length = t1.length + 1 + 1 + 1 + 1 + 1 by omega]
    simp only [List.getElem?_cons_succ]
    simp; rfl
  · match m, hm with
    | 0, _ => exact .inl rfl
    | 1, _ => exact .inl rfl
    | 2, _ => exact .inl rfl
    | 3, _ => exact .inl rfl
    | 4, _ => exact .inr ⟨vs, vs', 52, some 5, rfl, rfl, hg⟩
    | m + 5, hm =>
      refine .inl ?_
      simp only [hO, List.getElem?_cons_succ]
      by_cases h : m < t1.length
      · rw [List.getElem?_append_left h]
      · rw [List.getElem?_eq_none (l := t1) (by omega), List.getElem?_eq_none (by simp; omega)]

theorem hO_pad (l : List (Option Ob)) (k : Nat) : hO (l ++ List.replicate k none) = hO l := by
  funext m
  simp only [hO]
  by_cases h : m < l.length
  · rw [List.getElem?_append_left h]
  · rw [List.getElem?_append_right (by omega), List.getElem?_eq_none (l := l) (by omega), List.getElem?_replicate]
    split <;> rfl

theorem ghost3 {j : MJ} {ws : List Int} (hβ : β.n0 = 1) (hA : Asrt β fr T [] (hO [some (.ro .i64 zs), some (box43 n), some (memS 3 j), some (wordsOb ws), some (.mem (.cells nil15) 52 (some 5))]) 5 far A) :
    Asrt β fr T [] (hO (lS zs ⟨n, j, ws, ⟨.idle, [], 0⟩, ⟨.idle, [], 0⟩, ⟨.idle, [], 0⟩⟩)) 11 far A := by
  have h1 := ghostStep (k := 5) (t1 := []) rfl hA (by decide) (by rw [hβ]; decide) (vs' := [.nilp, .nilp, .nilp, .osl 5 1, .int .i64 0, .nilp, .nilp, .nilp, .nils, .int .i64 0, .nilp, .nilp, .nilp, .nils, .int .i64 0]) (by
    unfold nil15
    repeat (first | exact .nil | refine .cons (by first | exact .inl rfl | exact .inr ⟨rfl, rfl⟩) ?_))
  have h2 := ghostStep (k := 6) (t1 := [some (outOb [])]) rfl h1 (by decide) (by rw [hβ]; decide) (vs' := [.nilp, .nilp, .nilp, .osl 5 1, .int .i64 0, .nilp, .nilp, .nilp, .osl 6 1, .int .i64 0, .nilp, .nilp, .nilp, .nils, .int .i64 0]) (by
    repeat (first | exact .nil | refine .cons (by first | exact .inl rfl | exact .inr ⟨rfl, rfl⟩) ?_))
  have h3 := ghostStep (k := 7) (t1 := [some (outOb []), some (outOb [])]) rfl h2 (by decide) (by rw [hβ]; decide) (vs' := [.nilp, .nilp, .nilp, .osl 5 1, .int .i64 0, .nilp, .nilp, .nilp, .osl 6 1, .int .i64 0, .nilp, .nilp, .nilp, .osl 7 1, .int .i64 0]) (by
    repeat (first | exact .nil | refine .cons (by first | exact .inl rfl | exact .inr ⟨rfl, rfl⟩) ?_))
  have h4 := asrt_nx (nx' := 11) h3 (by decide)
  rw [← hO_pad _ 3] at h4
  exact h4

theorem in4 (hβ : β.n0 = 1) (hA : Asrt β ⟨4, none, 69⟩ (Tr.ofList [.int .i64 z, .slice 0 0 1 len cap]) [] (hO [some (.ro .i64 zs)]) 1 far A) (h : ¬ (len : Int) > 300) :
    ∃ σ, InvS 0 σ ∧ ∃ J' b', Asrt β ⟨4, none, 69⟩ (trO (slots J' 0 (slH len cap 0))) [] (hO (lS zs σ)) 11 far b' ∧ Steps Go.Proofs.Try.prog (At ⟨4, none, 69⟩ none kind cs A [.code (bodyOf Go.Proofs.Try.f4)]) (At ⟨4, none, 69⟩ none kind cs b' todoH) := by
  obtain ⟨J1, b1, e1, e2⟩ := inA4 (kind := kind) (cs := cs) hβ hA h
  have hr : 0 ≤ pickF z 12 ∧ pickF z 12 < 12 := by
    unfold pickF
    have g1 := Int.tmod_lt_of_pos z (b := 12) (by decide)
    have g2 := Int.lt_tmod_of_pos z (b := 12) (by decide)
    split
    · rw [wrap_i64 (by omega) (by omega)]; omega
    · omega
  rw [wrap_i64 (by omega) (by omega)] at e1
  generalize pickF z 12 = p at *
  obtain h0 | h0 | h0 | h0 | h0 | h0 | h0 | h0 | h0 | h0 | h0 | h0 : p = 0 ∨ p = 1 ∨ p = 2 ∨ p = 3 ∨ p = 4 ∨ p = 5 ∨ p = 6 ∨ p = 7 ∨ p = 8 ∨ p = 9 ∨ p = 10 ∨ p = 11 := by omega
  · subst h0
    obtain ⟨J2, b2, e3, e4⟩ := fill4_1 (kind := kind) (cs := cs) hβ e1
    exact ⟨_, init4_1, J2, b2, ghost3 hβ e3, e2.trans e4⟩
  · subst h0
    obtain ⟨J2, b2, e3, e4⟩ := fill4_2 (kind := kind) (cs := cs) hβ e1
    exact ⟨_, init4_2, J2, b2, ghost3 hβ e3, e2.trans e4⟩
  · subst h0
    obtain ⟨J2, b2, e3, e4⟩ := fill4_3 (kind := kind) (cs := cs) hβ e1
    exact ⟨_, init4_3, J2, b2, ghost3 hβ e3, e2.trans e4⟩
  · subst h0
    obtain ⟨J2, b2, e3, e4⟩ := fill4_4 (kind := kind) (cs := cs) hβ e1
    exact ⟨_, init4_4, J2, b2, ghost3 hβ e3, e2.trans e4⟩
  · subst h0
    obtain ⟨J2, b2, e3, e4⟩ := fill4_5 (kind := kind) (cs := cs) hβ e1
    exact ⟨_, init4_5, J2, b2, ghost3 hβ e3, e2.trans e4⟩
  · subst h0
    obtain ⟨J2, b2, e3, e4⟩ := fill4_6 (kind := kind) (cs := cs) hβ e1
    exact ⟨_, init4_6, J2, b2, ghost3 hβ e3, e2.trans e4⟩
  · subst h0
    obtain ⟨J2, b2, e3, e4⟩ := fill4_7 (kind := kind) (cs := cs) hβ e1
    exact ⟨_, init4_7, J2, b2, ghost3 hβ e3, e2.trans e4⟩
  · subst h0
    obtain ⟨J2, b2, e3, e4⟩ := fill4_8 (kind := kind) (cs := cs) hβ e1
    exact ⟨_, init4_8, J2, b2, ghost3 hβ e3, e2.trans e4⟩
  · subst h0
    obtain ⟨J2, b2, e3, e4⟩ := fill4_9 (kind := kind) (cs := cs) hβ e1
    exact ⟨_, init4_9, J2, b2, ghost3 hβ e3, e2.trans e4⟩
  · subst h0
    obtain ⟨J2, b2, e3, e4⟩ := fill4_10 (kind := kind) (cs := cs) hβ e1
    exact ⟨_, init4_10, J2, b2, ghost3 hβ e3, e2.trans e4⟩
  · subst h0
    obtain ⟨J2, b2, e3, e4⟩ := fill4_11 (kind := kind) (cs := cs) hβ e1
    exact ⟨_, init4_11, J2, b2, ghost3 hβ e3, e2.trans e4⟩
  · subst h0
    obtain ⟨J2, b2, e3, e4⟩ := fill4_12 (kind := kind) (cs := cs) hβ e1
    exact ⟨_, init4_12, J2, b2, ghost3 hβ e3, e2.trans e4⟩

theorem nil4 (hβ : β.n0 = 0) (hA : Asrt β ⟨4, none, 69⟩ (Tr.ofList [.int .i64 z, .nils]) [] (hO []) 0 far A) :
    ∃ J' b', Asrt β ⟨4, none, 69⟩ (trO (slots J' 0 (slE true))) [] (hO []) 0 far b' ∧ Steps Go.Proofs.Try.prog (At ⟨4, none, 69⟩ none kind cs A [.code (bodyOf Go.Proofs.Try.f4)]) (At ⟨4, none, 69⟩ none kind cs b' [.code .ret]) := by
  obtain ⟨J1, b1, e1, e2⟩ := nilA4 (kind := kind) (cs := cs) hβ hA
  have hr : 0 ≤ pickF z 12 ∧ pickF z 12 < 12 := by
    unfold pickF
    have g1 := Int.tmod_lt_of_pos z (b := 12) (by decide)
    have g2 := Int.lt_tmod_of_pos z (b := 12) (by decide)
    split
    · rw [wrap_i64 (by omega) (by omega)]; omega
    · omega
  rw [wrap_i64 (by omega) (by omega)] at e1
  generalize pickF z 12 = p at *
  obtain h0 | h0 | h0 | h0 | h0 | h0 | h0 | h0 | h0 | h0 | h0 | h0 : p = 0 ∨ p = 1 ∨ p = 2 ∨ p = 3 ∨ p = 4 ∨ p = 5 ∨ p = 6 ∨ p = 7 ∨ p = 8 ∨ p = 9 ∨ p = 10 ∨ p = 11 := by omega
  · subst h0
    obtain ⟨J2, b2, e3, e4⟩ := fillN_1 (kind := kind) (cs := cs) hβ e1
    exact ⟨J2, b2, e3, e2.trans e4⟩
  · subst h0
    obtain ⟨J2, b2, e3, e4⟩ := fillN_2 (kind := kind) (cs := cs) hβ e1
    exact ⟨J2, b2, e3, e2.trans e4⟩
  · subst h0
    obtain ⟨J2, b2, e3, e4⟩ := fillN_3 (kind := kind) (cs := cs) hβ e1
    exact ⟨J2, b2, e3, e2.trans e4⟩
  · subst h0
    obtain ⟨J2, b2, e3, e4⟩ := fillN_4 (kind := kind) (cs := cs) hβ e1
    exact ⟨J2, b2, e3, e2.trans e4⟩
  · subst h0
    obtain ⟨J2, b2, e3, e4⟩ := fillN_5 (kind := kind) (cs := cs) hβ e1
    exact ⟨J2, b2, e3, e2.trans e4⟩
  · subst h0
    obtain ⟨J2, b2, e3, e4⟩ := fillN_6 (kind := kind) (cs := cs) hβ e1
    exact ⟨J2, b2, e3, e2.trans e4⟩
  · subst h0
    obtain ⟨J2, b2, e3, e4⟩ := fillN_7 (kind := kind) (cs := cs) hβ e1
    exact ⟨J2, b2, e3, e2.trans e4⟩
  · subst h0
    obtain ⟨J2, b2, e3, e4⟩ := fillN_8 (kind := kind) (cs := cs) hβ e1
    exact ⟨J2, b2, e3, e2.trans e4⟩
  · subst h0
    obtain ⟨J2, b2, e3, e4⟩ := fillN_9 (kind := kind) (cs := cs) hβ e1
    exact ⟨J2, b2, e3, e2.trans e4⟩
  · subst h0
    obtain ⟨J2, b2, e3, e4⟩ := fillN_10 (kind := kind) (cs := cs) hβ e1
    exact ⟨J2, b2, e3, e2.trans e4⟩
  · subst h0
    obtain ⟨J2, b2, e3, e4⟩ := fillN_11 (kind := kind) (cs := cs) hβ e1
    exact ⟨J2, b2, e3, e2.trans e4⟩
  · subst h0
    obtain ⟨J2, b2, e3, e4⟩ := fillN_12 (kind := kind) (cs := cs) hβ e1
    exact ⟨J2, b2, e3, e2.trans e4⟩
end

theorem walk4 : Go.Proofs.Ytoiajdjmlbdfnaa.LawWalk 4 := by
  intro W n sl wn hin
  have conv : ∀ {e : Ending} {W' : World}, (e = .returned (.bool true) ∧ Kept W W') → e = .returned (.bool true) ∧ Go.Proofs.Ytoiajdjmlbdfnaa.Kept W W' := fun ⟨h1, h2⟩ => ⟨h1, ⟨h2.os, h2.output, h2.size, fun b hb => h2.old b hb (fun h => h)⟩⟩
  rcases hin with rfl | ⟨b, off, len, cap, zs, rfl, hb, hlc, hlen, hcell, _⟩
  · refine (calls_of (c := bodyOf Go.Proofs.Try.f4) (t := 4) (hi := far) (n0 := 0) (Hc := hO []) (L := fun _ => ⟨none, 0, 0, 0⟩) (args := [.int .i64 n, .nils]) (x := true) Go.Proofs.Try.func4 (by kernel_rfl) (Nat.blt_eq.mp (by kernel_rfl)) (by kernel_rfl) (Nat.ble_eq.mp (by kernel_rfl))
      (fun L' _ => ⟨fun n o ho => (by simp [hO] at ho), fun n m on om hn => (by simp [hO] at hn)⟩) (fun m o ho => (by simp [hO] at ho)) (fun L' _ => rfl) ?_).mono fun _ _ h => conv h
    intro cs a hA
    obtain ⟨J', b', e1, e2⟩ := nil4 (kind := .normal) (cs := cs) rfl hA
    exact ⟨b', _, _, _, _, _, e1, rfl, e2, .inr ⟨[], rfl⟩⟩
  · refine (calls_of (c := bodyOf Go.Proofs.Try.f4) (t := 4) (hi := far) (n0 := 1) (Hc := hO [some (.ro .i64 zs)]) (L := fun _ => ⟨some b, off, 0, 0⟩) (args := [.int .i64 n, .slice 0 0 1 len cap]) (x := true) Go.Proofs.Try.func4 (by kernel_rfl) (Nat.blt_eq.mp (by kernel_rfl)) (by kernel_rfl) (Nat.ble_eq.mp (by kernel_rfl))
      (fun L' hL' => ?_) (fun m o ho => ?_) (fun L' hL' => ?_) ?_).mono fun _ _ h => conv h
    · have h0 := hL' 0 (by decide)
      refine ⟨fun n o ho => ?_, fun n m on om hn hm hne hr => ?_⟩
      · match n, ho with
        | 0, ho => cases ho; exact ⟨b, by rw [← h0], hb, fun i hi => by rw [← h0]; exact hcell i hi⟩
        | n + 1, ho => simp [hO] at ho
      · match n, hn with
        | 0, hn => cases hn; cases hr
        | n + 1, hn => simp [hO] at hn
    · match m, ho with
      | 0, ho => cases ho; rfl
      | m + 1, ho => simp [hO] at ho
    · have h0 := hL' 0 (by decide)
      show [Value.int .i64 n, Value.slice (some ⟨b, off, none⟩) len cap] = [Value.int .i64 n, Value.slice (some ⟨(L' 0).blk.getD 0, (L' 0).off + 0 * 1, none⟩) len cap]
      rw [← h0]; rfl
    · intro cs a hA
      by_cases h : (len : Int) > 300
      · obtain ⟨J', b', e1, e2⟩ := long4 (kind := .normal) (cs := cs) rfl hA h
        exact ⟨b', _, _, _, _, _, e1, rfl, e2, .inr ⟨_, rfl⟩⟩
      · obtain ⟨σ, I, J1, b1, e1, e2⟩ := in4 (kind := .normal) (cs := cs) rfl hA h
        obtain ⟨σ2, J2, b2, e3, e4⟩ := loop4 (kind := .normal) (cs := cs) rfl hlen.symm (by omega) len J1 b1 0 σ (by omega) I e1
        obtain ⟨J3, b3, e5, e6⟩ := exit4 (kind := .normal) (cs := cs) rfl e3 (by omega)
        exact ⟨b3, _, _, _, _, _, e5, rfl, (e2.trans e4).trans e6, .inr ⟨[], rfl⟩⟩
end Go.Sx
theorem Go.Proofs.Ytoiajdjmlbdfnaa.stackJudged : Go.Proofs.Ytoiajdjmlbdfnaa.Rows.StackJudgedSaid := Go.Proofs.Ytoiajdjmlbdfnaa.stack_said Go.Sx.walk4
#print axioms Go.Proofs.Ytoiajdjmlbdfnaa.stackJudged

