/- The frame of a law over a number and a slice of numbers. -/
import Derived.Test.YtmmcpgjfkphgaaaGreatSxTabM
import Derived.Test.YtmmcpgjfkphgaaaGreatRows
import Derived.ProofKit
import Derived.OpenShut
namespace Go.Proofs.YtmmcpgjfkphgaaaGreat
open Go.ChangeShapes Go.WideShapes Go.ChangeAt Go.RowKit

theorem Tryz.own : ownKnob Tryz.prog.godebug = none := by kernel_rfl

/-- What was there stays. -/
structure Kept (W W' : World) : Prop where
  os : W'.os = W.os
  output : W'.output = W.output
  size : W.heap.size ≤ W'.heap.size
  old : ∀ b, b < W.heap.size → W'.heap[b]? = W.heap[b]?

theorem Kept.but {W W' : World} (h : Kept W W') (may : MemPlace → Prop) : W.keptBut W' may := by
  refine ⟨h.os, h.output, fun i hi => ?_⟩
  rw [h.old i hi]
  cases W.heap[i]? with
  | none => trivial
  | some o => cases o <;> simp

theorem Kept.frozen {W W' : World} (h : Kept W W') (a : Addr) (ha : a.block < W.heap.size) : W'.frozen? a = W.frozen? a := by
  unfold World.frozen?
  rw [h.old _ ha]

theorem Kept.cell {W W' : World} (h : Kept W W') (a : Addr) {v : Value} (ha : W.cell? a = some v) : W'.cell? a = some v := by
  have hlt : a.block < W.heap.size := by
    unfold World.cell? at ha
    cases hb : W.heap[a.block]? with
    | none => rw [hb] at ha; cases ha
    | some o => exact (Array.getElem?_eq_some_iff.1 hb).1
  unfold World.cell? at ha ⊢
  rw [h.old _ hlt]; exact ha


/-- A slice of numbers, as it lies in memory. -/
def IntsIn (W : World) (sl : Value) : Prop :=
  sl = .slice none 0 0 ∨ ∃ (b off len cap : Nat) (zs : List Int), sl = .slice (some ⟨b, off, none⟩) len cap ∧ b < W.heap.size ∧ len ≤ cap ∧ zs.length = len ∧
    (∀ i (h : i < zs.length), W.cell? ⟨b, off + i, none⟩ = some (.int .i64 zs[i])) ∧ ∀ z ∈ zs, (Lit.int .i64 z).wf = true

section
variable {H : Type} {enc : TypeId × Value → H} {P : Program}

theorem post_of_kept {f : Func} {s : ChangeSpec} {apart fresh handsOn again : Bool} {W W' : World} {args : Array Value} {v : Value} {ds gs : List (DataW H)} {before pa pv : List MemPlace}
    (hW : DataW.Whole enc P f.params.toList s.vars apart W args.toList ds gs before)
    (hres : ∀ (b : Nat) (sp : Nat → Bool) (hd : Bool), DataW.TrodAll enc P W' b sp hd f.resultTypes.toList (v.resultList f.resultTypes.size) (s.fn H (ds ++ gs)).results [])
    (hargs : ∀ sp : Nat → Bool, (∀ p ∈ before, sp p.block = true) → DataW.TrodAll enc P W' 0 sp true f.params.toList args.toList (s.fn H (ds ++ gs)).args pa)
    (hvars : ∀ sp : Nat → Bool, (∀ p ∈ before, sp p.block = true) → DataW.TrodVars enc P W' sp s.vars (s.fn H (ds ++ gs)).vars pv)
    (hps : before = pa ++ pv) (hk : Kept W W')
    (hok : ∀ (j : Nat) (t : TypeId) (r : Value), f.resultTypes[j]? = some t → (v.resultList f.resultTypes.size)[j]? = some r → Value.okWide P W' .any 0 t r) :
    s.post enc P f apart fresh handsOn again W args v W' := by
  have hold : ∀ p ∈ before, (fun b => decide (b < W.heap.size)) p.block = true := fun p hp => by simpa using hW.lt p hp
  have hlt : ∀ p ∈ before, p.block < W.heap.size := hW.lt
  refine ⟨ds, gs, before, [], pa, pv, hW, hres _ _ _, hargs _ hold, hvars _ hold, World.keptBut_mono (fun p hp => ⟨hp, ?_⟩) (hk.but (· ∈ before)), fun _ => ?_⟩
  · rw [hps, List.mem_append] at hp
    exact Or.inr hp
  · obtain ⟨_, _, _, _, _, hz, hn⟩ := hW
    refine ⟨hok, _, _, ([] ++ pa) ++ pv, ⟨[] ++ pa, pv, trodAll_append (hargs _ (fun _ _ => rfl)) (hres _ _ _), hvars _ (fun _ _ => rfl), rfl, ?_, ?_⟩, ?_⟩
    · intro b off hp
      have hp' : MemPlace.cell b off ∈ before := by rw [hps]; simpa using hp
      rw [hk.frozen _ (hlt _ hp')]
      exact hz b off hp'
    · intro ha
      have := hn ha
      rw [hps] at this
      simpa using this
    · intro p hp _
      rw [hps]
      simpa using hp
end

theorem slice_open {P : Program} {t e : TypeId} (hu : P.underlying t = some (.slice e)) {W : World} {sl : Value} {base : Nat} (h : Value.okWide P W .any base t sl) : sl = .slice none 0 0 ∨ ∃ (b off len cap : Nat), sl = .slice (some ⟨b, off, none⟩) len cap ∧ b < W.heap.size ∧ len ≤ cap := by
  have h1 : Cell.okWide P W .any base t sl := by
    unfold Value.okWide at h
    rw [hu] at h
    exact h
  have h2 : Cell.ok P W .any base t sl := by
    unfold Cell.okWide at h1
    rw [hu] at h1
    exact h1
  unfold Cell.ok at h2
  rw [hu] at h2
  cases sl with
  | slice a len cap =>
    cases a with
    | none =>
      cases len with
      | zero =>
        cases cap with
        | zero => exact .inl rfl
        | succ c => exact h2.elim
      | succ l => exact h2.elim
    | some a =>
      obtain ⟨g1, g2, g3, g4, row, cells, g5, g6⟩ := h2
      obtain ⟨b, off, spot⟩ := a
      simp only at g4 g5
      subst g4
      refine .inr ⟨b, off, len, cap, rfl, ?_, g1⟩
      unfold World.shape? at g5
      cases hb : W.heap[b]? with
      | none => rw [hb] at g5; cases g5
      | some o => exact (Array.getElem?_eq_some_iff.1 hb).1
  | _ => exact h2.elim

/-- What a law's walk is to give. -/
def LawWalk (f : FuncId) : Prop := ∀ (W : World) (n : Int) (sl : Value), (Lit.int .i64 n).wf = true → IntsIn W sl → Calls Tryz.prog f #[.int .i64 n, sl] W fun e W' => e = .returned (.bool true) ∧ Kept W W'

theorem take_getD {zs : List Int} {len i : Nat} (h : i < (zs.take len).length) : (zs.take len)[i] = zs.getD i 0 := by
  have h1 : i < zs.length := by simp at h; omega
  rw [List.getElem_take, List.getD_eq_getElem?_getD, List.getElem?_eq_getElem h1]; rfl

set_option maxRecDepth 100000 in
theorem mail_lifted (hwalk : LawWalk 3) (os : Os) (started : os.Started) (H : Type) (enc : TypeId × Value → H) :
    ReturnsInHanded {} Tryz.checked os 3 .any (Rows.mailJudgedSpec.pre6 enc Tryz.prog Tryz.f3 Rows.mailJudgedRow.domain false) (Rows.mailJudgedSpec.post enc Tryz.prog Tryz.f3 false true false false) := by
  refine returnsInHanded_of_change (C := Tryz.checked) Tryz.own started (by kernel_rfl) Tryz.func3
    (ChangeSpec.witness6 (enc := enc) (C := Tryz.checked) false ⟨#[], #[.int .i64 0, .slice none 0 0], []⟩ 8 (by kernel_rfl) (by kernel_rfl) (by kernel_rfl) (by kernel_rfl)) ?_
  intro W base args ds gs before hval0 hW hcnd _
  have hval : ∀ (j : Nat) t v, Tryz.f3.params[j]? = some t → args[j]? = some v → Value.okWide Tryz.prog W .any base t v := hval0
  have hW' := hW
  obtain ⟨p, q, hA0, hV, rfl, hfz, hnd⟩ := hW
  have hA : DataW.TrodAll enc Tryz.prog W 0 (fun _ => true) true Tryz.f3.params.toList args.toList ds p := hA0
  rw [Tryz.params3] at hA hval
  obtain ⟨v0, v1, d0, d1, p0, p1, hargs, rfl, rfl, h0, h1⟩ := trodAll_two hA
  obtain ⟨rfl, rfl⟩ := trodVars_none hV
  obtain rfl : args = #[v0, v1] := by cases args; simp_all
  obtain ⟨n, rfl, rfl, rfl, wn⟩ := open_int Tryz.underlying3 (hval 0 3 v0 rfl rfl) h0
  have hsl := slice_open Tryz.underlying22 (hval 1 22 v1 rfl rfl)
  clear hA0 hval0
  simp only [List.append_nil, List.nil_append] at hW'
  have hin : IntsIn W v1 ∧ ∀ W', Kept W W' → ∀ sp : Nat → Bool, (∀ p ∈ p1, sp p.block = true) → DataW.Trod enc Tryz.prog W' 0 sp true 22 v1 d1 p1 := by
    rcases hsl with h | ⟨b, off, len, cap, h, hb, hlc⟩
    · subst h
      refine ⟨.inl rfl, fun W' _ sp _ => ?_⟩
      obtain ⟨fuel, hf⟩ := h1
      rcases open_ints Tryz.underlying22 Tryz.underlying3 (by kernel_rfl) hf with ⟨hcs, hx⟩ | ⟨a, len', cap', zs, hcs, _⟩
      · injection hx with hx1 hx2
        subst hx1; subst hx2
        exact shut_slice_nil Tryz.underlying22
      · simp [Value.cells] at hcs
    · subst h
      obtain ⟨fuel, hf⟩ := h1
      rcases open_ints Tryz.underlying22 Tryz.underlying3 (by kernel_rfl) hf with ⟨hcs, _⟩ | ⟨a, len', cap', zs, hcs, hba, hl, hm, hz, hx, hcell, hwz⟩
      · simp [Value.cells] at hcs
      · simp [Value.cells] at hcs
        obtain ⟨rfl, rfl, rfl⟩ := hcs
        simp only [if_true] at hz
        refine ⟨.inr ⟨b, off, len, cap, zs.take len, rfl, hb, hlc, by simp; omega, fun i hi => ?_, fun z hz => hwz z (List.mem_of_mem_take hz)⟩, fun W' hk sp hsp => ?_⟩
        · have hi' : i < zs.length := by simp at hi; omega
          have := hcell i hi'
          rw [take_getD hi, ← this]
          congr 1
          exact (Go.WideShapes.add_plain ..).symm
        · injection hx with hx1 hx2
          subst hx1; subst hx2
          refine ⟨2, ?_⟩
          refine shut_ints 0 Tryz.underlying22 Tryz.underlying3 (by kernel_rfl) (Nat.zero_le _) hl hm ?_ (fun i hi => hk.cell _ (hcell i hi)) hwz
          cases hc : zs with
          | nil => rw [hc] at hz; simp at hz; have : len = 0 := by omega
                   simp [← hz, this]
          | cons z zs' =>
            have h2 : sp b = true := hsp (.cell b off) (by rw [hc]; exact MemPlace.mem_row.2 ⟨0, by simp, rfl⟩)
            simp only [h2, if_true]; rw [← hc]; exact hz
  obtain ⟨hin, hshut⟩ := hin
  refine (hwalk W n v1 wn hin).mono fun e W' ⟨he, hk⟩ => ?_
  subst he
  refine ⟨_, rfl, post_of_kept (pa := p1) (pv := []) hW' (fun _ _ _ => trodAll_mk1 (shut_bool Tryz.underlying4 _)) (fun sp hsp => ?_) (fun _ _ => rfl) (by simp) hk (ok_one (by kernel_rfl) rfl (okWide_bool_mk Tryz.underlying4 _))⟩
  exact trodAll_mk2 (shut_int Tryz.underlying3 wn) (hshut W' hk sp (by simpa using hsp))


theorem mail_said (hwalk : LawWalk 3) : Rows.MailJudgedSaid :=
  OpenClaim.holds_of_wide 3 Tryz.f3 rfl rfl rfl rfl rfl rfl rfl ⟨rfl, rfl, rfl, rfl, rfl⟩ rfl rfl rfl rfl rfl (by kernel_rfl) Tryz.func3 (by kernel_rfl)
    (of_decide_eq_true (by kernel_rfl)) (by unfold Func.isWrapper; first | (rw [if_pos (by decide +kernel)]; kernel_rfl) | (rw [if_neg (by decide +kernel)]; exact ⟨rfl, rfl⟩))
    (fun os started H enc _ => mail_lifted hwalk os started H enc)

end Go.Proofs.YtmmcpgjfkphgaaaGreat
