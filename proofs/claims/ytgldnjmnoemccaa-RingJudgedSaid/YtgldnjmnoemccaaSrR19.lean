/- RingJudged answers true. -/
import Derived.Test.YtgldnjmnoemccaaSrR17
import Derived.Test.YtgldnjmnoemccaaSrR18
namespace Go.Sx
set_option maxRecDepth 100000
theorem pick4 (x : Int) : pickF x 4 = 0 ∨ pickF x 4 = 1 ∨ pickF x 4 = 2 ∨ pickF x 4 = 3 := by
  unfold pickF
  have h1 := Int.tmod_lt_of_pos x (b := 4) (by decide)
  have h2 : -4 < x.tmod 4 := by have := Int.lt_tmod_of_pos x (b := 4) (by decide); omega
  by_cases h : x.tmod 4 < 0
  · rw [if_pos h, wrap_i64 (by omega) (by omega)]; omega
  · rw [if_neg h]; omega
theorem ws1_z : ws1 = List.replicate 4096 0 := by unfold ws1; simp only [List.set_replicate_self]
theorem ws2_z : ws2 = List.replicate 4096 0 := by unfold ws2; simp only [List.set_replicate_self]
theorem ws3_z : ws3 = List.replicate 4096 0 := by unfold ws3; simp only [List.set_replicate_self]
theorem ws4_z : ws4 = List.replicate 4096 0 := by unfold ws4; simp only [List.set_replicate_self]
theorem rep_getD (k : Nat) : (List.replicate 4096 (0 : Int)).getD k 0 = 0 := by
  rw [List.getD_eq_getElem?_getD, List.getElem?_replicate]
  split <;> rfl
theorem init3 {n : Int} {j : MJ} {ws : List Int} (h1 : 1 ≤ n) (h2 : n ≤ 4) (hz : ws = List.replicate 4096 0) : RI 0 (σS n j ws) := by
  subst hz
  refine ⟨0, 0, 0, 0, [], ?_⟩
  have hR : Ring n (List.replicate 4096 0) [] 0 0 0 0 := by
    refine ⟨h1, h2, List.length_replicate, by decide, rfl, by show (0 : Int) ≤ n; omega, by decide, by decide, by decide, rep_getD 0, rep_getD 1, fun v hv => (by cases hv), fun m m1 m2 => ?_⟩
    rw [rep_getD, if_neg (by omega)]
    have : m / n = 0 := Int.ediv_eq_zero_of_lt m1 (by omega)
    rw [this]; rfl
  have hH : Hist n [] [] [] 0 (fun k => (-1 : Int) = (k : Int) ∨ (-1 : Int) = (k : Int) ∨ (-1 : Int) = (k : Int)) :=
    ⟨by decide, fun k hk => absurd hk (Nat.not_lt_zero _), List.nodup_nil, fun k hk => (by cases hk), fun k hk => absurd hk (Nat.not_lt_zero _), List.Pairwise.nil, rfl, fun k hk => absurd hk (Nat.not_lt_zero _)⟩
  exact ⟨hR, hH, .inl rfl, .inl rfl, .inl ⟨rfl, rfl, fun h => by cases h⟩, fun h => absurd rfl h, fun h => absurd rfl h, fun h => absurd rfl h, Int.le_refl 0, Int.le_refl 0, Int.le_refl 0, Int.le_refl 0, Int.le_refl 0⟩
theorem walk3 : Go.Proofs.Ytgldnjmnoemccaa.LawWalk 3 := by
  intro W n sl wn hin
  have conv : ∀ {e : Ending} {W' : World}, (e = .returned (.bool true) ∧ Kept W W') → e = .returned (.bool true) ∧ Go.Proofs.Ytgldnjmnoemccaa.Kept W W' := fun ⟨h1, h2⟩ => ⟨h1, ⟨h2.os, h2.output, h2.size, fun b hb => h2.old b hb (fun h => h)⟩⟩
  rcases hin with rfl | ⟨b, off, len, cap, zs, rfl, hb, hlc, hlen, hcell, _⟩
  · refine (calls_of (c := f3Body) (t := 4) (hi := far) (n0 := 0) (Hc := hO []) (L := fun _ => ⟨none, 0, 0, 0⟩) (args := [.int .i64 n, .nils]) (x := true) Go.Proofs.Try.func3 (by kernel_rfl) (Nat.blt_eq.mp (by kernel_rfl)) (by kernel_rfl) (Nat.ble_eq.mp (by kernel_rfl))
      (fun L' _ => ⟨fun n o ho => (by simp [hO] at ho), fun n m on om hn => (by simp [hO] at hn)⟩) (fun m o ho => (by simp [hO] at ho)) (fun L' _ => rfl) ?_).mono fun _ _ h => conv h
    intro cs a hA
    rcases pick4 n with hp | hp | hp | hp
    · obtain ⟨J', b', e1, e2⟩ := n3_1 (kind := .normal) (cs := cs) rfl hA hp
      exact ⟨b', _, _, _, _, _, e1, rfl, e2, .inr ⟨[], rfl⟩⟩
    · obtain ⟨J', b', e1, e2⟩ := n3_2 (kind := .normal) (cs := cs) rfl hA hp
      exact ⟨b', _, _, _, _, _, e1, rfl, e2, .inr ⟨[], rfl⟩⟩
    · obtain ⟨J', b', e1, e2⟩ := n3_3 (kind := .normal) (cs := cs) rfl hA hp
      exact ⟨b', _, _, _, _, _, e1, rfl, e2, .inr ⟨[], rfl⟩⟩
    · obtain ⟨J', b', e1, e2⟩ := n3_4 (kind := .normal) (cs := cs) rfl hA hp
      exact ⟨b', _, _, _, _, _, e1, rfl, e2, .inr ⟨[], rfl⟩⟩
  · refine (calls_of (c := f3Body) (t := 4) (hi := far) (n0 := 1) (Hc := hO [some (.ro .i64 zs)]) (L := fun _ => ⟨some b, off, 0, 0⟩) (args := [.int .i64 n, .slice 0 0 1 len cap]) (x := true) Go.Proofs.Try.func3 (by kernel_rfl) (Nat.blt_eq.mp (by kernel_rfl)) (by kernel_rfl) (Nat.ble_eq.mp (by kernel_rfl))
      (fun L' hL' => ?_) (fun m o ho => ?_) (fun L' hL' => ?_) ?_).mono fun _ _ h => conv h
    · have h0 := hL' 0 (by decide)
      refine ⟨fun n o ho => ?_, fun n m on om hn hm hne hr => ?_⟩
      · match n, ho with
        | 0, ho => cases ho; exact ⟨b, by rw [← h0], hb, fun i hi => by rw [← h0]; exact hcell i hi⟩
        | n + 1, ho => simp [hO] at ho
      · match n, hn with
        | 0, hn => cases hn; cases hr
        | n + 1, hn => simp [hO] at hn
    · match m, ho with
      | 0, ho => cases ho; rfl
      | m + 1, ho => simp [hO] at ho
    · have h0 := hL' 0 (by decide)
      show [Value.int .i64 n, Value.slice (some ⟨b, off, none⟩) len cap] = [Value.int .i64 n, Value.slice (some ⟨(L' 0).blk.getD 0, (L' 0).off + 0 * 1, none⟩) len cap]
      rw [← h0]; rfl
    · intro cs a hA
      by_cases h : (len : Int) > 60
      · obtain ⟨J', b', e1, e2⟩ := long3 (kind := .normal) (cs := cs) rfl hA h
        exact ⟨b', _, _, _, _, _, e1, rfl, e2, .inr ⟨todoL3.tail, by kernel_rfl⟩⟩
      · rcases pick4 n with hp | hp | hp | hp
        · obtain ⟨σ', g1, _, g3⟩ := plays_call (cap := cap) hlen.symm (by omega) (init3 (n := 1) (j := j1) (by decide) (by decide) ws1_z)
          obtain ⟨J1, b1, e1, e2⟩ := a3_1 (kind := .normal) (cs := cs) rfl hA h hp
          obtain ⟨J2, b2, todo, e3, e4, k, hk⟩ := b3_1 (kind := .normal) (cs := cs) rfl e1 g3 g1
          exact ⟨b2, _, _, _, _, _, e3, rfl, e2.trans e4, .inr ⟨k, hk⟩⟩
        · obtain ⟨σ', g1, _, g3⟩ := plays_call (cap := cap) hlen.symm (by omega) (init3 (n := 2) (j := j2) (by decide) (by decide) ws2_z)
          obtain ⟨J1, b1, e1, e2⟩ := a3_2 (kind := .normal) (cs := cs) rfl hA h hp
          obtain ⟨J2, b2, todo, e3, e4, k, hk⟩ := b3_2 (kind := .normal) (cs := cs) rfl e1 g3 g1
          exact ⟨b2, _, _, _, _, _, e3, rfl, e2.trans e4, .inr ⟨k, hk⟩⟩
        · obtain ⟨σ', g1, _, g3⟩ := plays_call (cap := cap) hlen.symm (by omega) (init3 (n := 3) (j := j3) (by decide) (by decide) ws3_z)
          obtain ⟨J1, b1, e1, e2⟩ := a3_3 (kind := .normal) (cs := cs) rfl hA h hp
          obtain ⟨J2, b2, todo, e3, e4, k, hk⟩ := b3_3 (kind := .normal) (cs := cs) rfl e1 g3 g1
          exact ⟨b2, _, _, _, _, _, e3, rfl, e2.trans e4, .inr ⟨k, hk⟩⟩
        · obtain ⟨σ', g1, _, g3⟩ := plays_call (cap := cap) hlen.symm (by omega) (init3 (n := 4) (j := j4) (by decide) (by decide) ws4_z)
          obtain ⟨J1, b1, e1, e2⟩ := a3_4 (kind := .normal) (cs := cs) rfl hA h hp
          obtain ⟨J2, b2, todo, e3, e4, k, hk⟩ := b3_4 (kind := .normal) (cs := cs) rfl e1 g3 g1
          exact ⟨b2, _, _, _, _, _, e3, rfl, e2.trans e4, .inr ⟨k, hk⟩⟩
end Go.Sx
theorem Go.Proofs.Ytgldnjmnoemccaa.ringJudged : Go.Proofs.Ytgldnjmnoemccaa.Rows.RingJudgedSaid := Go.Proofs.Ytgldnjmnoemccaa.ring_said Go.Sx.walk3
#print axioms Go.Proofs.Ytgldnjmnoemccaa.ringJudged

