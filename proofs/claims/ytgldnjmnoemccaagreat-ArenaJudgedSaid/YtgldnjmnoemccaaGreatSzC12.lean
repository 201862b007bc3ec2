/- ArenaJudged answers true. -/
import Derived.Test.YtgldnjmnoemccaaGreatSzC9
import Derived.Test.YtgldnjmnoemccaaGreatSzC11
namespace Go.Sx
set_option maxRecDepth 100000
theorem pick4 (x : Int) : pickF x 4 = 0 ∨ pickF x 4 = 1 ∨ pickF x 4 = 2 ∨ pickF x 4 = 3 := by
  unfold pickF
  have h1 := Int.tmod_lt_of_pos x (b := 4) (by decide)
  have h2 : -4 < x.tmod 4 := by have := Int.lt_tmod_of_pos x (b := 4) (by decide); omega
  by_cases h : x.tmod 4 < 0
  · rw [if_pos h, wrap_i64 (by omega) (by omega)]; omega
  · rw [if_neg h]; omega
theorem init3 {n : Int} {m : Nat} {j : MJ} {ws : List Int} (hn : n = (m : Int)) (hR : Ar 0 n ws (firstP m) 0) : RI 0 m (σS n j ws) := by
  have h4 : m ≤ 4 := by have := hR.n4; omega
  refine ⟨firstP m, 0, [], fun _ => (0, 0), ?_⟩
  have hH : Hist [] (firstP m) (pl (firstP m)) [] (fun _ => (0, 0)) 0 (fun k => (-1 : Int) = (k : Int) ∨ (-1 : Int) = (k : Int) ∨ (-1 : Int) = (k : Int)) :=
    ⟨by decide, fun k hk => absurd hk (Nat.not_lt_zero _), List.nodup_nil, fun k hk => (by cases hk), fun k hk => absurd hk (Nat.not_lt_zero _), List.Pairwise.nil, by rw [firstP_pl h4]; rfl, fun k hk => absurd hk (Nat.not_lt_zero _)⟩
  have hall : allOf (firstP m) (σS n j ws).hd (c0 (σS n j ws)) (c1 (σS n j ws)) (c2 (σS n j ws)) = firstP m := by
    show firstP m ++ ([] ++ ([] ++ ([] ++ []))) = firstP m
    simp
  refine ⟨hR, hn, hH, .inl ⟨rfl, rfl⟩, .inl ⟨rfl, rfl⟩, .inl ⟨rfl, rfl⟩, ?_, ?_, fun w hw => (by cases hw), fun h => absurd rfl h, fun h => absurd rfl h, fun h => absurd rfl h, Int.le_refl 0, Int.le_refl 0⟩
  · rw [hall]
    have hc : m = 0 ∨ m = 1 ∨ m = 2 ∨ m = 3 ∨ m = 4 := by omega
    rcases hc with rfl | rfl | rfl | rfl | rfl <;> decide +kernel
  · rw [hall]; exact hR.rng
theorem ar1 : Ar 0 1 ws1 (firstP 1) 0 := by
  refine ⟨by decide, by decide, by kernel_rfl, by kernel_rfl, by decide, by decide, by decide +kernel, ?_, fun i h0 h1 => ?_, fun i h0 h1 => ?_, by kernel_rfl⟩
  · exact ⟨by kernel_rfl, trivial⟩
  · have hc : i = 0 := by omega
    subst hc
    exact ⟨-1, by kernel_rfl, by decide, by decide⟩
  · have hc : i = 0 := by omega
    have hg : ∀ x : Int, x = 1 → 1 ≤ x ∧ x ≤ 1 + 0 := fun x hx => by omega
    subst hc
    exact hg _ (by kernel_rfl)
theorem ar2 : Ar 0 2 ws2 (firstP 2) 0 := by
  refine ⟨by decide, by decide, by kernel_rfl, by kernel_rfl, by decide, by decide, by decide +kernel, ?_, fun i h0 h1 => ?_, fun i h0 h1 => ?_, by kernel_rfl⟩
  · exact ⟨by kernel_rfl, ⟨by kernel_rfl, trivial⟩⟩
  · have hc : i = 0 ∨ i = 1 := by omega
    rcases hc with rfl | rfl
    · exact ⟨1, by kernel_rfl, by decide, by decide⟩
    · exact ⟨-1, by kernel_rfl, by decide, by decide⟩
  · have hc : i = 0 ∨ i = 1 := by omega
    have hg : ∀ x : Int, x = 1 → 1 ≤ x ∧ x ≤ 1 + 0 := fun x hx => by omega
    rcases hc with rfl | rfl
    · exact hg _ (by kernel_rfl)
    · exact hg _ (by kernel_rfl)
theorem ar3 : Ar 0 3 ws3 (firstP 3) 0 := by
  refine ⟨by decide, by decide, by kernel_rfl, by kernel_rfl, by decide, by decide, by decide +kernel, ?_, fun i h0 h1 => ?_, fun i h0 h1 => ?_, by kernel_rfl⟩
  · exact ⟨by kernel_rfl, ⟨by kernel_rfl, ⟨by kernel_rfl, trivial⟩⟩⟩
  · have hc : i = 0 ∨ i = 1 ∨ i = 2 := by omega
    rcases hc with rfl | rfl | rfl
    · exact ⟨1, by kernel_rfl, by decide, by decide⟩
    · exact ⟨2, by kernel_rfl, by decide, by decide⟩
    · exact ⟨-1, by kernel_rfl, by decide, by decide⟩
  · have hc : i = 0 ∨ i = 1 ∨ i = 2 := by omega
    have hg : ∀ x : Int, x = 1 → 1 ≤ x ∧ x ≤ 1 + 0 := fun x hx => by omega
    rcases hc with rfl | rfl | rfl
    · exact hg _ (by kernel_rfl)
    · exact hg _ (by kernel_rfl)
    · exact hg _ (by kernel_rfl)
theorem ar4 : Ar 0 4 ws4 (firstP 4) 0 := by
  refine ⟨by decide, by decide, by kernel_rfl, by kernel_rfl, by decide, by decide, by decide +kernel, ?_, fun i h0 h1 => ?_, fun i h0 h1 => ?_, by kernel_rfl⟩
  · exact ⟨by kernel_rfl, ⟨by kernel_rfl, ⟨by kernel_rfl, ⟨by kernel_rfl, trivial⟩⟩⟩⟩
  · have hc : i = 0 ∨ i = 1 ∨ i = 2 ∨ i = 3 := by omega
    rcases hc with rfl | rfl | rfl | rfl
    · exact ⟨1, by kernel_rfl, by decide, by decide⟩
    · exact ⟨2, by kernel_rfl, by decide, by decide⟩
    · exact ⟨3, by kernel_rfl, by decide, by decide⟩
    · exact ⟨-1, by kernel_rfl, by decide, by decide⟩
  · have hc : i = 0 ∨ i = 1 ∨ i = 2 ∨ i = 3 := by omega
    have hg : ∀ x : Int, x = 1 → 1 ≤ x ∧ x ≤ 1 + 0 := fun x hx => by omega
    rcases hc with rfl | rfl | rfl | rfl
    · exact hg _ (by kernel_rfl)
    · exact hg _ (by kernel_rfl)
    · exact hg _ (by kernel_rfl)
    · exact hg _ (by kernel_rfl)
theorem ordFin {n : Int} {m : Nat} {cl : List (List Int)} (h : n = (m : Int)) (hp : OrdPre cl m) : 0 ≤ n ∧ OrdPre cl n.toNat := by
  subst h
  exact ⟨Int.natCast_nonneg m, by rw [Int.toNat_natCast]; exact hp⟩
theorem walk3 : Go.Proofs.YtgldnjmnoemccaaGreat.LawWalk 3 := by
  intro W n sl wn hin
  have conv : ∀ {e : Ending} {W' : World}, (e = .returned (.bool true) ∧ Kept W W') → e = .returned (.bool true) ∧ Go.Proofs.YtgldnjmnoemccaaGreat.Kept W W' := fun ⟨h1, h2⟩ => ⟨h1, ⟨h2.os, h2.output, h2.size, fun b hb => h2.old b hb (fun h => h)⟩⟩
  rcases hin with rfl | ⟨b, off, len, cap, zs, rfl, hb, hlc, hlen, hcell, _⟩
  · refine (calls_of (c := f3Body) (t := 4) (hi := far) (n0 := 0) (Hc := hO []) (L := fun _ => ⟨none, 0, 0, 0⟩) (args := [.int .i64 n, .nils]) (x := true) Go.Proofs.Tryz.func3 (by kernel_rfl) (Nat.blt_eq.mp (by kernel_rfl)) (by kernel_rfl) (Nat.ble_eq.mp (by kernel_rfl))
      (fun L' _ => ⟨fun n o ho => (by simp [hO] at ho), fun n m on om hn => (by simp [hO] at hn)⟩) (fun m o ho => (by simp [hO] at ho)) (fun L' _ => rfl) ?_).mono fun _ _ h => conv h
    intro cs a hA
    rcases pick4 n with hp | hp | hp | hp
    · obtain ⟨J', b', e1, e2⟩ := n3_1 (kind := .normal) (cs := cs) rfl hA hp
      exact ⟨b', _, _, _, _, _, e1, rfl, e2, .inr ⟨[], rfl⟩⟩
    · obtain ⟨J', b', e1, e2⟩ := n3_2 (kind := .normal) (cs := cs) rfl hA hp
      exact ⟨b', _, _, _, _, _, e1, rfl, e2, .inr ⟨[], rfl⟩⟩
    · obtain ⟨J', b', e1, e2⟩ := n3_3 (kind := .normal) (cs := cs) rfl hA hp
      exact ⟨b', _, _, _, _, _, e1, rfl, e2, .inr ⟨[], rfl⟩⟩
    · obtain ⟨J', b', e1, e2⟩ := n3_4 (kind := .normal) (cs := cs) rfl hA hp
      exact ⟨b', _, _, _, _, _, e1, rfl, e2, .inr ⟨[], rfl⟩⟩
  · refine (calls_of (c := f3Body) (t := 4) (hi := far) (n0 := 1) (Hc := hO [some (.ro .i64 zs)]) (L := fun _ => ⟨some b, off, 0, 0⟩) (args := [.int .i64 n, .slice 0 0 1 len cap]) (x := true) Go.Proofs.Tryz.func3 (by kernel_rfl) (Nat.blt_eq.mp (by kernel_rfl)) (by kernel_rfl) (Nat.ble_eq.mp (by kernel_rfl))
      (fun L' hL' => ?_) (fun m o ho => ?_) (fun L' hL' => ?_) ?_).mono fun _ _ h => conv h
    · have h0 := hL' 0 (by decide)
      refine ⟨fun n o ho => ?_, fun n m on om hn hm hne hr => ?_⟩
      · match n, ho with
        | 0, ho => cases ho; exact ⟨b, by rw [← h0], hb, fun i hi => by rw [← h0]; exact hcell i hi⟩
        | n + 1, ho => simp [hO] at ho
      · match n, hn with
        | 0, hn => cases hn; cases hr
        | n + 1, hn => simp [hO] at hn
    · match m, ho with
      | 0, ho => cases ho; rfl
      | m + 1, ho => simp [hO] at ho
    · have h0 := hL' 0 (by decide)
      show [Value.int .i64 n, Value.slice (some ⟨b, off, none⟩) len cap] = [Value.int .i64 n, Value.slice (some ⟨(L' 0).blk.getD 0, (L' 0).off + 0 * 1, none⟩) len cap]
      rw [← h0]; rfl
    · intro cs a hA
      by_cases h : (len : Int) > 70
      · obtain ⟨J', b', e1, e2⟩ := long3 (kind := .normal) (cs := cs) rfl hA h
        exact ⟨b', _, _, _, _, _, e1, rfl, e2, .inr ⟨todoL3.tail, by kernel_rfl⟩⟩
      · rcases pick4 n with hp | hp | hp | hp
        · obtain ⟨n', j', ws', hd, x0, x1, x2, cl, ck, g0, g1, _, g3⟩ := plays_call (cap := cap) hlen.symm (by omega) (init3 (n := 1) (m := 1) (j := j1) rfl ar1)
          obtain ⟨σ', hσ⟩ : ∃ σ' : AS, σ' = σE n' j' ws' hd x0 x1 x2 cl ck := ⟨_, rfl⟩
          have g3' : PlaysTo zs len cap 1 j1 ws1 (σz σ') := by subst hσ; exact g3
          have g1' : σ'.cl.length ≤ 8 → 0 ≤ σ'.n ∧ OrdPre σ'.cl σ'.n.toNat := fun h8 => by subst hσ; exact ordFin g0 (g1 h8)
          obtain ⟨J1, b1, e1, e2⟩ := a3_1 (kind := .normal) (cs := cs) rfl hA h hp
          obtain ⟨J2, b2, todo, e3, e4, k, hk⟩ := b3_1 (kind := .normal) (cs := cs) rfl e1 g3' g1'
          exact ⟨b2, _, _, _, _, _, e3, rfl, e2.trans e4, .inr ⟨k, hk⟩⟩
        · obtain ⟨n', j', ws', hd, x0, x1, x2, cl, ck, g0, g1, _, g3⟩ := plays_call (cap := cap) hlen.symm (by omega) (init3 (n := 2) (m := 2) (j := j2) rfl ar2)
          obtain ⟨σ', hσ⟩ : ∃ σ' : AS, σ' = σE n' j' ws' hd x0 x1 x2 cl ck := ⟨_, rfl⟩
          have g3' : PlaysTo zs len cap 2 j2 ws2 (σz σ') := by subst hσ; exact g3
          have g1' : σ'.cl.length ≤ 8 → 0 ≤ σ'.n ∧ OrdPre σ'.cl σ'.n.toNat := fun h8 => by subst hσ; exact ordFin g0 (g1 h8)
          obtain ⟨J1, b1, e1, e2⟩ := a3_2 (kind := .normal) (cs := cs) rfl hA h hp
          obtain ⟨J2, b2, todo, e3, e4, k, hk⟩ := b3_2 (kind := .normal) (cs := cs) rfl e1 g3' g1'
          exact ⟨b2, _, _, _, _, _, e3, rfl, e2.trans e4, .inr ⟨k, hk⟩⟩
        · obtain ⟨n', j', ws', hd, x0, x1, x2, cl, ck, g0, g1, _, g3⟩ := plays_call (cap := cap) hlen.symm (by omega) (init3 (n := 3) (m := 3) (j := j3) rfl ar3)
          obtain ⟨σ', hσ⟩ : ∃ σ' : AS, σ' = σE n' j' ws' hd x0 x1 x2 cl ck := ⟨_, rfl⟩
          have g3' : PlaysTo zs len cap 3 j3 ws3 (σz σ') := by subst hσ; exact g3
          have g1' : σ'.cl.length ≤ 8 → 0 ≤ σ'.n ∧ OrdPre σ'.cl σ'.n.toNat := fun h8 => by subst hσ; exact ordFin g0 (g1 h8)
          obtain ⟨J1, b1, e1, e2⟩ := a3_3 (kind := .normal) (cs := cs) rfl hA h hp
          obtain ⟨J2, b2, todo, e3, e4, k, hk⟩ := b3_3 (kind := .normal) (cs := cs) rfl e1 g3' g1'
          exact ⟨b2, _, _, _, _, _, e3, rfl, e2.trans e4, .inr ⟨k, hk⟩⟩
        · obtain ⟨n', j', ws', hd, x0, x1, x2, cl, ck, g0, g1, _, g3⟩ := plays_call (cap := cap) hlen.symm (by omega) (init3 (n := 4) (m := 4) (j := j4) rfl ar4)
          obtain ⟨σ', hσ⟩ : ∃ σ' : AS, σ' = σE n' j' ws' hd x0 x1 x2 cl ck := ⟨_, rfl⟩
          have g3' : PlaysTo zs len cap 4 j4 ws4 (σz σ') := by subst hσ; exact g3
          have g1' : σ'.cl.length ≤ 8 → 0 ≤ σ'.n ∧ OrdPre σ'.cl σ'.n.toNat := fun h8 => by subst hσ; exact ordFin g0 (g1 h8)
          obtain ⟨J1, b1, e1, e2⟩ := a3_4 (kind := .normal) (cs := cs) rfl hA h hp
          obtain ⟨J2, b2, todo, e3, e4, k, hk⟩ := b3_4 (kind := .normal) (cs := cs) rfl e1 g3' g1'
          exact ⟨b2, _, _, _, _, _, e3, rfl, e2.trans e4, .inr ⟨k, hk⟩⟩
end Go.Sx
theorem Go.Proofs.YtgldnjmnoemccaaGreat.arenaJudged : Go.Proofs.YtgldnjmnoemccaaGreat.Rows.ArenaJudgedSaid := Go.Proofs.YtgldnjmnoemccaaGreat.arena_said Go.Sx.walk3
#print axioms Go.Proofs.YtgldnjmnoemccaaGreat.arenaJudged

