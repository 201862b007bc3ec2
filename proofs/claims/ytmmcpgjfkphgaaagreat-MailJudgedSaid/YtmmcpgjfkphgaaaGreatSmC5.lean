/- MailJudged answers true. -/
import Derived.Test.YtmmcpgjfkphgaaaGreatSmC1
import Derived.Test.YtmmcpgjfkphgaaaGreatSmC4
namespace Go.Sx
set_option maxRecDepth 100000
theorem walk3 : Go.Proofs.YtmmcpgjfkphgaaaGreat.LawWalk 3 := by
  intro W n sl wn hin
  have conv : ∀ {e : Ending} {W' : World}, (e = .returned (.bool true) ∧ Kept W W') → e = .returned (.bool true) ∧ Go.Proofs.YtmmcpgjfkphgaaaGreat.Kept W W' := fun ⟨h1, h2⟩ => ⟨h1, ⟨h2.os, h2.output, h2.size, fun b hb => h2.old b hb (fun h => h)⟩⟩
  rcases hin with rfl | ⟨b, off, len, cap, zs, rfl, hb, hlc, hlen, hcell, _⟩
  · refine (calls_of (c := f3Body) (t := 4) (hi := far) (n0 := 0) (Hc := hO []) (L := fun _ => ⟨none, 0, 0, 0⟩) (args := [.int .i64 n, .nils]) (x := true) Go.Proofs.Tryz.func3 (by kernel_rfl) (Nat.blt_eq.mp (by kernel_rfl)) (by kernel_rfl) (Nat.ble_eq.mp (by kernel_rfl))
      (fun L' _ => ⟨fun n o ho => (by simp [hO] at ho), fun n m on om hn => (by simp [hO] at hn)⟩) (fun m o ho => (by simp [hO] at ho)) (fun L' _ => rfl) ?_).mono fun _ _ h => conv h
    intro cs a hA
    rcases pick3 n with hp | hp | hp
    · obtain ⟨J', b', e1, e2⟩ := n3_0 (kind := .normal) (cs := cs) rfl hA hp
      exact ⟨b', _, _, _, _, _, e1, rfl, e2, .inr ⟨[], rfl⟩⟩
    · obtain ⟨J', b', e1, e2⟩ := n3_1 (kind := .normal) (cs := cs) rfl hA hp
      exact ⟨b', _, _, _, _, _, e1, rfl, e2, .inr ⟨[], rfl⟩⟩
    · obtain ⟨J', b', e1, e2⟩ := n3_2 (kind := .normal) (cs := cs) rfl hA hp
      exact ⟨b', _, _, _, _, _, e1, rfl, e2, .inr ⟨[], rfl⟩⟩
  · refine (calls_of (c := f3Body) (t := 4) (hi := far) (n0 := 1) (Hc := hO [some (.ro .i64 zs)]) (L := fun _ => ⟨some b, off, 0, 0⟩) (args := [.int .i64 n, .slice 0 0 1 len cap]) (x := true) Go.Proofs.Tryz.func3 (by kernel_rfl) (Nat.blt_eq.mp (by kernel_rfl)) (by kernel_rfl) (Nat.ble_eq.mp (by kernel_rfl))
      (fun L' hL' => ?_) (fun m o ho => ?_) (fun L' hL' => ?_) ?_).mono fun _ _ h => conv h
    · have h0 := hL' 0 (by decide)
      refine ⟨fun n o ho => ?_, fun n m on om hn hm hne hr => ?_⟩
      · match n, ho with
        | 0, ho => cases ho; exact ⟨b, by rw [← h0], hb, fun i hi => by rw [← h0]; exact hcell i hi⟩
        | n + 1, ho => simp [hO] at ho
      · match n, hn with
        | 0, hn => cases hn; cases hr
        | n + 1, hn => simp [hO] at hn
    · match m, ho with
      | 0, ho => cases ho; rfl
      | m + 1, ho => simp [hO] at ho
    · have h0 := hL' 0 (by decide)
      show [Value.int .i64 n, Value.slice (some ⟨b, off, none⟩) len cap] = [Value.int .i64 n, Value.slice (some ⟨(L' 0).blk.getD 0, (L' 0).off + 0 * 1, none⟩) len cap]
      rw [← h0]; rfl
    · intro cs a hA
      by_cases h : (len : Int) > 120
      · obtain ⟨J', b', e1, e2⟩ := long3 (kind := .normal) (cs := cs) rfl hA h
        exact ⟨b', _, _, _, _, _, e1, rfl, e2, .inr ⟨todoL3.tail, by kernel_rfl⟩⟩
      · obtain ⟨m, cl, _, _, _, g1, g2⟩ := mc_call (cap := cap) (z := n) hlen.symm (by omega)
        obtain ⟨J1, b1, e1, e2⟩ := a3 (kind := .normal) (cs := cs) rfl hA h g2 g1
        exact ⟨b1, _, _, _, _, _, e1, rfl, e2, .inr ⟨[], rfl⟩⟩
end Go.Sx
theorem Go.Proofs.YtmmcpgjfkphgaaaGreat.mailJudged : Go.Proofs.YtmmcpgjfkphgaaaGreat.Rows.MailJudgedSaid := Go.Proofs.YtmmcpgjfkphgaaaGreat.mail_said Go.Sx.walk3
#print axioms Go.Proofs.YtmmcpgjfkphgaaaGreat.mailJudged

