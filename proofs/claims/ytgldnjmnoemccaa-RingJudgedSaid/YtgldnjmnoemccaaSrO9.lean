/- An order that fits: calls come to an end. -/
import Derived.Test.YtgldnjmnoemccaaSrO8
namespace Go.Sx
/-- Calls, one behind the other, from a queue on. -/
def runsL (cl : List (List Int)) (room : Int) : List Int → List Nat → Prop
  | _, [] => True
  | F, i :: r => cnIs cl room F i = true ∧ runsL cl room ((cnG cl room F i).2.1.drop (cnG cl room F i).2.2) r

theorem can_lin {cl : List (List Int)} {room : Int} {lin : List Nat} (hnd : lin.Nodup) (hall : ∀ i, i < cl.length → i ∈ lin) (hlt : ∀ i ∈ lin, i < cl.length) (hord : lin.Pairwise fun x y => aheadP (cl.getD y []) (cl.getD x []) = false) :
    ∀ (post : List Nat) (f : Nat) (F : List Int) (pre : List Nat), pre ++ post = lin → runsL cl room F post → post.length < f → canP cl room f F (pre.map fun (i : Nat) => (i : Int)) [] = true := by
  intro post
  induction post with
  | nil =>
    intro f F pre hpre hr hf
    obtain ⟨f, rfl⟩ : ∃ q, f = q + 1 := ⟨f - 1, by simp at hf; omega⟩
    rw [canP_succ]
    have hl : leftP cl.length (pre.map fun (i : Nat) => (i : Int)) = false := by
      unfold leftP
      rw [List.any_eq_false]
      intro i hi
      simp only [List.mem_range] at hi
      have := hall i hi
      rw [← hpre, List.append_nil] at this
      have h2 : (i : Int) ∈ pre.map fun (i : Nat) => (i : Int) := List.mem_map.2 ⟨i, this, rfl⟩
      simp [h2]
    rw [hl]; rfl
  | cons i r ih =>
    intro f F pre hpre hr hf
    obtain ⟨f, rfl⟩ : ∃ q, f = q + 1 := ⟨f - 1, by simp at hf; omega⟩
    rw [canP_succ]
    have hin : i ∈ lin := by rw [← hpre]; simp
    have hi := hlt i hin
    rw [← hpre] at hnd hord
    have hni : ¬ i ∈ pre := fun h => (List.nodup_append.1 hnd).2.2 i h i (by simp) rfl
    have hnD : ¬ (i : Int) ∈ pre.map (fun (i : Nat) => (i : Int)) := fun h => by
      obtain ⟨q, hq, he⟩ := List.mem_map.1 h
      have : q = i := by omega
      exact hni (this ▸ hq)
    have hready : readyP cl (pre.map fun (i : Nat) => (i : Int)) i = true := by
      simp only [readyP, decide_eq_false hnD, cond_false, List.all_eq_true, List.mem_range]
      intro q hq
      by_cases hqi : q = i
      · simp [hqi]
      · by_cases hqD : (q : Int) ∈ pre.map (fun (i : Nat) => (i : Int))
        · simp [hqi, hqD]
        · have hqp : ¬ q ∈ pre := fun h => hqD (List.mem_map.2 ⟨q, h, rfl⟩)
          have hql : q ∈ lin := hall q hq
          rw [← hpre] at hql
          have hqr : q ∈ r := by
            rcases List.mem_append.1 hql with h | h
            · exact absurd h hqp
            · rcases List.mem_cons.1 h with h | h
              · exact absurd h hqi
              · exact h
          have hp := (List.pairwise_cons.1 (List.pairwise_append.1 hord).2.1).1 q hqr
          simp only [decide_eq_false hqi, decide_eq_false hqD, cond_false, hp, Bool.not_false]
    have hrec := ih f _ (pre ++ [i]) (by rw [← hpre]; simp) hr.2 (by simp at hf; omega)
    have hany : (List.range cl.length).any (cnStep cl room f F (pre.map fun (i : Nat) => (i : Int)) []) = true := by
      rw [List.any_eq_true]
      refine ⟨i, List.mem_range.2 hi, ?_⟩
      unfold cnStep
      rw [hready, hr.1]
      simp only [List.length_nil, decide_true, cond_true, List.drop_nil]
      rw [List.map_append] at hrec
      exact hrec
    rw [hany]
    cases cond (decide (([] : List Int).length = 0)) (!(leftP cl.length (pre.map fun (i : Nat) => (i : Int)))) false <;> rfl

/-- So Order finds one. -/
theorem ordPre_of {cl : List (List Int)} {room : Int} {lin : List Nat} (h1 : Ended cl) (h2 : cl.length ≤ 10) (h3 : 1 ≤ room) (h4 : room ≤ 64) (h5 : ∀ i, i < cl.length → 1 ≤ (cl.getD i []).getD 3 0 ∧ (cl.getD i []).getD 3 0 ≤ 3) (h6 : Named cl)
    (hnd : lin.Nodup) (hall : ∀ i, i < cl.length → i ∈ lin) (hlt : ∀ i ∈ lin, i < cl.length) (hord : lin.Pairwise fun x y => aheadP (cl.getD y []) (cl.getD x []) = false) (hr : runsL cl room [] lin) : OrdPre cl room := by
  refine ⟨h1, h2, h3, h4, h5, h6, ?_⟩
  have hlen : lin.length ≤ cl.length := by
    have := nodup_le cl.length lin hnd hlt
    omega
  exact can_lin hnd hall hlt hord lin (cl.length + 1) [] [] rfl hr (by omega)
end Go.Sx
