/- A crew over a ring: the places of plays, its slots, its memory's frame. -/
import Derived.Test.YtgldnjmnoemccaaSrR1
namespace Go.Sx
set_option maxRecDepth 100000
def σ00 : RS := ⟨2, ⟨0, 0, 0, 0, false, 0⟩, [], 0, 0, 14, 14, -1, -1, -1, [], [], .none, .none, .none, .none, false, 0, 0⟩
noncomputable def plT (k : Nat) : List Item := ((ctlN F0 (exec F0 400) frPl k [.code plBody] (Tr.ofList [.ptr 1 0 0 0, .slice 0 0 1 1 1]) [] ⟨trO (lR [0] σ00), 14, [], [], []⟩).map (·.1)).getD []
noncomputable def plH : List Item := plT 7
noncomputable def plM : List Item := plT 16
noncomputable def plJ : List Item := plT 21
noncomputable def plT0 (k : Nat) : List Item := ((ctlN F0 (exec F0 400) frPl k [.code plBody] (Tr.ofList [.ptr 1 0 0 0, .slice 0 0 1 0 0]) [] ⟨trO (lR [] σ00), 14, [], [], []⟩).map (·.1)).getD []
noncomputable def plK : List Item := plT0 17
noncomputable def plG : List Item := plT0 29
def slK (c : Int) : List (Option V) := [some (.ptr 1 0 0 0), none, none, none, none, none, none, some (.int .i64 c)] ++ List.replicate 51 none
def slG (c k : Int) : List (Option V) := [some (.ptr 1 0 0 0), none, none, none, none, none, none, some (.int .i64 c), some (.int .i64 k)] ++ List.replicate 50 none
def slH (len cap : Nat) (i : Int) : List (Option V) := [some (.ptr 1 0 0 0), some (.slice 0 0 1 len cap), none, none, none, some (.int .i64 i)] ++ List.replicate 53 none
def slM (len cap : Nat) (i c : Int) : List (Option V) := [some (.ptr 1 0 0 0), some (.slice 0 0 1 len cap), none, none, none, some (.int .i64 i), some (.int .i64 c)] ++ List.replicate 52 none
def p14 (m : Nat) : Bool := Nat.blt m 14
theorem p14_live (zs : List Int) (σ : RS) (n0 : Nat) (m : Nat) (h : p14 m = true) : m < (lR zs σ).length ∧ (m < n0 ∨ ∃ o, ((lR zs σ)[m]?).join = some o) := by
  have h : m < 14 := Nat.blt_eq.mp h
  refine ⟨h, .inr ?_⟩
  match m, h with
  | 0, _ | 1, _ | 2, _ | 3, _ | 4, _ | 5, _ | 6, _ | 7, _ | 8, _ | 9, _ | 10, _ | 11, _ | 12, _ | 13, _ => exact ⟨_, rfl⟩
theorem p14_old {n0 : Nat} (h : n0 = 8) (m : Nat) (hm : m < n0) : p14 m = true := Nat.blt_eq.mpr (by omega)
theorem obsR (zs : List Int) (σ : RS) : obsOK p14 0 (lR zs σ) = true := by
  obtain ⟨n, j, ws, v0, v1, h0, h1, o0, o1, o2, q, cl, p0, p1, fo, dr, nx, ck, pu⟩ := σ
  cases p0 <;> cases p1 <;> cases fo <;> cases dr <;> rfl
def id14 : List Nat := [0, 1, 2, 3, 4, 5, 6, 7, 8, 9, 10, 11, 12, 13]
theorem renR (zs : List Int) (σ : RS) : (lR zs σ).map (Option.map (Ob.ren (πf id14))) = lR zs σ := by
  obtain ⟨n, j, ws, v0, v1, h0, h1, o0, o1, o2, q, cl, p0, p1, fo, dr, nx, ck, pu⟩ := σ
  cases p0 <;> cases p1 <;> cases fo <;> cases dr <;> rfl
theorem allB_app : ∀ {l m : List Bool}, allB l = true → allB m = true → allB (l ++ m) = true
  | [], _, _, h => h
  | b :: l, m, h, k => by
    rw [allB_iff] at h k ⊢
    intro x hx
    rcases List.mem_append.mp hx with hx | hx
    · exact h x hx
    · exact k x hx
/-- A piece of plays' way. -/
def PlPc (todo : List Item) (sl : List (Option V)) (todo1 : List Item) (sl1 : List (Option V)) (σ σ' : RS) : Prop :=
  ∀ {β : Base} {kind : CallKind} {cs : List Frame} {J : Nat → V} {A : Cf} {zs : List Int}, β.n0 = 8 → Asrt β frPl (trO (slots J 0 sl)) [] (hO (lR zs σ)) 14 far A →
    ∃ J' b', Asrt β frPl (trO (slots J' 0 sl1)) [] (hO (lR zs σ')) 14 far b' ∧ Steps Go.Proofs.Try.prog (At frPl none kind cs A todo) (At frPl none kind cs b' todo1)
/-- A core begins, or is busy: in the first loop. -/
def Bgn (c : Int) (σ σ' : RS) : Prop := ∀ len cap i, PlPc plM (slM len cap i c) plJ (slM len cap i c) σ σ'
/-- A core's step: in either loop. -/
def Stp (c : Int) (σ σ' : RS) : Prop := (∀ len cap i, PlPc plJ (slM len cap i c) plH (slH len cap (IntKind.i64.wrap (i + 1))) σ σ') ∧
  (∀ k, k < 9 → (c = 2 → k ≠ 2) → PlPc plG (slG c k) plG (slG c (IntKind.i64.wrap (k + 1))) σ σ')
end Go.Sx
