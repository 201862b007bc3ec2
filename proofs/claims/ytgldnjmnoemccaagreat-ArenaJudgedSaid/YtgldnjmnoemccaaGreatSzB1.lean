/- An arena's crew: the places of plays, its slots, its memory's frame. -/
import Derived.Test.YtgldnjmnoemccaaGreatSzB2
namespace Go.Sx
set_option maxRecDepth 100000
def σ00 : AS := ⟨2, ⟨0, 0, 0, 0, false, 0⟩, [], [], 0, 0, 0, -1, -1, -1, [], .idle, .idle, .idle, 0⟩
noncomputable def plT (k : Nat) : List Item := ((ctlN FP (exec FP 400) frPl k [.code plBody] (Tr.ofList [.ptr 1 0 0 0, .slice 0 0 1 1 1]) [] ⟨trO (lA [0] σ00), 16, [], [], []⟩).map (·.1)).getD []
noncomputable def plH : List Item := plT 7
noncomputable def plM : List Item := plT 16
noncomputable def plT0 (k : Nat) : List Item := ((ctlN FP (exec FP 400) frPl k [.code plBody] (Tr.ofList [.ptr 1 0 0 0, .slice 0 0 1 0 0]) [] ⟨trO (lA [] σ00), 16, [], [], []⟩).map (·.1)).getD []
noncomputable def plK : List Item := plT0 17
noncomputable def plG : List Item := plT0 28
def slK (c : Int) : List (Option V) := [some (.ptr 1 0 0 0), none, none, none, none, none, none, some (.int .i64 c)] ++ List.replicate 72 none
def slG (c k : Int) : List (Option V) := [some (.ptr 1 0 0 0), none, none, none, none, none, none, some (.int .i64 c), some (.int .i64 k)] ++ List.replicate 71 none
def slH (len cap : Nat) (i : Int) : List (Option V) := [some (.ptr 1 0 0 0), some (.slice 0 0 1 len cap), none, none, none, some (.int .i64 i)] ++ List.replicate 74 none
def slM (len cap : Nat) (i c : Int) : List (Option V) := [some (.ptr 1 0 0 0), some (.slice 0 0 1 len cap), none, none, none, some (.int .i64 i), some (.int .i64 c)] ++ List.replicate 73 none
def pA (σ : AS) (m : Nat) : Bool := cond (Nat.blt m 10) true (cond (Nat.blt m 12) (busyB σ.x0) (cond (Nat.blt m 14) (busyB σ.x1) (cond (Nat.blt m 16) (busyB σ.x2) false)))
theorem pA_live (zs : List Int) (σ : AS) (n0 : Nat) (m : Nat) (h : pA σ m = true) : m < (lA zs σ).length ∧ (m < n0 ∨ ∃ o, ((lA zs σ)[m]?).join = some o) := by
  obtain ⟨n, j, ws, hd, b0, b1, b2, o0, o1, o2, cl, x0, x1, x2, ck⟩ := σ
  match m, h with
  | 0, _ | 1, _ | 2, _ | 3, _ | 4, _ | 5, _ | 6, _ | 7, _ | 8, _ | 9, _ => exact ⟨by simp [lA], .inr ⟨_, rfl⟩⟩
  | 10, h | 11, h => cases x0 with
    | idle => cases h
    | al => exact ⟨by simp [lA], .inr ⟨_, rfl⟩⟩
    | fr => exact ⟨by simp [lA], .inr ⟨_, rfl⟩⟩
  | 12, h | 13, h => cases x1 with
    | idle => cases h
    | al => exact ⟨by simp [lA], .inr ⟨_, rfl⟩⟩
    | fr => exact ⟨by simp [lA], .inr ⟨_, rfl⟩⟩
  | 14, h | 15, h => cases x2 with
    | idle => cases h
    | al => exact ⟨by simp [lA], .inr ⟨_, rfl⟩⟩
    | fr => exact ⟨by simp [lA], .inr ⟨_, rfl⟩⟩
  | m + 16, h => cases h
theorem pA_old {σ : AS} {n0 : Nat} (h : n0 = 8) (m : Nat) (hm : m < n0) : pA σ m = true := by
  subst h
  match m, hm with
  | 0, _ | 1, _ | 2, _ | 3, _ | 4, _ | 5, _ | 6, _ | 7, _ => rfl
theorem obsA (zs : List Int) (σ : AS) : obsOK (pA σ) 0 (lA zs σ) = true := by
  obtain ⟨n, j, ws, hd, b0, b1, b2, o0, o1, o2, cl, x0, x1, x2, ck⟩ := σ
  cases x0 <;> cases x1 <;> cases x2 <;> rfl
def id16 : List Nat := [0, 1, 2, 3, 4, 5, 6, 7, 8, 9, 10, 11, 12, 13, 14, 15]
theorem renA (zs : List Int) (σ : AS) : (lA zs σ).map (Option.map (Ob.ren (πf id16))) = lA zs σ := by
  obtain ⟨n, j, ws, hd, b0, b1, b2, o0, o1, o2, cl, x0, x1, x2, ck⟩ := σ
  cases x0 <;> cases x1 <;> cases x2 <;> rfl
theorem allB_app : ∀ {l m : List Bool}, allB l = true → allB m = true → allB (l ++ m) = true
  | [], _, _, h => h
  | b :: l, m, h, k => by
    rw [allB_iff] at h k ⊢
    intro x hx
    rcases List.mem_append.mp hx with hx | hx
    · exact h x hx
    · exact k x hx
/-- A piece of plays' way. -/
def PlPc (todo : List Item) (sl : List (Option V)) (todo1 : List Item) (sl1 : List (Option V)) (σ σ' : AS) : Prop :=
  ∀ {β : Base} {kind : CallKind} {cs : List Frame} {J : Nat → V} {A : Cf} {zs : List Int}, β.n0 = 8 → Asrt β frPl (trO (slots J 0 sl)) [] (hO (lA zs σ)) 16 far A →
    ∃ J' b', Asrt β frPl (trO (slots J' 0 sl1)) [] (hO (lA zs σ')) 16 far b' ∧ Steps Go.Proofs.Tryz.prog (At frPl none kind cs A todo) (At frPl none kind cs b' todo1)
/-- A piece of plays' way, at these numbers. -/
def PlPz (zs : List Int) (todo : List Item) (sl : List (Option V)) (todo1 : List Item) (sl1 : List (Option V)) (σ σ' : AS) : Prop :=
  ∀ {β : Base} {kind : CallKind} {cs : List Frame} {J : Nat → V} {A : Cf}, β.n0 = 8 → Asrt β frPl (trO (slots J 0 sl)) [] (hO (lA zs σ)) 16 far A →
    ∃ J' b', Asrt β frPl (trO (slots J' 0 sl1)) [] (hO (lA zs σ')) 16 far b' ∧ Steps Go.Proofs.Tryz.prog (At frPl none kind cs A todo) (At frPl none kind cs b' todo1)
theorem PlPc.z {zs : List Int} {t t1 : List Item} {s s1 : List (Option V)} {σ σ' : AS} (h : PlPc t s t1 s1 σ σ') : PlPz zs t s t1 s1 σ σ' := fun hβ hA => h hβ hA
theorem PlPz.trans {zs : List Int} {t t1 t2 : List Item} {s s1 s2 : List (Option V)} {σ σ' σ'' : AS} (h : PlPz zs t s t1 s1 σ σ') (h' : PlPz zs t1 s1 t2 s2 σ' σ'') : PlPz zs t s t2 s2 σ σ'' := fun hβ hA => by
  obtain ⟨J1, b1, g1, g2⟩ := h hβ hA
  obtain ⟨J2, b2, g3, g4⟩ := h' hβ g1
  exact ⟨J2, b2, g3, g2.trans g4⟩
theorem PlPz.refl {zs : List Int} {t : List Item} {s : List (Option V)} {σ : AS} : PlPz zs t s t s σ σ := fun {β kind cs J A} _ hA => ⟨J, A, hA, .refl _ _⟩
/-- A core's step: in either loop. -/
def Stp (c : Int) (σ σ' : AS) : Prop := (∀ len cap i, PlPc plM (slM len cap i c) plH (slH len cap (IntKind.i64.wrap (i + 1))) σ σ') ∧
  (∀ k, k < 7 → PlPc plG (slG c k) plG (slG c (IntKind.i64.wrap (k + 1))) σ σ')
def crewAt (f : Nat → Nat) (σ : AS) : Ob := .mem (.cells [.int .i64 0, .int .i64 1, .int .i64 σ.n, .int .i64 (1 + σ.n), .int .i64 (1 + 2 * σ.n), .int .i64 1000, .ptr (f 2) 0 0 0, .osl (f 4) 1, .osl (f 5) 1, .osl (f 8) 1, .osl (f 6) 1, .osl (f 9) 10, .osl (f 7) 1, .int .i64 σ.ck]) 38 none
def lrAt (zs : List Int) (σ : AS) (f : Nat → Nat) : List (Option Ob) := [some (.ro .i64 zs), some (crewAt f σ), some (memA (f 3) (2 + 2 * σ.n) σ.j), some (wordsA σ.ws),
  some (.mem (.cells [alV (f 10) σ.x0, alV (f 12) σ.x1, alV (f 14) σ.x2]) 77 (some 1)), some (.mem (.cells [frV (f 10) σ.x0, frV (f 12) σ.x1, frV (f 14) σ.x2]) 44 (some 1)),
  some (rowU [σ.b0, σ.b1, σ.b2]), some (rowI [σ.o0, σ.o1, σ.o2]), some (rowU σ.hd), some (callsOb σ.cl),
  opOb σ.n (f 11) σ.x0, inOb σ.n σ.x0, opOb σ.n (f 13) σ.x1, inOb σ.n σ.x1, opOb σ.n (f 15) σ.x2, inOb σ.n σ.x2]
theorem lr_at (zs : List Int) (σ : AS) (f : Nat → Nat) : (lA zs σ).map (Option.map (Ob.ren f)) = lrAt zs σ f := by
  obtain ⟨n, j, ws, hd, b0, b1, b2, o0, o1, o2, cl, x0, x1, x2, ck⟩ := σ
  cases x0 <;> cases x1 <;> cases x2 <;> rfl
end Go.Sx
