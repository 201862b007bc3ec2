/- StackJudged's loop: the state at its head; the next number. -/
import Derived.Test.YtoiajdjmlbdfnaaSkD
namespace Go.Sx
set_option maxRecDepth 100000

/-- What an operation of a core is: a Pop, a Push, an All, under way; its words, and the function that is its next step. -/
structure Held where
  w : Int
  i : Int
  j : Int
  e : Int
inductive OpS where
  | idle
  | pop (h : Held) (f : Nat)
  | push (h : Held) (f : Nat)
  | all (h : Held) (f : Nat)
structure CoreS where
  op : OpS
  has : List Int
  lays : Int
structure SS where
  n : Int
  j : MJ
  ws : List Int
  a : CoreS
  b : CoreS
  c : CoreS

def heldOb (n : Int) (h : Held) (f t : Nat) : Ob := .mem (.cells [.int .i64 2, .int .i64 4, .int .i64 n, .int .u64 h.w, .int .i64 h.i, .int .i64 h.j, .bool true, .bool false, .int .i64 h.e, .fn f [] []]) t none
def opOb (n : Int) : OpS → Option Ob
  | .idle => none
  | .pop h f => some (heldOb n h f 155)
  | .push h f => some (heldOb n h f 145)
  | .all h f => some (heldOb n h f 152)
def popC (m : Nat) : OpS → V
  | .pop _ _ => .ptr m 0 0 0
  | _ => .nilp
def pushC (m : Nat) : OpS → V
  | .push _ _ => .ptr m 0 0 0
  | _ => .nilp
def allC (m : Nat) : OpS → V
  | .all _ _ => .ptr m 0 0 0
  | _ => .nilp
def busyB : OpS → Bool
  | .idle => false
  | _ => true
def coreV (k : Nat) (x : CoreS) : List V := [popC (8 + k) x.op, pushC (8 + k) x.op, allC (8 + k) x.op, .osl (5 + k) 1, .int .i64 x.lays]
def coresOb (σ : SS) : Ob := .mem (.cells [popC 8 σ.a.op, pushC 8 σ.a.op, allC 8 σ.a.op, .osl 5 1, .int .i64 σ.a.lays, popC 9 σ.b.op, pushC 9 σ.b.op, allC 9 σ.b.op, .osl 6 1, .int .i64 σ.b.lays, popC 10 σ.c.op, pushC 10 σ.c.op, allC 10 σ.c.op, .osl 7 1, .int .i64 σ.c.lays]) 52 (some 5)
def lS (zs : List Int) (σ : SS) : List (Option Ob) := [some (.ro .i64 zs), some (box43 σ.n), some (memS 3 σ.j), some (wordsOb σ.ws), some (coresOb σ), some (outOb σ.a.has), some (outOb σ.b.has), some (outOb σ.c.has), opOb σ.n σ.a.op, opOb σ.n σ.b.op, opOb σ.n σ.c.op]
def pS (σ : SS) (m : Nat) : Bool := cond (Nat.blt m 8) true (cond (Nat.beq m 8) (busyB σ.a.op) (cond (Nat.beq m 9) (busyB σ.b.op) (cond (Nat.beq m 10) (busyB σ.c.op) false)))

theorem pS_live (zs : List Int) (σ : SS) (n0 : Nat) (m : Nat) (h : pS σ m = true) : m < (lS zs σ).length ∧ (m < n0 ∨ ∃ o, ((lS zs σ)[m]?).join = some o) := by
  obtain ⟨n, j, ws, ⟨oa, ha, la⟩, ⟨ob, hb, lb⟩, ⟨oc, hc, lc⟩⟩ := σ
  match m, h with
  | 0, _ => exact ⟨by simp [lS], .inr ⟨_, rfl⟩⟩
  | 1, _ => exact ⟨by simp [lS], .inr ⟨_, rfl⟩⟩
  | 2, _ => exact ⟨by simp [lS], .inr ⟨_, rfl⟩⟩
  | 3, _ => exact ⟨by simp [lS], .inr ⟨_, rfl⟩⟩
  | 4, _ => exact ⟨by simp [lS], .inr ⟨_, rfl⟩⟩
  | 5, _ => exact ⟨by simp [lS], .inr ⟨_, rfl⟩⟩
  | 6, _ => exact ⟨by simp [lS], .inr ⟨_, rfl⟩⟩
  | 7, _ => exact ⟨by simp [lS], .inr ⟨_, rfl⟩⟩
  | 8, h => exact ⟨by simp [lS], .inr (by cases oa <;> first | exact ⟨_, rfl⟩ | exact absurd (show false = true from h) (by decide))⟩
  | 9, h => exact ⟨by simp [lS], .inr (by cases ob <;> first | exact ⟨_, rfl⟩ | exact absurd (show false = true from h) (by decide))⟩
  | 10, h => exact ⟨by simp [lS], .inr (by cases oc <;> first | exact ⟨_, rfl⟩ | exact absurd (show false = true from h) (by decide))⟩
  | m + 11, h =>
    exfalso
    simp only [pS] at h
    have h1 : Nat.blt (m + 11) 8 = false := by
      cases hb : Nat.blt (m + 11) 8 with
      | false => rfl
      | true => have := Nat.blt_eq.mp hb; omega
    rw [h1, beq_false_of (by omega), beq_false_of (by omega), beq_false_of (by omega)] at h
    cases h

theorem obsS (zs : List Int) (σ : SS) : obsOK (pS σ) 0 (lS zs σ) = true := by
  obtain ⟨n, j, ws, ⟨oa, ha, la⟩, ⟨ob, hb, lb⟩, ⟨oc, hc, lc⟩⟩ := σ
  cases oa <;> cases ob <;> cases oc <;> rfl

theorem renS (zs : List Int) (σ : SS) {πl : List Nat} (h : πl = [0, 1, 2, 3, 4, 5, 6, 7, 8, 9, 10]) : (lS zs σ).map (Option.map (Ob.ren (πf πl))) = lS zs σ := by
  subst h
  obtain ⟨n, j, ws, ⟨oa, ha, la⟩, ⟨ob, hb, lb⟩, ⟨oc, hc, lc⟩⟩ := σ
  cases oa <;> cases ob <;> cases oc <;> rfl

theorem pS_old {σ : SS} {n0 : Nat} (h : n0 = 1) (m : Nat) (hm : m < n0) : pS σ m = true := by
  have : m = 0 := by omega
  subst this
  rfl

/- The places of the way. -/
noncomputable def todoH : List Item := ((ctlN E1 (exec E1 400) ⟨4, none, 69⟩ 27 [.code (bodyOf Go.Proofs.Try.f4)] (Tr.ofList [.int .i64 0, .slice 0 0 1 1 1]) [] ⟨trO [some (.ro .i64 [0])], 1, [], [], []⟩).map (·.1)).getD []
noncomputable def todoM : List Item := ((ctlN E1 (exec E1 400) ⟨4, none, 69⟩ 38 [.code (bodyOf Go.Proofs.Try.f4)] (Tr.ofList [.int .i64 0, .slice 0 0 1 1 1]) [] ⟨trO [some (.ro .i64 [0])], 1, [], [], []⟩).map (·.1)).getD []
def slH (len cap : Nat) (i : Int) : List (Option V) := [none, some (.slice 0 0 1 len cap), none, none, none, some (.bool true), some (.ptr 1 0 0 0), some (.ptr 2 0 0 0), none, some (.osl 4 5), some (.int .i64 i)] ++ List.replicate 58 none
def slM (len cap : Nat) (i v k : Int) : List (Option V) := [none, some (.slice 0 0 1 len cap), none, none, none, some (.bool true), some (.ptr 1 0 0 0), some (.ptr 2 0 0 0), none, some (.osl 4 5), some (.int .i64 i), some (.int .i64 v), some (.int .i64 k)] ++ List.replicate 56 none

def pickF (x k : Int) : Int := if x.tmod k < 0 then IntKind.i64.wrap (x.tmod k + k) else x.tmod k

section
variable {β : Base} {kind : CallKind} {cs : List Frame} {J : Nat → V} {a : Cf} {zs : List Int} {σ : SS} {len cap : Nat} {i : Int}

theorem next4 (hβ : β.n0 = 1) (hA : Asrt β ⟨4, none, 69⟩ (trO (slots J 0 (slH len cap i))) [] (hO (lS zs σ)) 11 far a) (h0 : 0 ≤ i) (h1 : i < (len : Int)) (h2 : len = zs.length) :
    ∃ J' b', Asrt β ⟨4, none, 69⟩ (trO (slots J' 0 (slM len cap i (pickF (zs.getD i.toNat 0) 300) ((pickF (zs.getD i.toNat 0) 300).tmod 3)))) [] (hO (lS zs σ)) 11 far b' ∧ Steps Go.Proofs.Try.prog (At ⟨4, none, 69⟩ none kind cs a todoH) (At ⟨4, none, 69⟩ none kind cs b' todoM) := by
  have hi : i.toNat < zs.length := by omega
  by_cases h : (zs.getD i.toNat 0).tmod 300 < 0
  · have e : pickF (zs.getD i.toNat 0) 300 = IntKind.i64.wrap ((zs.getD i.toNat 0).tmod 300 + 300) := by simp only [pickF, if_pos h]
    rw [e]
    exact Asrt.evalR (mk := []) (n := 400) (m := 11) (orc := [(0,true),(0,true),(0,true),(2,true)]) (πl := [0, 1, 2, 3, 4, 5, 6, 7, 8, 9, 10]) (nx' := 11) (far := far) (todo := todoH) (todo' := todoM) (l' := lS zs σ) (lr := lS zs σ) (sl' := slM len cap i (IntKind.i64.wrap ((zs.getD i.toNat 0).tmod 300 + 300)) ((IntKind.i64.wrap ((zs.getD i.toNat 0).tmod 300 + 300)).tmod 3))
      (B := allB [decide ((zs.getD i.toNat 0).tmod 300 < 0), decide (i.toNat < zs.length), decide (0 ≤ i ∧ i < (len : Int)), decide (i < (len : Int))]) E1_ok S1_ok kind cs hA
      (by kernel_rfl) (renS zs σ rfl) (by simp only [allB_iff, List.forall_mem_cons, decide_eq_true_eq]; exact ⟨h, hi, ⟨h0, h1⟩, h1, fun _ hb => by cases hb⟩) rfl rfl rfl rfl rfl (pS σ) (fun m hm => pS_live zs σ _ m hm) (pS_old hβ) (by rw [hβ]; kernel_rfl) (obsS zs σ) (by kernel_rfl)
  · have e : pickF (zs.getD i.toNat 0) 300 = (zs.getD i.toNat 0).tmod 300 := by simp only [pickF, if_neg h]
    rw [e]
    exact Asrt.evalR (mk := []) (n := 400) (m := 11) (orc := [(0,true),(0,true),(0,true),(2,false)]) (πl := [0, 1, 2, 3, 4, 5, 6, 7, 8, 9, 10]) (nx' := 11) (far := far) (todo := todoH) (todo' := todoM) (l' := lS zs σ) (lr := lS zs σ) (sl' := slM len cap i ((zs.getD i.toNat 0).tmod 300) (((zs.getD i.toNat 0).tmod 300).tmod 3))
      (B := allB [!(decide ((zs.getD i.toNat 0).tmod 300 < 0)), decide (i.toNat < zs.length), decide (0 ≤ i ∧ i < (len : Int)), decide (i < (len : Int))]) E1_ok S1_ok kind cs hA
      (by kernel_rfl) (renS zs σ rfl) (by simp only [allB_iff, List.forall_mem_cons, decide_eq_true_eq]; exact ⟨by simp only [decide_eq_false h, Bool.not_false], hi, ⟨h0, h1⟩, h1, fun _ hb => by cases hb⟩) rfl rfl rfl rfl rfl (pS σ) (fun m hm => pS_live zs σ _ m hm) (pS_old hβ) (by rw [hβ]; kernel_rfl) (obsS zs σ) (by kernel_rfl)
end
end Go.Sx
