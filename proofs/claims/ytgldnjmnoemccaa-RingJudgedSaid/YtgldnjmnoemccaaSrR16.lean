/- RingJudged: its summaries. -/
import Derived.Test.YtgldnjmnoemccaaSrR13
namespace Go.Sx
set_option maxRecDepth 100000
/-- A closed call: what it lays is not asked for. -/
theorem closed_call {P : Program} {E : Env} (hE : EnvOK P E) (hS : SumOK P E) {n : Nat} {f : FuncId} {b : Bool} (h : (callX (exec E n) E f [] ⟨.nil, 0, [], [], []⟩).map (·.1) = some (.bool b)) (hob : (callX (exec E n) E f [] ⟨.nil, 0, [], [], []⟩).map (fun r => allB r.2.obl) = some true) (s : St) :
    CallOK P f [] s (.bool b) s ∧ ∀ av w, (callFunc f av).run P w = .ok (.enter f av) w := by
  cases hr : callX (exec E n) E f [] ⟨.nil, 0, [], [], []⟩ with
  | none => rw [hr] at h; cases h
  | some r =>
    obtain ⟨v, s1⟩ := r
    rw [hr] at h hob
    cases h
    have ho : Obl s1 := allB_ok (by simpa using hob)
    obtain ⟨c1, c2, c3, c4⟩ := call_ok hE hS n f [] _ _ _ hr ho
    refine ⟨?_, c4⟩
    intro D L w kind cs av hSR hav hD
    obtain ⟨L1, w1, val, m1, m2, m3, fr', m4, m5⟩ := c3 (fun _ => False) L w kind cs av (fun L' _ => ⟨fun n o ho => (by cases ho), fun n m on om hn => (by cases hn)⟩) (fun L' _ => by rw [hav L (.refl _ _)]; rfl) (fun n hn => hn.elim)
    have hkeep : ∀ k, k < w.heap.size → w1.heap[k]? = w.heap[k]? := fun k hk => m1.frame k hk fun n o ho => by cases ho
    refine ⟨L, w1, val, ⟨.refl _ _, m1.size, fun k hk _ => hkeep k hk, fun n o k ho hr hk => .inr ⟨n, o, ho, hr, hk⟩, m1.os, m1.tape, m1.output, fun _ _ h _ => h⟩, ?_, fun L'' _ => m3 L1 (.refl _ _), fr', m4, m5⟩
    rw [grow_self rfl]
    intro L' hL'
    have h0 := hSR L' hL'
    exact ⟨fun n o ho => (h0.ob n o ho).keep m1.size (fun k _ hk => hkeep k hk), h0.inj⟩
def smKn (args : List V) (s : St) : Option (V × St) :=
  match args with
  | [] => some (.bool true, s)
  | _ => none
theorem smKn_sm : SmOK Go.Proofs.Try.prog 4 smKn := by
  refine ⟨fun args s v s' h ho => ?_, Go.Proofs.Try.call4⟩
  unfold smKn at h
  split at h
  · cases h
    exact ⟨.refl _, ho, (closed_call (n := 400) F0_ok S0_ok (by kernel_rfl) (by kernel_rfl) s).1⟩
  · cases h
theorem pick_call (x : Int) : CallH Go.Proofs.Try.prog 6 [.int .i64 x, .int .i64 4] 0 (hO []) (.int .i64 (pickF x 4)) 0 (hO []) := by
  by_cases h : x.tmod 4 < 0
  · have e : pickF x 4 = IntKind.i64.wrap (x.tmod 4 + 4) := by simp only [pickF, if_pos h]
    rw [e]
    exact callH_eval (n := 400) (l := []) (l' := []) (orc := [(2, true)]) (πl := []) (nx' := 0) (B := allB [decide (x.tmod 4 < 0)]) F0_ok S0_ok (by kernel_rfl) (by simp only [allB, decide_eq_true h]; rfl) rfl (by kernel_rfl) (by kernel_rfl) (by kernel_rfl) (by kernel_rfl)
  · have e : pickF x 4 = x.tmod 4 := by simp only [pickF, if_neg h]
    rw [e]
    exact callH_eval (n := 400) (l := []) (l' := []) (orc := [(2, false)]) (πl := []) (nx' := 0) (B := allB [!(decide (x.tmod 4 < 0))]) F0_ok S0_ok (by kernel_rfl) (by simp only [allB, decide_eq_false h]; rfl) rfl (by kernel_rfl) (by kernel_rfl) (by kernel_rfl) (by kernel_rfl)
/-- The number chosen. -/
def smPk (p : Int) (args : List V) (s : St) : Option (V × St) :=
  match args with
  | [.int .i64 x, .int .i64 k] => (chk (decide (k = 4))).bind fun _ => (need (decide (pickF x 4 = p)) s).bind fun s1 => some (.int .i64 p, s1)
  | _ => none
theorem smPk_sm (p : Int) : SmOK Go.Proofs.Try.prog 6 (smPk p) := by
  refine ⟨fun args s v s' h ho => ?_, Go.Proofs.Try.call6⟩
  unfold smPk at h
  split at h
  · rename_i x k
    simp only [Option.bind_eq_some_iff] at h
    obtain ⟨_, h1, s1, h2, h3⟩ := h
    obtain rfl := chk_dec h1
    cases h3
    obtain ⟨hd, hq⟩ := need_ok h2 ho
    have hd := of_decide_eq_true hd
    subst hd
    refine ⟨Lg.of_same hq.1, hq.2, ?_⟩
    exact embed0 (l := []) (pick_call x) (fun m hm => absurd hm (Nat.not_lt_zero _)) (by kernel_rfl) (by kernel_rfl) [] rfl (fun m o ho => by simp at ho) List.nodup_nil rfl hq.1 rfl
  · cases h
noncomputable def smsJ (p : Int) (σ' : RS) : List (Nat × SmF) := [(6, smPk p), (4, smKn), (7, smPl σ'), (8, smOrd)]
noncomputable def F5 (p : Int) (σ' : RS) : Env := envOf tabT tabF (smOf (smsJ p σ')) seT
theorem F5_ok (p : Int) (σ' : RS) : EnvOK Go.Proofs.Try.prog (F5 p σ') := env_ok _
theorem S5_ok (p : Int) (σ' : RS) : SumOK Go.Proofs.Try.prog (F5 p σ') := sumOK_of rfl ⟨smPk_sm p, smKn_sm, smPl_sm σ', smOrd_sm, trivial⟩
noncomputable def F6 (p : Int) : Env := envOf tabT tabF (smOf [(6, smPk p), (4, smKn)]) seT
theorem F6_ok (p : Int) : EnvOK Go.Proofs.Try.prog (F6 p) := env_ok _
theorem S6_ok (p : Int) : SumOK Go.Proofs.Try.prog (F6 p) := sumOK_of rfl ⟨smPk_sm p, smKn_sm, trivial⟩
end Go.Sx
