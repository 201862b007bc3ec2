/- Slices that are cut; all operations that make memory or write it. -/
import Derived.Test.YtmmcpgjfkphgaaaGreatSxJ
namespace Go.Sx
section
variable {P : Program} {E : Env}

/-- What an operation that makes or writes memory does. -/
def LoudOK (P : Program) (s s' : St) (v : V) (H : (D : Nat → Prop) → LM → World → Prop) (run : World → Result Value) : Prop :=
  ∀ (D : Nat → Prop) (L : LM) (w : World), H D L w → SR D L s.H.get w → (∀ n, D n → n < s.nx ∨ s'.nx ≤ n) →
    ∃ L' w' val, Mv D L s.H.get w L' s'.H.get w' ∧ SR (Grow D s.nx s'.nx) L' s'.H.get w' ∧ (∀ L'', Agree (Grow D s.nx s'.nx) L' L'' → val = v.den L'') ∧ run w = .ok val w'

theorem grow_self {D : Nat → Prop} {n m : Nat} (h : n = m) : Grow D n m = D := by
  subst h
  funext k
  apply propext
  simp only [Grow]
  constructor
  · rintro (h | h)
    · exact h
    · omega
  · exact .inl

/-- Nothing was moved. -/
theorem loud_still {s s' : St} {v : V} {H : (D : Nat → Prop) → LM → World → Prop} {run : World → Result Value} (hs : Same s s')
    (h : ∀ (D : Nat → Prop) (L : LM) (w : World), H D L w → SR D L s.H.get w → ∃ val, (∀ L'', Agree D L L'' → val = v.den L'') ∧ run w = .ok val w) : LoudOK P s s' v H run := by
  intro D L w hh hSR _
  obtain ⟨val, g1, g2⟩ := h D L w hh hSR
  refine ⟨L, w, val, ?_, ?_, ?_, g2⟩
  · rw [hs.H]; exact .refl _ _ _ _
  · rw [hs.H, grow_self hs.nx.symm]; exact hSR
  · rw [grow_self hs.nx.symm]; exact g1

/-- The result of an operation that is no call. -/
def Gives (r : Result Next) (val : Value) (w : World) : Prop := r = .ok (.value val) w ∨ (r = .ok .skip w ∧ val = undef)

theorem loudX_ok (hE : EnvOK P E) {T : Tr V} {op : Op} {s s' : St} {v : V} (h : loudX E T op s = some (v, s')) (ho : Obl s') :
    Lg s s' ∧ Obl s ∧ ∀ (ρ : Operand → Value) (o : Oper), o.op = op → ∀ (D : Nat → Prop) (L : LM) (w : World), (∀ x ∈ op.operands, ∀ u, ev T x = some u → ∀ L', Agree D L L' → ρ x = u.den L') →
      SR D L s.H.get w → (∀ n, D n → n < s.nx ∨ s'.nx ≤ n) →
      ∃ L' w' val, Mv D L s.H.get w L' s'.H.get w' ∧ SR (Grow D s.nx s'.nx) L' s'.H.get w' ∧ (∀ L'', Agree (Grow D s.nx s'.nx) L' L'' → val = v.den L'') ∧ Gives ((execOp ρ o).run P w) val w' := by
  cases op with
  | alloc t =>
    simp only [loudX] at h
    obtain ⟨ti, hti, h1⟩ := bind_some' h
    obtain ⟨⟨n, s1⟩, hnew, h2⟩ := bind_some' h1
    cases h2
    obtain ⟨i, zv, d, hi, hs, hb, hzv, hzz, hu, hag, hk⟩ := (hE.ty _ _ hti).info
    obtain ⟨n1, n2, n3, n4, n5⟩ := new_ok hnew
    refine ⟨.new hnew, fun x hx => ho x (by rw [n4]; exact hx), fun ρ o he D L w hr hSR hD => ?_⟩
    obtain ⟨L', g1, g2, g3⟩ := boxed_ok (arr := zv.cells) hnew hSR hD (fun L' _ => hzz L')
    refine ⟨L', _, _, g1, g2, g3, .inl ?_⟩
    simp only [execOp, he, Instr.alloc, Sem.run_bind, run_zero' hi hzv, Result.andThen_ok, newVar, newRow, run_newObj, Sem.run_pure, World.alloc_eq]
  | box t x =>
    simp only [loudX] at h
    obtain ⟨va, h1, h2⟩ := bind_some' h
    obtain ⟨⟨n, s1⟩, hnew, h3⟩ := bind_some' h2
    cases h3
    obtain ⟨n1, n2, n3, n4, n5⟩ := new_ok hnew
    refine ⟨.new hnew, fun x hx => ho x (by rw [n4]; exact hx), fun ρ o he D L w hr hSR hD => ?_⟩
    have hx := hr x (by simp [Op.operands]) _ h1
    obtain ⟨L', g1, g2, g3⟩ := boxed_ok (arr := (ρ x).cells) hnew hSR hD (fun L' hL' => by rw [hx L' hL', cells_den]; rfl)
    refine ⟨L', _, _, g1, g2, g3, .inl ?_⟩
    simp only [execOp, he, Instr.box, Sem.run_bind, Result.andThen_ok, newVar, newRow, run_newObj, Sem.run_pure, World.alloc_eq]
  | buildSlice t len ps =>
    simp only [loudX] at h
    obtain ⟨vs, h1, h2⟩ := bind_some' h
    obtain ⟨hlg, hob, hp⟩ := buildSliceX_ok hE h2 ho
    refine ⟨hlg, hob, fun ρ o he D L w hr hSR hD => ?_⟩
    obtain ⟨L', w', val, g1, g2, g3, g4⟩ := hp D L w (ps.map fun (p : Nat × Operand) => (p.1, ρ p.2)) (by
      intro L' hL'
      have hm := evs_map h1 (fun x hx u hu => hr x (by simp only [Op.operands]; simpa using hx) u hu L' hL')
      rw [zip_map_den, ← hm]
      simp only [Array.toList_map]
      generalize ps.toList = l
      induction l with
      | nil => rfl
      | cons p l ih => simp [ih]) hSR hD
    refine ⟨L', w', val, g1, g2, g3, .inl ?_⟩
    simp only [execOp, he]
    rw [show (Array.map (fun (x : Nat × Operand) => match x with | (i, x) => (i, ρ x)) ps) = (ps.map fun (p : Nat × Operand) => (p.1, ρ p.2)) from rfl]
    simp [g4]
  | store t a x =>
    simp only [loudX] at h
    obtain ⟨va, h1, h2⟩ := bind_some' h
    obtain ⟨vx, h3, h4⟩ := bind_some' h2
    obtain ⟨s1, h5, h6⟩ := bind_some' h4
    cases h6
    obtain ⟨hlg, hob, hnx, hp⟩ := storeX_ok hE h5 ho
    refine ⟨hlg, hob, fun ρ o he D L w hr hSR hD => ?_⟩
    obtain ⟨w', g1, g2, g3⟩ := hp D L w (ρ a) (ρ x) (fun L' hL' => ⟨hr a (by simp [Op.operands]) _ h1 L' hL', hr x (by simp [Op.operands]) _ h3 L' hL'⟩) hSR
    refine ⟨L, w', undef, g1, ?_, fun _ _ => rfl, .inr ⟨?_, rfl⟩⟩
    · rw [grow_self hnx.symm]; exact g2
    · simp [execOp, he, g3]
  | makeSlice t l c =>
    simp only [loudX] at h
    obtain ⟨va, h1, h2⟩ := bind_some' h
    obtain ⟨vx, h3, h4⟩ := bind_some' h2
    obtain ⟨hlg, hob, hp⟩ := makeSliceX_ok hE h4 ho
    refine ⟨hlg, hob, fun ρ o he D L w hr hSR hD => ?_⟩
    obtain ⟨L', w', val, g1, g2, g3, g4⟩ := hp D L w (ρ l) (ρ c) (fun L' hL' => ⟨hr l (by simp [Op.operands]) _ h1 L' hL', hr c (by simp [Op.operands]) _ h3 L' hL'⟩) hSR hD
    exact ⟨L', w', val, g1, g2, g3, .inl (by simp [execOp, he, g4])⟩
  | call c =>
    simp only [loudX] at h
    obtain ⟨callee, args, argTypes⟩ := c
    split at h
    · rename_i hc
      simp only at hc
      subst hc
      split at h
      · rename_i a x st xt hargs htys
        simp only at hargs htys
        have ha : args = #[a, x] := by apply Array.ext'; simpa using hargs
        have hty : argTypes = #[st, xt] := by apply Array.ext'; simpa using htys
        subst ha hty
        obtain ⟨_, c1, h0⟩ := bind_some' h
        obtain ⟨va, h1, h2⟩ := bind_some' h0
        obtain ⟨vx, h3, h4⟩ := bind_some' h2
        have hst : st = xt := Nat.beq_eq.mp (chk_some c1)
        subst hst
        obtain ⟨hlg, hob, hp⟩ := appendX_ok hE h4 ho
        refine ⟨hlg, hob, fun ρ o he D L w hr hSR hD => ?_⟩
        obtain ⟨L', w', val, g1, g2, g3, g4⟩ := hp D L w o.type (ρ a) (ρ x) (fun L' hL' => ⟨hr a (by simp [Op.operands, Call.operands]) _ h1 L' hL', hr x (by simp [Op.operands, Call.operands]) _ h3 L' hL'⟩) hSR hD
        exact ⟨L', w', val, g1, g2, g3, .inl (by simp [execOp, he, resolve, invoke, builtin, g4])⟩
      · cases h
    · cases h
  | _ => simp [loudX] at h

end
end Go.Sx
