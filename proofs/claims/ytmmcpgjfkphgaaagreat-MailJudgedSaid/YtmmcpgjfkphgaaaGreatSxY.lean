/- From a function's beginning to its end. -/
import Derived.Test.YtmmcpgjfkphgaaaGreatSxX
namespace Go.Sx
section
variable {P : Program} {E : Env}

/-- The blocks that a call is handed. -/
def Handed (Hc : Nat → Option Ob) (L : LM) (b : Nat) : Prop := ∃ m o, Hc m = some o ∧ o.isRo = false ∧ (L m).blk = some b

theorem enter_asrt {f : FuncId} {fn : Func} {c : Code} (hf : P.funcs[f]? = some fn) (hb : fn.body = some c) (hnt : fn.ntmps < big) {args : List V} (hlen : args.length ≤ fn.ntmps) {n0 hi : Nat} {Hc : Nat → Option Ob} {L : LM} {w : World}
    (hSR : SR (fun n => n < n0) L Hc w) {av : Array Value} (hav : ∀ L', Agree (fun n => n < n0) L L' → av.toList = args.map (V.den L')) (S : Nat → Prop) (hS : ∀ b, Handed Hc L b → w.heap.size ≤ b ∨ S b) (kind : CallKind) (cs : List Frame) :
    ∃ a : Cf, a.w = w ∧ lone (Frame.enter P f av kind) cs w = At ⟨f, none, fn.ntmps⟩ none kind cs a [.code c] ∧ Asrt ⟨w, S, n0, L⟩ ⟨f, none, fn.ntmps⟩ (Tr.ofList args) [] Hc n0 hi a := by
  have hsz : av.size = args.length := by
    have := congrArg List.length (hav L (.refl _ _))
    simpa using this
  have hctx : CtxR (fun n => n < n0) L ⟨f, none, fn.ntmps⟩ (Tr.ofList args) [] (av ++ Array.replicate (fn.ntmps - av.size) undef) [] none := by
    intro L' hL'
    refine ⟨⟨by simp; omega, fun t => ?_⟩, rfl, rfl⟩
    rw [Tr.get_ofList _ _ (by omega)]
    have hL := hav L' hL'
    by_cases ht : t < args.length
    · have h9 : av.toList[t]? = some ((args[t]).den L') := by rw [hL]; simp [ht]
      rw [List.getElem?_eq_getElem ht]
      simp only [Option.getD_some]
      rw [Array.getD_eq_getD_getElem?, Array.getElem?_append_left (by omega)]
      rw [Array.getElem?_toList] at h9
      rw [h9]; rfl
    · rw [List.getElem?_eq_none (by omega)]
      rw [Array.getD_eq_getD_getElem?, Array.getElem?_append_right (by omega), Array.getElem?_replicate]
      split <;> rfl
  have hent : Frame.enter P f av kind = frm ⟨f, none, fn.ntmps⟩ none kind (av ++ Array.replicate (fn.ntmps - av.size) undef) [.code c] [] := by
    simp [Frame.enter, frm, hf, hb]
  refine ⟨⟨av ++ Array.replicate (fn.ntmps - av.size) undef, [], w⟩, rfl, by rw [hent]; rfl, _, L, hSR, hctx, fun n hn => .inl hn, .refl _ _, ?_, fun m hm => ⟨hm, rfl⟩⟩
  intro n o b ho hr hbl
  exact hS b ⟨n, o, ho, hr, hbl⟩

theorem leave_steps {fr : Frs} {kind : CallKind} {cs : List Frame} {b : Cf} {todo : List Item} (h : todo = [] ∨ ∃ k, todo = .code .ret :: k) :
    ∃ t, Steps P (At fr none kind cs b todo) (lone (Out fr none kind b.arr t b.dv) cs b.w) := by
  rcases h with rfl | ⟨k, rfl⟩
  · exact ⟨_, .one (stepR_end (b := frm fr none kind #[] [] []) (a := ⟨b.arr, b.dv⟩) rfl)⟩
  · exact ⟨_, .one (stepR_ret (b := frm fr none kind #[] [] []) (a := ⟨b.arr, b.dv⟩) rfl)⟩

theorem results_one {fn : Func} {t : Tmp} (h : fn.results = #[.tmp t]) (arr : Array Value) (w : World) : (results fn arr).run P w = .ok (arr.getD t undef) w := by
  simp [results, h]

/-- A function's contract over a small memory. -/
theorem callH_of {f : FuncId} {fn : Func} {c : Code} {t : Tmp} (hf : P.funcs[f]? = some fn) (hb : fn.body = some c) (hnt : fn.ntmps < big) (hres : fn.results = #[.tmp t]) {args : List V} (hlen : args.length ≤ fn.ntmps)
    {n0 n1 hi : Nat} {Hc Hc' : Nat → Option Ob} {v : V} (hnew : ∀ m o, Hc' m = some o → m < n1 ∧ o.names (fun n => decide (n < n1)) = true) (hro : ∀ m o, Hc' m = some o → o.isRo = true → Hc m = some o) (hv : v.names (fun n => decide (n < n1)) = true)
    (h : ∀ (L : LM) (w : World) (kind : CallKind) (cs : List Frame) (a : Cf), Asrt ⟨w, Handed Hc L, n0, L⟩ ⟨f, none, fn.ntmps⟩ (Tr.ofList args) [] Hc n0 hi a →
      ∃ (b : Cf) (T' : Tr V) (nx' hi' : Nat) (todo : List Item), Asrt ⟨w, Handed Hc L, n0, L⟩ ⟨f, none, fn.ntmps⟩ T' [] Hc' nx' hi' b ∧ (T'.get t).getD undefV = v ∧ Steps P (At ⟨f, none, fn.ntmps⟩ none kind cs a [.code c]) (At ⟨f, none, fn.ntmps⟩ none kind cs b todo) ∧
        (todo = [] ∨ ∃ k, todo = .code .ret :: k)) : CallH P f args n0 Hc v n1 Hc' := by
  intro L w kind cs av hSR hav
  obtain ⟨a, haw, hent, hA⟩ := enter_asrt (hi := hi) hf hb hnt hlen hSR hav (Handed Hc L) (fun b hb => .inr hb) kind cs
  obtain ⟨b, T', nx', hi', todo, ⟨D, L', g1, g2, g3, g4, g5, g6⟩, e1, e2, e3⟩ := h L w kind cs a hA
  obtain ⟨tt, e4⟩ := leave_steps (P := P) (fr := ⟨f, none, fn.ntmps⟩) (kind := kind) (cs := cs) (b := b) e3
  have hC := g2 L' (.refl _ _)
  refine ⟨L', b.w, b.arr.getD t undef, ⟨fun m hm => ((g6 m hm).2).symm, g4.size, fun k hk hn => g4.old k hk ?_, fun n o k ho hr hk => ?_, g4.os, g4.tape, g4.output, hro⟩, ?_, ?_, _, by rw [hent]; exact e2.trans e4, rfl, hC.2.1, rfl, rfl, fn, hf, results_one hres _ _⟩
  · rintro ⟨m, o, h1, h2, h3⟩
    exact hn m o h1 h2 h3
  · rcases g5 n o k ho hr hk with h1 | ⟨m, om, h1, h2, h3⟩
    · exact .inl h1
    · exact .inr ⟨m, om, h1, h2, h3⟩
  · intro L'' hL''
    have h0 := g1 L' (.refl _ _)
    refine ⟨fun m o ho => ObR_names (p := fun n => decide (n < n1)) (fun n hn => hL'' n (by simpa using hn)) (by simpa using (hnew m o ho).1) (hnew m o ho).2 (h0.ob m o ho), fun n m on om hn hm hne hr hbl => ?_⟩
    rw [← hL'' n (hnew n on hn).1, ← hL'' m (hnew m om hm).1]
    rw [← hL'' n (hnew n on hn).1] at hbl
    exact h0.inj n m on om hn hm hne hr hbl
  · intro L'' hL''
    rw [hC.1.2 t, e1]
    exact den_names (p := fun n => decide (n < n1)) (fun n hn => hL'' n (by simpa using hn)) v hv

/-- A contract out of a run. -/
theorem callH_run {f : FuncId} {args : List V} {s s' : St} {v vc : V} (h : CallOK P f args s v s') {n0 n1 : Nat} (hn0 : s.nx = n0) {Hc : Nat → Option Ob} (hHc : ∀ m, s.H.get m = Hc m) {Hc' : Nat → Option Ob} (π : Nat → Nat)
    (hπ0 : ∀ m, m < n0 → π m = m) (hπ : ∀ m, m < n1 → π m < s'.nx) (hinj : ∀ m n, m < n1 → n < n1 → m ≠ n → π m ≠ π n)
    (hH : ∀ m o, Hc' m = some o → o.plain = true ∧ m < n1 ∧ o.names (fun n => decide (n < n1)) = true ∧ s'.H.get (π m) = some (o.ren π)) (hro : ∀ m o, Hc' m = some o → o.isRo = true → Hc m = some o)
    (hv : v = vc.ren π) (hvn : vc.names (fun n => decide (n < n1)) = true) : CallH P f args n0 Hc vc n1 Hc' := by
  have hHc' : s.H.get = Hc := funext hHc
  intro L w kind cs av hSR hav
  rw [← hHc'] at hSR
  obtain ⟨L', w', val, m1, m2, m3, fr', m4, m5⟩ := h (fun n => n < n0) L w kind cs av hSR hav (fun n hn => .inl (by rw [hn0]; exact hn))
  have hg : ∀ m, m < s'.nx → Grow (fun n => n < n0) s.nx s'.nx m := fun m hm => by
    by_cases h1 : m < n0
    · exact .inl h1
    · exact .inr ⟨by omega, hm⟩
  have hold : ∀ m o, Hc' m = some o → o.isRo = false → ∀ b, (L' (π m)).blk = some b → w.heap.size ≤ b ∨ ∃ k ok, Hc k = some ok ∧ ok.isRo = false ∧ (L k).blk = some b := by
    intro m o ho hr b hb
    have := m1.sub (π m) _ b (hH m o ho).2.2.2 (by rw [isRo_ren]; exact hr) hb
    rw [hHc'] at this
    exact this
  refine ⟨fun m => L' (π m), w', val, ⟨fun m hm => ?_, m1.size, ?_, fun n o b ho hr hb => hold n o ho hr b hb, m1.os, m1.tape, m1.output, hro⟩, ?_, fun L'' hL'' => ?_, fr', m4, m5⟩
  · show L m = L' (π m)
    rw [hπ0 m hm]; exact m1.agree m hm
  · intro b hb hn
    exact m1.frame b hb (by rw [hHc']; exact hn)
  · refine m2.take (fun m hm => hg _ (hπ m hm)) (fun m o ho => ⟨(hH m o ho).1, (hH m o ho).2.1, (hH m o ho).2.2.2⟩) (fun m o L1 L2 ho hA hR => ?_) (fun m n om on hm hn _ hne => hinj m n (hH m om hm).2.1 (hH n on hn).2.1 hne)
    exact ObR_names (names_lt hA) (by simpa using (hH m o ho).2.1) (hH m o ho).2.2.1 hR
  · rw [m3 L' (.refl _ _), hv, den_ren]
    exact den_names (names_lt hL'') vc hvn

/-- What was there stays. -/
abbrev Kept (W W' : World) : Prop := KeptBut (fun _ => False) W W'

/-- A law's call. -/
theorem calls_of {f : FuncId} {fn : Func} {c : Code} {t : Tmp} (hf : P.funcs[f]? = some fn) (hb : fn.body = some c) (hnt : fn.ntmps < big) (hres : fn.results = #[.tmp t]) {args : List V} (hlen : args.length ≤ fn.ntmps)
    {n0 hi : Nat} {Hc : Nat → Option Ob} {L : LM} {w : World} {x : Bool} (hSR : SR (fun n => n < n0) L Hc w) (hro : ∀ m o, Hc m = some o → o.isRo = true) {av : Array Value} (hav : ∀ L', Agree (fun n => n < n0) L L' → av.toList = args.map (V.den L'))
    (h : ∀ (cs : List Frame) (a : Cf), Asrt ⟨w, fun _ => False, n0, L⟩ ⟨f, none, fn.ntmps⟩ (Tr.ofList args) [] Hc n0 hi a →
      ∃ (b : Cf) (T' : Tr V) (Hc' : Nat → Option Ob) (nx' hi' : Nat) (todo : List Item), Asrt ⟨w, fun _ => False, n0, L⟩ ⟨f, none, fn.ntmps⟩ T' [] Hc' nx' hi' b ∧ (T'.get t).getD undefV = .bool x ∧ Steps P (At ⟨f, none, fn.ntmps⟩ none .normal cs a [.code c]) (At ⟨f, none, fn.ntmps⟩ none .normal cs b todo) ∧
        (todo = [] ∨ ∃ k, todo = .code .ret :: k)) : Calls P f av w fun e w' => e = .returned (.bool x) ∧ Kept w w' := by
  intro cs
  obtain ⟨a, haw, hent, hA⟩ := enter_asrt (hi := hi) hf hb hnt hlen hSR hav (fun _ => False) (fun b hb => by
    obtain ⟨m, o, h1, h2, _⟩ := hb
    rw [hro m o h1] at h2; cases h2) .normal cs
  obtain ⟨b, T', Hc', nx', hi', todo, ⟨D, L', g1, g2, g3, g4, g5, g6⟩, e1, e2, e3⟩ := h cs a hA
  obtain ⟨tt, e4⟩ := leave_steps (P := P) (fr := ⟨f, none, fn.ntmps⟩) (kind := .normal) (cs := cs) (b := b) e3
  have hC := g2 L' (.refl _ _)
  refine ⟨.returned (.bool x), b.w, _, ⟨rfl, g4⟩, by rw [hent]; exact e2.trans e4, rfl, rfl, hC.2.1, rfl, fn, hf, ?_⟩
  rw [results_one hres]
  have : (Out ⟨f, none, fn.ntmps⟩ none .normal b.arr tt b.dv).tmps = b.arr := rfl
  rw [this, hC.1.2 t, e1]; rfl

end
end Go.Sx
