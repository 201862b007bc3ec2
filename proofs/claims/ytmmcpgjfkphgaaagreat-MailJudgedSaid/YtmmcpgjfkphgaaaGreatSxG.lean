/- How memory moves: new blocks, stores. -/
import Derived.Test.YtmmcpgjfkphgaaaGreatSxF
import Derived.Laws.MakeOwn
import Derived.Laws.CopyRow
namespace Go.Sx

def Agree (D : Nat → Prop) (L L' : LM) : Prop := ∀ n, D n → L n = L' n
theorem Agree.refl (D : Nat → Prop) (L : LM) : Agree D L L := fun _ _ => rfl
theorem Agree.trans {D : Nat → Prop} {A B C : LM} (h : Agree D A B) (k : Agree D B C) : Agree D A C := fun n hn => (h n hn).trans (k n hn)
theorem Agree.mono {D D' : Nat → Prop} {A B : LM} (h : Agree D' A B) (hd : ∀ n, D n → D' n) : Agree D A B := fun n hn => h n (hd n hn)

/-- The blocks that are known, and those from one number on below another one. -/
def Grow (D : Nat → Prop) (lo hi : Nat) : Nat → Prop := fun n => D n ∨ (lo ≤ n ∧ n < hi)

/-- The symbolic memory stands, whatever the numbers that are not known stand for. -/
def SR (D : Nat → Prop) (L : LM) (H : Nat → Option Ob) (w : World) : Prop := ∀ L', Agree D L L' → HR L' H w

structure Mv (D : Nat → Prop) (L : LM) (H : Nat → Option Ob) (w : World) (L' : LM) (H' : Nat → Option Ob) (w' : World) : Prop where
  agree : Agree D L L'
  size : w.heap.size ≤ w'.heap.size
  frame : ∀ b, b < w.heap.size → (∀ n o, H n = some o → o.isRo = false → (L n).blk ≠ some b) → w'.heap[b]? = w.heap[b]?
  sub : ∀ n o b, H' n = some o → o.isRo = false → (L' n).blk = some b → w.heap.size ≤ b ∨ ∃ m om, H m = some om ∧ om.isRo = false ∧ (L m).blk = some b
  os : w'.os = w.os
  tape : w'.tape = w.tape
  output : w'.output = w.output
  ro : ∀ n o, H' n = some o → o.isRo = true → H n = some o

theorem Mv.refl (D : Nat → Prop) (L : LM) (H : Nat → Option Ob) (w : World) : Mv D L H w L H w :=
  ⟨.refl _ _, Nat.le_refl _, fun _ _ _ => rfl, fun n o b h hr hb => .inr ⟨n, o, h, hr, hb⟩, rfl, rfl, rfl, fun _ _ h _ => h⟩

theorem Mv.trans {D D' : Nat → Prop} {L L' L'' : LM} {H H' H'' : Nat → Option Ob} {w w' w'' : World} (hd : ∀ n, D n → D' n) (h : Mv D L H w L' H' w') (k : Mv D' L' H' w' L'' H'' w'') : Mv D L H w L'' H'' w'' where
  agree := h.agree.trans (k.agree.mono hd)
  size := Nat.le_trans h.size k.size
  frame := fun b hb hn => by
    rw [k.frame b (by have := h.size; omega) ?_, h.frame b hb hn]
    intro n o ho hr hbl
    rcases h.sub n o b ho hr hbl with h1 | ⟨m, om, h1, h2, h3⟩
    · omega
    · exact hn m om h1 h2 h3
  sub := fun n o b ho hr hbl => by
    rcases k.sub n o b ho hr hbl with h1 | ⟨m, om, h1, h2, h3⟩
    · exact .inl (Nat.le_trans h.size h1)
    · exact h.sub m om b h1 h2 h3
  os := k.os.trans h.os
  tape := k.tape.trans h.tape
  output := k.output.trans h.output
  ro := fun n o ho hr => h.ro n o (k.ro n o ho hr) hr

theorem SR.live {D : Nat → Prop} {L : LM} {H : Nat → Option Ob} {w : World} (h : SR D L H w) {n : Nat} {o : Ob} (ho : H n = some o) : D n := by
  refine Classical.byContradiction fun hn => ?_
  have := (h (fun m => if m = n then ⟨none, 1, 0, 0⟩ else L m) (fun m hm => by have : m ≠ n := fun e => hn (e ▸ hm); simp [this])).ob n o ho
  cases o with
  | mem b t op =>
    cases op with
    | none => obtain ⟨k, h1, _⟩ := this; simp at h1
    | some es => obtain ⟨h1, _⟩ := this; simp at h1
  | ro k ws => obtain ⟨k, h1, _⟩ := this; simp at h1
  | loop => obtain ⟨k, arr, h1, _⟩ := this; simp at h1
  | deferred ds => obtain ⟨k, h1, _⟩ := this; simp at h1

theorem ObR.blk_lt {L : LM} {w : World} {n : Nat} {o : Ob} (h : ObR L w n o) {b : Nat} (hb : (L n).blk = some b) : b < w.heap.size := by
  have key : ∀ x, w.heap[b]? = some x → b < w.heap.size := fun x hx => (Array.getElem?_eq_some_iff.1 hx).1
  cases o with
  | mem bd t op =>
    cases op with
    | none => obtain ⟨k, h1, _, h2⟩ := h; rw [hb] at h1; cases h1; exact key _ h2
    | some es =>
      obtain ⟨_, _, _, h⟩ := h
      rcases h with ⟨h1, _⟩ | ⟨k, cur, h1, h2, _⟩
      · rw [hb] at h1; cases h1
      · rw [hb] at h1; cases h1; exact key _ h2
  | ro k ws => obtain ⟨k, h1, h2, _⟩ := h; rw [hb] at h1; cases h1; exact h2
  | loop => obtain ⟨k, arr, h1, _, _, h2⟩ := h; rw [hb] at h1; cases h1; exact key _ h2
  | deferred ds => obtain ⟨k, h1, _, h2⟩ := h; rw [hb] at h1; cases h1; exact key _ h2

/-- What lies in a block stays where the block stays. -/
theorem ObR.keep {L : LM} {w w' : World} {n : Nat} {o : Ob} (h : ObR L w n o) (hsz : w.heap.size ≤ w'.heap.size) (hk : ∀ b, (L n).blk = some b → b < w.heap.size → w'.heap[b]? = w.heap[b]?) : ObR L w' n o := by
  have key : ∀ b x, (L n).blk = some b → w.heap[b]? = some x → w'.heap[b]? = some x := fun b x hb hx => (hk b hb (Array.getElem?_eq_some_iff.1 hx).1).trans hx
  cases o with
  | mem bd t op =>
    cases op with
    | none => obtain ⟨k, h1, h3, h2⟩ := h; exact ⟨k, h1, h3, key _ _ h1 h2⟩
    | some es =>
      obtain ⟨a, b, c, h⟩ := h
      refine ⟨a, b, c, ?_⟩
      rcases h with h | ⟨k, cur, h1, h2, h3⟩
      · exact .inl h
      · exact .inr ⟨k, cur, h1, key _ _ h1 h2, h3⟩
  | ro k ws =>
    obtain ⟨b, h1, hlt, h2⟩ := h
    refine ⟨b, h1, Nat.lt_of_lt_of_le hlt hsz, fun i hi => ?_⟩
    have h3 := h2 i hi
    rw [← h3]
    exact World.cell?_of_block (hk b h1 hlt)
  | loop => obtain ⟨k, arr, h1, h3, h4, h2⟩ := h; exact ⟨k, arr, h1, h3, h4, key _ _ h1 h2⟩
  | deferred ds => obtain ⟨k, h1, h3, h2⟩ := h; exact ⟨k, h1, h3, key _ _ h1 h2⟩

theorem new_ok {s s' : St} {o : Ob} {n : Nat} (h : s.new o = some (n, s')) : n = s.nx ∧ s'.nx = s.nx + 1 ∧ s'.wr = s.wr ∧ s'.obl = s.obl ∧ ∀ m, s'.H.get m = if m = s.nx then some o else s.H.get m := by
  unfold St.new at h
  obtain ⟨_, h0, h⟩ := bind_some' h
  cases h
  have hlt : s.nx < big := Nat.blt_eq.mp (chk_some h0)
  exact ⟨rfl, rfl, rfl, rfl, fun m => Tr.get_put _ _ _ _ hlt⟩
theorem upd_ok {s s' : St} {o : Option Ob} {n : Nat} (h : s.upd n o = some s') : s'.nx = s.nx ∧ s'.wr = n :: s.wr ∧ s'.obl = s.obl ∧ ∀ m, s'.H.get m = if m = n then o else s.H.get m := by
  unfold St.upd at h
  obtain ⟨_, h0, h⟩ := bind_some' h
  cases h
  have hlt : n < big := Nat.blt_eq.mp (chk_some h0)
  exact ⟨rfl, rfl, rfl, fun m => Tr.get_put _ _ _ _ hlt⟩

/-- What a step does to the symbolic state: new numbers, and a log of the numbers that were written. -/
structure Lg (s s' : St) : Prop where
  le : s.nx ≤ s'.nx
  log : ∃ l, s'.wr = l ++ s.wr ∧ ∀ n, n ∉ l → ¬ (s.nx ≤ n ∧ n < s'.nx) → s'.H.get n = s.H.get n

theorem Lg.refl (s : St) : Lg s s := ⟨Nat.le_refl _, [], rfl, fun _ _ _ => rfl⟩
theorem Lg.of_same {s s' : St} (h : Same s s') : Lg s s' := ⟨by rw [h.nx]; exact Nat.le_refl _, [], by rw [h.wr]; rfl, fun n _ _ => by rw [h.H]⟩
theorem Lg.trans {a b c : St} (h : Lg a b) (k : Lg b c) : Lg a c := by
  obtain ⟨h1, l, h2, h3⟩ := h
  obtain ⟨k1, m, k2, k3⟩ := k
  refine ⟨Nat.le_trans h1 k1, m ++ l, by rw [k2, h2, List.append_assoc], fun n hn hr => ?_⟩
  rw [k3 n (fun hh => hn (by simp [hh])) (fun hh => hr ⟨by omega, hh.2⟩), h3 n (fun hh => hn (by simp [hh])) (fun hh => hr ⟨hh.1, by omega⟩)]
theorem Lg.new {s s' : St} {o : Ob} {n : Nat} (h : s.new o = some (n, s')) : Lg s s' := by
  obtain ⟨_, h1, h2, _, h3⟩ := new_ok h
  exact ⟨by omega, [], by rw [h2]; rfl, fun m _ hm => by rw [h3, if_neg (fun e => hm (by omega))]⟩
theorem Lg.upd {s s' : St} {o : Option Ob} {n : Nat} (h : s.upd n o = some s') : Lg s s' := by
  obtain ⟨h1, h2, _, h3⟩ := upd_ok h
  exact ⟨by omega, [n], by rw [h2]; rfl, fun m hm _ => by rw [h3, if_neg (fun e => hm (by simp [e]))]⟩

/-- A new block of memory. -/
theorem alloc_mv {D : Nat → Prop} {L : LM} {H H' : Nat → Option Ob} {w w0 : World} {nx : Nat} {o : Ob} {x : Obj} {li : LI} (hro : o.isRo = false) (hSR : SR D L H w) (hD : ¬ D nx)
    (hH : ∀ m, H' m = if m = nx then some o else H m) (hw0 : w0.heap = w.heap ∧ w0.os = w.os ∧ w0.tape = w.tape ∧ w0.output = w.output) (hb : li.blk = some w.heap.size)
    (ho : ∀ L', Agree (Grow D nx (nx + 1)) (fun m => if m = nx then li else L m) L' → ObR L' (w0.alloc x) nx o) :
    Mv D L H w (fun m => if m = nx then li else L m) H' (w0.alloc x) ∧ SR (Grow D nx (nx + 1)) (fun m => if m = nx then li else L m) H' (w0.alloc x) := by
  have hsz : (w0.alloc x).heap.size = w.heap.size + 1 := by simp [hw0.1]
  have hold : ∀ b, b < w.heap.size → (w0.alloc x).heap[b]? = w.heap[b]? := by
    intro b hb
    rw [← hw0.1]
    exact heap_alloc_old w0 x b (by rw [hw0.1]; exact hb)
  refine ⟨⟨fun n hn => by have : n ≠ nx := fun e => hD (e ▸ hn); simp [this], by omega, fun b hb _ => hold b hb, ?_, hw0.2.1, hw0.2.2.1, hw0.2.2.2, fun n o' ho' hr' => by
    rw [hH] at ho'
    split at ho'
    · cases ho'; rw [hro] at hr'; cases hr'
    · exact ho'⟩, ?_⟩
  · intro n o' b ho' hr' hbl
    by_cases hn : n = nx
    · subst hn
      simp only [if_true, hb] at hbl
      cases hbl
      exact .inl (Nat.le_refl _)
    · rw [hH, if_neg hn] at ho'
      simp only [if_neg hn] at hbl
      exact .inr ⟨n, o', ho', hr', hbl⟩
  · intro L' hL'
    have hag : Agree D L L' := fun n hn => by
      have := hL' n (.inl hn)
      have hne : n ≠ nx := fun e => hD (e ▸ hn)
      simpa [hne] using this
    have hnx : L' nx = li := by have := hL' nx (.inr ⟨Nat.le_refl _, Nat.lt_succ_self _⟩); simpa using this.symm
    have h0 := hSR L' hag
    refine ⟨fun n o' ho' => ?_, fun n m on om hn hm hne hr hbl => ?_⟩
    · by_cases hn : n = nx
      · subst hn
        rw [hH, if_pos rfl] at ho'
        cases ho'
        exact ho L' hL'
      · rw [hH, if_neg hn] at ho'
        exact (h0.ob n o' ho').keep (by omega) fun b _ hb => hold b hb
    · have hlt : ∀ m om, m ≠ nx → H' m = some om → ∀ b, (L' m).blk = some b → b < w.heap.size := by
        intro m om hm ho' b hb'
        rw [hH, if_neg hm] at ho'
        exact (h0.ob m om ho').blk_lt hb'
      by_cases h1 : n = nx
      · subst h1
        rw [hnx, hb]
        intro h2
        have := hlt m om (fun e => hne e.symm) hm _ h2.symm
        omega
      · by_cases h2 : m = nx
        · subst h2
          rw [hnx, hb]
          intro h3
          have := hlt n on h1 hn _ h3
          omega
        · rw [hH, if_neg h1] at hn
          rw [hH, if_neg h2] at hm
          exact h0.inj n m on om hn hm hne hr hbl

/-- Numbers that are named no more. -/
theorem SR.sub {D : Nat → Prop} {L : LM} {H H' : Nat → Option Ob} {w : World} (h : SR D L H w) (hs : ∀ n o, H' n = some o → H n = some o) : SR D L H' w :=
  fun L' hL' => let h0 := h L' hL'; ⟨fun n o ho => h0.ob n o (hs n o ho), fun n m on om hn hm => h0.inj n m on om (hs _ _ hn) (hs _ _ hm)⟩

/-- A block is written. -/
theorem write_mv {D : Nat → Prop} {L : LM} {H H' : Nat → Option Ob} {w w' : World} {n : Nat} {o o' : Ob} {k : Nat} (hSR : SR D L H w) (hn : H n = some o) (hro : o.isRo = false) (hro' : o'.isRo = false)
    (hk : (L n).blk = some k) (hH : ∀ m, H' m = if m = n then some o' else H m) (hsz : w'.heap.size = w.heap.size) (hoth : ∀ b, b ≠ k → w'.heap[b]? = w.heap[b]?)
    (hos : w'.os = w.os ∧ w'.tape = w.tape ∧ w'.output = w.output) (ho : ∀ L', Agree D L L' → HR L' H w → ObR L' w' n o') :
    Mv D L H w L H' w' ∧ SR D L H' w' := by
  refine ⟨⟨.refl _ _, by omega, fun b hb hnn => hoth b (fun e => hnn n o hn hro (by rw [hk, e])), ?_, hos.1, hos.2.1, hos.2.2, fun m om hm hr => by
    rw [hH] at hm
    split at hm
    · cases hm; rw [hro'] at hr; cases hr
    · exact hm⟩, ?_⟩
  · intro m om b hm hr hbl
    by_cases h1 : m = n
    · subst h1; exact .inr ⟨m, o, hn, hro, hbl⟩
    · rw [hH, if_neg h1] at hm; exact .inr ⟨m, om, hm, hr, hbl⟩
  · intro L' hL'
    have h0 := hSR L' hL'
    have hk' : (L' n).blk = some k := by rw [← hL' n (hSR.live hn)]; exact hk
    refine ⟨fun m om hm => ?_, fun m p om op hm hp hne hr hbl => ?_⟩
    · by_cases h1 : m = n
      · subst h1; rw [hH, if_pos rfl] at hm; cases hm; exact ho L' hL' h0
      · rw [hH, if_neg h1] at hm
        refine (h0.ob m om hm).keep (by omega) fun b hb _ => hoth b ?_
        intro e
        subst e
        exact h0.inj n m o om hn hm (fun e => h1 e.symm) hro (by rw [hk']; simp) (by rw [hk', hb])
    · by_cases h1 : m = n
      · subst h1
        rw [hH, if_neg (fun e => hne e.symm)] at hp
        exact h0.inj m p o op hn hp hne hro hbl
      · rw [hH, if_neg h1] at hm
        by_cases h2 : p = n
        · subst h2
          exact h0.inj m p om o hm hn hne hr hbl
        · rw [hH, if_neg h2] at hp
          exact h0.inj m p om op hm hp hne hr hbl

end Go.Sx
