/- Operations that make memory or write it. -/
import Derived.Test.YtmmcpgjfkphgaaaGreatSxG
namespace Go.Sx
section
variable {P : Program} {E : Env}

theorem single_one {v : V} (h : v.single = true) (L : LM) : (v.den L).oneCell' = true := by
  cases v <;> first | (simp [V.single] at h; done) | rfl | skip
  · rename_i n es; simp only [V.den]; cases (L n).blk <;> rfl
  · rename_i n es bs st l; simp only [V.den]; cases (L n).blk <;> rfl

theorem splice_list {α : Type} (l : List α) (p : Nat) (v : α) (vs : List α) (h : p < l.length) :
    (l.take p ++ v :: l.drop (p + 1)).take (p + 1) ++ vs ++ (l.take p ++ v :: l.drop (p + 1)).drop (p + 1 + vs.length) = l.take p ++ (v :: vs) ++ l.drop (p + (v :: vs).length) := by
  have hl : (l.take p).length = p := List.length_take_of_le (by omega)
  have e1 : (l.take p ++ v :: l.drop (p + 1)).take (p + 1) = l.take p ++ [v] := by
    rw [List.take_append, hl, List.take_of_length_le (by omega), show p + 1 - p = 1 by omega]; rfl
  have e2 : (l.take p ++ v :: l.drop (p + 1)).drop (p + 1 + vs.length) = l.drop (p + (v :: vs).length) := by
    rw [List.drop_append, hl, List.drop_of_length_le (by omega), show p + 1 + vs.length - p = vs.length + 1 by omega, List.nil_append, List.drop_succ_cons, List.drop_drop]
    simp only [List.length_cons]; congr 1; omega
  rw [e1, e2]; simp

theorem Body.wrtN_ok {idx size : Nat} : ∀ (vs : List V) (b b' : Body) (off : Nat) (s s' : St), Body.wrtN idx size b vs off s = some (b', s') → Obl s' →
    (∀ v ∈ vs, v.single = true) ∧ (vs = [] ∨ idx * size + off + vs.length ≤ b.flat.length) ∧ b'.flat = (if vs = [] then b.flat else b.flat.take (idx * size + off) ++ vs ++ b.flat.drop (idx * size + off + vs.length)) ∧ (∀ es, b'.count es = b.count es) ∧ Quiet s s' := by
  intro vs
  induction vs with
  | nil => intro b b' off s s' h ho; simp only [Body.wrtN] at h; cases h; exact ⟨by simp, .inl rfl, by simp, fun _ => rfl, .refl ho⟩
  | cons v vs ih =>
    intro b b' off s s' h ho
    simp only [Body.wrtN] at h
    obtain ⟨⟨b1, s1⟩, h1, h2⟩ := bind_some' h
    obtain ⟨g1, g2, g3, g4, g5⟩ := ih b1 b' _ s1 s' h2 ho
    obtain ⟨f1, f2, f3, f4, f5⟩ := Body.wrt_ok h1 g5.2
    refine ⟨by intro x hx; simp at hx; rcases hx with rfl | hx; exact f3; exact g1 x hx, .inr ?_, ?_, fun es => (g4 es).trans (f4 es), f5.trans g5.1⟩
    · rcases g2 with rfl | g2
      · simp; omega
      · rw [f1, List.length_set] at g2; simp only [List.length_cons]; simp only [Nat.succ_eq_add_one] at g2; omega
    · rw [if_neg (by simp), g3]
      generalize hp : idx * size + off = p at *
      have hp1 : idx * size + Nat.succ off = p + 1 := by rw [← hp]; rfl
      rw [hp1] at g2
      rw [hp1]
      have hset : b.flat.set p v = b.flat.take p ++ v :: b.flat.drop (p + 1) := List.set_eq_take_append_cons_drop.trans (by rw [if_pos f2])
      split
      · rename_i he; subst he; rw [f1, hset]; simp
      · rename_i he
        rw [f1, hset]
        exact splice_list _ _ _ _ f2

/-- Where a block of cells lies. -/
theorem mem_at {L : LM} {w : World} {n : Nat} {b : Body} {t : TypeId} {op : Option Nat} (h : ObR L w n (.mem b t op)) (hne : 0 < b.flat.length) :
    ∃ k cur, (L n).blk = some k ∧ (L n).off = 0 ∧ w.heap[k]? = some (.cells cur t (0, 0)) ∧ cur.toList.take b.flat.length = cellsOf L b ∧ b.flat.length ≤ cur.size ∧ (op = none → cur.size = b.flat.length) := by
  cases op with
  | none =>
    obtain ⟨k, h1, h2, h3⟩ := h
    exact ⟨k, _, h1, h2, h3, List.take_of_length_le (by simp [cellsOf]), by simp [cellsOf], fun _ => by simp [cellsOf]⟩
  | some es =>
    obtain ⟨h1, h2, h3, h⟩ := h
    rcases h with ⟨_, h4, _⟩ | ⟨k, cur, h4, h5, h6, h7, h8, h9⟩
    · rw [h3, h4] at hne; omega
    · refine ⟨k, cur, h4, h1, h5, by rw [h3]; exact h9, ?_, fun h => by cases h⟩
      rw [h3, h8]; exact Nat.mul_le_mul_right _ h6

theorem storeX_ok (hE : EnvOK P E) {t : TypeId} {a v : V} {s s' : St} (h : storeX E t a v s = some s') (ho : Obl s') :
    Lg s s' ∧ Obl s ∧ s'.nx = s.nx ∧ ∀ (D : Nat → Prop) (L : LM) (w : World) (av vv : Value), (∀ L', Agree D L L' → av = a.den L' ∧ vv = v.den L') → SR D L s.H.get w →
      ∃ w', Mv D L s.H.get w L s'.H.get w' ∧ SR D L s'.H.get w' ∧ (Instr.storeAt t av vv).run P w = .ok () w' := by
  unfold storeX at h
  split at h
  · rename_i n idx size off
    obtain ⟨ti, hti, h⟩ := bind_some' h
    split at h
    · rename_i b bt op hg
      obtain ⟨_, h0, h1⟩ := bind_some' h
      obtain ⟨_, h0', h1'⟩ := bind_some' h1
      obtain ⟨⟨b', s1⟩, h2, h3⟩ := bind_some' h1'
      clear h h1 h1'
      obtain ⟨u1, u2, u3, u4⟩ := upd_ok h3
      have ho1 : Obl s1 := fun x hx => ho x (by rw [u3]; exact hx)
      obtain ⟨g1, g2, g3, g4, g5⟩ := Body.wrtN_ok _ _ _ _ _ _ h2 ho1
      have hlen : v.cells.length = ti.size := Nat.beq_eq.mp (chk_some h0)
      have hpos : 0 < v.cells.length := by have := Nat.blt_eq.mp (chk_some h0'); omega
      have hne : v.cells ≠ [] := fun e => by rw [e] at hpos; simp at hpos
      have hfit : idx * size + off + v.cells.length ≤ b.flat.length := g2.resolve_left hne
      rw [if_neg hne] at g3
      have hlg : Lg s s' := (Lg.of_same g5.1).trans (.upd h3)
      refine ⟨hlg, g5.2, by rw [u1, g5.1.nx], fun D L w av vv hav hSR => ?_⟩
      have hT := hE.ty _ _ hti
      obtain ⟨i, zv, d, hi, hs, hb, hzv, hzz, hu, hag, hk⟩ := hT.info
      obtain ⟨ea, evv⟩ := hav L (.refl _ _)
      have hR := (hSR L (.refl _ _)).ob n _ hg
      obtain ⟨k, cur, e1, e2, e3, e4, e5, e6⟩ := mem_at hR (by omega)
      generalize hp : idx * size + off = p at *
      have hvc : vv.cells.toList = v.cells.map (V.den L) := by rw [evv, cells_den]
      have hvl : vv.cells.toList.length = v.cells.length := by rw [hvc, List.length_map]
      have hone : ∀ x ∈ vv.cells.toList, x.oneCell' = true := by
        rw [hvc]; intro x hx; obtain ⟨y, hy, rfl⟩ := List.mem_map.1 hx; exact single_one (g1 y hy) L
      have hst := run_storeCells_at P k p bt vv.cells.toList 0 cur w e3 (by rw [hvl]; omega) hone
      simp only [Nat.add_zero] at hst
      have hrun : (Instr.storeAt t av vv).run P w = .ok () (w.setRow k (cur.toList.take p ++ vv.cells.toList ++ cur.toList.drop (p + vv.cells.toList.length)).toArray) := by
        rw [ea]
        have hsz : vv.cells.size = i.size := by rw [hs, ← hlen, ← hvl, Array.length_toList]
        simp only [Instr.storeAt, V.den, Instr.sureAddr, Sem.run_bind, Sem.run_pure, Result.andThen_ok, storeVar, run_sizeOf' hi, hsz, ne_eq, not_true_eq_false, if_false, e1, e2, Option.getD_some, Nat.zero_add, hp, hst]
      have hH : ∀ m, s'.H.get m = if m = n then some (.mem b' bt op) else s.H.get m := by intro m; rw [u4 m, g5.1.H]
      have hmv := write_mv (w' := w.setRow k (cur.toList.take p ++ vv.cells.toList ++ cur.toList.drop (p + vv.cells.toList.length)).toArray) hSR hg rfl (o' := .mem b' bt op) rfl e1 hH (setRow_size _ _ _) (fun b hb => setRow_other _ _ _ _ hb) ⟨rfl, rfl, rfl⟩ (by
        intro L' hL' hHR
        have hR' := hHR.ob n _ hg
        have hln : L n = L' n := hL' n (hSR.live hg)
        obtain ⟨k', cur', f1, f2, f3, f4, f5, f6⟩ := mem_at hR' (by omega)
        rw [← hln, e1] at f1
        cases f1
        rw [e3] at f3
        cases f3
        obtain ⟨_, evv'⟩ := hav L' hL'
        have hvc' : vv.cells.toList = v.cells.map (V.den L') := by rw [evv', cells_den]
        have hfl : b'.flat.length = b.flat.length := by rw [g3]; simp; omega
        have htk : (cur.toList.take p ++ vv.cells.toList ++ cur.toList.drop (p + vv.cells.toList.length)).take b.flat.length = cellsOf L' b' := by
          have hl1 : (cur.toList.take p).length = p := List.length_take_of_le (by simp; omega)
          rw [List.take_append, List.length_append, hl1, hvl]
          rw [List.take_of_length_le (l := cur.toList.take p ++ vv.cells.toList) (by rw [List.length_append, hl1, hvl]; omega)]
          unfold cellsOf
          rw [g3]
          simp only [List.map_append, hvc']
          have h7 : List.map (V.den L') b.flat = cur.toList.take b.flat.length := f4.symm
          rw [List.map_take, List.map_drop, h7, List.take_take, List.drop_take]
          congr 2
          · congr 1; congr 1; omega
        have hh := setRow_heap w k cur (cur.toList.take p ++ vv.cells.toList ++ cur.toList.drop (p + vv.cells.toList.length)).toArray bt (0, 0) e3
        have hsz : (cur.toList.take p ++ vv.cells.toList ++ cur.toList.drop (p + vv.cells.toList.length)).length = cur.size := by
          rw [List.length_append, List.length_append, List.length_take, List.length_drop, hvl, Array.length_toList]; omega
        cases op with
        | none =>
          refine ⟨k, by rw [← hln]; exact e1, by rw [← hln]; exact e2, ?_⟩
          have h9 := htk
          rw [List.take_of_length_le (Nat.le_of_eq (hsz.trans (e6 rfl)))] at h9
          rw [hh, h9]
        | some es =>
          obtain ⟨q1, q2, q3, q4⟩ := hR'
          refine ⟨q1, by rw [g4]; exact q2, by rw [hfl]; exact q3, .inr ⟨k, _, by rw [← hln]; exact e1, hh, ?_⟩⟩
          rcases q4 with ⟨q5, _⟩ | ⟨k2, cur2, q5, q6, q7, q8, q9, q10⟩
          · rw [← hln, e1] at q5; cases q5
          · rw [← hln, e1] at q5
            cases q5
            rw [e3] at q6
            cases q6
            refine ⟨q7, q8, ?_, ?_⟩
            · rw [List.size_toArray, hsz]; exact q9
            · rw [← q3, ← hfl] at *
              simpa [hfl] using htk)
      exact ⟨_, hmv.1, hmv.2, hrun⟩
    · cases h
  · cases h

end
end Go.Sx
