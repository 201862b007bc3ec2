/- Operations that only compute and read. -/
import Derived.Test.YtmmcpgjfkphgaaaGreatSxD
namespace Go.Sx
section
variable {P : Program} {E : Env}

theorem cells_den (L : LM) (v : V) : (v.den L).cells = (v.cells.map (V.den L)).toArray := by
  cases v <;> simp [V.den, Value.cells, V.cells, denL_eq]
  · rename_i n es; cases (L n).blk <;> rfl
  · rename_i n es base start len; cases (L n).blk <;> rfl

theorem layAt_ok (L : LM) : ∀ (vs : List V) (off : Nat) (cs cs' : List V) (k : Nat), layAt cs (off + k) vs = some cs' →
    cs'.length = cs.length ∧
    (((vs.map (V.den L)).zipIdx k).foldl (fun (cs : Array Value) (p : Value × Nat) => cs.setIfInBounds (off + p.2) p.1) (cs.map (V.den L)).toArray) = (cs'.map (V.den L)).toArray := by
  intro vs
  induction vs with
  | nil => intro off cs cs' k h; simp only [layAt] at h; cases h; simp
  | cons v vs ih =>
    intro off cs cs' k h
    simp only [layAt] at h
    obtain ⟨x, hx, h⟩ := bind_some' h
    rw [setNth_eq] at h
    obtain ⟨h2, h3⟩ := ih off _ _ (k + 1) h
    simp only [List.length_set] at h2
    refine ⟨h2, ?_⟩
    simp only [List.map_cons, List.zipIdx_cons, List.foldl_cons]
    rw [← h3]
    congr 1
    apply Array.ext'
    simp [List.map_set]

theorem fillX_ok (L : LM) (place : Nat → Option (Nat × Nat)) (place' : Nat → Option (Nat × Nat)) (hp : ∀ i x, place i = some x → place' i = some x) :
    ∀ (ps : List (Nat × V)) (cs cs' : List V), fillX place cs ps = some cs' →
      cs'.length = cs.length ∧ Instr.fill place' (cs.map (V.den L)).toArray (ps.map fun p => (p.1, p.2.den L)) = some (cs'.map (V.den L)).toArray := by
  intro ps
  induction ps with
  | nil => intro cs cs' h; simp only [fillX] at h; cases h; exact ⟨rfl, rfl⟩
  | cons p ps ih =>
    obtain ⟨i, v⟩ := p
    intro cs cs' h
    simp only [fillX] at h
    obtain ⟨⟨off, size⟩, h0, h⟩ := bind_some' h
    obtain ⟨_, h1, h⟩ := bind_some' h
    obtain ⟨_, h1', h⟩ := bind_some' h
    obtain ⟨cs1, h2, h⟩ := bind_some' h
    have hl : v.cells.length = size := Nat.beq_eq.mp (chk_some h1)
    have hb : off + size ≤ cs.length := Nat.ble_eq.mp (chk_some h1')
    obtain ⟨g2, g3⟩ := layAt_ok L v.cells off cs cs1 0 h2
    obtain ⟨i1, i2⟩ := ih _ _ h
    refine ⟨i1.trans g2, ?_⟩
    simp only [List.map_cons, Instr.fill, hp _ _ h0]
    have hsz : (v.den L).cells.size = size := by rw [cells_den]; simp [hl]
    rw [if_neg (by rw [hsz]; simp; omega)]
    rw [← i2]
    congr 1
    rw [cells_den, ← g3]
    simp

theorem szd_size {t : TypeId} {n : Nat} {ag : Bool} (h : Szd P t n ag) (w : World) : (sizeOf t).run P w = .ok n w := by
  obtain ⟨i, d, hi, hs, _, _⟩ := h
  rw [run_sizeOf' hi, hs]
theorem szd_agg {t : TypeId} {n : Nat} {ag : Bool} (h : Szd P t n ag) (w : World) : (isAgg t).run P w = .ok ag w := by
  obtain ⟨i, d, _, _, hu, ha⟩ := h
  rw [run_isAgg' hu, ha]

theorem zeros_eq {b : Body} {z : List V} (h : zeros b = some z) : b.flat = z := by
  unfold zeros at h
  split at h
  · cases h; rfl
  · cases h

theorem buildX_ok (hE : EnvOK P E) {t : TypeId} {ps : List (Nat × V)} {v : V} (h : buildX E t ps = some v) (L : LM) (w : World) :
    (Instr.build t (ps.map fun p => (p.1, p.2.den L)).toArray).run P w = .ok (v.den L) w := by
  unfold buildX at h
  obtain ⟨ti, hti, h⟩ := bind_some' h
  obtain ⟨z, hz, h⟩ := bind_some' h
  have hT := hE.ty _ _ hti
  obtain ⟨i, zv, d, hi, hs, hb, hzv, hzz, hu, hag, hk⟩ := hT.info
  have hzc : zv.cells = (z.map (V.den L)).toArray := by
    apply Array.ext'
    rw [hzz L, cellsOf, zeros_eq hz]
  split at h
  · rename_i fs hkd
    rw [hkd] at hk
    obtain ⟨fields, rfl, hfl, hf⟩ := hk
    obtain ⟨cs, hc, h⟩ := bind_some' h
    cases h
    have hpl : ∃ places, fields.toList.mapM (fun f => (P.info? f.type).map fun i => (f.offset, i.size)) = some places ∧ ∀ (i o sz : Nat) (ag : Bool), fs[i]? = some (o, sz, ag) → places[i]? = some (o, sz) := by
      clear hc hT
      have key : ∀ (fl : List Field) (fs : List (Nat × Nat × Bool)), fl.length = fs.length → (∀ (i o sz : Nat) (ag : Bool), fs[i]? = some (o, sz, ag) → ∃ f : Field, fl[i]? = some f ∧ f.offset = o ∧ Szd P f.type sz ag) →
          ∃ places, fl.mapM (fun f => (P.info? f.type).map fun i => (f.offset, i.size)) = some places ∧ ∀ (i o sz : Nat) (ag : Bool), fs[i]? = some (o, sz, ag) → places[i]? = some (o, sz) := by
        intro fl
        induction fl with
        | nil => intro fs hl hf; cases fs with
          | nil => exact ⟨[], rfl, fun i o sz ag h => by simp at h⟩
          | cons _ _ => simp at hl
        | cons f fl ih =>
          intro fs hl hf
          cases fs with
          | nil => simp at hl
          | cons x fs =>
            obtain ⟨o, sz, ag⟩ := x
            obtain ⟨f', h1, h2, i, d, h3, h4, _⟩ := hf 0 o sz ag rfl
            simp at h1; subst h1
            obtain ⟨pl, h5, h6⟩ := ih fs (by simpa using hl) (fun i o sz ag hh => by have := hf (i + 1) o sz ag (by simpa using hh); simpa using this)
            refine ⟨(o, sz) :: pl, ?_, ?_⟩
            · simp [List.mapM_cons, h3, h5, h2, h4]
            · intro i o' sz' ag' hh
              cases i with
              | zero => simp at hh; obtain ⟨rfl, rfl, rfl⟩ := hh; rfl
              | succ i => simp at hh; simpa using h6 i o' sz' ag' hh
      exact key fields.toList fs (by simpa using hfl) (fun i o sz ag hh => by simpa using hf i o sz ag hh)
    obtain ⟨places, hp1, hp2⟩ := hpl
    have := (fillX_ok L _ (fun x => places.toArray[x]?) (fun i x hx => by
      obtain ⟨⟨o, sz, ag⟩, h1, h2⟩ := bind_some' hx
      rw [nth_eq] at h1
      cases h2
      simpa using hp2 _ _ _ _ h1) ps z cs hc).2
    have hb := run_build (P := P) w t (ps.map fun p => (p.1, p.2.den L)).toArray (cs.map (V.den L)).toArray (by
      unfold Program.built
      simp only [hi, hu, hzv, hp1, hzc]
      simpa using this)
    rw [hb]; simp [V.den, denL_eq]
  · rename_i n es ag hkd
    rw [hkd] at hk
    obtain ⟨e, rfl, ie, de, hie, hes, _⟩ := hk
    obtain ⟨cs, hc, h⟩ := bind_some' h
    cases h
    have := (fillX_ok L _ (fun i => some (i * ie.size, ie.size)) (fun i x hx => by cases hx; rw [hes]; rfl) ps z cs hc).2
    have hb := run_build (P := P) w t (ps.map fun p => (p.1, p.2.den L)).toArray (cs.map (V.den L)).toArray (by
      unfold Program.built
      simp only [hi, hu, hzv, hie, hzc]
      simpa using this)
    rw [hb]; simp [V.den, denL_eq]
  · cases h

theorem pickX_ok {c a b v : V} {s s' : St} (h : pickX c a b s = some (v, s')) (ho : Obl s') :
    Quiet s s' ∧ ∀ L, ∃ t, c = .bool t ∧ v.den L = if t then a.den L else b.den L := by
  unfold pickX at h
  split at h
  · rename_i t
    split at h
    · rename_i x y
      cases h
      exact ⟨.refl ho, fun L => ⟨t, rfl, by cases t <;> rfl⟩⟩
    · split at h
      · rename_i s1 hd
        cases h
        obtain ⟨h1, h2⟩ := dec_ok hd ho
        exact ⟨h2, fun L => ⟨t, rfl, by rw [← h1]; rfl⟩⟩
      · rename_i s1 hd
        cases h
        obtain ⟨h1, h2⟩ := dec_ok hd ho
        exact ⟨h2, fun L => ⟨t, rfl, by rw [← h1]; rfl⟩⟩
  · cases h

theorem asInt_ok {v : V} {z : Int} (h : asInt v = some z) : ∃ k, v = .int k z := by
  unfold asInt at h
  split at h
  · cases h; exact ⟨_, rfl⟩
  · cases h

theorem binX_ok {op : BinOp} {t : TypeId} {x y : Operand} {a b v : V} {s s' : St} (h : binX op a b s = some (v, s')) (ho : Obl s') :
    Quiet s s' ∧ ∀ L (w : World), ((do eqGuard op t x y (a.den L) (b.den L); binOp op t (a.den L) (b.den L)) : Sem Value).run P w = .ok (v.den L) w := by
  unfold binX at h
  split at h
  · rename_i k p k' q
    have hg : ∀ L (w : World), (eqGuard op t x y ((V.int k p).den L) ((V.int k' q).den L)).run P w = .ok () w := by
      intro L w
      simp only [eqGuard, V.den]
      split <;> rfl
    split at h
    · obtain ⟨s1, h1, h⟩ := bind_some' h
      cases h
      obtain ⟨hd, hq⟩ := need_ok h1 ho
      have hd' : ¬ q < 0 := by simpa using hd
      refine ⟨hq, fun L w => ?_⟩
      rw [Sem.run_bind, hg]
      simp [V.den, binOp, Op.shift, hd']
    · obtain ⟨s1, h1, h⟩ := bind_some' h
      cases h
      obtain ⟨hd, hq⟩ := need_ok h1 ho
      have hd' : ¬ q < 0 := by simpa using hd
      refine ⟨hq, fun L w => ?_⟩
      rw [Sem.run_bind, hg]
      simp [V.den, binOp, Op.shift, hd']
    · rename_i hns hnr
      obtain ⟨_, h0, h2⟩ := bind_some' h
      clear h
      have hk : k = k' := by simpa using chk_some h0
      subst hk
      have hb : ∀ L, binOp op t ((V.int k p).den L) ((V.int k q).den L) = match op with
          | .add | .sub | .mul => Op.intArith op k p q
          | .quo | .rem => Op.intDiv op k p q
          | .and | .or | .xor | .andNot => Op.intBits op k p q
          | _ => Op.intCmp op p q := by
        intro L
        cases op <;> first | exact absurd rfl hns | exact absurd rfl hnr | simp [binOp, V.den]
      split at h2
      all_goals first
        | (cases h2; refine ⟨.refl ho, fun L w => ?_⟩; rw [Sem.run_bind, hg, Result.andThen_ok, hb]; simp [V.den, Op.intArith, Op.intBits, Op.intCmp])
        | (obtain ⟨s1, h1, h3⟩ := bind_some' h2
           cases h3
           obtain ⟨hd, hq⟩ := need_ok h1 ho
           have hd' : ¬ q = 0 := by simpa using hd
           refine ⟨hq, fun L w => ?_⟩
           rw [Sem.run_bind, hg, Result.andThen_ok, hb]
           simp [V.den, Op.intDiv, hd'])
        | cases h2
  · cases h

theorem unX_ok {op : UnOp} {a v : V} (h : unX op a = some v) (L : LM) (w : World) : (Op.unary op (a.den L)).run P w = .ok (v.den L) w := by
  unfold unX at h
  split at h <;> cases h
  · simp [Op.unary, V.den, Op.intArith]
  · simp [Op.unary, V.den]
  · simp [Op.unary, V.den, Op.intBits]

/-- What lies in some blocks. -/
structure On (L : LM) (H : Nat → Option Ob) (w : World) (rd : List Nat) : Prop where
  ob : ∀ n ∈ rd, ∀ o, H n = some o → ObR L w n o
  inj : ∀ n ∈ rd, ∀ m ∈ rd, ∀ on om, H n = some on → H m = some om → n ≠ m → on.isRo = false → (L n).blk ≠ none → (L n).blk ≠ (L m).blk

theorem neq_run {x : Sem Bool} {r : Bool} {w : World} (h : x.run P w = .ok r w) : ((do pure (.bool (!(← x)))) : Sem Value).run P w = .ok (.bool (!r)) w := by simp [h]

theorem eqX_ok {k : Kd} {t : TypeId} {d : TypeDesc} (hu : P.underlying t = some d) (hk : KdR P d k) {cst : Bool} {a b : V} {r : Bool} (h : eqX k cst a b = some r) (L : LM) (w : World) :
    (Op.equal t (a.den L) (b.den L)).run P w = .ok r w ∧ (∀ op (x y : Operand), (isCst x || isCst y) = cst → (eqGuard op t x y (a.den L) (b.den L)).run P w = .ok () w) ∧
    (∀ k n k' m, ¬ (a.den L = .int k n ∧ b.den L = .int k' m)) ∧ (∀ k n k' m, ¬ (a.den L = .float k n ∧ b.den L = .float k' m)) ∧ (∀ k n i k' m j, ¬ (a.den L = .complex k n i ∧ b.den L = .complex k' m j)) ∧ (∀ k n, ¬ (a.den L = .string k ∧ b.den L = .string n)) := by
  obtain ⟨depth, hrun⟩ : ∃ depth, ∀ (v : Value) (u : Value), (Op.equal t v u) = (Op.equalIn (depth + 1) t v u) := ⟨9999, fun _ _ => rfl⟩
  unfold eqX at h
  split at h
  · cases hk
    split at h <;> cases h
    refine ⟨?_, ?_, ?_, ?_, ?_, ?_⟩
    · rw [hrun]; simp [Op.equalIn, run_und hu, V.den]
    · intro op x y _; simp only [eqGuard, V.den]; split <;> rfl
    all_goals (intros; simp [V.den])
  · obtain ⟨e, i, rfl, _, _⟩ := hk
    split at h <;> cases h
    all_goals
      refine ⟨?_, ?_, ?_, ?_, ?_, ?_⟩
      · rw [hrun]; simp [Op.equalIn, run_und hu, V.den]
      · intro op x y _; simp only [eqGuard, V.den]; split <;> rfl
      all_goals (intros; simp [V.den])
  · obtain ⟨_, _, _, rfl⟩ := hk
    split at h <;> cases h
    all_goals
      refine ⟨?_, ?_, ?_, ?_, ?_, ?_⟩
      · rw [hrun]; simp [Op.equalIn, run_und hu, V.den]
      · intro op x y _; simp only [eqGuard, V.den]; split <;> rfl
      all_goals (intros; simp [V.den])
  · cases hk
    split at h <;> cases h
    all_goals
      refine ⟨?_, ?_, ?_, ?_, ?_, ?_⟩
      · rw [hrun]; simp [Op.equalIn, run_und hu, V.den]
      · intro op x y _; simp only [eqGuard, V.den]; split <;> rfl
      all_goals (intros; simp [V.den])
  · obtain ⟨ms, rfl⟩ := hk
    split at h
    · obtain ⟨_, h0, h2⟩ := bind_some' h
      cases h2
      refine ⟨?_, ?_, ?_, ?_, ?_, ?_⟩
      · rw [hrun]; simp [Op.equalIn, run_und hu, V.den]
      · intro op x y hc
        have hc' := chk_some h0
        have hxy : isCst x = true ∨ isCst y = true := by rw [hc'] at hc; simpa using hc
        simp only [eqGuard, V.den]
        rcases hxy with hx | hy
        · cases x <;> simp [isCst] at hx
          simp
        · cases y <;> simp [isCst] at hy
          simp
      all_goals (intros; simp [V.den])
    · cases h
      refine ⟨?_, ?_, ?_, ?_, ?_, ?_⟩
      · rw [hrun]; simp [Op.equalIn, run_und hu, V.den]
      · intro op x y _; simp only [eqGuard, V.den]; split <;> rfl
      all_goals (intros; simp [V.den])
    · cases h
      refine ⟨?_, ?_, ?_, ?_, ?_, ?_⟩
      · rw [hrun]; simp [Op.equalIn, run_und hu, V.den]
      · intro op x y _; simp only [eqGuard, V.den]; split <;> rfl
      all_goals (intros; simp [V.den])
    · cases h
  · cases h

theorem binOp_eql {t : TypeId} {v u : Value} (hi : ∀ k n k' m, ¬ (v = .int k n ∧ u = .int k' m)) (hf : ∀ k n k' m, ¬ (v = .float k n ∧ u = .float k' m))
    (hc : ∀ k n i k' m j, ¬ (v = .complex k n i ∧ u = .complex k' m j)) (hs : ∀ k n, ¬ (v = .string k ∧ u = .string n)) :
    binOp .eql t v u = (do pure (.bool (← Op.equal t v u))) ∧ binOp .neq t v u = (do pure (.bool (!(← Op.equal t v u)))) := by
  cases v <;> cases u <;> first
    | exact absurd ⟨rfl, rfl⟩ (hi _ _ _ _)
    | exact absurd ⟨rfl, rfl⟩ (hf _ _ _ _)
    | exact absurd ⟨rfl, rfl⟩ (hc _ _ _ _ _ _)
    | exact absurd ⟨rfl, rfl⟩ (hs _ _)
    | exact ⟨rfl, rfl⟩

theorem intsK_ok : ∀ {ks : List IntKind} {cs : List V} {ns : List Int}, intsK ks cs = some ns → ns.length = ks.length ∧ ∀ L, cs.map (V.den L) = intVals ks ns := by
  intro ks
  induction ks with
  | nil =>
    intro cs ns h
    cases cs with
    | nil => simp only [intsK] at h; cases h; exact ⟨rfl, fun L => rfl⟩
    | cons v vs => simp only [intsK] at h; cases h
  | cons k ks ih =>
    intro cs ns h
    cases cs with
    | nil => simp only [intsK] at h; cases h
    | cons v vs =>
      simp only [intsK] at h
      split at h
      · rename_i k' n
        obtain ⟨_, h1, h2⟩ := bind_some' h
        obtain ⟨l, h3, h4⟩ := bind_some' h2
        cases h4
        have hk : k = k' := of_decide_eq_true (chk_some h1)
        subst hk
        obtain ⟨g1, g2⟩ := ih h3
        refine ⟨by simp [g1], fun L => ?_⟩
        simp only [List.map_cons, g2 L]
        rfl
      · cases h
theorem eqAgg_ok (hE : EnvOK P E) {t : TypeId} {ca cb : List V} {r : Bool} (h : eqAgg E t ca cb = some r) (L : LM) (w : World) :
    (Op.equal t ((V.agg ca).den L) ((V.agg cb).den L)).run P w = .ok r w ∧ ∀ op (x y : Operand), (eqGuard op t x y ((V.agg ca).den L) ((V.agg cb).den L)).run P w = .ok () w := by
  unfold eqAgg at h
  obtain ⟨ks, h1, h2⟩ := bind_some' h
  obtain ⟨xs, h3, h4⟩ := bind_some' h2
  obtain ⟨ys, h5, h6⟩ := bind_some' h4
  cases h6
  obtain ⟨g1, g2⟩ := intsK_ok h3
  obtain ⟨g3, g4⟩ := intsK_ok h5
  have := hE.se t ks h1 xs ys w g1 g3
  simp only [V.den, denL_eq, g2 L, g4 L]
  exact this

theorem eqV_ok (hE : EnvOK P E) {op : BinOp} {t : TypeId} {x y : Operand} {a b v : V} {rd : List Nat} {s s' : St} (h : eqV E op t (isCst x || isCst y) a b s = some (v, rd, s')) :
    s' = s ∧ ∀ L (w : World), On L s.H.get w rd → ((do eqGuard op t x y (a.den L) (b.den L); binOp op t (a.den L) (b.den L)) : Sem Value).run P w = .ok (v.den L) w := by
  unfold eqV at h
  obtain ⟨ti, hti, h2⟩ := bind_some' h
  clear h
  have hT := hE.ty _ _ hti
  obtain ⟨i, zv, d, hi, hs, hb, hzv, hzz, hu, hag, hk⟩ := hT.info
  have hptr : ∀ r n i1 z1 o1 m i2 z2 o2, eqPtr ti.kind (.ptr n i1 z1 o1) (.ptr m i2 z2 o2) s = some r → ∀ L (w : World), On L s.H.get w [n, m] →
      (Op.equal t ((V.ptr n i1 z1 o1).den L) ((V.ptr m i2 z2 o2).den L)).run P w = .ok r w := by
    intro r n i1 z1 o1 m i2 z2 o2 hh L w hO
    unfold eqPtr at hh
    split at hh
    · rename_i hkd
      rw [hkd] at hk
      obtain ⟨e, ie, rfl, hie, hne⟩ := hk
      simp only at hh
      split at hh
      · rename_i b1 t1 b2 t2 hn hm
        obtain ⟨k1, e1, f1, g1⟩ := hO.ob n (by simp) _ hn
        obtain ⟨k2, e2, f2, g2⟩ := hO.ob m (by simp) _ hm
        obtain ⟨depth, hrun⟩ : ∃ depth, ∀ (v : Value) (u : Value), (Op.equal t v u) = (Op.equalIn (depth + 1) t v u) := ⟨9999, fun _ _ => rfl⟩
        rw [hrun]
        have hsz : (sizeOf e).run P w = .ok ie.size w := run_sizeOf' hie w
        by_cases hnm : n = m
        · subst hnm
          rw [Nat.beq_refl, cond_true] at hh
          cases hh
          simp [Op.equalIn, run_und hu, V.den, hsz, hne, sameAddr, e1, pos_eq]
          rw [Bool.eq_iff_iff]
          simp
        · rw [beq_false_of hnm, cond_false] at hh
          cases hh
          have hb := hO.inj n (by simp) m (by simp) _ _ hn hm hnm rfl (by rw [e1]; simp)
          rw [e1, e2] at hb
          have hb' : ¬ k1 = k2 := fun hh => hb (by rw [hh])
          have sh1 : w.shape? k1 = some (t1, (cellsOf L b1).length) := by simp [World.shape?, g1]
          have sh2 : w.shape? k2 = some (t2, (cellsOf L b2).length) := by simp [World.shape?, g2]
          have fz : ∀ k t c p, w.heap[k]? = some (.cells c t (0, 0)) → w.frozen? ⟨k, p, none⟩ = false := by intro k t c p hk; simp [World.frozen?, hk]
          simp [Op.equalIn, run_und hu, V.den, hsz, hne, sameAddr, e1, e2, hb', noView, viewAt, sh1, sh2, mayBeOne, stringish, fz _ _ _ _ g1, fz _ _ _ _ g2]
      · cases hh
    · cases hh
  have hosl : ∀ r n es, eqOsl ti.kind n es s = some r → ∀ L (w : World), On L s.H.get w [n] →
      (Op.equal t ((V.osl n es).den L) (V.nils.den L)).run P w = .ok r w ∧ ∃ a l c, (V.osl n es).den L = .slice (some a) l c := by
    intro r n es hh L w hO
    unfold eqOsl at hh
    split at hh
    · rename_i el hkd
      rw [hkd] at hk
      cases hk
      split at hh
      · rename_i b bt e hn
        obtain ⟨_, c1, c2⟩ := bind_some' hh
        cases c2
        have hpos : 0 < b.count e := Nat.blt_eq.mp (chk_some c1)
        obtain ⟨_, f1, _, f3⟩ := hO.ob n (by simp) _ hn
        rcases f3 with ⟨_, f4, _⟩ | ⟨k, cur, f4, _⟩
        · omega
        · obtain ⟨depth, hrun⟩ : ∃ depth, ∀ (v : Value) (u : Value), (Op.equal t v u) = (Op.equalIn (depth + 1) t v u) := ⟨9999, fun _ _ => rfl⟩
          refine ⟨?_, ⟨k, 0, none⟩, (L n).len, (L n).cap, by simp [V.den, f4]⟩
          rw [hrun]; simp [Op.equalIn, run_und hu, V.den, f4]
      · cases hh
    · cases hh
  split at h2
  · split at h2
    · rename_i n i1 z1 o1 m i2 z2 o2
      obtain ⟨r, hr, h3⟩ := bind_some' h2
      cases h3
      refine ⟨rfl, fun L w hO => ?_⟩
      have := hptr r _ _ _ _ _ _ _ _ hr L w hO
      simp [eqGuard, V.den, binOp]
      simp only [V.den] at this
      rw [this]; rfl
    · rename_i ca cb
      obtain ⟨r, hr, h3⟩ := bind_some' h2
      cases h3
      refine ⟨rfl, fun L w _ => ?_⟩
      obtain ⟨g1, g2⟩ := eqAgg_ok hE hr L w
      rw [Sem.run_bind, g2 _ x y, Result.andThen_ok, (binOp_eql (by simp [V.den]) (by simp [V.den]) (by simp [V.den]) (by simp [V.den])).1]
      simp only [Sem.run_bind, g1, Result.andThen_ok, Sem.run_pure]
      rfl
    · rename_i n es
      obtain ⟨r, hr, h3⟩ := bind_some' h2
      cases h3
      refine ⟨rfl, fun L w hO => ?_⟩
      obtain ⟨g1, a, l, c, g2⟩ := hosl _ _ _ hr L w hO
      rw [g2] at g1 ⊢
      have hg : ∀ op, (eqGuard op t x y (.slice (some a) l c) (V.nils.den L)).run P w = .ok () w := fun op => by simp only [eqGuard, V.den]; split <;> rfl
      rw [Sem.run_bind, hg, Result.andThen_ok, (binOp_eql (by simp) (by simp) (by simp) (by simp)).1]
      simp only [Sem.run_bind, g1, Result.andThen_ok, Sem.run_pure]
      rfl
    · obtain ⟨r, hr, h3⟩ := bind_some' h2
      cases h3
      refine ⟨rfl, fun L w _ => ?_⟩
      obtain ⟨g1, g2, g3, g4, g5, g6⟩ := eqX_ok hu hk hr L w
      rw [Sem.run_bind, g2 _ x y rfl, Result.andThen_ok, (binOp_eql g3 g4 g5 g6).1]
      simp [g1, V.den]
  · split at h2
    · rename_i n i1 z1 o1 m i2 z2 o2
      obtain ⟨r, hr, h3⟩ := bind_some' h2
      cases h3
      refine ⟨rfl, fun L w hO => ?_⟩
      have := hptr r _ _ _ _ _ _ _ _ hr L w hO
      simp [eqGuard, V.den, binOp]
      simp only [V.den] at this
      rw [this]; rfl
    · rename_i ca cb
      obtain ⟨r, hr, h3⟩ := bind_some' h2
      cases h3
      refine ⟨rfl, fun L w _ => ?_⟩
      obtain ⟨g1, g2⟩ := eqAgg_ok hE hr L w
      rw [Sem.run_bind, g2 _ x y, Result.andThen_ok, (binOp_eql (by simp [V.den]) (by simp [V.den]) (by simp [V.den]) (by simp [V.den])).2]
      simp only [Sem.run_bind, g1, Result.andThen_ok, Sem.run_pure]
      rfl
    · rename_i n es
      obtain ⟨r, hr, h3⟩ := bind_some' h2
      cases h3
      refine ⟨rfl, fun L w hO => ?_⟩
      obtain ⟨g1, a, l, c, g2⟩ := hosl _ _ _ hr L w hO
      rw [g2] at g1 ⊢
      have hg : ∀ op, (eqGuard op t x y (.slice (some a) l c) (V.nils.den L)).run P w = .ok () w := fun op => by simp only [eqGuard, V.den]; split <;> rfl
      rw [Sem.run_bind, hg, Result.andThen_ok, (binOp_eql (by simp) (by simp) (by simp) (by simp)).2]
      simp only [Sem.run_bind, g1, Result.andThen_ok, Sem.run_pure]
      rfl
    · obtain ⟨r, hr, h3⟩ := bind_some' h2
      cases h3
      refine ⟨rfl, fun L w _ => ?_⟩
      obtain ⟨g1, g2, g3, g4, g5, g6⟩ := eqX_ok hu hk hr L w
      rw [Sem.run_bind, g2 _ x y rfl, Result.andThen_ok, (binOp_eql g3 g4 g5 g6).2]
      simp [g1, V.den]
  · cases h2

end
end Go.Sx
