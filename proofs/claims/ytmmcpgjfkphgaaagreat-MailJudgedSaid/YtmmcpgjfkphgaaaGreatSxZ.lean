/- Runs, reckoned: what comes out of one equation. -/
import Derived.Test.YtmmcpgjfkphgaaaGreatSxY
namespace Go.Sx
section
variable {P : Program} {E : Env}

/-- A memory by a list. -/
def hO (l : List (Option Ob)) (m : Nat) : Option Ob := (l[m]?).join
def putL {α : Type} : Nat → List (Option α) → Tr α → Tr α
  | _, [], t => t
  | n, o :: l, t => putL (Nat.succ n) l (t.put n o)
def trO {α : Type} (l : List (Option α)) : Tr α := putL 0 l .nil

theorem putL_get {α : Type} : ∀ (l : List (Option α)) (n : Nat) (t : Tr α) (m : Nat), n + l.length < big → (putL n l t).get m = if n ≤ m ∧ m < n + l.length then (l[m - n]?).join else t.get m := by
  intro l
  induction l with
  | nil => intro n t m _; rw [if_neg (by simp only [List.length_nil]; omega)]; rfl
  | cons o l ih =>
    intro n t m h
    simp only [List.length_cons] at h
    simp only [putL]
    rw [ih _ _ _ (by simp only [Nat.succ_eq_add_one]; omega), Tr.get_put _ _ _ _ (by omega)]
    simp only [Nat.succ_eq_add_one, List.length_cons]
    by_cases h1 : m = n
    · subst h1
      rw [if_neg (by omega), if_pos rfl, if_pos (by omega)]
      simp
    · by_cases h2 : n + 1 ≤ m ∧ m < n + 1 + l.length
      · rw [if_pos h2, if_pos (by omega)]
        have e : m - n = (m - (n + 1)) + 1 := by omega
        rw [e, List.getElem?_cons_succ]
      · rw [if_neg h2, if_neg h1, if_neg (by omega)]

theorem trO_get {α : Type} (l : List (Option α)) (h : l.length < big) (m : Nat) : (trO l).get m = (l[m]?).join := by
  unfold trO
  rw [putL_get _ _ _ _ (by omega)]
  by_cases h1 : m < l.length
  · rw [if_pos (by omega)]; simp
  · rw [if_neg (by omega), List.getElem?_eq_none (by omega)]; rfl

def allB : List Bool → Bool
  | [] => true
  | b :: l => cond b (allB l) false
theorem allB_ok : ∀ {l : List Bool}, allB l = true → ∀ b ∈ l, b = true := by
  intro l
  induction l with
  | nil => intro _ b hb; cases hb
  | cons x l ih =>
    intro h b hb
    simp only [allB] at h
    cases x with
    | false => cases h
    | true =>
      rcases List.mem_cons.1 hb with rfl | hb
      · rfl
      · exact ih h b hb

/-- A renaming by a list. -/
def πf (πl : List Nat) (m : Nat) : Nat := πl.getD m 0

def idUpto : Nat → List Nat → Nat → Bool
  | 0, _, _ => true
  | _ + 1, [], _ => false
  | k + 1, x :: l, i => cond (Nat.beq x i) (idUpto k l (Nat.succ i)) false
theorem idUpto_ok : ∀ (k : Nat) (l : List Nat) (i : Nat), idUpto k l i = true → ∀ m, m < k → l.getD m 0 = i + m := by
  intro k
  induction k with
  | zero => intro l i _ m hm; omega
  | succ k ih =>
    intro l i h m hm
    cases l with
    | nil => cases h
    | cons x l =>
      simp only [idUpto] at h
      cases hx : Nat.beq x i with
      | false => rw [hx] at h; cases h
      | true =>
        rw [hx] at h
        cases m with
        | zero => simp; exact Nat.beq_eq.mp hx
        | succ m =>
          have := ih l (i + 1) h m (by omega)
          simp at this ⊢
          omega

def obsOK (p : Nat → Bool) : Nat → List (Option Ob) → Bool
  | _, [] => true
  | i, none :: l => obsOK p (Nat.succ i) l
  | i, some o :: l => cond o.plain (cond (p i) (cond (o.names p) (obsOK p (Nat.succ i) l) false) false) false
theorem obsOK_ok {p : Nat → Bool} : ∀ (l : List (Option Ob)) (i : Nat), obsOK p i l = true → ∀ (m : Nat) (o : Ob), (l[m]?).join = some o → o.plain = true ∧ p (i + m) = true ∧ o.names p = true := by
  intro l
  induction l with
  | nil => intro i _ m o h; simp at h
  | cons x l ih =>
    intro i h m o hm
    cases x with
    | none =>
      simp only [obsOK] at h
      cases m with
      | zero => simp at hm
      | succ m =>
        have := ih _ h m o (by simpa using hm)
        rw [show i + (m + 1) = i.succ + m by simp only [Nat.succ_eq_add_one]; omega]; exact this
    | some y =>
      simp only [obsOK] at h
      cases h1 : y.plain with
      | false => rw [h1] at h; cases h
      | true =>
        cases h2 : p i with
        | false => rw [h1, h2] at h; cases h
        | true =>
          cases h3 : y.names p with
          | false => rw [h1, h2, h3] at h; cases h
          | true =>
            rw [h1, h2, h3] at h
            cases m with
            | zero => simp at hm; subst hm; exact ⟨h1, h2, h3⟩
            | succ m =>
              have := ih _ h m o (by simpa using hm)
              rw [show i + (m + 1) = i.succ + m by simp only [Nat.succ_eq_add_one]; omega]; exact this

def noRo : List (Option Ob) → Bool
  | [] => true
  | some o :: l => cond o.isRo false (noRo l)
  | none :: l => noRo l
theorem noRo_ok : ∀ (l : List (Option Ob)), noRo l = true → ∀ (m : Nat) (o : Ob), (l[m]?).join = some o → o.isRo = false := by
  intro l
  induction l with
  | nil => intro _ m o h; simp at h
  | cons x l ih =>
    intro h m o hm
    cases x with
    | none => cases m with
      | zero => simp at hm
      | succ m => exact ih h m o (by simpa using hm)
    | some y =>
      simp only [noRo] at h
      cases hy : y.isRo with
      | true => rw [hy] at h; cases h
      | false =>
        rw [hy] at h
        cases m with
        | zero => simp at hm; subst hm; exact hy
        | succ m => exact ih h m o (by simpa using hm)

def below (n : Nat) : List Nat → Bool
  | [] => true
  | x :: l => cond (Nat.blt x n) (below n l) false
theorem below_ok {n : Nat} : ∀ {l : List Nat}, below n l = true → ∀ x ∈ l, x < n := by
  intro l
  induction l with
  | nil => intro _ x hx; cases hx
  | cons y l ih =>
    intro h x hx
    simp only [below] at h
    cases hy : Nat.blt y n with
    | false => rw [hy] at h; cases h
    | true =>
      rw [hy] at h
      rcases List.mem_cons.1 hx with rfl | hx
      · exact Nat.blt_eq.mp hy
      · exact ih h x hx
def distinct : List Nat → Bool
  | [] => true
  | x :: l => cond (mem? x l) false (distinct l)
theorem distinct_ok : ∀ {l : List Nat}, distinct l = true → l.Nodup := by
  intro l
  induction l with
  | nil => intro _; exact List.nodup_nil
  | cons x l ih =>
    intro h
    simp only [distinct] at h
    cases hx : mem? x l with
    | true => rw [hx] at h; cases h
    | false =>
      rw [hx] at h
      refine List.nodup_cons.2 ⟨fun hm => ?_, ih h⟩
      rw [(mem?_iff x l).2 hm] at hx; cases hx
theorem distinct_inj {l : List Nat} (h : distinct l = true) {m n : Nat} (hm : m < l.length) (hn : n < l.length) (hne : m ≠ n) : πf l m ≠ πf l n := by
  have hd := distinct_ok h
  simp only [πf, List.getD_eq_getElem?_getD, List.getElem?_eq_getElem hm, List.getElem?_eq_getElem hn, Option.getD_some]
  intro he
  exact hne ((List.getElem_inj hd).1 he)

/-- What is asked of a renaming, reckoned. -/
def chkP (n0 nx : Nat) (πl : List Nat) (l' : List (Option Ob)) : Bool :=
  cond (Nat.beq πl.length l'.length) (cond (idUpto n0 πl 0) (cond (below nx πl) (distinct πl) false) false) false
theorem chkP_ok {n0 nx : Nat} {πl : List Nat} {l' : List (Option Ob)} (h : chkP n0 nx πl l' = true) : πl.length = l'.length ∧ (∀ m, m < n0 → πf πl m = m) ∧ (∀ m, m < l'.length → πf πl m < nx) ∧ (∀ m n, m < l'.length → n < l'.length → m ≠ n → πf πl m ≠ πf πl n) := by
  unfold chkP at h
  cases h1 : Nat.beq πl.length l'.length with
  | false => rw [h1] at h; cases h
  | true =>
    cases h2 : idUpto n0 πl 0 with
    | false => rw [h1, h2] at h; cases h
    | true =>
      cases h3 : below nx πl with
      | false => rw [h1, h2, h3] at h; cases h
      | true =>
        rw [h1, h2, h3] at h
        have hl : πl.length = l'.length := Nat.beq_eq.mp h1
        refine ⟨hl, fun m hm => ?_, fun m hm => ?_, fun m n hm hn hne => distinct_inj h (by omega) (by omega) hne⟩
        · have := idUpto_ok _ _ _ h2 m hm
          simpa [πf] using this
        · have hm' : m < πl.length := by omega
          simp only [πf, List.getD_eq_getElem?_getD, List.getElem?_eq_getElem hm', Option.getD_some]
          exact below_ok h3 _ (List.getElem_mem hm')

theorem map_get {H : Nat → Option Ob} {πl : List Nat} {l' : List (Option Ob)} (hlen : πl.length = l'.length) (h : πl.map H = l'.map (Option.map (Ob.ren (πf πl)))) : ∀ m o, (l'[m]?).join = some o → H (πf πl m) = some (o.ren (πf πl)) := by
  intro m o hm
  have hlt : m < l'.length := by
    refine Nat.lt_of_not_le fun hle => ?_
    rw [List.getElem?_eq_none hle] at hm; cases hm
  have h1 := congrArg (fun l => l[m]?) h
  simp only [List.getElem?_map, List.getElem?_eq_getElem hlt, List.getElem?_eq_getElem (show m < πl.length by omega), Option.map_some, Option.some.injEq] at h1
  rw [List.getElem?_eq_getElem hlt] at hm
  have h2 : l'[m] = some o := hm
  rw [h2] at h1
  have h3 : πf πl m = πl[m]'(by omega) := by simp [πf, List.getD_eq_getElem?_getD, List.getElem?_eq_getElem (show m < πl.length by omega)]
  rw [h3, h1]; rfl

/-- A call's contract, out of one equation. -/
theorem callH_eval (hE : EnvOK P E) (hS : SumOK P E) {n : Nat} {f : FuncId} {args : List V} {l l' : List (Option Ob)} {orc : List (Nat × Bool)} {πl : List Nat} {vc : V} {nx' : Nat} {B : Bool}
    (hrun : (callX (exec E n) E f args ⟨trO l, l.length, orc, [], []⟩).map (fun r => (r.1, r.2.nx, πl.map r.2.H.get, allB r.2.obl)) = some (vc.ren (πf πl), nx', l'.map (Option.map (Ob.ren (πf πl))), B)) (hB : B = true)
    (hl0 : Nat.blt l.length big = true) (hchk : chkP l.length nx' πl l' = true) (hobs : obsOK (fun m => Nat.blt m l'.length) 0 l' = true) (hro : noRo l' = true) (hvn : vc.names (fun m => Nat.blt m l'.length) = true) : CallH P f args l.length (hO l) vc l'.length (hO l') := by
  have hl : l.length < big := Nat.blt_eq.mp hl0
  cases hr : callX (exec E n) E f args ⟨trO l, l.length, orc, [], []⟩ with
  | none => rw [hr] at hrun; cases hrun
  | some r =>
    obtain ⟨v, s'⟩ := r
    rw [hr] at hrun
    simp only [Option.map_some, Option.some.injEq, Prod.mk.injEq] at hrun
    obtain ⟨rfl, rfl, h1, h2⟩ := hrun
    obtain ⟨c1, c2, c3, c4⟩ := chkP_ok hchk
    have hp : (fun m => Nat.blt m l'.length) = (fun m => decide (m < l'.length)) := by
      funext m
      cases hb : Nat.blt m l'.length with
      | true => exact (decide_eq_true (Nat.blt_eq.mp hb)).symm
      | false => refine (decide_eq_false fun hlt => ?_).symm; rw [Nat.blt_eq.mpr hlt] at hb; cases hb
    rw [hp] at hobs hvn
    have hcall := (call_ok hE hS n f args _ _ _ hr (allB_ok (by rw [h2]; exact hB))).2.2.1
    refine callH_run hcall rfl (fun m => trO_get l hl m) (πf πl) c2 c3 c4 (fun m o ho => ?_) (fun m o ho hr => ?_) rfl hvn
    · obtain ⟨d1, d2, d3⟩ := obsOK_ok l' 0 hobs m o ho
      exact ⟨d1, by simpa using d2, d3, map_get c1 h1 m o ho⟩
    · rw [noRo_ok l' hro m o ho] at hr; cases hr

/-- Slots by a list: those that are asked for, the others as they are. -/
def slots (J : Nat → V) : Nat → List (Option V) → List (Option V)
  | _, [] => []
  | i, some v :: l => some v :: slots J (Nat.succ i) l
  | i, none :: l => some (J i) :: slots J (Nat.succ i) l
theorem slots_get (J : Nat → V) : ∀ (l : List (Option V)) (i m : Nat), ((slots J i l)[m]?).join = match l[m]? with
    | some (some v) => some v
    | some none => some (J (i + m))
    | none => none := by
  intro l
  induction l with
  | nil => intro i m; simp [slots]
  | cons x l ih =>
    intro i m
    cases m with
    | zero => cases x <;> simp [slots]
    | succ m =>
      have e : i + (m + 1) = i.succ + m := by simp only [Nat.succ_eq_add_one]; omega
      cases x <;> simp only [slots, List.getElem?_cons_succ] <;> rw [ih, e]
theorem slots_length (J : Nat → V) : ∀ (l : List (Option V)) (i : Nat), (slots J i l).length = l.length := by
  intro l
  induction l with
  | nil => intro i; rfl
  | cons x l ih => intro i; cases x <;> simp [slots, ih]

def liveNames (p : Nat → Bool) : List (Option V) → Bool
  | [] => true
  | some v :: l => cond (v.names p) (liveNames p l) false
  | none :: l => liveNames p l
theorem liveNames_ok {p : Nat → Bool} : ∀ (l : List (Option V)), liveNames p l = true → ∀ (m : Nat) (v : V), l[m]? = some (some v) → v.names p = true := by
  intro l
  induction l with
  | nil => intro _ m v h; simp at h
  | cons x l ih =>
    intro h m v hm
    cases x with
    | none => cases m with
      | zero => simp at hm
      | succ m => exact ih h m v (by simpa using hm)
    | some y =>
      simp only [liveNames] at h
      cases hy : y.names p with
      | false => rw [hy] at h; cases h
      | true =>
        rw [hy] at h
        cases m with
        | zero => simp at hm; subst hm; exact hy
        | succ m => exact ih h m v (by simpa using hm)

/-- The slots that are asked for, as they are. -/
def look (T : Tr V) : Nat → List (Option V) → List (Option V)
  | _, [] => []
  | i, some _ :: l => some ((T.get i).getD undefV) :: look T (Nat.succ i) l
  | i, none :: l => none :: look T (Nat.succ i) l
theorem look_get (T : Tr V) : ∀ (l : List (Option V)) (i m : Nat), (look T i l)[m]? = match l[m]? with
    | some (some _) => some (some ((T.get (i + m)).getD undefV))
    | some none => some none
    | none => none := by
  intro l
  induction l with
  | nil => intro i m; simp [look]
  | cons x l ih =>
    intro i m
    cases m with
    | zero => cases x <;> simp [look]
    | succ m =>
      have e : i + (m + 1) = i.succ + m := by simp only [Nat.succ_eq_add_one]; omega
      cases x <;> simp only [look, List.getElem?_cons_succ] <;> rw [ih, e]

/-- What stands at some numbers; what is not asked for is passed over. -/
def getM (H : Nat → Option Ob) : List Nat → List Bool → List (Option Ob)
  | [], _ => []
  | m :: ms, [] => H m :: getM H ms []
  | m :: ms, b :: bs => cond b (H m) none :: getM H ms bs
theorem getM_nil (H : Nat → Option Ob) : ∀ πl : List Nat, getM H πl [] = πl.map H := by
  intro πl
  induction πl with
  | nil => rfl
  | cons m ms ih => simp only [getM, List.map_cons, ih]
theorem getM_get {H : Nat → Option Ob} : ∀ (πl : List Nat) (mk : List Bool) (m : Nat) (o : Ob), ((getM H πl mk)[m]?).join = some o → H (πf πl m) = some o := by
  intro πl
  induction πl with
  | nil => intro mk m o h; simp [getM] at h
  | cons x ms ih =>
    intro mk m o h
    cases mk with
    | nil =>
      cases m with
      | zero => simpa [getM, πf] using h
      | succ m => have := ih [] m o (by simpa [getM] using h); simpa [πf] using this
    | cons b bs =>
      cases m with
      | zero => cases b <;> simp [getM, πf] at h ⊢; exact h
      | succ m => have := ih bs m o (by simpa [getM] using h); simpa [πf] using this
theorem getM_ok {H : Nat → Option Ob} {πl : List Nat} {mk : List Bool} {l' : List (Option Ob)} (h : getM H πl mk = l'.map (Option.map (Ob.ren (πf πl)))) : ∀ m o, (l'[m]?).join = some o → H (πf πl m) = some (o.ren (πf πl)) := by
  intro m o hm
  refine getM_get πl mk m _ ?_
  rw [h]
  cases hl : l'[m]? with
  | none => rw [hl] at hm; cases hm
  | some q =>
    rw [hl] at hm
    have : q = some o := hm
    subst this
    simp [hl]

/-- A piece of a function's way, out of one equation: from known slots and blocks to known slots and blocks. -/
theorem Asrt.evalR (hE : EnvOK P E) (hS : SumOK P E) {n m : Nat} (kind : CallKind) (cs : List Frame) {β : Base} {fr : Frs} {sl' : List (Option V)} {l l' lr : List (Option Ob)} {mk : List Bool} {orc : List (Nat × Bool)} {todo todo' : List Item} {πl : List Nat} {nx' hi far : Nat} {B : Bool} {T : Tr V} {a : Cf}
    (hA : Asrt β fr T [] (hO l) l.length hi a)
    (hrun : (ctlN E (exec E n) fr m todo T [] ⟨trO l, l.length, orc, [], []⟩).map (fun r => (r.1, look r.2.1 0 sl', r.2.2.1, r.2.2.2.nx, getM r.2.2.2.H.get πl mk, allB r.2.2.2.obl)) =
      some (todo', sl'.map (Option.map (V.ren (πf πl))), [], nx', lr, B)) (hlr : l'.map (Option.map (Ob.ren (πf πl))) = lr) (hB : B = true)
    (hl0 : Nat.blt l.length big = true) (hnt0 : Nat.beq sl'.length fr.nt = true) (hnt1 : Nat.blt fr.nt big = true) (hhi0 : Nat.ble nx' hi = true) (hfar0 : Nat.ble l'.length far = true) (p : Nat → Bool) (hp : ∀ m, p m = true → m < l'.length ∧ (m < β.n0 ∨ ∃ o, (l'[m]?).join = some o)) (hold : ∀ m, m < β.n0 → p m = true)
    (hchk : chkP β.n0 nx' πl l' = true) (hobs : obsOK p 0 l' = true) (hsl : liveNames p sl' = true) :
    ∃ (J' : Nat → V) (b : Cf), Asrt β fr (trO (slots J' 0 sl')) [] (hO l') l'.length far b ∧ Steps P (At fr none kind cs a todo) (At fr none kind cs b todo') := by
  have hl : l.length < big := Nat.blt_eq.mp hl0
  have hnt : sl'.length = fr.nt := Nat.beq_eq.mp hnt0
  have hnt' : fr.nt < big := Nat.blt_eq.mp hnt1
  have hhi : nx' ≤ hi := Nat.ble_eq.mp hhi0
  have hfar : l'.length ≤ far := Nat.ble_eq.mp hfar0
  cases hr : ctlN E (exec E n) fr m todo T [] ⟨trO l, l.length, orc, [], []⟩ with
  | none => rw [hr] at hrun; cases hrun
  | some r =>
    obtain ⟨t', T', df', s'⟩ := r
    rw [hr] at hrun
    simp only [Option.map_some, Option.some.injEq, Prod.mk.injEq] at hrun
    obtain ⟨rfl, h1, rfl, rfl, h2, h3⟩ := hrun
    obtain ⟨c1, c2, c3, c4⟩ := chkP_ok hchk
    have hA' : Asrt β fr T [] (⟨trO l, l.length, orc, [], []⟩ : St).H.get (⟨trO l, l.length, orc, [], []⟩ : St).nx hi a := by
      have : (trO l).get = hO l := funext fun m => trO_get l hl m
      show Asrt β fr T [] (trO l).get l.length hi a
      rw [this]; exact hA
    obtain ⟨b, g1, g2⟩ := hA'.run hE hS (exec_ok hE hS n) kind cs hr (allB_ok (by rw [h3]; exact hB)) hhi
    refine ⟨fun t => ((T'.get t).getD undefV).ren (fun n => far + n), b, ?_, g2⟩
    refine g1.take (πf πl) p (fun m hm => (hp m hm).1) hfar (fun m o ho => ?_) (fun m n om on hm hn _ hne => ?_) (fun m hm => ?_) (fun m hm => ⟨hold m hm, c2 m hm⟩) (fun t ht => ?_) (fun t ht => ?_)
    · obtain ⟨d1, d2, d3⟩ := obsOK_ok l' 0 hobs m o ho
      exact ⟨d1, by simpa using d2, d3, getM_ok (h2.trans hlr.symm) m o ho⟩
    · have lt : ∀ m o, hO l' m = some o → m < l'.length := fun m o ho => Nat.lt_of_not_le fun hle => by
        simp only [hO, List.getElem?_eq_none hle] at ho; cases ho
      exact c4 m n (lt m _ hm) (lt n _ hn) hne
    · rcases (hp m hm).2 with h | ⟨o, ho⟩
      · exact .inl h
      · exact .inr ⟨_, getM_ok (h2.trans hlr.symm) m o ho⟩
    · rw [trO_get _ (by rw [slots_length]; omega), slots_get, List.getElem?_eq_none (by omega)]
    · rw [trO_get _ (by rw [slots_length]; omega), slots_get]
      have hts : t < sl'.length := by omega
      rw [List.getElem?_eq_getElem hts]
      have h4 := congrArg (fun l => l[t]?) h1
      simp only [look_get, List.getElem?_map, List.getElem?_eq_getElem hts, Nat.zero_add] at h4
      cases hv : sl'[t] with
      | none => right; simp
      | some v =>
        left
        rw [hv] at h4
        simp only [Option.map_some, Option.some.injEq] at h4
        exact ⟨v, rfl, liveNames_ok sl' hsl t v (by rw [List.getElem?_eq_getElem hts, hv]), h4⟩

/-- The same, where the renaming is carried out by reckoning. -/
theorem Asrt.eval (hE : EnvOK P E) (hS : SumOK P E) {n m : Nat} (kind : CallKind) (cs : List Frame) {β : Base} {fr : Frs} {sl' : List (Option V)} {l l' : List (Option Ob)} {orc : List (Nat × Bool)} {todo todo' : List Item} {πl : List Nat} {nx' hi far : Nat} {B : Bool} {T : Tr V} {a : Cf}
    (hA : Asrt β fr T [] (hO l) l.length hi a)
    (hrun : (ctlN E (exec E n) fr m todo T [] ⟨trO l, l.length, orc, [], []⟩).map (fun r => (r.1, look r.2.1 0 sl', r.2.2.1, r.2.2.2.nx, πl.map r.2.2.2.H.get, allB r.2.2.2.obl)) =
      some (todo', sl'.map (Option.map (V.ren (πf πl))), [], nx', l'.map (Option.map (Ob.ren (πf πl))), B)) (hB : B = true)
    (hl0 : Nat.blt l.length big = true) (hnt0 : Nat.beq sl'.length fr.nt = true) (hnt1 : Nat.blt fr.nt big = true) (hhi0 : Nat.ble nx' hi = true) (hfar0 : Nat.ble l'.length far = true) (p : Nat → Bool) (hp : ∀ m, p m = true → m < l'.length ∧ (m < β.n0 ∨ ∃ o, (l'[m]?).join = some o)) (hold : ∀ m, m < β.n0 → p m = true)
    (hchk : chkP β.n0 nx' πl l' = true) (hobs : obsOK p 0 l' = true) (hsl : liveNames p sl' = true) :
    ∃ (J' : Nat → V) (b : Cf), Asrt β fr (trO (slots J' 0 sl')) [] (hO l') l'.length far b ∧ Steps P (At fr none kind cs a todo) (At fr none kind cs b todo') :=
  Asrt.evalR (mk := []) hE hS kind cs hA (by simp only [getM_nil]; exact hrun) rfl hB hl0 hnt0 hnt1 hhi0 hfar0 p hp hold hchk hobs hsl

end
end Go.Sx
