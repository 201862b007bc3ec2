/- What the interpreter's data mean in the model's memory; reading. -/
import Derived.Test.YtmmcpgjfkphgaaaGreatSxB
namespace Go.Sx

theorem chk_some {b : Bool} {u : Unit} (h : chk b = some u) : b = true := by
  cases b <;> simp [chk] at h ⊢
theorem bind_some' {α β : Type} {x : Option α} {f : α → Option β} {b : β} (h : x.bind f = some b) : ∃ a, x = some a ∧ f a = some b :=
  Option.bind_eq_some_iff.1 h

theorem nth_eq {α : Type} : ∀ (l : List α) (n : Nat), nth l n = l[n]? := by
  intro l
  induction l with
  | nil => intro n; simp [nth]
  | cons x xs ih =>
    intro n
    simp only [nth]
    cases n with
    | zero => simp
    | succ n => simp [beq_false_of (a := n + 1) (b := 0) (by omega), ih]

theorem setNth_eq {α : Type} : ∀ (l : List α) (n : Nat) (v : α), setNth l n v = l.set n v := by
  intro l
  induction l with
  | nil => intro n v; simp [setNth]
  | cons x xs ih =>
    intro n v
    simp only [setNth]
    cases n with
    | zero => simp
    | succ n => simp [beq_false_of (a := n + 1) (b := 0) (by omega), ih]

theorem takeN_eq {α : Type} : ∀ (n : Nat) (l : List α), takeN n l = l.take n := by
  intro n
  induction n with
  | zero => intro l; simp [takeN]
  | succ n ih => intro l; cases l <;> simp [takeN, ih]
theorem dropN_eq {α : Type} : ∀ (n : Nat) (l : List α), dropN n l = l.drop n := by
  intro n
  induction n with
  | zero => intro l; simp [dropN]
  | succ n ih => intro l; cases l <;> simp [dropN, ih]

theorem pos_eq (idx size off : Nat) : pos idx size off = idx * size + off := by
  unfold pos
  by_cases h0 : size = 0
  · subst h0; simp
  · rw [beq_false_of h0, cond_false]
    by_cases h1 : size = 1
    · subst h1
      simp only [Nat.beq_refl, cond_true, Nat.mul_one]
      by_cases h2 : off = 0
      · subst h2; simp
      · rw [beq_false_of h2, cond_false]; rfl
    · rw [beq_false_of h1, cond_false]; rfl

/-- What is owed holds. -/
def Obl (s : St) : Prop := ∀ b ∈ s.obl, b = true
structure Same (s s' : St) : Prop where
  H : s'.H = s.H
  nx : s'.nx = s.nx
  wr : s'.wr = s.wr
theorem Same.refl (s : St) : Same s s := ⟨rfl, rfl, rfl⟩
theorem Same.trans {a b c : St} (h : Same a b) (k : Same b c) : Same a c := ⟨k.H.trans h.H, k.nx.trans h.nx, k.wr.trans h.wr⟩
/-- A state that parts from another by decisions alone; if what is owed there holds, it held. -/
def Quiet (s s' : St) : Prop := Same s s' ∧ Obl s
theorem Quiet.refl {s : St} (h : Obl s) : Quiet s s := ⟨.refl s, h⟩
theorem Quiet.trans {a b c : St} (h : Quiet a b) (k : Same b c) : Quiet a c := ⟨h.1.trans k, h.2⟩

theorem dec_ok {b c : Bool} {s s' : St} (h : dec b s = (c, s')) (ho : Obl s') : c = b ∧ Quiet s s' := by
  unfold dec at h
  split at h
  · cases h; exact ⟨rfl, .refl ho⟩
  · rename_i n d r hr
    cases hb : Nat.beq n 0 with
    | true =>
      rw [hb, cond_true] at h
      cases h
      have h1 := ho (cond c b (!b)) (by simp)
      refine ⟨?_, ⟨⟨rfl, rfl, rfl⟩, fun x hx => ho x (by simp [hx])⟩⟩
      cases c <;> cases b <;> simp_all
    | false =>
      rw [hb, cond_false] at h
      cases h
      exact ⟨rfl, ⟨⟨rfl, rfl, rfl⟩, fun x hx => ho x hx⟩⟩
theorem need_ok {b : Bool} {s s' : St} (h : need b s = some s') (ho : Obl s') : b = true ∧ Quiet s s' := by
  unfold need at h
  split at h
  · rename_i s2 hd
    cases h
    obtain ⟨h1, h2⟩ := dec_ok hd ho
    exact ⟨h1.symm, h2⟩
  · cases h

/- Values. -/
theorem ofScalar_den {x : Value} {v : V} (L : LM) (h : V.ofScalar x = some v) : v.den L = x := by
  unfold V.ofScalar at h
  split at h <;> cases h <;> rfl
theorem ofScalars_den (L : LM) : ∀ (l : List Value) (vs : List V), ofScalars l = some vs → vs.map (V.den L) = l := by
  intro l
  induction l with
  | nil => intro vs h; simp only [ofScalars] at h; cases h; rfl
  | cons x xs ih =>
    intro vs h
    simp only [ofScalars] at h
    obtain ⟨v, hv, h⟩ := bind_some' h
    obtain ⟨r, hr, h⟩ := bind_some' h
    cases h
    simp [ofScalar_den L hv, ih _ hr]
theorem ofVal_den {x : Value} {v : V} (L : LM) (h : V.ofVal x = some v) : v.den L = x := by
  unfold V.ofVal at h
  split at h
  · cases h; rfl
  · rename_i cs
    obtain ⟨l, hl, h⟩ := bind_some' h
    cases h
    simp [V.den, denL_eq, ofScalars_den L _ _ hl]
  · exact ofScalar_den L h

/-- The slots of a frame. -/
def TmpR (L : LM) (nt : Nat) (T : Tr V) (a : Array Value) : Prop :=
  a.size = nt ∧ ∀ t, a.getD t undef = ((T.get t).getD undefV).den L

theorem den_undef (L : LM) : undefV.den L = undef := rfl

def evalA (a : Array Value) : Operand → Value
  | .tmp t => a.getD t undef
  | .const v => v
  | .global g => .pointer (some ⟨g, 0, none⟩)
  | .func f => .func (.func f) #[] #[]

theorem ev_ok {L : LM} {nt : Nat} {T : Tr V} {a : Array Value} (h : TmpR L nt T a) {x : Operand} {v : V} (hx : ev T x = some v) : evalA a x = v.den L := by
  cases x with
  | tmp t =>
    simp only [ev] at hx
    have := h.2 t
    simp only [evalA]
    rw [this]
    split at hx
    · rename_i hg; cases hx; rw [hg]; rfl
    · rename_i hg; cases hx; rw [hg]; rfl
  | const c => simp only [ev] at hx; simp only [evalA]; exact (ofVal_den L hx).symm
  | global g => simp [ev] at hx
  | func f => simp only [ev] at hx; cases hx; rfl

theorem evs_ok {L : LM} {nt : Nat} {T : Tr V} {a : Array Value} (h : TmpR L nt T a) : ∀ {xs : List Operand} {vs : List V}, evs T xs = some vs → xs.map (evalA a) = vs.map (V.den L) := by
  intro xs
  induction xs with
  | nil => intro vs hx; simp only [evs] at hx; cases hx; rfl
  | cons x xs ih =>
    intro vs hx
    simp only [evs] at hx
    obtain ⟨v, hv, hx⟩ := bind_some' hx
    obtain ⟨r, hr, hx⟩ := bind_some' hx
    cases hx
    simp [ev_ok h hv, ih hr]

/- Bodies. -/
theorem shRow_length : ∀ (sh : List Sh) (r : List Int), (shRow sh r).length = sh.length := by
  intro sh
  induction sh with
  | nil => intro r; rfl
  | cons s ss ih => intro r; cases r <;> simp [shRow, ih]
theorem shRow_get : ∀ (sh : List Sh) (r : List Int) (i : Nat) (h : Sh), sh[i]? = some h → (shRow sh r)[i]? = some (h.mk (r.getD i 0)) := by
  intro sh
  induction sh with
  | nil => intro r i h hh; simp at hh
  | cons s ss ih =>
    intro r i h hh
    cases i with
    | zero => simp at hh; subst hh; cases r <;> simp [shRow]
    | succ i => simp at hh; cases r with
      | nil => simp [shRow, ih _ _ _ hh]
      | cons x xs => simp [shRow, ih _ _ _ hh]

theorem flatMap_get {α β : Type} (f : α → List β) (n : Nat) (hf : ∀ x, (f x).length = n) : ∀ (l : List α) (i j : Nat), j < n → (l.flatMap f)[i * n + j]? = (l[i]?).bind fun x => (f x)[j]? := by
  intro l
  induction l with
  | nil => intro i j h; simp
  | cons x xs ih =>
    intro i j h
    rw [List.flatMap_cons]
    cases i with
    | zero => simp [List.getElem?_append_left (by rw [hf]; exact h : j < (f x).length)]
    | succ i =>
      rw [List.getElem?_append_right (by rw [hf, Nat.succ_mul]; omega)]
      rw [hf]
      have e : (i + 1) * n + j - n = i * n + j := by rw [Nat.succ_mul]; omega
      rw [e, ih _ _ h]
      simp
theorem flatMap_length {α β : Type} (f : α → List β) (n : Nat) (hf : ∀ x, (f x).length = n) : ∀ (l : List α), (l.flatMap f).length = l.length * n := by
  intro l
  induction l with
  | nil => simp
  | cons x xs ih => rw [List.flatMap_cons, List.length_append, hf, ih, List.length_cons, Nat.succ_mul]; omega

theorem Body.rd_ok {b : Body} {idx size off : Nat} {s s' : St} {v : V} (h : b.rd idx size off s = some (v, s')) (ho : Obl s') :
    b.flat[idx * size + off]? = some v ∧ Quiet s s' := by
  unfold Body.rd at h
  split at h
  · obtain ⟨w, hw, h⟩ := bind_some' h
    cases h
    rw [nth_eq, pos_eq] at hw
    exact ⟨hw, .refl ho⟩
  · rename_i k ws
    obtain ⟨s1, h1, h⟩ := bind_some' h
    cases h
    obtain ⟨hd, hq⟩ := need_ok h1 ho
    rw [pos_eq] at hd ⊢
    have hlt : idx * size + off < ws.length := by simpa using hd
    refine ⟨?_, hq⟩
    simp [Body.flat, List.getElem?_map, List.getElem?_eq_getElem hlt, List.getD_eq_getElem?_getD]
  · rename_i sh rs
    obtain ⟨_, h0, h⟩ := bind_some' h
    obtain ⟨hh, h1, h⟩ := bind_some' h
    obtain ⟨s1, h2, h⟩ := bind_some' h
    cases h
    obtain ⟨hd, hq⟩ := need_ok h2 ho
    have hlt : idx < rs.length := by simpa using hd
    have hsz : size = sh.length := Nat.beq_eq.mp (chk_some h0)
    rw [nth_eq] at h1
    have hoff : off < sh.length := (List.getElem?_eq_some_iff.1 h1).1
    refine ⟨?_, hq⟩
    show ((rs.flatMap (shRow sh))[idx * size + off]?) = _
    rw [hsz, flatMap_get _ _ (shRow_length sh) _ _ _ hoff, List.getElem?_eq_getElem hlt]
    simp only [Option.bind_some]
    rw [shRow_get _ _ _ _ h1]
    simp [List.getD_eq_getElem?_getD, List.getElem?_eq_getElem hlt]

theorem Body.rdN_ok {b : Body} {idx size : Nat} : ∀ (n off : Nat) {s s' : St} {vs : List V}, b.rdN idx size n off s = some (vs, s') → Obl s' →
    vs.length = n ∧ (∀ j, j < n → b.flat[idx * size + (off + j)]? = vs[j]?) ∧ Quiet s s' := by
  intro n
  induction n with
  | zero => intro off s s' vs h ho; simp only [Body.rdN] at h; cases h; exact ⟨rfl, fun j hj => absurd hj (by omega), .refl ho⟩
  | succ n ih =>
    intro off s s' vs h ho
    simp only [Body.rdN] at h
    obtain ⟨⟨v, s1⟩, h1, h⟩ := bind_some' h
    obtain ⟨⟨vs', s2⟩, h2, h⟩ := bind_some' h
    cases h
    obtain ⟨hl, hg, hq⟩ := ih _ h2 ho
    obtain ⟨hv, hq1⟩ := Body.rd_ok h1 hq.2
    refine ⟨by simp [hl], ?_, hq1.trans hq.1⟩
    intro j hj
    cases j with
    | zero => simpa using hv
    | succ j =>
      have := hg j (by omega)
      simp only [Nat.succ_eq_add_one] at this
      rw [show off + (j + 1) = off + 1 + j from by omega, this]
      simp

theorem shRow_nil_set : ∀ (sh : List Sh) (n : Nat) (v : Int) (h : Sh), sh[n]? = some h → shRow sh (rowSet.rowSet0 n v) = (shRow sh []).set n (h.mk v) := by
  intro sh
  induction sh with
  | nil => intro n v h hh; simp at hh
  | cons s ss ih =>
    intro n v h hh
    cases n with
    | zero => simp at hh; subst hh; simp [rowSet.rowSet0, shRow]
    | succ n => simp at hh; simp [rowSet.rowSet0, shRow, ih _ _ _ hh]

theorem rowSet_ok : ∀ (sh : List Sh) (r : List Int) (n : Nat) (v : Int) (h : Sh), sh[n]? = some h → shRow sh (rowSet r n v) = (shRow sh r).set n (h.mk v) := by
  intro sh
  induction sh with
  | nil => intro r n v h hh; simp at hh
  | cons s ss ih =>
    intro r n v h hh
    cases r with
    | nil =>
      simp only [rowSet]
      cases n with
      | zero => simp at hh; subst hh; simp [shRow]
      | succ n =>
        simp at hh
        simp only [beq_false_of (a := n + 1) (b := 0) (by omega), cond_false, shRow, List.set_cons_succ]
        rw [show Nat.sub (n + 1) 1 = n from rfl, shRow_nil_set _ _ _ _ hh]
    | cons x xs =>
      simp only [rowSet]
      cases n with
      | zero => simp at hh; subst hh; simp [shRow]
      | succ n =>
        simp at hh
        simp only [beq_false_of (a := n + 1) (b := 0) (by omega), cond_false, shRow, List.set_cons_succ]
        rw [show Nat.sub (n + 1) 1 = n from rfl, ih _ _ _ _ hh]

theorem Sh.of_mk {h : Sh} {v : V} {n : Int} (hh : h.of v = some n) : h.mk n = v := by
  unfold Sh.of at hh
  split at hh
  · split at hh
    · rename_i hk; cases hh; subst hk; rfl
    · cases hh
  · rename_i b; cases hh; cases b <;> simp [Sh.mk]
  · cases hh

theorem Sh.of_single {h : Sh} {v : V} {n : Int} (hh : h.of v = some n) : v.single = true := by
  unfold Sh.of at hh
  split at hh
  · rfl
  · rfl
  · cases hh

theorem flatMap_set {α β : Type} (f : α → List β) (n : Nat) (hf : ∀ x, (f x).length = n) : ∀ (l : List α) (i j : Nat) (x y : α) (b : β), j < n → l[i]? = some x → f y = (f x).set j b →
    (l.set i y).flatMap f = (l.flatMap f).set (i * n + j) b := by
  intro l
  induction l with
  | nil => intro i j x y b _ hx; simp at hx
  | cons z zs ih =>
    intro i j x y b hj hx hy
    cases i with
    | zero =>
      simp at hx; subst hx
      simp only [List.set_cons_zero, List.flatMap_cons, Nat.zero_mul, Nat.zero_add]
      rw [List.set_append_left _ _ (by rw [hf]; exact hj), hy]
    | succ i =>
      simp at hx
      simp only [List.set_cons_succ, List.flatMap_cons]
      rw [ih i j x y b hj hx hy, List.set_append_right _ _ (by rw [hf, Nat.succ_mul]; omega), hf]
      congr 2
      rw [Nat.succ_mul]; omega

theorem Body.wrt_ok {b b' : Body} {idx size off : Nat} {v : V} {s s' : St} (h : b.wrt idx size off v s = some (b', s')) (ho : Obl s') :
    b'.flat = b.flat.set (idx * size + off) v ∧ idx * size + off < b.flat.length ∧ v.single = true ∧ (∀ es, b'.count es = b.count es) ∧ Quiet s s' := by
  unfold Body.wrt at h
  split at h
  · obtain ⟨_, h0, h⟩ := bind_some' h
    obtain ⟨w, hw, h⟩ := bind_some' h
    cases h
    rw [nth_eq, pos_eq] at hw
    rw [setNth_eq, pos_eq]
    exact ⟨rfl, (List.getElem?_eq_some_iff.1 hw).1, chk_some h0, fun es => by simp [Body.count], .refl ho⟩
  · rename_i k ws
    split at h
    · rename_i k' n
      obtain ⟨_, h0, h⟩ := bind_some' h
      obtain ⟨s1, h1, h⟩ := bind_some' h
      cases h
      obtain ⟨hd, hq⟩ := need_ok h1 ho
      have hk : k = k' := by simpa using chk_some h0
      subst hk
      rw [pos_eq] at hd ⊢
      have hlt : idx * size + off < ws.length := by simpa using hd
      exact ⟨by simp [Body.flat, List.map_set], by simpa [Body.flat] using hlt, rfl, fun es => by simp [Body.count], hq⟩
    · cases h
  · rename_i sh rs
    obtain ⟨_, h0, h⟩ := bind_some' h
    obtain ⟨hh, h1, h⟩ := bind_some' h
    obtain ⟨n, h2, h⟩ := bind_some' h
    obtain ⟨s1, h3, h⟩ := bind_some' h
    cases h
    obtain ⟨hd, hq⟩ := need_ok h3 ho
    have hlt : idx < rs.length := by simpa using hd
    have hsz : size = sh.length := Nat.beq_eq.mp (chk_some h0)
    rw [nth_eq] at h1
    have hoff : off < sh.length := (List.getElem?_eq_some_iff.1 h1).1
    have hg : rs[idx]? = some (rs.getD idx []) := by simp [List.getD_eq_getElem?_getD, List.getElem?_eq_getElem hlt]
    refine ⟨?_, ?_, Sh.of_single h2, fun es => by simp [Body.count], hq⟩
    · show (rs.set idx _).flatMap (shRow sh) = (rs.flatMap (shRow sh)).set _ _
      rw [hsz]
      exact flatMap_set _ _ (shRow_length sh) _ _ _ _ _ _ hoff hg (by rw [rowSet_ok _ _ _ _ _ h1, Sh.of_mk h2])
    · show _ < (rs.flatMap (shRow sh)).length
      rw [flatMap_length _ _ (shRow_length sh), hsz]
      have h5 : (idx + 1) * sh.length ≤ rs.length * sh.length := Nat.mul_le_mul_right _ hlt
      rw [Nat.succ_mul] at h5
      omega

end Go.Sx
