/- What lies in memory; types; operations that only compute and read. -/
import Derived.Test.YtmmcpgjfkphgaaaGreatSxC
import Derived.Laws.AppendOwn
import Derived.Laws.Tables
namespace Go.Sx

def Dfr.den (L : LM) : Dfr → Deferred
  | .collected l => { target := .collected ((L l).blk.getD 0), args := #[] }
  | .call f args caps => { target := .fn (.func f) (caps.map (V.den L)).toArray, args := (args.map (V.den L)).toArray }

def cellsOf (L : LM) (b : Body) : List Value := b.flat.map (V.den L)

def ObR (L : LM) (w : World) (n : Nat) : Ob → Prop
  | .mem b t none => ∃ k, (L n).blk = some k ∧ (L n).off = 0 ∧ w.heap[k]? = some (.cells (cellsOf L b).toArray t (0, 0))
  | .mem b t (some es) => (L n).off = 0 ∧ b.count es = (L n).len ∧ b.flat.length = (L n).len * es ∧
      (((L n).blk = none ∧ (L n).len = 0 ∧ (L n).cap = 0) ∨ ∃ k cur, (L n).blk = some k ∧ w.heap[k]? = some (.cells cur t (0, 0)) ∧ (L n).len ≤ (L n).cap ∧ (L n).cap ≤ maxLen ∧
        cur.size = (L n).cap * es ∧ cur.toList.take ((L n).len * es) = cellsOf L b)
  | .ro k ws => ∃ b, (L n).blk = some b ∧ b < w.heap.size ∧ ∀ i (h : i < ws.length), w.cell? ⟨b, (L n).off + i, none⟩ = some (.int k ws[i])
  | .loop st pe fn tmps nt params assign body dl => ∃ k arr, (L n).blk = some k ∧ (L n).off = 0 ∧ TmpR L nt tmps arr ∧
      w.heap[k]? = some (.loop { state := st, pending := pe, fn, tmps := arr, params := params.toArray, assign, body, defers := (L dl).blk.getD 0 })
  | .deferred ds => ∃ k, (L n).blk = some k ∧ (L n).off = 0 ∧ w.heap[k]? = some (.deferred (ds.map fun l => l.map (Dfr.den L)))

def Ob.isRo : Ob → Bool
  | .ro .. => true
  | _ => false

/-- The symbolic blocks lie in memory, apart. -/
structure HR (L : LM) (H : Nat → Option Ob) (w : World) : Prop where
  ob : ∀ n o, H n = some o → ObR L w n o
  inj : ∀ n m on om, H n = some on → H m = some om → n ≠ m → on.isRo = false → (L n).blk ≠ none → (L n).blk ≠ (L m).blk

/-- Cells of a symbolic block. -/
def Ob.flat : Ob → List V
  | .mem b _ _ => b.flat
  | .ro k ws => ws.map (V.int k)
  | _ => []

theorem cell_of {L : LM} {w : World} {n : Nat} {o : Ob} (h : ObR L w n o) {p : Nat} {v : V} (hp : o.flat[p]? = some v) :
    w.cell? ⟨(L n).blk.getD 0, (L n).off + p, none⟩ = some (v.den L) := by
  cases o with
  | mem b t op =>
    cases op with
    | none =>
      obtain ⟨k, h1, h2, h3⟩ := h
      simp only [Ob.flat] at hp
      simp [World.cell?, h1, h2, h3, cellsOf, hp]
    | some es =>
      obtain ⟨h2, hc, hl, h⟩ := h
      simp only [Ob.flat] at hp
      have hlt := (List.getElem?_eq_some_iff.1 hp).1
      rcases h with ⟨_, h0, _⟩ | ⟨k, cur, h1, h3, _, _, _, h4⟩
      · rw [hl, h0] at hlt; omega
      · have h5 : (cellsOf L b)[p]? = some (v.den L) := by simp [cellsOf, hp]
        rw [← h4, List.getElem?_take_of_lt (by rw [← hl]; exact hlt)] at h5
        simp [World.cell?, h1, h2, h3]
        simpa using h5
  | ro k ws =>
    obtain ⟨b, h1, _, h2⟩ := h
    simp only [Ob.flat] at hp
    have hlt : p < ws.length := by simpa using (List.getElem?_eq_some_iff.1 hp).1
    have := h2 p hlt
    simp [List.getElem?_eq_getElem hlt] at hp
    subst hp
    simp [h1, this, V.den]
  | loop => simp [Ob.flat] at hp
  | deferred => simp [Ob.flat] at hp

/- Types. -/
def isAggD : TypeDesc → Bool
  | .struct _ => true
  | .array _ _ => true
  | _ => false
/-- A type's size, and whether it is a struct or an array. -/
def Szd (P : Program) (t : TypeId) (size : Nat) (ag : Bool) : Prop :=
  ∃ i d, P.info? t = some i ∧ i.size = size ∧ P.underlying t = some d ∧ isAggD d = ag

def KdR (P : Program) (d : TypeDesc) : Kd → Prop
  | .struct fs => ∃ fields : Array Field, d = .struct fields ∧ fields.size = fs.length ∧ ∀ (i o sz : Nat) (ag : Bool), fs[i]? = some (o, sz, ag) → ∃ f : Field, fields[i]? = some f ∧ f.offset = o ∧ Szd P f.type sz ag
  | .arr n es ag => ∃ e, d = .array n e ∧ Szd P e es ag
  | .slice e => d = .slice e
  | .intk k => d = .int k
  | .bool => d = .bool
  | .ptr => ∃ e i, d = .pointer e ∧ P.info? e = some i ∧ i.size ≠ 0
  | .func => ∃ a b c, d = .func a b c
  | .iface => ∃ ms, d = .interface ms
  | .other => True

structure TIok (P : Program) (t : TypeId) (ti : TI) : Prop where
  info : ∃ i z d, P.info? t = some i ∧ i.size = ti.size ∧ i.bytes = ti.bytes ∧ i.zero = some z ∧ (∀ L, z.cells.toList = cellsOf L ti.zb) ∧
    P.underlying t = some d ∧ isAggD d = ti.agg ∧ KdR P d ti.kind
  zlen : ti.zb.flat.length = ti.size
  row : match ti.row with
    | .words k => ti.size = 1 ∧ ∀ L, cellsOf L ti.zb = [.int k 0]
    | .rows sh => ti.size = sh.length ∧ ∀ L, cellsOf L ti.zb = (shRow sh []).map (V.den L)
    | .cells => True

/-- Structs of whole numbers, side by side. -/
def intVals (ks : List IntKind) (ns : List Int) : List Value := (ks.zip ns).map fun x => Value.int x.1 x.2
def SEok (P : Program) (t : TypeId) (ks : List IntKind) : Prop := ∀ (xs ys : List Int) (w : World), xs.length = ks.length → ys.length = ks.length →
  (Op.equal t (.agg (intVals ks xs).toArray) (.agg (intVals ks ys).toArray)).run P w = .ok (eqL xs ys) w ∧ ∀ op (x y : Operand), (eqGuard op t x y (.agg (intVals ks xs).toArray) (.agg (intVals ks ys).toArray)).run P w = .ok () w
/-- A method of a type, found by its name: the receiver is as it was. -/
def IMok (P : Program) (t : TypeId) (n : String) (f : FuncId) : Prop := ∀ (v : Value) (w : World), (method (P.types.size + Made.depth) t v n).run P w = .ok (f, v) w
/-- A type of pointers. -/
def PZok (P : Program) (t : TypeId) : Prop := (∃ e, P.underlying t = some (.pointer e)) ∧ ∀ w, (zeroValue t).run P w = .ok (.pointer none) w
structure EnvOK (P : Program) (E : Env) : Prop where
  mixed : P.follows .mixedOrders = true
  ty : ∀ t ti, E.TT t = some ti → TIok P t ti
  fn : ∀ f fn, E.FT f = some fn → P.funcs[f]? = some fn ∧ ∀ args w, (callFunc f args).run P w = .ok (.enter f args) w
  se : ∀ t ks, E.SE t = some ks → SEok P t ks
  im : ∀ t n f, E.IM t n = some f → IMok P t n f
  pz : ∀ t, E.PZ t = true → PZok P t

section
variable {P : Program} {E : Env}

theorem run_sizeOf' {t : TypeId} {i : TypeInfo} (h : P.info? t = some i) (w : World) : (sizeOf t).run P w = .ok i.size w := by simp [sizeOf, typeInfo, h]
theorem run_und {t : TypeId} {d : TypeDesc} (h : P.underlying t = some d) (w : World) : (underlying t).run P w = .ok d w := by simp [underlying, h]
theorem run_isAgg' {t : TypeId} {d : TypeDesc} (h : P.underlying t = some d) (w : World) : (isAgg t).run P w = .ok (isAggD d) w := by
  simp only [isAgg, Sem.run_bind, run_und h, Result.andThen_ok]
  cases d <;> rfl
theorem run_zero' {t : TypeId} {i : TypeInfo} {z : Value} (h : P.info? t = some i) (hz : i.zero = some z) (w : World) : (zeroValue t).run P w = .ok z w := by simp [zeroValue, typeInfo, h, hz]

theorem addr_add (b o p : Nat) : (⟨b, o, none⟩ : Addr).add p = ⟨b, o + p, none⟩ := by
  unfold Addr.add
  split
  · rename_i h; subst h; rfl
  · rfl

theorem loadX_ok (hE : EnvOK P E) {t : TypeId} {a v : V} {s s' : St} (h : loadX E t a s = some (v, s')) (ho : Obl s') :
    Quiet s s' ∧ ∀ (L : LM) (w : World), (∀ n idx size off o, a = .ptr n idx size off → s.H.get n = some o → ObR L w n o) →
      (Instr.loadAt t (a.den L)).run P w = .ok (v.den L) w := by
  unfold loadX at h
  split at h
  · rename_i n idx size off
    obtain ⟨ti, hti, h⟩ := bind_some' h
    have hT := hE.ty _ _ hti
    obtain ⟨i, z, d, hi, hs, hb, hz, hzz, hu, hag, hk⟩ := hT.info
    have hload : ∀ (o : Ob), s.H.get n = some o → (∀ (v : V) (s' : St), ti.agg = false → (o.flat[idx * size + off]? = some v) → ∀ L w, ObR L w n o → (Instr.loadAt t ((V.ptr n idx size off).den L)).run P w = .ok (v.den L) w) ∧
        (∀ (vs : List V), ti.agg = true → vs.length = ti.size → (∀ j, j < ti.size → o.flat[idx * size + (off + j)]? = vs[j]?) → ∀ L w, ObR L w n o → (Instr.loadAt t ((V.ptr n idx size off).den L)).run P w = .ok ((V.agg vs).den L) w) := by
      intro o _
      constructor
      · intro v _ hagf hg L w hR
        have hc := cell_of hR hg
        simp only [Instr.loadAt, Instr.sureAddr, V.den, Sem.run_bind, Sem.run_pure, Result.andThen_ok, loadVar, run_isAgg' hu, hag, hagf]
        simp [hc]
      · intro vs hagt hvl hg L w hR
        have hc : ∀ j u, (vs.map (V.den L))[j]? = some u → w.cell? ((⟨(L n).blk.getD 0, (L n).off + (idx * size + off), none⟩ : Addr).add j) = some u := by
          intro j u hu'
          have hj : j < vs.length := by have := (List.getElem?_eq_some_iff.1 hu').1; simpa using this
          have h1 : vs[j]? = some vs[j] := List.getElem?_eq_getElem hj
          have h2 := cell_of hR ((hg j (by omega)).trans h1)
          rw [addr_add]
          simp [List.getElem?_eq_getElem hj] at hu'
          subst hu'
          rw [show (L n).off + (idx * size + off) + j = (L n).off + (idx * size + (off + j)) from by omega]
          exact h2
        have hrun := run_loadCells_list (P := P) w (⟨(L n).blk.getD 0, (L n).off + (idx * size + off), none⟩ : Addr) (vs.map (V.den L)) hc
        simp only [List.length_map, hvl] at hrun
        simp only [Instr.loadAt, Instr.sureAddr, V.den, Sem.run_bind, Sem.run_pure, Result.andThen_ok, loadVar, run_isAgg' hu, hag, hagt, if_true, run_sizeOf' hi, hs, hrun, denL_eq]
    split at h
    · rename_i b bt op hg
      split at h
      · rename_i hagt
        obtain ⟨⟨vs, s1⟩, h1, h⟩ := bind_some' h
        cases h
        obtain ⟨hl, hc, hq⟩ := Body.rdN_ok _ _ h1 ho
        exact ⟨hq, fun L w hR => (hload _ hg).2 vs hagt hl (fun j hj => hc j hj) L w (hR _ _ _ _ _ rfl hg)⟩
      · rename_i hagf
        obtain ⟨_, h0, h⟩ := bind_some' h
        obtain ⟨hv, hq⟩ := Body.rd_ok h ho
        exact ⟨hq, fun L w hR => (hload _ hg).1 v s' hagf hv L w (hR _ _ _ _ _ rfl hg)⟩
    · rename_i k ws hg
      split at h
      · cases h
      · rename_i hagf
        obtain ⟨_, h0, h⟩ := bind_some' h
        obtain ⟨hv, hq⟩ := Body.rd_ok h ho
        exact ⟨hq, fun L w hR => (hload _ hg).1 v s' hagf hv L w (hR _ _ _ _ _ rfl hg)⟩
    · cases h
  · cases h

theorem lenX_ok {v : V} {s : St} {k : Nat} (h : lenX v s = some k) (L : LM) (w : World)
    (hR : ∀ n es o, v = .osl n es → s.H.get n = some o → ObR L w n o) : ∃ a c, v.den L = .slice a k c := by
  unfold lenX at h
  split at h
  · cases h; exact ⟨_, _, rfl⟩
  · rename_i n es
    split at h
    · rename_i b t e hg
      obtain ⟨_, h0, h⟩ := bind_some' h
      cases h
      have he : e = es := Nat.beq_eq.mp (chk_some h0)
      subst he
      obtain ⟨_, hc, _, hh⟩ := hR _ _ _ rfl hg
      simp only [V.den]
      rcases hh with ⟨h1, h2, _⟩ | ⟨k, cur, h1, _⟩
      · rw [h1]; simp only []; exact ⟨none, 0, by rw [hc, h2]⟩
      · rw [h1]; simp only []; exact ⟨_, _, by rw [hc]⟩
    · cases h
  · rename_i n es start len
    cases h
    simp only [V.den]
    split <;> exact ⟨_, _, rfl⟩
  · cases h; exact ⟨_, _, rfl⟩
  · cases h

end
end Go.Sx
