/- Blocks are given other numbers; a part of what is known is taken. -/
import Derived.Test.YtmmcpgjfkphgaaaGreatSxT
namespace Go.Sx

mutual
def V.ren (π : Nat → Nat) : V → V
  | .int k n => .int k n
  | .bool b => .bool b
  | .nilp => .nilp
  | .ptr n idx size off => .ptr (π n) idx size off
  | .slice n start es len cap => .slice (π n) start es len cap
  | .nils => .nils
  | .osl n es => .osl (π n) es
  | .osv n es base start len => .osv (π n) es base start len
  | .fn f first caps => .fn f (V.renL π first) (V.renL π caps)
  | .yld l => .yld (π l)
  | .nilf => .nilf
  | .iface t v => .iface t (v.ren π)
  | .nili => .nili
  | .agg cs => .agg (V.renL π cs)
  | .tup vs => .tup (V.renL π vs)
  | .str s => .str s
  | .nilm => .nilm
def V.renL (π : Nat → Nat) : List V → List V
  | [] => []
  | v :: vs => v.ren π :: V.renL π vs
end

theorem renL_eq (π : Nat → Nat) (l : List V) : V.renL π l = l.map (V.ren π) := by
  induction l with
  | nil => rfl
  | cons v vs ih => simp [V.renL, ih]

mutual
theorem den_ren (π : Nat → Nat) (L : LM) : ∀ v : V, (v.ren π).den L = v.den (fun n => L (π n))
  | .int k n => rfl
  | .bool b => rfl
  | .nilp => rfl
  | .ptr n idx size off => rfl
  | .slice n start es len cap => rfl
  | .nils => rfl
  | .osl n es => rfl
  | .osv n es base start len => rfl
  | .fn f first caps => by simp only [V.ren, V.den, denL_ren π L first, denL_ren π L caps]
  | .yld l => rfl
  | .nilf => rfl
  | .iface t v => by simp only [V.ren, V.den, den_ren π L v]
  | .nili => rfl
  | .agg cs => by simp only [V.ren, V.den, denL_ren π L cs]
  | .tup vs => by simp only [V.ren, V.den, denL_ren π L vs]
  | .str s => rfl
  | .nilm => rfl
theorem denL_ren (π : Nat → Nat) (L : LM) : ∀ l : List V, V.denL L (V.renL π l) = V.denL (fun n => L (π n)) l
  | [] => rfl
  | v :: vs => by simp only [V.renL, V.denL, den_ren π L v, denL_ren π L vs]
end

def Body.ren (π : Nat → Nat) : Body → Body
  | .cells cs => .cells (V.renL π cs)
  | b => b

theorem shRow_ren (π : Nat → Nat) : ∀ (sh : List Sh) (r : List Int), (shRow sh r).map (V.ren π) = shRow sh r := by
  intro sh
  induction sh with
  | nil => intro r; rfl
  | cons s ss ih =>
    intro r
    cases r with
    | nil => cases s <;> simp [shRow, Sh.mk, V.ren, ih]
    | cons n ns => cases s <;> simp [shRow, Sh.mk, V.ren, ih]

theorem flat_ren (π : Nat → Nat) (b : Body) : (b.ren π).flat = b.flat.map (V.ren π) := by
  cases b with
  | cells cs => simp [Body.ren, Body.flat, renL_eq]
  | words k ws => simp [Body.ren, Body.flat, V.ren]
  | rows sh rs =>
    simp only [Body.ren, Body.flat, List.map_flatMap]
    congr 1
    funext r
    rw [shRow_ren]

theorem cellsOf_ren (π : Nat → Nat) (L : LM) (b : Body) : cellsOf L (b.ren π) = cellsOf (fun n => L (π n)) b := by
  simp only [cellsOf, flat_ren, List.map_map]
  congr 1
  funext v
  exact den_ren π L v

theorem count_ren (π : Nat → Nat) (b : Body) (es : Nat) : (b.ren π).count es = b.count es := by
  cases b <;> simp [Body.ren, Body.count, renL_eq]

def Ob.ren (π : Nat → Nat) : Ob → Ob
  | .mem b t op => .mem (b.ren π) t op
  | o => o
def Ob.plain : Ob → Bool
  | .mem .. => true
  | .ro .. => true
  | _ => false

theorem isRo_ren (π : Nat → Nat) (o : Ob) : (o.ren π).isRo = o.isRo := by cases o <;> rfl

theorem ObR_ren {π : Nat → Nat} {L : LM} {w : World} {m : Nat} {o : Ob} (hp : o.plain = true) : ObR L w (π m) (o.ren π) ↔ ObR (fun n => L (π n)) w m o := by
  cases o with
  | mem b t op =>
    cases op with
    | none => simp only [Ob.ren, ObR, cellsOf_ren]
    | some es => simp only [Ob.ren, ObR, cellsOf_ren, count_ren, flat_ren, List.length_map]
  | ro k ws => exact Iff.rfl
  | loop => cases hp
  | deferred => cases hp

/-- A part of what is known, under other numbers. -/
theorem SR.take {D D' : Nat → Prop} {L : LM} {H H' : Nat → Option Ob} {w : World} {π : Nat → Nat} (h : SR D L H w) (_hD : ∀ m, D' m → D (π m))
    (hH : ∀ m o, H' m = some o → o.plain = true ∧ D' m ∧ H (π m) = some (o.ren π)) (hmen : ∀ m o L1 L2, H' m = some o → Agree D' L1 L2 → ObR L1 w m o → ObR L2 w m o)
    (hinj : ∀ m n om on, H' m = some om → H' n = some on → om.isRo = false → m ≠ n → π m ≠ π n) :
    SR D' (fun n => L (π n)) H' w := by
  have h0 := h L (.refl _ _)
  intro L' hL'
  refine ⟨fun m o ho => ?_, fun m n om on hm hn hne hr hb => ?_⟩
  · obtain ⟨h1, h2, h3⟩ := hH m o ho
    exact hmen m o _ _ ho hL' ((ObR_ren h1).1 (h0.ob _ _ h3))
  · obtain ⟨a1, a2, a3⟩ := hH m om hm
    obtain ⟨b1, b2, b3⟩ := hH n on hn
    rw [← hL' m a2, ← hL' n b2]
    rw [← hL' m a2] at hb
    exact h0.inj (π m) (π n) _ _ a3 b3 (hinj m n om on hm hn hr hne) (by rw [isRo_ren]; exact hr) hb

/- Which numbers a value names. -/
mutual
def V.names (p : Nat → Bool) : V → Bool
  | .ptr n _ _ _ => p n
  | .slice n _ _ _ _ => p n
  | .osl n _ => p n
  | .osv n _ _ _ _ => p n
  | .fn _ first caps => V.namesL p first && V.namesL p caps
  | .yld l => p l
  | .iface _ v => v.names p
  | .agg cs => V.namesL p cs
  | .tup vs => V.namesL p vs
  | _ => true
def V.namesL (p : Nat → Bool) : List V → Bool
  | [] => true
  | v :: vs => v.names p && V.namesL p vs
end

mutual
theorem den_names {p : Nat → Bool} {L L' : LM} (h : ∀ n, p n = true → L n = L' n) : ∀ v : V, v.names p = true → v.den L = v.den L'
  | .int k n, _ => rfl
  | .bool b, _ => rfl
  | .nilp, _ => rfl
  | .ptr n idx size off, hv => by simp only [V.names] at hv; simp only [V.den, h n hv]
  | .slice n start es len cap, hv => by simp only [V.names] at hv; simp only [V.den, h n hv]
  | .nils, _ => rfl
  | .osl n es, hv => by simp only [V.names] at hv; simp only [V.den, h n hv]
  | .osv n es base start len, hv => by simp only [V.names] at hv; simp only [V.den, h n hv]
  | .fn f first caps, hv => by
    simp only [V.names, Bool.and_eq_true] at hv
    simp only [V.den, denL_names h first hv.1, denL_names h caps hv.2]
  | .yld l, hv => by simp only [V.names] at hv; simp only [V.den, h l hv]
  | .nilf, _ => rfl
  | .iface t v, hv => by simp only [V.names] at hv; simp only [V.den, den_names h v hv]
  | .nili, _ => rfl
  | .agg cs, hv => by simp only [V.names] at hv; simp only [V.den, denL_names h cs hv]
  | .tup vs, hv => by simp only [V.names] at hv; simp only [V.den, denL_names h vs hv]
  | .str s, _ => rfl
  | .nilm, _ => rfl
theorem denL_names {p : Nat → Bool} {L L' : LM} (h : ∀ n, p n = true → L n = L' n) : ∀ l : List V, V.namesL p l = true → V.denL L l = V.denL L' l
  | [], _ => rfl
  | v :: vs, hv => by
    simp only [V.namesL, Bool.and_eq_true] at hv
    simp only [V.denL, den_names h v hv.1, denL_names h vs hv.2]
end

mutual
theorem ren_names {p : Nat → Bool} {π π' : Nat → Nat} (h : ∀ n, p n = true → π n = π' n) : ∀ v : V, v.names p = true → v.ren π = v.ren π'
  | .int k n, _ => rfl
  | .bool b, _ => rfl
  | .nilp, _ => rfl
  | .ptr n idx size off, hv => by simp only [V.names] at hv; simp only [V.ren, h n hv]
  | .slice n start es len cap, hv => by simp only [V.names] at hv; simp only [V.ren, h n hv]
  | .nils, _ => rfl
  | .osl n es, hv => by simp only [V.names] at hv; simp only [V.ren, h n hv]
  | .osv n es base start len, hv => by simp only [V.names] at hv; simp only [V.ren, h n hv]
  | .fn f first caps, hv => by
    simp only [V.names, Bool.and_eq_true] at hv
    simp only [V.ren, renL_names h first hv.1, renL_names h caps hv.2]
  | .yld l, hv => by simp only [V.names] at hv; simp only [V.ren, h l hv]
  | .nilf, _ => rfl
  | .iface t v, hv => by simp only [V.names] at hv; simp only [V.ren, ren_names h v hv]
  | .nili, _ => rfl
  | .agg cs, hv => by simp only [V.names] at hv; simp only [V.ren, renL_names h cs hv]
  | .tup vs, hv => by simp only [V.names] at hv; simp only [V.ren, renL_names h vs hv]
  | .str s, _ => rfl
  | .nilm, _ => rfl
theorem renL_names {p : Nat → Bool} {π π' : Nat → Nat} (h : ∀ n, p n = true → π n = π' n) : ∀ l : List V, V.namesL p l = true → V.renL π l = V.renL π' l
  | [], _ => rfl
  | v :: vs, hv => by
    simp only [V.namesL, Bool.and_eq_true] at hv
    simp only [V.renL, ren_names h v hv.1, renL_names h vs hv.2]
end

def Body.names (p : Nat → Bool) : Body → Bool
  | .cells cs => V.namesL p cs
  | _ => true
def Ob.names (p : Nat → Bool) : Ob → Bool
  | .mem b _ _ => b.names p
  | .ro .. => true
  | _ => false

theorem cellsOf_names {p : Nat → Bool} {L L' : LM} (h : ∀ n, p n = true → L n = L' n) {b : Body} (hb : b.names p = true) : cellsOf L b = cellsOf L' b := by
  cases b with
  | cells cs => simp only [Body.names] at hb; have := denL_names h cs hb; simp only [cellsOf, Body.flat]; rw [← denL_eq, ← denL_eq]; exact this
  | words k ws =>
    simp only [cellsOf, Body.flat, List.map_map]
    congr 1
  | rows sh rs =>
    simp only [cellsOf, Body.flat, List.map_flatMap]
    congr 1
    funext r
    have : ∀ (sh : List Sh) (r : List Int), (shRow sh r).map (V.den L) = (shRow sh r).map (V.den L') := by
      intro sh
      induction sh with
      | nil => intro r; rfl
      | cons s ss ih => intro r; cases r <;> cases s <;> simp [shRow, Sh.mk, V.den, ih]
    exact this sh r

theorem ObR_names {p : Nat → Bool} {L L' : LM} {w : World} {m : Nat} {o : Ob} (h : ∀ n, p n = true → L n = L' n) (hm : p m = true) (ho : o.names p = true) (hR : ObR L w m o) : ObR L' w m o := by
  have hLm := h m hm
  cases o with
  | mem b t op =>
    simp only [Ob.names] at ho
    cases op with
    | none => simp only [ObR] at hR ⊢; rw [← hLm, ← cellsOf_names h ho]; exact hR
    | some es => simp only [ObR] at hR ⊢; rw [← hLm, ← cellsOf_names h ho]; exact hR
  | ro k ws => simp only [ObR] at hR ⊢; rw [← hLm]; exact hR
  | loop => cases ho
  | deferred => cases ho

end Go.Sx
