/- Words of a stack: what is read of what is written. -/
import Derived.Test.YtoiajdjmlbdfnaaSkV
namespace Go.Sx
set_option maxRecDepth 100000

theorem wrap_u64 {x : Int} (h1 : 0 ≤ x) (h2 : x < 18446744073709551616) : IntKind.u64.wrap x = x := by
  simp only [IntKind.wrap, IntKind.bits, IntKind.signed]
  have e : x % 2 ^ 64 = x := by omega
  simp; omega

theorem and_mask (m : Nat) (x : Int) (hx : 0 ≤ x) (hx2 : x < 18446744073709551616) (hm : m ≤ 64) : ((BitVec.ofInt 64 x &&& BitVec.ofInt 64 ((2 : Int) ^ m - 1)).toNat : Int) = x % 2 ^ m := by
  obtain ⟨k, rfl⟩ := Int.eq_ofNat_of_zero_le hx
  have e1 : (BitVec.ofInt 64 (k : Int)).toNat = k := by simp [BitVec.toNat_ofInt]; omega
  have hp : (1:Int) ≤ 2 ^ m := by exact_mod_cast Nat.one_le_two_pow
  have e2 : (BitVec.ofInt 64 ((2 : Int) ^ m - 1)).toNat = 2 ^ m - 1 := by
    rw [BitVec.toNat_ofInt]
    have : (2:Nat) ^ m ≤ 2 ^ 64 := Nat.pow_le_pow_right (by decide) hm
    have h4 := Nat.one_le_two_pow (n := m)
    have h3 : ((2:Int) ^ m - 1) = ((2 ^ m - 1 : Nat) : Int) := by
      rw [Int.natCast_sub h4]; simp
    rw [h3]
    generalize 2 ^ m = q at *
    omega
  rw [BitVec.toNat_and, e1, e2, Nat.and_two_pow_sub_one_eq_mod]
  rw [Int.natCast_emod, Int.natCast_pow]; rfl

theorem rawG_eq {i t : Int} (h1 : -1 ≤ i) (h2 : i ≤ 65534) (h3 : 0 ≤ t) (h4 : t < 281474976710656) : rawG (i + 1 + t * 65536) = i := by
  unfold rawG
  have e0 : min (Int.toNat 0) IntKind.u64.bits = 0 := rfl
  have e1 : min (Int.toNat 16) IntKind.u64.bits = 16 := rfl
  have e2 : IntKind.u64.bits = 64 := rfl
  rw [e0, e1, e2]
  have e3 : IntKind.u64.wrap (IntKind.u64.wrap (1 * 2 ^ 16) - 1) = 2 ^ 16 - 1 := by decide
  have e4 : (i + 1 + t * 65536).fdiv (2 ^ 0) = i + 1 + t * 65536 := by simp
  rw [e3, e4, and_mask 16 _ (by omega) (by omega) (by decide)]
  have e5 : (i + 1 + t * 65536) % 2 ^ 16 = i + 1 := by omega
  rw [e5, wrap_u64 (x := i + 1) (by omega) (by omega), wrap_i64 (x := i + 1) (by omega) (by omega), wrap_i64 (by omega) (by omega)]
  omega

theorem tagN_eq {i t : Int} (h1 : -1 ≤ i) (h2 : i ≤ 65534) (h3 : 0 ≤ t) (h4 : t < 281474976710655) : tagN (i + 1 + t * 65536) = t + 1 := by
  unfold tagN
  have e0 : min (Int.toNat 48) IntKind.u64.bits = 48 := rfl
  have e1 : min (Int.toNat 16) IntKind.u64.bits = 16 := rfl
  have e2 : IntKind.u64.bits = 64 := rfl
  have e2' : IntKind.i64.bits = 64 := rfl
  rw [e0, e1, e2, e2']
  have e3 : IntKind.u64.wrap (IntKind.u64.wrap (1 * 2 ^ 48) - 1) = 2 ^ 48 - 1 := by decide
  have e4 : (i + 1 + t * 65536).fdiv (2 ^ 16) = t := by
    rw [Int.fdiv_eq_ediv_of_nonneg _ (by decide)]; omega
  rw [e3, e4, and_mask 48 _ (by omega) (by omega) (by omega)]
  have e5 : t % 2 ^ 48 = t := by omega
  rw [e5, wrap_u64 (x := t) (by omega) (by omega), wrap_i64 (x := t) (by omega) (by omega), wrap_i64 (x := t + 1) (by omega) (by omega)]
  have e6 : (281474976710655 : Int) = 2 ^ 48 - 1 := by decide
  rw [e6, and_mask 48 _ (by omega) (by omega) (by omega)]
  rw [wrap_i64 (by omega) (by omega)]
  omega

theorem or_add (a b : Int) (k : Nat) (ha : 0 ≤ a) (ha2 : a < 2 ^ k) (hb : 0 ≤ b) (hk : k ≤ 64) (hs : a + b * 2 ^ k < 18446744073709551616) : ((BitVec.ofInt 64 a ||| BitVec.ofInt 64 (b * 2 ^ k)).toNat : Int) = a + b * 2 ^ k := by
  obtain ⟨x, rfl⟩ := Int.eq_ofNat_of_zero_le ha
  obtain ⟨y, rfl⟩ := Int.eq_ofNat_of_zero_le hb
  have hx : x < 2 ^ k := by
    have h : ((x : Nat) : Int) < ((2 ^ k : Nat) : Int) := by rw [Int.natCast_pow]; exact ha2
    exact Int.ofNat_lt.mp h
  have hy : ((y : Int) * 2 ^ k) = ((y * 2 ^ k : Nat) : Int) := by rw [Int.natCast_mul, Int.natCast_pow]; rfl
  have hs' : x + y * 2 ^ k < 18446744073709551616 := by rw [hy] at hs; omega
  have e1 : (BitVec.ofInt 64 (x : Int)).toNat = x := by simp [BitVec.toNat_ofInt]; omega
  have e2 : (BitVec.ofInt 64 ((y : Int) * 2 ^ k)).toNat = y * 2 ^ k := by
    rw [BitVec.toNat_ofInt, hy]; omega
  rw [BitVec.toNat_or, e1, e2, Nat.mul_comm, Nat.or_comm, ← Nat.two_pow_add_eq_or_of_lt hx]
  rw [hy, Nat.mul_comm]; omega

theorem putG_eq {i t : Int} (h1 : -1 ≤ i) (h2 : i ≤ 65534) (h3 : 0 ≤ t) (h4 : t < 281474976710656) : putG i t = i + 1 + t * 65536 := by
  unfold putG
  have e0 : min (Int.toNat 0) IntKind.u64.bits = 0 := rfl
  have e1 : min (Int.toNat 16) IntKind.u64.bits = 16 := rfl
  have e2 : IntKind.u64.bits = 64 := rfl
  rw [e0, e1, e2]
  rw [wrap_i64 (by omega) (by omega)]
  have e3 : IntKind.u64.wrap (i + 1) * 2 ^ 0 = i + 1 := by rw [wrap_u64 (by omega) (by omega)]; omega
  rw [e3, wrap_u64 (x := i + 1) (by omega) (by omega)]
  have e4 : ((BitVec.ofInt 64 0 ||| BitVec.ofInt 64 (i + 1)).toNat : Int) = i + 1 := by
    have := or_add 0 (i + 1) 0 (by omega) (by omega) (by omega) (by omega) (by omega)
    simpa using this
  rw [e4, wrap_u64 (x := i + 1) (by omega) (by omega), wrap_u64 (x := t) (by omega) (by omega), wrap_u64 (x := t * 2 ^ 16) (by omega) (by omega)]
  rw [or_add (i + 1) t 16 (by omega) (by omega) (by omega) (by omega) (by omega), wrap_u64 (by omega) (by omega)]
  omega

theorem raw_eq {i t : Int} (h1 : -1 ≤ i) (h2 : i ≤ 65534) (h3 : 0 ≤ t) : raw (i + 1 + t * 65536) = i := by
  unfold raw
  have e5 : (i + 1 + t * 65536).tmod 65536 = i + 1 := by
    rw [Int.tmod_eq_emod_of_nonneg (by omega)]; omega
  rw [e5, wrap_i64 (x := i + 1) (by omega) (by omega), wrap_i64 (by omega) (by omega)]
  omega


/-- A list without doubles of numbers below a bound is not longer than that. -/
theorem nodup_le : ∀ (n : Nat) (l : List Nat), l.Nodup → (∀ x ∈ l, x < n) → l.length ≤ n := by
  intro n
  induction n with
  | zero => intro l _ h; cases l with
    | nil => simp
    | cons x l => exact absurd (h x (List.mem_cons_self ..)) (by omega)
  | succ n ih =>
    intro l hd h
    by_cases hn : n ∈ l
    · have h1 := ih (l.erase n) (hd.erase n) (fun x hx => by
        have h2 := (List.Nodup.mem_erase_iff hd).1 hx
        have := h x h2.2
        omega)
      rw [List.length_erase_of_mem hn] at h1
      omega
    · have := ih l hd (fun x hx => by
        have := h x hx
        have : x ≠ n := fun e => hn (e ▸ hx)
        omega)
      omega
theorem nodup_int {n : Int} {l : List Int} (hd : l.Nodup) (h : ∀ x ∈ l, 0 ≤ x ∧ x < n) : l.length ≤ n.toNat := by
  have h1 : (l.map Int.toNat).Nodup := by
    unfold List.Nodup
    rw [List.pairwise_map]
    refine List.Pairwise.imp_of_mem (fun {a b} ha hb hne => ?_) hd
    have := h a ha; have := h b hb; omega
  have h2 := nodup_le n.toNat (l.map Int.toNat) h1 (fun x hx => by
    obtain ⟨y, hy, rfl⟩ := List.mem_map.1 hx
    have := h y hy; omega)
  simpa using h2

def topW (i t : Int) : Int := i + 1 + t * 65536
def Lk (ws : List Int) : List Int → Prop
  | [] => True
  | x :: r => ws.getD (4 + x).toNat 0 = r.headD (-1) + 1 ∧ Lk ws r

theorem idxI_eq {n i t : Int} (h1 : -1 ≤ i) (h2 : i < n) (hn : n ≤ 12) (h3 : 0 ≤ t) : idxI n (topW i t) = i := by
  unfold idxI topW
  rw [raw_eq h1 (by omega) h3, if_neg (by omega)]
theorem idxI_eq0 {n i : Int} (h1 : -1 ≤ i) (h2 : i < n) (hn : n ≤ 12) : idxI n (i + 1) = i := by
  have := idxI_eq (t := 0) h1 h2 hn (by omega)
  simpa [topW] using this

theorem headD_rg {n : Int} {C : List Int} (h : ∀ x ∈ C, 0 ≤ x ∧ x < n) (hn : 0 ≤ n) : -1 ≤ C.headD (-1) ∧ C.headD (-1) < n := by
  cases C with
  | nil => simp; omega
  | cons x r => have := h x (List.mem_cons_self ..); simp; omega

theorem chainGo_eq {n : Int} {W : List Int} (hn : n ≤ 12) : ∀ (rest out : List Int) (k : Nat), Lk W rest → (∀ x ∈ rest, 0 ≤ x ∧ x < n) → (out.length : Int) + rest.length ≤ n → rest.length ≤ k → chainGo n W k (rest.headD (-1)) out = out ++ rest := by
  intro rest
  induction rest with
  | nil =>
    intro out k _ _ _ _
    cases k with
    | zero => simp [chainGo]
    | succ k =>
      show chainGo n W (k + 1) (-1) out = out ++ []
      simp only [chainGo]; rw [if_neg (by omega)]; simp
  | cons x r ih =>
    intro out k hL hr hlen hk
    obtain ⟨k, rfl⟩ : ∃ m, k = m + 1 := ⟨k - 1, by simp at hk; omega⟩
    simp only [List.length_cons] at hlen hk
    have hx := hr x (List.mem_cons_self ..)
    show chainGo n W (k + 1) x out = out ++ x :: r
    simp only [chainGo]
    rw [if_pos ⟨hx.1, by omega⟩]
    have hat : atI W (4 + x) = r.headD (-1) + 1 := by
      unfold atI
      rw [wrap_i64 (by omega) (by omega)]
      exact hL.1
    have hh := headD_rg (n := n) (C := r) (fun y hy => hr y (List.mem_cons_of_mem _ hy)) (by omega)
    rw [hat, idxI_eq0 hh.1 hh.2 hn, ih (out ++ [x]) k hL.2 (fun y hy => hr y (List.mem_cons_of_mem _ hy)) (by simp; omega) (by omega)]
    simp

theorem getD_take {ws : List Int} {i k : Nat} (h : i < k) : (ws.take k).getD i 0 = ws.getD i 0 := by
  simp only [List.getD_eq_getElem?_getD, List.getElem?_take, if_pos h]

theorem Lk_take {n : Int} (hn : n ≤ 12) {ws : List Int} : ∀ {C : List Int}, (∀ x ∈ C, 0 ≤ x ∧ x < n) → Lk ws C → Lk (ws.take 20) C := by
  intro C
  induction C with
  | nil => intro _ _; trivial
  | cons x r ih =>
    intro h hL
    have := h x (List.mem_cons_self ..)
    exact ⟨by rw [getD_take (by omega)]; exact hL.1, ih (fun y hy => h y (List.mem_cons_of_mem _ hy)) hL.2⟩

theorem chainL_eq {n t : Int} {ws C : List Int} (hn : n ≤ 12) (hn0 : 0 ≤ n) (ht : 0 ≤ t) (hL : Lk ws C) (hr : ∀ x ∈ C, 0 ≤ x ∧ x < n) (hd : C.Nodup) (htop : ws.getD 2 0 = topW (C.headD (-1)) t) : chainL n (ws.take 20) = C := by
  unfold chainL
  have hh := headD_rg hr hn0
  have hlen := nodup_int hd hr
  rw [getD_take (by omega), htop, idxI_eq hh.1 hh.2 hn ht, chainGo_eq hn C [] 13 (Lk_take hn hr hL) hr (by simp; omega) (by omega)]
  simp

theorem Lk_set {ws : List Int} {p : Nat} {v : Int} : ∀ {C : List Int}, (∀ x ∈ C, (4 + x).toNat ≠ p) → Lk ws C → Lk (ws.set p v) C := by
  intro C
  induction C with
  | nil => intro _ _; trivial
  | cons x r ih =>
    intro h hL
    refine ⟨?_, ih (fun y hy => h y (List.mem_cons_of_mem _ hy)) hL.2⟩
    rw [List.getD_eq_getElem?_getD, List.getElem?_set_ne (Ne.symm (h x (List.mem_cons_self ..))), ← List.getD_eq_getElem?_getD]
    exact hL.1
theorem getD_set_ne {ws : List Int} {p q : Nat} {v : Int} (h : p ≠ q) : (ws.set p v).getD q 0 = ws.getD q 0 := by
  rw [List.getD_eq_getElem?_getD, List.getElem?_set_ne h, ← List.getD_eq_getElem?_getD]
theorem getD_set_eq {ws : List Int} {p : Nat} {v : Int} (h : p < ws.length) : (ws.set p v).getD p 0 = v := by
  rw [List.getD_eq_getElem?_getD, List.getElem?_set_self h]; rfl
theorem set_self {ws : List Int} {p : Nat} (h : p < ws.length) : ws.set p (ws.getD p 0) = ws := by
  rw [List.getD_eq_getElem?_getD, List.getElem?_eq_getElem h, Option.getD_some, List.set_getElem_self]
end Go.Sx
