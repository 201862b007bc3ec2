/- The words of a mailbox's slots: what is read of what is written. -/
import Derived.Test.YtmmcpgjfkphgaaaGreatSxLib
namespace Go.Sx
set_option maxRecDepth 100000
def hiR (w : Int) : Int := IntKind.u32.wrap (w.fdiv (2 ^ min (Int.toNat 32) IntKind.u64.bits))
def bitR (w : Int) : Int := IntKind.u64.wrap ((BitVec.ofInt IntKind.u64.bits w &&& BitVec.ofInt IntKind.u64.bits 65536).toNat : Int)
def valR (w : Int) : Int := IntKind.i64.wrap (IntKind.u64.wrap ((BitVec.ofInt IntKind.u64.bits w &&& BitVec.ofInt IntKind.u64.bits 65535).toNat : Int))
def emptyW (l : Int) : Int := l * 4294967296
def fullW (l v : Int) : Int := l * 4294967296 + 65536 + v
theorem wrap_u32 {x : Int} (h1 : 0 ≤ x) (h2 : x < 4294967296) : IntKind.u32.wrap x = x := by
  simp only [IntKind.wrap, IntKind.bits, IntKind.signed]
  have e : x % 2 ^ 32 = x := by omega
  simp; omega
theorem wrap_u32_neg : IntKind.u32.wrap (0 - 1) = 4294967295 := by decide
theorem uN {n : Int} (h1 : 1 ≤ n) (h2 : n ≤ 4) : IntKind.u64.wrap n = n := wrap_u64 (by omega) (by omega)
theorem hi_full {l v : Int} (h1 : 0 ≤ l) (h2 : l < 100001) (h3 : 0 ≤ v) (h4 : v < 65536) : hiR (fullW l v) = l := by
  unfold hiR fullW
  have e1 : min (Int.toNat 32) IntKind.u64.bits = 32 := rfl
  rw [e1, Int.fdiv_eq_ediv_of_nonneg _ (by decide)]
  have : (l * 4294967296 + 65536 + v) / 2 ^ 32 = l := by omega
  rw [this, wrap_u32 (by omega) (by omega)]
theorem hi_empty {l : Int} (h1 : 0 ≤ l) (h2 : l < 100001) : hiR (emptyW l) = l := by
  unfold hiR emptyW
  have e1 : min (Int.toNat 32) IntKind.u64.bits = 32 := rfl
  rw [e1, Int.fdiv_eq_ediv_of_nonneg _ (by decide)]
  have : (l * 4294967296) / 2 ^ 32 = l := by omega
  rw [this, wrap_u32 (by omega) (by omega)]
theorem and_bit16 (x : Int) (h1 : 0 ≤ x) (h2 : x < 18446744073709551616) : ((BitVec.ofInt 64 x &&& BitVec.ofInt 64 65536).toNat : Int) = x / 65536 % 2 * 65536 := by
  obtain ⟨k, rfl⟩ := Int.eq_ofNat_of_zero_le h1
  have e1 : (BitVec.ofInt 64 (k : Int)).toNat = k := by simp [BitVec.toNat_ofInt]; omega
  have e2 : (BitVec.ofInt 64 65536).toNat = 2 ^ 16 := by decide
  rw [BitVec.toNat_and, e1, e2]
  have h3 : k &&& 2 ^ 16 = k / 2 ^ 16 % 2 ^ 1 * 2 ^ 16 := by
    apply Nat.eq_of_testBit_eq
    intro i
    rw [Nat.testBit_and, Nat.testBit_two_pow, Nat.testBit_mul_two_pow, Nat.testBit_mod_two_pow, Nat.testBit_div_two_pow]
    by_cases h : 16 = i
    · subst h; simp
    · by_cases h4 : 16 ≤ i
      · have : ¬ i - 16 < 1 := by omega
        simp [h, this]
      · simp [h, h4]
  rw [h3]; omega
theorem bit_full {l v : Int} (h1 : 0 ≤ l) (h2 : l < 100001) (h3 : 0 ≤ v) (h4 : v < 65536) : bitR (fullW l v) = 65536 := by
  unfold bitR fullW
  have e2 : IntKind.u64.bits = 64 := rfl
  rw [e2, and_bit16 _ (by omega) (by omega)]
  have : (l * 4294967296 + 65536 + v) / 65536 % 2 * 65536 = 65536 := by omega
  rw [this]; decide
theorem bit_empty {l : Int} (h1 : 0 ≤ l) (h2 : l < 100001) : bitR (emptyW l) = 0 := by
  unfold bitR emptyW
  have e2 : IntKind.u64.bits = 64 := rfl
  rw [e2, and_bit16 _ (by omega) (by omega)]
  have : (l * 4294967296) / 65536 % 2 * 65536 = 0 := by omega
  rw [this]; decide
theorem val_full {l v : Int} (h1 : 0 ≤ l) (h2 : l < 100001) (h3 : 0 ≤ v) (h4 : v < 65536) : valR (fullW l v) = v := by
  unfold valR fullW
  have e2 : IntKind.u64.bits = 64 := rfl
  have e3 : (65535 : Int) = 2 ^ 16 - 1 := by decide
  rw [e2, e3, and_mask 16 _ (by omega) (by omega) (by omega)]
  have : (l * 4294967296 + 65536 + v) % 2 ^ 16 = v := by omega
  rw [this, wrap_u64 (by omega) (by omega), wrap_i64 (by omega) (by omega)]
/-- Is a word full, or empty, of a lap? -/
def fullQ (w l : Int) : Bool := decide (hiR w = l ∧ ¬ bitR w = 0)
def emptyQ (w l : Int) : Bool := decide (hiR w = l ∧ bitR w = 0)
theorem fullQ_full {l v k : Int} (h1 : 0 ≤ l) (h2 : l < 100001) (h3 : 0 ≤ v) (h4 : v < 65536) : fullQ (fullW l v) k = decide (l = k) := by
  unfold fullQ; rw [hi_full h1 h2 h3 h4, bit_full h1 h2 h3 h4]; simp
theorem fullQ_empty {l k : Int} (h1 : 0 ≤ l) (h2 : l < 100001) : fullQ (emptyW l) k = false := by
  unfold fullQ; rw [bit_empty h1 h2]; simp
theorem emptyQ_full {l v k : Int} (h1 : 0 ≤ l) (h2 : l < 100001) (h3 : 0 ≤ v) (h4 : v < 65536) : emptyQ (fullW l v) k = false := by
  unfold emptyQ; rw [bit_full h1 h2 h3 h4]; simp
theorem emptyQ_empty {l k : Int} (h1 : 0 ≤ l) (h2 : l < 100001) : emptyQ (emptyW l) k = decide (l = k) := by
  unfold emptyQ; rw [hi_empty h1 h2, bit_empty h1 h2]; simp
end Go.Sx
/- The plain law of a mailbox: its words. -/
namespace Go.Sx
set_option maxRecDepth 100000
structure Ring (S : Int) (ws q : List Int) (D P T Hd : Int) : Prop where
  s1 : 1 ≤ S
  s4 : S ≤ 4
  wl : ws.length = 4096
  d0 : 0 ≤ D
  pq : P = D + q.length
  qS : (q.length : Int) ≤ S
  t0 : 0 ≤ T
  tP : T ≤ P
  pT : P ≤ T + 1
  head : ws.getD (5 + S).toNat 0 = Hd
  tail : ws.getD (6 + S).toNat 0 = T
  vals : ∀ v ∈ q, 0 ≤ v ∧ v < 65536
  slot : ∀ m, D ≤ m → m < D + S → ws.getD (7 + S + m % S).toNat 0 = if m < P then fullW (m / S) (q.getD (m - D).toNat 0) else emptyW (m / S)
theorem cases4 {S : Int} (h1 : 1 ≤ S) (h2 : S ≤ 4) : S = 1 ∨ S = 2 ∨ S = 3 ∨ S = 4 := by omega
theorem mod_lt4 {S m : Int} (h1 : 1 ≤ S) (h2 : S ≤ 4) : 0 ≤ m % S ∧ m % S < 4 :=
  ⟨Int.emod_nonneg m (by omega), by have := Int.emod_lt_of_pos m (b := S) (by omega); omega⟩
/-- The number in the window whose slot is t's. -/
theorem window {S D t : Int} (h1 : 1 ≤ S) (h2 : S ≤ 4) (h : t < D) : ∃ m, D ≤ m ∧ m < D + S ∧ m % S = t % S ∧ t / S < m / S := by
  refine ⟨D + (t - D) % S, ?_⟩
  rcases cases4 h1 h2 with rfl | rfl | rfl | rfl <;> omega
theorem same_slot {S D m m' : Int} (h1 : 1 ≤ S) (h2 : S ≤ 4) (a : D ≤ m) (b : m < D + S) (c : D ≤ m') (d : m' < D + S) (h : m % S = m' % S) : m = m' := by
  rcases cases4 h1 h2 with rfl | rfl | rfl | rfl <;> omega
section
variable {S D P T Hd : Int} {ws q : List Int}
theorem Ring.qval (R : Ring S ws q D P T Hd) {k : Nat} (h : k < q.length) : 0 ≤ q.getD k 0 ∧ q.getD k 0 < 65536 := by
  rw [List.getD_eq_getElem?_getD, List.getElem?_eq_getElem h]
  exact R.vals _ (List.getElem_mem h)
theorem div_le {t S : Int} (h1 : 1 ≤ S) (h2 : S ≤ 4) (h : 0 ≤ t) : 0 ≤ t / S ∧ t / S ≤ t :=
  ⟨Int.ediv_nonneg h (by omega), Int.ediv_le_self _ h⟩
/-- What a slot's word is, seen by one who holds the number t. -/
inductive Sees (S D P t : Int) (q : List Int) (w : Int) : Prop where
  | past (h1 : t = D + S) (h2 : t = P) (h3 : 1 ≤ t / S) (h4 : w = fullW (t / S - 1) (q.getD 0 0))
  | full (h1 : D ≤ t) (h2 : t < P) (h3 : w = fullW (t / S) (q.getD (t - D).toNat 0))
  | free (h1 : D ≤ t) (h2 : t = P) (h3 : t < D + S) (h4 : w = emptyW (t / S))
  | stale (l : Int) (h1 : t < D) (h2 : t / S < l) (h3 : l ≤ D + 4) (h4 : w = emptyW l ∨ ∃ v, 0 ≤ v ∧ v < 65536 ∧ w = fullW l v)
theorem Ring.sees (R : Ring S ws q D P T Hd) {t : Int} (h0 : 0 ≤ t) (h1 : t ≤ P) : Sees S D P t q (ws.getD (7 + S + t % S).toNat 0) := by
  have hs1 := R.s1; have hs4 := R.s4; have hpq := R.pq; have hqs := R.qS; have hd := R.d0
  by_cases a : t < D
  · obtain ⟨m, m1, m2, m3, m4⟩ := window hs1 hs4 a
    have hw := R.slot m m1 m2
    rw [m3] at hw
    have hl := (div_le hs1 hs4 (show 0 ≤ m by omega)).2
    refine .stale (m / S) a m4 (by omega) ?_
    by_cases b : m < P
    · rw [if_pos b] at hw
      have := R.qval (k := (m - D).toNat) (by omega)
      exact .inr ⟨_, this.1, this.2, hw⟩
    · rw [if_neg b] at hw
      exact .inl hw
  · by_cases b : t < D + S
    · have hw := R.slot t (by omega) b
      by_cases c : t < P
      · rw [if_pos c] at hw
        exact .full (by omega) c hw
      · rw [if_neg c] at hw
        exact .free (by omega) (by omega) b hw
    · have e : t = D + S := by omega
      have hw := R.slot D (Int.le_refl _) (by omega)
      rw [if_pos (by omega)] at hw
      have e1 : t % S = D % S := by rw [e]; simp
      have e2 : t / S = D / S + 1 := by rw [e]; rcases cases4 hs1 hs4 with rfl | rfl | rfl | rfl <;> omega
      rw [← e1] at hw
      have hz := (div_le hs1 hs4 hd).1
      refine .past e (by omega) (by omega) ?_
      have e3 : (D - D).toNat = 0 := by omega
      rw [hw, e2, e3]
      congr 1
      omega
theorem full_ne_empty {l l' v : Int} (h1 : 0 ≤ v) (h2 : v < 65536) : fullW l v ≠ emptyW l' := by unfold fullW emptyW; omega
theorem empty_inj {l l' : Int} (h : emptyW l = emptyW l') : l = l' := by unfold emptyW at h; omega
/-- A word laid. -/
theorem Ring.lay (R : Ring S ws q D P T Hd) {v : Int} (h1 : P < D + S) (hT : T = P) (hv : 0 ≤ v ∧ v < 65536) : Ring S (ws.set (7 + S + P % S).toNat (fullW (P / S) v)) (q ++ [v]) D (P + 1) T Hd := by
  have hs1 := R.s1; have hs4 := R.s4; have hpq := R.pq; have hqs := R.qS; have hd := R.d0; have hm := mod_lt4 (m := P) hs1 hs4
  have hwl := R.wl
  refine ⟨hs1, hs4, by simpa using hwl, hd, by simp; omega, by simp; omega, R.t0, by omega, by omega, ?_, ?_, fun x hx => ?_, fun m m1 m2 => ?_⟩
  · rw [getD_set_ne (by omega)]; exact R.head
  · rw [getD_set_ne (by omega)]; exact R.tail
  · rcases List.mem_append.1 hx with hx | hx
    · exact R.vals x hx
    · rw [List.mem_singleton.1 hx]; exact hv
  · have hmm := mod_lt4 (m := m) hs1 hs4
    by_cases e : m = P
    · subst e
      rw [getD_set_eq (by omega), if_pos (by omega)]
      have : (m - D).toNat = q.length := by omega
      rw [this]; simp
    · have hne : m % S ≠ P % S := fun h => e (same_slot hs1 hs4 m1 m2 (by omega) (by omega) h)
      rw [getD_set_ne (by omega), R.slot m m1 m2]
      by_cases hlt : m < P
      · rw [if_pos hlt, if_pos (by omega), List.getD_eq_getElem?_getD, List.getD_eq_getElem?_getD, List.getElem?_append_left (by omega)]
      · rw [if_neg hlt, if_neg (by omega)]
/-- The tail moves. -/
theorem Ring.move (R : Ring S ws q D P T Hd) (h : T < P) : Ring S (ws.set (6 + S).toNat (T + 1)) q D P (T + 1) Hd := by
  have hs1 := R.s1; have hs4 := R.s4
  have hwl := R.wl; have hp := R.pT; have h0 := R.t0
  refine ⟨hs1, hs4, by simpa using hwl, R.d0, R.pq, R.qS, by omega, by omega, by omega, ?_, ?_, R.vals, fun m m1 m2 => ?_⟩
  · rw [getD_set_ne (by omega)]; exact R.head
  · rw [getD_set_eq (by omega)]
  · have hmm := mod_lt4 (m := m) hs1 hs4
    rw [getD_set_ne (by omega)]; exact R.slot m m1 m2
/-- The head moves. -/
theorem Ring.heads (R : Ring S ws q D P T Hd) (x : Int) : Ring S (ws.set (5 + S).toNat x) q D P T x := by
  have hs1 := R.s1; have hs4 := R.s4
  have hwl := R.wl
  refine ⟨hs1, hs4, by simpa using hwl, R.d0, R.pq, R.qS, R.t0, R.tP, R.pT, ?_, ?_, R.vals, fun m m1 m2 => ?_⟩
  · rw [getD_set_eq (by omega)]
  · rw [getD_set_ne (by omega)]; exact R.tail
  · have hmm := mod_lt4 (m := m) hs1 hs4
    rw [getD_set_ne (by omega)]; exact R.slot m m1 m2
/-- A word cleared. -/
theorem Ring.clear (R : Ring S ws q D P T Hd) (h : q ≠ []) : Ring S (ws.set (7 + S + D % S).toNat (emptyW (D / S + 1))) (q.drop 1) (D + 1) P T Hd := by
  have hs1 := R.s1; have hs4 := R.s4; have hpq := R.pq; have hqs := R.qS; have hd := R.d0; have hm := mod_lt4 (m := D) hs1 hs4
  have hwl := R.wl
  have hq : 1 ≤ q.length := by cases q with | nil => exact absurd rfl h | cons _ _ => simp
  refine ⟨hs1, hs4, by simpa using hwl, by omega, by simp; omega, by simp; omega, R.t0, R.tP, R.pT, ?_, ?_, fun x hx => R.vals x (List.mem_of_mem_drop hx), fun m m1 m2 => ?_⟩
  · rw [getD_set_ne (by omega)]; exact R.head
  · rw [getD_set_ne (by omega)]; exact R.tail
  · have hmm := mod_lt4 (m := m) hs1 hs4
    by_cases e : m = D + S
    · have e1 : m % S = D % S := by rw [e]; simp
      have e2 : m / S = D / S + 1 := by rw [e]; rcases cases4 hs1 hs4 with rfl | rfl | rfl | rfl <;> omega
      rw [e1, getD_set_eq (by omega), if_neg (by omega), e2]
    · have hne : m % S ≠ D % S := fun h => by
        have := same_slot (D := D) hs1 hs4 (by omega) (by omega) (by omega) (by omega) h
        omega
      rw [getD_set_ne (by omega), R.slot m (by omega) (by omega)]
      by_cases hlt : m < P
      · rw [if_pos hlt, if_pos hlt]
        have : (m - D).toNat = 1 + (m - (D + 1)).toNat := by omega
        rw [this, List.getD_eq_getElem?_getD, List.getD_eq_getElem?_getD, List.getElem?_drop]
      · rw [if_neg hlt, if_neg hlt]
end
end Go.Sx
