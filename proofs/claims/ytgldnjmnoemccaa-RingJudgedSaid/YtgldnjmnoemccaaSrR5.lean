/- The words of a ring's slots: what is read of what is written. -/
import Derived.Test.YtgldnjmnoemccaaSrR3a
namespace Go.Sx
set_option maxRecDepth 100000
def emptyW (l : Int) : Int := l * 4294967296
def fullW (l v : Int) : Int := l * 4294967296 + 65536 + v
theorem wrap_u32 {x : Int} (h1 : 0 ≤ x) (h2 : x < 4294967296) : IntKind.u32.wrap x = x := by
  simp only [IntKind.wrap, IntKind.bits, IntKind.signed]
  have e : x % 2 ^ 32 = x := by omega
  simp; omega
theorem wrap_u32_neg : IntKind.u32.wrap (0 - 1) = 4294967295 := by decide
theorem uN {n : Int} (h1 : 1 ≤ n) (h2 : n ≤ 4) : IntKind.u64.wrap n = n := wrap_u64 (by omega) (by omega)
theorem plR_eq {n t : Int} (h1 : 1 ≤ n) (h2 : n ≤ 4) (h3 : 0 ≤ t) (h4 : t < 100000) : plR n t = 2 + t % n := by
  unfold plR
  rw [uN h1 h2, Int.tmod_eq_emod_of_nonneg h3]
  have a := Int.emod_nonneg t (b := n) (by omega)
  have b := Int.emod_lt_of_pos t (b := n) (by omega)
  rw [wrap_i64 (x := t % n) (by omega) (by omega), wrap_i64 (by omega) (by omega)]
theorem lapR_eq {n t : Int} (h1 : 1 ≤ n) (h2 : n ≤ 4) (h3 : 0 ≤ t) (h4 : t < 100000) : lapR n t = t / n := by
  unfold lapR
  rw [uN h1 h2, Int.tdiv_eq_ediv_of_nonneg h3]
  have a : 0 ≤ t / n := Int.ediv_nonneg h3 (by omega)
  have b : t / n ≤ t := Int.ediv_le_self _ h3
  rw [wrap_u64 (x := t / n) (by omega) (by omega), wrap_u32 (by omega) (by omega)]
theorem hi_full {l v : Int} (h1 : 0 ≤ l) (h2 : l < 100001) (h3 : 0 ≤ v) (h4 : v < 65536) : hiR (fullW l v) = l := by
  unfold hiR fullW
  have e1 : min (Int.toNat 32) IntKind.u64.bits = 32 := rfl
  rw [e1, Int.fdiv_eq_ediv_of_nonneg _ (by decide)]
  have : (l * 4294967296 + 65536 + v) / 2 ^ 32 = l := by omega
  rw [this, wrap_u32 (by omega) (by omega)]
theorem hi_empty {l : Int} (h1 : 0 ≤ l) (h2 : l < 100001) : hiR (emptyW l) = l := by
  unfold hiR emptyW
  have e1 : min (Int.toNat 32) IntKind.u64.bits = 32 := rfl
  rw [e1, Int.fdiv_eq_ediv_of_nonneg _ (by decide)]
  have : (l * 4294967296) / 2 ^ 32 = l := by omega
  rw [this, wrap_u32 (by omega) (by omega)]
theorem and_bit16 (x : Int) (h1 : 0 ≤ x) (h2 : x < 18446744073709551616) : ((BitVec.ofInt 64 x &&& BitVec.ofInt 64 65536).toNat : Int) = x / 65536 % 2 * 65536 := by
  obtain ⟨k, rfl⟩ := Int.eq_ofNat_of_zero_le h1
  have e1 : (BitVec.ofInt 64 (k : Int)).toNat = k := by simp [BitVec.toNat_ofInt]; omega
  have e2 : (BitVec.ofInt 64 65536).toNat = 2 ^ 16 := by decide
  rw [BitVec.toNat_and, e1, e2]
  have h3 : k &&& 2 ^ 16 = k / 2 ^ 16 % 2 ^ 1 * 2 ^ 16 := by
    apply Nat.eq_of_testBit_eq
    intro i
    rw [Nat.testBit_and, Nat.testBit_two_pow, Nat.testBit_mul_two_pow, Nat.testBit_mod_two_pow, Nat.testBit_div_two_pow]
    by_cases h : 16 = i
    · subst h; simp
    · by_cases h4 : 16 ≤ i
      · have : ¬ i - 16 < 1 := by omega
        simp [h, this]
      · simp [h, h4]
  rw [h3]; omega
theorem bit_full {l v : Int} (h1 : 0 ≤ l) (h2 : l < 100001) (h3 : 0 ≤ v) (h4 : v < 65536) : bitR (fullW l v) = 65536 := by
  unfold bitR fullW
  have e2 : IntKind.u64.bits = 64 := rfl
  rw [e2, and_bit16 _ (by omega) (by omega)]
  have : (l * 4294967296 + 65536 + v) / 65536 % 2 * 65536 = 65536 := by omega
  rw [this]; decide
theorem bit_empty {l : Int} (h1 : 0 ≤ l) (h2 : l < 100001) : bitR (emptyW l) = 0 := by
  unfold bitR emptyW
  have e2 : IntKind.u64.bits = 64 := rfl
  rw [e2, and_bit16 _ (by omega) (by omega)]
  have : (l * 4294967296) / 65536 % 2 * 65536 = 0 := by omega
  rw [this]; decide
theorem val_full {l v : Int} (h1 : 0 ≤ l) (h2 : l < 100001) (h3 : 0 ≤ v) (h4 : v < 65536) : valR (fullW l v) = v := by
  unfold valR fullW
  have e2 : IntKind.u64.bits = 64 := rfl
  have e3 : (65535 : Int) = 2 ^ 16 - 1 := by decide
  rw [e2, e3, and_mask 16 _ (by omega) (by omega) (by omega)]
  have : (l * 4294967296 + 65536 + v) % 2 ^ 16 = v := by omega
  rw [this, wrap_u64 (by omega) (by omega), wrap_i64 (by omega) (by omega)]
theorem clrW_eq {n h : Int} (h1 : 1 ≤ n) (h2 : n ≤ 4) (h3 : 0 ≤ h) (h4 : h < 100000) : clrW n h = emptyW (h / n + 1) := by
  unfold clrW emptyW
  have e1 : min (Int.toNat 32) IntKind.u64.bits = 32 := rfl
  have a : 0 ≤ h / n := Int.ediv_nonneg h3 (by omega)
  have b : h / n ≤ h := Int.ediv_le_self _ h3
  rw [lapR_eq h1 h2 h3 h4, e1, wrap_u32 (by omega) (by omega), wrap_u64 (x := h / n + 1) (by omega) (by omega)]
  rw [wrap_u64 (by omega) (by omega)]
  omega
theorem layW_eq {n t v : Int} (h1 : 1 ≤ n) (h2 : n ≤ 4) (h3 : 0 ≤ t) (h4 : t < 100000) (h5 : 0 ≤ v) (h6 : v < 65536) : layW n t v = fullW (t / n) v := by
  unfold layW fullW
  have e1 : min (Int.toNat 32) IntKind.u64.bits = 32 := rfl
  have e2 : IntKind.u64.bits = 64 := rfl
  have a : 0 ≤ t / n := Int.ediv_nonneg h3 (by omega)
  have b : t / n ≤ t := Int.ediv_le_self _ h3
  rw [lapR_eq h1 h2 h3 h4, e1, e2]
  generalize t / n = l at *
  rw [wrap_u64 (x := l) (by omega) (by omega), wrap_u64 (x := l * 2 ^ 32) (by omega) (by omega), wrap_u64 (x := v) (by omega) (by omega)]
  have k1 : ((BitVec.ofInt 64 (l * 2 ^ 32) &&& ~~~BitVec.ofInt 64 65535).toNat : Int) = l * 2 ^ 32 := by
    obtain ⟨x, rfl⟩ := Int.eq_ofNat_of_zero_le a
    have hb : BitVec.ofInt 64 ((x : Int) * 2 ^ 32) = (BitVec.ofNat 64 x) <<< 32 := by
      apply BitVec.eq_of_toNat_eq
      rw [BitVec.toNat_ofInt, BitVec.toNat_shiftLeft, BitVec.toNat_ofNat, Nat.shiftLeft_eq]
      omega
    have hc : (BitVec.ofNat 64 x) <<< 32 &&& ~~~BitVec.ofInt 64 65535 = (BitVec.ofNat 64 x) <<< 32 := by
      have : BitVec.ofInt 64 65535 = 65535#64 := by decide
      rw [this]
      apply BitVec.eq_of_getLsbD_eq
      intro i hi
      rw [BitVec.getLsbD_and, BitVec.getLsbD_shiftLeft, BitVec.getLsbD_not]
      by_cases h : i < 32
      · simp [h]
      · have : (65535#64).getLsbD i = false := by
          rw [BitVec.getLsbD_ofNat]
          have : Nat.testBit 65535 i = false := Nat.testBit_lt_two_pow (Nat.lt_of_lt_of_le (by decide : 65535 < 2 ^ 32) (Nat.pow_le_pow_right (by decide) (by omega)))
          simp [this]
        rw [this]
        simp [hi]
    rw [hb, hc, BitVec.toNat_shiftLeft, BitVec.toNat_ofNat, Nat.shiftLeft_eq]
    omega
  rw [k1, wrap_u64 (x := l * 2 ^ 32) (by omega) (by omega)]
  have k2 : ((BitVec.ofInt 64 (l * 2 ^ 32) ||| BitVec.ofInt 64 65536).toNat : Int) = 65536 + l * 2 ^ 32 := by
    have e : (65536 : Int) = 65536 := rfl
    rw [BitVec.or_comm]
    exact or_add 65536 l 32 (by omega) (by decide) a (by omega) (by omega)
  rw [k2, wrap_u64 (x := 65536 + l * 2 ^ 32) (by omega) (by omega)]
  have k3 : ((BitVec.ofInt 64 (65536 + l * 2 ^ 32) ||| BitVec.ofInt 64 v).toNat : Int) = v + (l * 2 ^ 16 + 1) * 2 ^ 16 := by
    have : 65536 + l * 2 ^ 32 = (l * 2 ^ 16 + 1) * 2 ^ 16 := by omega
    rw [this, BitVec.or_comm]
    exact or_add v (l * 2 ^ 16 + 1) 16 h5 (by omega) (by omega) (by omega) (by omega)
  rw [k3, wrap_u64 (by omega) (by omega)]
  omega
end Go.Sx
/- The plain law of a ring: its words. -/
namespace Go.Sx
set_option maxRecDepth 100000
structure Ring (S : Int) (ws q : List Int) (D P T Hd : Int) : Prop where
  s1 : 1 ≤ S
  s4 : S ≤ 4
  wl : ws.length = 4096
  d0 : 0 ≤ D
  pq : P = D + q.length
  qS : (q.length : Int) ≤ S
  t0 : 0 ≤ T
  tP : T ≤ P
  pT : P ≤ T + 1
  head : ws.getD 0 0 = Hd
  tail : ws.getD 1 0 = T
  vals : ∀ v ∈ q, 0 ≤ v ∧ v < 65536
  slot : ∀ m, D ≤ m → m < D + S → ws.getD (2 + m % S).toNat 0 = if m < P then fullW (m / S) (q.getD (m - D).toNat 0) else emptyW (m / S)
theorem cases4 {S : Int} (h1 : 1 ≤ S) (h2 : S ≤ 4) : S = 1 ∨ S = 2 ∨ S = 3 ∨ S = 4 := by omega
theorem mod_lt4 {S m : Int} (h1 : 1 ≤ S) (h2 : S ≤ 4) : 0 ≤ m % S ∧ m % S < 4 :=
  ⟨Int.emod_nonneg m (by omega), by have := Int.emod_lt_of_pos m (b := S) (by omega); omega⟩
/-- The number in the window whose slot is t's. -/
theorem window {S D t : Int} (h1 : 1 ≤ S) (h2 : S ≤ 4) (h : t < D) : ∃ m, D ≤ m ∧ m < D + S ∧ m % S = t % S ∧ t / S < m / S := by
  refine ⟨D + (t - D) % S, ?_⟩
  rcases cases4 h1 h2 with rfl | rfl | rfl | rfl <;> omega
theorem same_slot {S D m m' : Int} (h1 : 1 ≤ S) (h2 : S ≤ 4) (a : D ≤ m) (b : m < D + S) (c : D ≤ m') (d : m' < D + S) (h : m % S = m' % S) : m = m' := by
  rcases cases4 h1 h2 with rfl | rfl | rfl | rfl <;> omega
section
variable {S D P T Hd : Int} {ws q : List Int}
theorem Ring.qval (R : Ring S ws q D P T Hd) {k : Nat} (h : k < q.length) : 0 ≤ q.getD k 0 ∧ q.getD k 0 < 65536 := by
  rw [List.getD_eq_getElem?_getD, List.getElem?_eq_getElem h]
  exact R.vals _ (List.getElem_mem h)
theorem div_le {t S : Int} (h1 : 1 ≤ S) (h2 : S ≤ 4) (h : 0 ≤ t) : 0 ≤ t / S ∧ t / S ≤ t :=
  ⟨Int.ediv_nonneg h (by omega), Int.ediv_le_self _ h⟩
/-- What a slot's word is, seen by one who holds the number t. -/
inductive Sees (S D P t : Int) (q : List Int) (w : Int) : Prop where
  | past (h1 : t = D + S) (h2 : t = P) (h3 : 1 ≤ t / S) (h4 : w = fullW (t / S - 1) (q.getD 0 0))
  | full (h1 : D ≤ t) (h2 : t < P) (h3 : w = fullW (t / S) (q.getD (t - D).toNat 0))
  | free (h1 : D ≤ t) (h2 : t = P) (h3 : t < D + S) (h4 : w = emptyW (t / S))
  | stale (l : Int) (h1 : t < D) (h2 : t / S < l) (h3 : l ≤ D + 4) (h4 : w = emptyW l ∨ ∃ v, 0 ≤ v ∧ v < 65536 ∧ w = fullW l v)
theorem Ring.sees (R : Ring S ws q D P T Hd) {t : Int} (h0 : 0 ≤ t) (h1 : t ≤ P) : Sees S D P t q (ws.getD (2 + t % S).toNat 0) := by
  have hs1 := R.s1; have hs4 := R.s4; have hpq := R.pq; have hqs := R.qS; have hd := R.d0
  by_cases a : t < D
  · obtain ⟨m, m1, m2, m3, m4⟩ := window hs1 hs4 a
    have hw := R.slot m m1 m2
    rw [m3] at hw
    have hl := (div_le hs1 hs4 (show 0 ≤ m by omega)).2
    refine .stale (m / S) a m4 (by omega) ?_
    by_cases b : m < P
    · rw [if_pos b] at hw
      have := R.qval (k := (m - D).toNat) (by omega)
      exact .inr ⟨_, this.1, this.2, hw⟩
    · rw [if_neg b] at hw
      exact .inl hw
  · by_cases b : t < D + S
    · have hw := R.slot t (by omega) b
      by_cases c : t < P
      · rw [if_pos c] at hw
        exact .full (by omega) c hw
      · rw [if_neg c] at hw
        exact .free (by omega) (by omega) b hw
    · have e : t = D + S := by omega
      have hw := R.slot D (Int.le_refl _) (by omega)
      rw [if_pos (by omega)] at hw
      have e1 : t % S = D % S := by rw [e]; simp
      have e2 : t / S = D / S + 1 := by rw [e]; rcases cases4 hs1 hs4 with rfl | rfl | rfl | rfl <;> omega
      rw [← e1] at hw
      have hz := (div_le hs1 hs4 hd).1
      refine .past e (by omega) (by omega) ?_
      have e3 : (D - D).toNat = 0 := by omega
      rw [hw, e2, e3]
      congr 1
      omega
theorem full_ne_empty {l l' v : Int} (h1 : 0 ≤ v) (h2 : v < 65536) : fullW l v ≠ emptyW l' := by unfold fullW emptyW; omega
theorem empty_inj {l l' : Int} (h : emptyW l = emptyW l') : l = l' := by unfold emptyW at h; omega
/-- A word laid. -/
theorem Ring.lay (R : Ring S ws q D P T Hd) {v : Int} (h1 : P < D + S) (hT : T = P) (hv : 0 ≤ v ∧ v < 65536) : Ring S (ws.set (2 + P % S).toNat (fullW (P / S) v)) (q ++ [v]) D (P + 1) T Hd := by
  have hs1 := R.s1; have hs4 := R.s4; have hpq := R.pq; have hqs := R.qS; have hd := R.d0; have hm := mod_lt4 (m := P) hs1 hs4
  have hwl := R.wl
  refine ⟨hs1, hs4, by simpa using hwl, hd, by simp; omega, by simp; omega, R.t0, by omega, by omega, ?_, ?_, fun x hx => ?_, fun m m1 m2 => ?_⟩
  · rw [getD_set_ne (by omega)]; exact R.head
  · rw [getD_set_ne (by omega)]; exact R.tail
  · rcases List.mem_append.1 hx with hx | hx
    · exact R.vals x hx
    · rw [List.mem_singleton.1 hx]; exact hv
  · have hmm := mod_lt4 (m := m) hs1 hs4
    by_cases e : m = P
    · subst e
      rw [getD_set_eq (by omega), if_pos (by omega)]
      have : (m - D).toNat = q.length := by omega
      rw [this]; simp
    · have hne : m % S ≠ P % S := fun h => e (same_slot hs1 hs4 m1 m2 (by omega) (by omega) h)
      rw [getD_set_ne (by omega), R.slot m m1 m2]
      by_cases hlt : m < P
      · rw [if_pos hlt, if_pos (by omega), List.getD_eq_getElem?_getD, List.getD_eq_getElem?_getD, List.getElem?_append_left (by omega)]
      · rw [if_neg hlt, if_neg (by omega)]
/-- The tail moves. -/
theorem Ring.move (R : Ring S ws q D P T Hd) (h : T < P) : Ring S (ws.set 1 (T + 1)) q D P (T + 1) Hd := by
  have hs1 := R.s1; have hs4 := R.s4
  have hwl := R.wl; have hp := R.pT; have h0 := R.t0
  refine ⟨hs1, hs4, by simpa using hwl, R.d0, R.pq, R.qS, by omega, by omega, by omega, ?_, ?_, R.vals, fun m m1 m2 => ?_⟩
  · rw [getD_set_ne (by omega)]; exact R.head
  · rw [getD_set_eq (by omega)]
  · have hmm := mod_lt4 (m := m) hs1 hs4
    rw [getD_set_ne (by omega)]; exact R.slot m m1 m2
/-- The head moves. -/
theorem Ring.heads (R : Ring S ws q D P T Hd) (x : Int) : Ring S (ws.set 0 x) q D P T x := by
  have hs1 := R.s1; have hs4 := R.s4
  have hwl := R.wl
  refine ⟨hs1, hs4, by simpa using hwl, R.d0, R.pq, R.qS, R.t0, R.tP, R.pT, ?_, ?_, R.vals, fun m m1 m2 => ?_⟩
  · rw [getD_set_eq (by omega)]
  · rw [getD_set_ne (by omega)]; exact R.tail
  · have hmm := mod_lt4 (m := m) hs1 hs4
    rw [getD_set_ne (by omega)]; exact R.slot m m1 m2
/-- A word cleared. -/
theorem Ring.clear (R : Ring S ws q D P T Hd) (h : q ≠ []) : Ring S (ws.set (2 + D % S).toNat (emptyW (D / S + 1))) (q.drop 1) (D + 1) P T Hd := by
  have hs1 := R.s1; have hs4 := R.s4; have hpq := R.pq; have hqs := R.qS; have hd := R.d0; have hm := mod_lt4 (m := D) hs1 hs4
  have hwl := R.wl
  have hq : 1 ≤ q.length := by cases q with | nil => exact absurd rfl h | cons _ _ => simp
  refine ⟨hs1, hs4, by simpa using hwl, by omega, by simp; omega, by simp; omega, R.t0, R.tP, R.pT, ?_, ?_, fun x hx => R.vals x (List.mem_of_mem_drop hx), fun m m1 m2 => ?_⟩
  · rw [getD_set_ne (by omega)]; exact R.head
  · rw [getD_set_ne (by omega)]; exact R.tail
  · have hmm := mod_lt4 (m := m) hs1 hs4
    by_cases e : m = D + S
    · have e1 : m % S = D % S := by rw [e]; simp
      have e2 : m / S = D / S + 1 := by rw [e]; rcases cases4 hs1 hs4 with rfl | rfl | rfl | rfl <;> omega
      rw [e1, getD_set_eq (by omega), if_neg (by omega), e2]
    · have hne : m % S ≠ D % S := fun h => by
        have := same_slot (D := D) hs1 hs4 (by omega) (by omega) (by omega) (by omega) h
        omega
      rw [getD_set_ne (by omega), R.slot m (by omega) (by omega)]
      by_cases hlt : m < P
      · rw [if_pos hlt, if_pos hlt]
        have : (m - D).toNat = 1 + (m - (D + 1)).toNat := by omega
        rw [this, List.getD_eq_getElem?_getD, List.getD_eq_getElem?_getD, List.getElem?_drop]
      · rw [if_neg hlt, if_neg hlt]
end
end Go.Sx
/- The plain law of a ring: its calls. -/
namespace Go.Sx
set_option maxRecDepth 100000
def rowC (k : Nat) (f t kd w e x : Int) : List Int := [(k : Int), f, t, kd, 0, 0, w, e, 0, x]
/-- Calls, one behind the other, from a queue to a queue. -/
def runQ (cl : List (List Int)) (room : Int) : List Int → List Nat → List Int → Prop
  | F, [], Q => F = Q
  | F, i :: r, Q => cnIs cl room F i = true ∧ runQ cl room ((cnG cl room F i).2.1.drop (cnG cl room F i).2.2) r Q
theorem runQ_L {cl : List (List Int)} {room : Int} : ∀ {l : List Nat} {F Q : List Int}, runQ cl room F l Q → runsL cl room F l
  | [], _, _, _ => trivial
  | _ :: _, _, _, h => ⟨h.1, runQ_L h.2⟩
theorem runQ_snoc {cl : List (List Int)} {room : Int} {k : Nat} : ∀ {l : List Nat} {F Q : List Int}, runQ cl room F l Q → cnIs cl room Q k = true → runQ cl room F (l ++ [k]) ((cnG cl room Q k).2.1.drop (cnG cl room Q k).2.2)
  | [], _, _, h, hk => by cases h; exact ⟨hk, rfl⟩
  | _ :: _, _, _, h, hk => ⟨h.1, runQ_snoc h.2 hk⟩
def sameAns (cl cl' : List (List Int)) (i : Nat) : Prop := cnA cl i = cnA cl' i ∧ (cl.getD i []).getD 3 0 = (cl'.getD i []).getD 3 0 ∧ (cl.getD i []).getD 6 0 = (cl'.getD i []).getD 6 0
theorem runQ_congr {cl cl' : List (List Int)} {room : Int} : ∀ {l : List Nat} {F Q : List Int}, (∀ i ∈ l, sameAns cl cl' i) → runQ cl room F l Q → runQ cl' room F l Q
  | [], _, _, _, h => h
  | i :: r, F, Q, hs, h => by
    have h1 := hs i (by simp)
    have e1 : cnG cl room F i = cnG cl' room F i := by unfold cnG; rw [h1.2.1, h1.2.2]
    have e2 : cnIs cl room F i = cnIs cl' room F i := by unfold cnIs; rw [e1, h1.1]
    refine ⟨e2 ▸ h.1, ?_⟩
    have := runQ_congr (fun j hj => hs j (by simp [hj])) h.2
    rwa [e1] at this
theorem getD_setL {cl : List (List Int)} {k : Nat} {r : List Int} (h : k < cl.length) : (cl.set k r).getD k [] = r := by
  simp [List.getD_eq_getElem?_getD, h]
theorem getD_setL_ne {cl : List (List Int)} {k j : Nat} {r : List Int} (h : k ≠ j) : (cl.set k r).getD j [] = cl.getD j [] := by
  simp [List.getD_eq_getElem?_getD, List.getElem?_set_ne h]
theorem getD_snocL {cl : List (List Int)} {j : Nat} {r : List Int} (h : j < cl.length) : (cl ++ [r]).getD j [] = cl.getD j [] := by
  simp [List.getD_eq_getElem?_getD, List.getElem?_append_left h]
theorem getD_snocE {cl : List (List Int)} {r : List Int} : (cl ++ [r]).getD cl.length [] = r := by
  simp [List.getD_eq_getElem?_getD]
theorem rs4_eq {cl : List (List Int)} {k : Nat} {f t kd w e x e0 x0 c : Int} (h : k < cl.length) (hr : cl.getD k [] = rowC k f t kd w e0 x0) :
    rs (rs (rs (rs cl k 2 c) k 7 e) k 8 0) k 9 x = cl.set k (rowC k f c kd w e x) := by
  have s1 : rs cl k 2 c = cl.set k (rowC k f c kd w e0 x0) := by unfold rs; rw [hr]; rfl
  have s2 : rs (rs cl k 2 c) k 7 e = cl.set k (rowC k f c kd w e x0) := by rw [s1]; unfold rs; rw [getD_setL h, List.set_set]; rfl
  have s3 : rs (rs (rs cl k 2 c) k 7 e) k 8 0 = cl.set k (rowC k f c kd w e x0) := by rw [s2]; unfold rs; rw [getD_setL h, List.set_set]; rfl
  rw [s3]; unfold rs; rw [getD_setL h, List.set_set]; rfl
structure Hist (S : Int) (cl : List (List Int)) (q : List Int) (lin : List Nat) (ck : Int) (O : Nat → Prop) : Prop where
  ck0 : 0 ≤ ck
  rows : ∀ k, k < cl.length → ∃ f t kd w e x, cl.getD k [] = rowC k f t kd w e x ∧ 1 ≤ kd ∧ kd ≤ 3 ∧ f ≤ ck ∧ (t = -1 ∨ 0 ≤ t)
  nd : lin.Nodup
  lt : ∀ k ∈ lin, k < cl.length
  done : ∀ k, k < cl.length → (cl.getD k []).getD 2 0 ≠ -1 → k ∈ lin
  order : lin.Pairwise fun x y => (cl.getD y []).getD 2 0 = -1 ∨ ¬ (cl.getD y []).getD 2 0 < (cl.getD x []).getD 1 0
  run : runQ cl S [] lin q
  opn : ∀ k, k < cl.length → (cl.getD k []).getD 2 0 = -1 → O k
section
variable {S ck : Int} {cl : List (List Int)} {q : List Int} {lin : List Nat} {O O' : Nat → Prop}
theorem Hist.begin (H : Hist S cl q lin ck O) {kd w : Int} (h1 : 1 ≤ kd) (h2 : kd ≤ 3) (hO : ∀ k, k < cl.length → O k → O' k) (hn : O' cl.length) :
    Hist S (cl ++ [rowC cl.length (ck + 1) (-1) kd w 0 0]) q lin (ck + 1) O' := by
  have hck := H.ck0
  have hlt : ∀ k ∈ lin, (cl ++ [rowC cl.length (ck + 1) (-1) kd w 0 0]).getD k [] = cl.getD k [] := fun k hk => getD_snocL (H.lt k hk)
  refine ⟨by omega, fun k hk => ?_, H.nd, fun k hk => by have := H.lt k hk; simp; omega, fun k hk ht => ?_, ?_, runQ_congr (fun i hi => ?_) H.run, fun k hk ht => ?_⟩
  · simp at hk
    by_cases e : k < cl.length
    · obtain ⟨f, t, kd', w', e', x, g1, g2, g3, g4, g5⟩ := H.rows k e
      exact ⟨f, t, kd', w', e', x, by rw [getD_snocL e]; exact g1, g2, g3, by omega, g5⟩
    · have : k = cl.length := by omega
      subst this
      exact ⟨_, _, _, _, _, _, getD_snocE, h1, h2, Int.le_refl _, .inl rfl⟩
  · simp at hk
    by_cases e : k < cl.length
    · rw [getD_snocL e] at ht; exact H.done k e ht
    · have : k = cl.length := by omega
      subst this
      rw [getD_snocE] at ht
      exact absurd rfl ht
  · refine List.Pairwise.imp_of_mem (fun {a b} ha hb h => ?_) H.order
    rw [hlt a ha, hlt b hb]; exact h
  · have := hlt i hi
    unfold sameAns cnA; rw [this]; exact ⟨rfl, rfl, rfl⟩
  · simp at hk
    by_cases e : k < cl.length
    · rw [getD_snocL e] at ht; exact hO k e (H.opn k e ht)
    · have : k = cl.length := by omega
      subst this; exact hn
/-- An answer, before its effect. -/
theorem Hist.ans (H : Hist S cl q lin ck O) {k : Nat} {f kd w e0 x0 : Int} (e x : Int) (hk : k < cl.length) (hr : cl.getD k [] = rowC k f (-1) kd w e0 x0) (hl : ¬ k ∈ lin) :
    Hist S (cl.set k (rowC k f (-1) kd w e x)) q lin ck O := by
  have hne : ∀ i ∈ lin, (cl.set k (rowC k f (-1) kd w e x)).getD i [] = cl.getD i [] := fun i hi => getD_setL_ne (fun h => hl (h ▸ hi))
  refine ⟨H.ck0, fun j hj => ?_, H.nd, fun j hj => by simpa using H.lt j hj, fun j hj ht => ?_, ?_, runQ_congr (fun i hi => ?_) H.run, fun j hj ht => ?_⟩
  · simp at hj
    obtain ⟨f', t', kd', w', e', x', g1, g2, g3, g4, g5⟩ := H.rows j hj
    by_cases ej : k = j
    · subst ej
      rw [hr] at g1
      simp only [rowC, List.cons.injEq] at g1
      obtain ⟨_, rfl, rfl, rfl, _, _, rfl, _, _, _⟩ := g1
      exact ⟨_, _, _, _, _, _, getD_setL hk, g2, g3, g4, .inl rfl⟩
    · exact ⟨f', t', kd', w', e', x', by rw [getD_setL_ne ej]; exact g1, g2, g3, g4, g5⟩
  · simp at hj
    by_cases ej : k = j
    · subst ej; rw [getD_setL hk] at ht; exact absurd rfl ht
    · rw [getD_setL_ne ej] at ht; exact H.done j hj ht
  · refine List.Pairwise.imp_of_mem (fun {a b} ha hb h => ?_) H.order
    rw [hne a ha, hne b hb]; exact h
  · have := hne i hi
    unfold sameAns cnA; rw [this]; exact ⟨rfl, rfl, rfl⟩
  · simp at hj
    by_cases ej : k = j
    · subst ej; exact H.opn k hk (by rw [hr]; rfl)
    · rw [getD_setL_ne ej] at ht; exact H.opn j hj ht
/-- A call takes effect. -/
theorem Hist.eff (H : Hist S cl q lin ck O) {k : Nat} {f kd w e x : Int} {q1 : List Int} {d : Nat} (hk : k < cl.length) (hr : cl.getD k [] = rowC k f (-1) kd w e x) (hl : ¬ k ∈ lin)
    (hf : fifoS S q kd w = ([e, 0, x], q1, d)) : Hist S cl (q1.drop d) (lin ++ [k]) ck O := by
  have hg : cnG cl S q k = ([e, 0, x], q1, d) := by unfold cnG; rw [hr]; exact hf
  have hi : cnIs cl S q k = true := by
    have ha : cnA cl k = [e, 0, x] := by unfold cnA; rw [hr]; rfl
    unfold cnIs; rw [hg, ha]; exact eqL3.2 rfl
  have hq := runQ_snoc H.run hi
  rw [hg] at hq
  refine ⟨H.ck0, H.rows, ?_, fun j hj => ?_, fun j hj ht => List.mem_append_left _ (H.done j hj ht), ?_, hq, H.opn⟩
  · exact List.nodup_append.2 ⟨H.nd, by simp, fun a ha b hb => by rw [List.mem_singleton.1 hb]; exact fun h => hl (h ▸ ha)⟩
  · rcases List.mem_append.1 hj with hj | hj
    · exact H.lt j hj
    · rw [List.mem_singleton.1 hj]; exact hk
  · refine List.pairwise_append.2 ⟨H.order, by simp, fun a _ b hb => ?_⟩
    rw [List.mem_singleton.1 hb, hr]; exact .inl rfl
/-- A call that has taken effect ends. -/
theorem Hist.fin (H : Hist S cl q lin ck O) {k : Nat} {f kd w e x : Int} (hk : k < cl.length) (hr : cl.getD k [] = rowC k f (-1) kd w e x) (hl : k ∈ lin) (hO : ∀ j, j < cl.length → j ≠ k → O j → O' j) :
    Hist S (cl.set k (rowC k f (ck + 1) kd w e x)) q lin (ck + 1) O' := by
  have hck := H.ck0
  refine ⟨by omega, fun j hj => ?_, H.nd, fun j hj => by simpa using H.lt j hj, fun j hj ht => ?_, ?_, runQ_congr (fun i hi => ?_) H.run, fun j hj ht => ?_⟩
  · simp at hj
    obtain ⟨f', t', kd', w', e', x', g1, g2, g3, g4, g5⟩ := H.rows j hj
    by_cases ej : k = j
    · subst ej
      rw [hr] at g1
      simp only [rowC, List.cons.injEq] at g1
      obtain ⟨_, rfl, rfl, rfl, _, _, rfl, _, _, _⟩ := g1
      exact ⟨_, _, _, _, _, _, getD_setL hk, g2, g3, by omega, .inr (by omega)⟩
    · exact ⟨f', t', kd', w', e', x', by rw [getD_setL_ne ej]; exact g1, g2, g3, by omega, g5⟩
  · simp at hj
    by_cases ej : k = j
    · subst ej; exact hl
    · rw [getD_setL_ne ej] at ht; exact H.done j hj ht
  · have hfrom : ∀ a ∈ lin, ((cl.set k (rowC k f (ck + 1) kd w e x)).getD a []).getD 1 0 ≤ ck := fun a ha => by
      obtain ⟨f', t', kd', w', e', x', g1, g2, g3, g4, g5⟩ := H.rows a (H.lt a ha)
      by_cases ea : k = a
      · subst ea
        rw [hr] at g1
        simp only [rowC, List.cons.injEq] at g1
        rw [getD_setL hk]
        show f ≤ ck
        omega
      · rw [getD_setL_ne ea, g1]; exact g4
    refine List.Pairwise.imp_of_mem (fun {a b} ha hb h => ?_) H.order
    have h1 := hfrom a ha
    by_cases eb : k = b
    · subst eb
      refine .inr ?_
      rw [getD_setL hk (r := rowC k f (ck + 1) kd w e x)]
      show ¬ (ck + 1 < _)
      omega
    · rw [getD_setL_ne eb]
      by_cases ea : k = a
      · subst ea
        rw [hr] at h
        rw [getD_setL hk]; exact h
      · rw [getD_setL_ne ea]; exact h
  · unfold sameAns cnA
    by_cases ei : k = i
    · subst ei; rw [getD_setL hk, hr]; exact ⟨rfl, rfl, rfl⟩
    · rw [getD_setL_ne ei]; exact ⟨rfl, rfl, rfl⟩
  · simp at hj
    by_cases ej : k = j
    · subst ej
      rw [getD_setL hk] at ht
      have : ck + 1 = -1 := ht
      omega
    · rw [getD_setL_ne ej] at ht; exact hO j hj (fun h => ej h.symm) (H.opn j hj ht)
theorem Hist.mono (H : Hist S cl q lin ck O) (hO : ∀ j, j < cl.length → O j → O' j) : Hist S cl q lin ck O' :=
  ⟨H.ck0, H.rows, H.nd, H.lt, H.done, H.order, H.run, fun k hk ht => hO k hk (H.opn k hk ht)⟩
/-- All have ended: there is an order. -/
theorem Hist.ord (H : Hist S cl q lin ck O) (hO : ∀ k, ¬ O k) (h1 : 1 ≤ S) (h2 : S ≤ 4) (h3 : cl.length ≤ 8) : OrdPre cl S := by
  have hto : ∀ k, k < cl.length → 0 ≤ (cl.getD k []).getD 2 0 := fun k hk => by
    obtain ⟨f, t, kd, w, e, x, g1, g2, g3, g4, g5⟩ := H.rows k hk
    have : (cl.getD k []).getD 2 0 = t := by rw [g1]; rfl
    rcases g5 with g5 | g5
    · exact absurd (H.opn k hk (by rw [this]; exact g5)) (hO k)
    · omega
  refine ordPre_of (lin := lin) hto (by omega) h1 (by omega) (fun k hk => ?_) (fun k hk => ?_) H.nd (fun k hk => H.done k hk (by have := hto k hk; omega)) H.lt ?_ (runQ_L H.run)
  · obtain ⟨f, t, kd, w, e, x, g1, g2, g3, g4, g5⟩ := H.rows k hk
    rw [g1]; exact ⟨g2, g3⟩
  · obtain ⟨f, t, kd, w, e, x, g1, g2, g3, g4, g5⟩ := H.rows k hk
    rw [g1]; rfl
  · refine List.Pairwise.imp_of_mem (fun {a b} ha hb h => ?_) H.order
    have := hto b (H.lt b hb)
    unfold aheadP
    refine decide_eq_false ?_
    rcases h with h | h <;> omega
end
end Go.Sx
/- The plain law of a ring: its invariant. -/
namespace Go.Sx
set_option maxRecDepth 100000
/-- A core that pushes: its Push, what it has heard, its value, its call. -/
structure Cr where
  p : PO
  h : Int
  v : Int
  o : Int
/-- Where a Push is. -/
inductive Ph (S D P T h t w : Int) (inL : Prop) : Nat → Prop where
  | tail (h1 : h = 14) (h2 : ¬ inL) : Ph S D P T h t w inL 40
  | look (h1 : h = 14) (h2 : ¬ inL) (h3 : 0 ≤ t) (h4 : t ≤ T) : Ph S D P T h t w inL 65
  | lay (h1 : h = 14) (h2 : ¬ inL) (h3 : 0 ≤ t) (h4 : t ≤ T) (h5 : w = emptyW (t / S)) (h6 : t < D + S) : Ph S D P T h t w inL 81
  | help (h1 : h = 14) (h2 : ¬ inL) (h3 : 0 ≤ t) (h4 : t ≤ T) (h5 : t < P) : Ph S D P T h t w inL 82
  | last (h1 : h = 0) (h2 : inL) (h3 : 0 ≤ t) (h4 : t ≤ T) (h5 : t < P) : Ph S D P T h t w inL 94
/-- How many steps a Push takes alone, at the most. -/
def mu (P T : Int) : PO → Nat
  | .act f _ _ t _ => if f = 94 then 1 else if f = 40 then (if T = P then 4 else 7) else if f = 82 then (if T = P ∨ T = t then 5 else 8)
      else if t = P then (if f = 81 then 2 else 3) else (if T = P ∨ T = t then 6 else 9)
  | _ => 0
def PCore (S D P T : Int) (cl : List (List Int)) (lin : List Nat) (A : Cr) : Prop :=
  A.o = -1 ∨ ∃ (k f : Nat) (e t w fr : Int), A.o = (k : Int) ∧ k < cl.length ∧ cl.getD k [] = rowC k fr (-1) 1 A.v 0 0 ∧ 0 ≤ A.v ∧ A.v < 65536 ∧ A.p = .act f e A.v t w ∧ Ph S D P T A.h t w (k ∈ lin) f
def TCore (D Hd : Int) (q : List Int) (cl : List (List Int)) (lin : List Nat) (fo : FO) (dr : DO) (nx : Bool) (o2 : Int) : Prop :=
  (o2 = -1 ∧ Hd = D ∧ (nx = true → q ≠ [] ∧ ∃ e v, fo = .ended e D v)) ∨
  (∃ (k : Nat) (fr e : Int), o2 = (k : Int) ∧ k < cl.length ∧ cl.getD k [] = rowC k fr (-1) 2 0 0 0 ∧ ¬ k ∈ lin ∧ nx = false ∧ Hd = D ∧ ((∃ h, fo = .act 56 e h 0) ∨ fo = .act 71 e D 0)) ∨
  (∃ (k : Nat) (fr e : Int), o2 = (k : Int) ∧ k < cl.length ∧ cl.getD k [] = rowC k fr (-1) 3 0 0 0 ∧ nx = true ∧ ((dr = .act 67 e D ∧ Hd = D ∧ q ≠ [] ∧ ¬ k ∈ lin) ∨ (dr = .act 84 e (D - 1) ∧ Hd = D - 1 ∧ k ∈ lin)))
structure RInv (K : Int) (S : Int) (ws q : List Int) (cl : List (List Int)) (ck pu : Int) (A B : Cr) (fo : FO) (dr : DO) (nx : Bool) (o2 D P T Hd : Int) (lin : List Nat) : Prop where
  ring : Ring S ws q D P T Hd
  hist : Hist S cl q lin ck (fun k => A.o = (k : Int) ∨ B.o = (k : Int) ∨ o2 = (k : Int))
  a : PCore S D P T cl lin A
  b : PCore S D P T cl lin B
  t : TCore D Hd q cl lin fo dr nx o2
  ab : A.o ≠ -1 → A.o ≠ B.o
  at2 : A.o ≠ -1 → A.o ≠ o2
  bt2 : B.o ≠ -1 → B.o ≠ o2
  kl : (cl.length : Int) ≤ K
  kc : ck ≤ K
  pu0 : 0 ≤ pu
  kp : pu ≤ K
  kP : P ≤ K
section
variable {K S ck pu o2 D P T Hd : Int} {ws q : List Int} {cl : List (List Int)} {A B : Cr} {fo : FO} {dr : DO} {nx : Bool} {lin : List Nat}
theorem Ph.mono {D' P' T' h t w : Int} {p p' : Prop} {f : Nat} (H : Ph S D P T h t w p f) (h1 : D ≤ D') (h2 : P ≤ P') (h3 : T ≤ T') (hp : p ↔ p') : Ph S D' P' T' h t w p' f := by
  cases H with
  | tail a b => exact .tail a (fun c => b (hp.2 c))
  | look a b c d => exact .look a (fun c => b (hp.2 c)) c (by omega)
  | lay a b c d e g => exact .lay a (fun c => b (hp.2 c)) c (by omega) e (by omega)
  | help a b c d e => exact .help a (fun c => b (hp.2 c)) c (by omega) (by omega)
  | last a b c d e => exact .last a (hp.1 b) c (by omega) (by omega)
theorem PCore.mono {D' P' T' : Int} {cl' : List (List Int)} {lin' : List Nat} (H : PCore S D P T cl lin A) (h1 : D ≤ D') (h2 : P ≤ P') (h3 : T ≤ T')
    (hk : ∀ k : Nat, A.o = (k : Int) → k < cl.length → k < cl'.length ∧ cl'.getD k [] = cl.getD k [] ∧ (k ∈ lin ↔ k ∈ lin')) : PCore S D' P' T' cl' lin' A := by
  rcases H with h | ⟨k, f, e, t, w, fr, g1, g2, g3, g4, g5, g6, g7⟩
  · exact .inl h
  · obtain ⟨j1, j2, j3⟩ := hk k g1 g2
    exact .inr ⟨k, f, e, t, w, fr, g1, j1, by rw [j2]; exact g3, g4, g5, g6, g7.mono h1 h2 h3 j3⟩
theorem TCore.mono {q' : List Int} {cl' : List (List Int)} {lin' : List Nat} (H : TCore D Hd q cl lin fo dr nx o2) (hq : q ≠ [] → q' ≠ [])
    (hk : ∀ k : Nat, o2 = (k : Int) → k < cl.length → k < cl'.length ∧ cl'.getD k [] = cl.getD k [] ∧ (k ∈ lin ↔ k ∈ lin')) : TCore D Hd q' cl' lin' fo dr nx o2 := by
  rcases H with ⟨a, b, c⟩ | ⟨k, fr, e, g1, g2, g3, g4, g5, g6, g7⟩ | ⟨k, fr, e, g1, g2, g3, g4, g5⟩
  · exact .inl ⟨a, b, fun h => ⟨hq (c h).1, (c h).2⟩⟩
  · obtain ⟨j1, j2, j3⟩ := hk k g1 g2
    exact .inr (.inl ⟨k, fr, e, g1, j1, by rw [j2]; exact g3, fun h => g4 (j3.2 h), g5, g6, g7⟩)
  · obtain ⟨j1, j2, j3⟩ := hk k g1 g2
    refine .inr (.inr ⟨k, fr, e, g1, j1, by rw [j2]; exact g3, g4, ?_⟩)
    rcases g5 with ⟨a, b, c, d⟩ | ⟨a, b, c⟩
    · exact .inl ⟨a, b, hq c, fun h => d (j3.2 h)⟩
    · exact .inr ⟨a, b, j3.1 c⟩
theorem RInv.swap (I : RInv K S ws q cl ck pu A B fo dr nx o2 D P T Hd lin) : RInv K S ws q cl ck pu B A fo dr nx o2 D P T Hd lin :=
  ⟨I.ring, I.hist.mono (fun j _ h => by rcases h with h | h | h <;> simp [h]), I.b, I.a, I.t, fun h1 h2 => I.ab (by rw [← h2]; exact h1) h2.symm, I.bt2, I.at2, I.kl, I.kc, I.pu0, I.kp, I.kP⟩
/-- Nothing of the calls changes, and nothing of who holds which. -/
theorem RInv.same (I : RInv K S ws q cl ck pu A B fo dr nx o2 D P T Hd lin) {ws' : List Int} {T' : Int} {p : PO} (hR : Ring S ws' q D P T' Hd) (hT : T ≤ T') (ha : PCore S D P T' cl lin ⟨p, A.h, A.v, A.o⟩) :
    RInv (K + 1) S ws' q cl ck pu ⟨p, A.h, A.v, A.o⟩ B fo dr nx o2 D P T' Hd lin :=
  ⟨hR, I.hist, ha, I.b.mono (Int.le_refl _) (Int.le_refl _) hT (fun k _ h => ⟨h, rfl, .rfl⟩), I.t, I.ab, I.at2, I.bt2, by have := I.kl; omega, by have := I.kc; omega, I.pu0, by have := I.kp; omega, by have := I.kP; omega⟩
end
end Go.Sx
