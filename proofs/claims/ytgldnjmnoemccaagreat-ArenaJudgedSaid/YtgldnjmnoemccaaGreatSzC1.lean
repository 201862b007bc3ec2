/- The plain law of an arena: its words. -/
import Derived.Test.YtgldnjmnoemccaaGreatSzO8
import Derived.Test.YtgldnjmnoemccaaGreatSzB1
namespace Go.Sx
set_option maxRecDepth 100000
def lk (ws : List Int) (i : Int) : Int := ws.getD (1 + i).toNat 0
def gn (ws : List Int) (n i : Int) : Int := ws.getD (1 + n + i).toNat 0
def hdS : List Int → Int
  | [] => -1
  | x :: _ => x
def Chain (ws : List Int) : List Int → Prop
  | [] => True
  | x :: S => idW (lk ws x) = hdS S ∧ Chain ws S
/-- An arena's words: what lies on its stack, the top's tag. -/
structure Ar (K n : Int) (ws S : List Int) (t : Int) : Prop where
  n1 : 1 ≤ n
  n4 : n ≤ 4
  wl : ws.length = 4096
  top : ws.getD 0 0 = topW (hdS S) t
  t0 : 0 ≤ t
  tK : t ≤ K
  rng : ∀ x ∈ S, 0 ≤ x ∧ x < n
  ch : Chain ws S
  lkr : ∀ i, 0 ≤ i → i < n → ∃ j, lk ws i = topW j 0 ∧ -1 ≤ j ∧ j < n
  gnr : ∀ i, 0 ≤ i → i < n → 1 ≤ gn ws n i ∧ gn ws n i ≤ 1 + K
  worn : ws.getD (1 + 2 * n).toNat 0 = 0
section
variable {K n t : Int} {ws S : List Int}
theorem Ar.hd (R : Ar K n ws S t) : -1 ≤ hdS S ∧ hdS S < n := by
  cases S with
  | nil => have := R.n1; show -1 ≤ (-1 : Int) ∧ (-1 : Int) < n; omega
  | cons x S => have := R.rng x (by simp); show -1 ≤ x ∧ x < n; omega
theorem Ar.up (R : Ar K n ws S t) : Ar (K + 1) n ws S t :=
  ⟨R.n1, R.n4, R.wl, R.top, R.t0, by have := R.tK; omega, R.rng, R.ch, R.lkr, fun i h1 h2 => by have := R.gnr i h1 h2; omega, R.worn⟩
theorem Chain.congr {ws' : List Int} : ∀ {S : List Int}, (∀ x ∈ S, lk ws' x = lk ws x) → Chain ws S → Chain ws' S
  | [], _, _ => trivial
  | x :: S, h, c => ⟨by rw [h x (by simp)]; exact c.1, Chain.congr (fun y hy => h y (by simp [hy])) c.2⟩
theorem hdS_nil {S : List Int} (h : ∀ x ∈ S, 0 ≤ x) (e : hdS S = -1) : S = [] := by
  cases S with
  | nil => rfl
  | cons x S => have := h x (by simp); have e : x = -1 := e; omega
/-- The top changes. -/
theorem Ar.setTop (R : Ar K n ws S t) {S' : List Int} (hr : ∀ x ∈ S', 0 ≤ x ∧ x < n) (hc : Chain ws S') : Ar (K + 1) n (ws.set 0 (topW (hdS S') (t + 1))) S' (t + 1) := by
  have h1 := R.n1; have h4 := R.n4; have hw := R.wl; have ht := R.t0; have hk := R.tK
  have e1 : ∀ i, 0 ≤ i → lk (ws.set 0 (topW (hdS S') (t + 1))) i = lk ws i := fun i hi => getD_set_ne (by omega)
  have e2 : ∀ i, 0 ≤ i → gn (ws.set 0 (topW (hdS S') (t + 1))) n i = gn ws n i := fun i hi => getD_set_ne (by omega)
  refine ⟨h1, h4, by simpa using hw, getD_set_eq (by omega), by omega, by omega, hr, hc.congr fun x hx => e1 x (hr x hx).1, fun i h1 h2 => ?_, fun i h1 h2 => ?_, ?_⟩
  · rw [e1 i h1]; exact R.lkr i h1 h2
  · rw [e2 i h1]; have := R.gnr i h1 h2; omega
  · rw [getD_set_ne (by omega)]; exact R.worn
/-- A link is laid. -/
theorem Ar.setLink (R : Ar K n ws S t) {i j : Int} (h0 : 0 ≤ i) (hn : i < n) (hi : ¬ i ∈ S) (hj : -1 ≤ j) (hj' : j < n) : Ar (K + 1) n (ws.set (1 + i).toNat (topW j 0)) S t := by
  have h1 := R.n1; have h4 := R.n4; have hw := R.wl; have ht := R.t0; have hk := R.tK
  have e1 : ∀ x, 0 ≤ x → x ≠ i → lk (ws.set (1 + i).toNat (topW j 0)) x = lk ws x := fun x hx hne => getD_set_ne (by omega)
  have e2 : ∀ x, 0 ≤ x → gn (ws.set (1 + i).toNat (topW j 0)) n x = gn ws n x := fun x hx => getD_set_ne (by omega)
  refine ⟨h1, h4, by simpa using hw, ?_, by omega, by omega, R.rng, R.ch.congr fun x hx => e1 x (R.rng x hx).1 (fun e => hi (e ▸ hx)), fun x h1 h2 => ?_, fun x h1 h2 => ?_, ?_⟩
  · rw [getD_set_ne (by omega)]; exact R.top
  · by_cases e : x = i
    · subst e; exact ⟨j, getD_set_eq (by omega), hj, hj'⟩
    · rw [e1 x h1 e]; exact R.lkr x h1 h2
  · rw [e2 x h1]; have := R.gnr x h1 h2; omega
  · rw [getD_set_ne (by omega)]; exact R.worn
/-- A generation is raised. -/
theorem Ar.setGen (R : Ar K n ws S t) {i g : Int} (h0 : 0 ≤ i) (hn : i < n) (hg : 1 ≤ g) (hg' : g ≤ 2 + K) : Ar (K + 1) n (ws.set (1 + n + i).toNat g) S t := by
  have h1 := R.n1; have h4 := R.n4; have hw := R.wl; have ht := R.t0; have hk := R.tK
  have e1 : ∀ x, 0 ≤ x → x < n → lk (ws.set (1 + n + i).toNat g) x = lk ws x := fun x hx hx' => getD_set_ne (by omega)
  refine ⟨h1, h4, by simpa using hw, ?_, by omega, by omega, R.rng, R.ch.congr fun x hx => e1 x (R.rng x hx).1 (R.rng x hx).2, fun x h1 h2 => ?_, fun x h1 h2 => ?_, ?_⟩
  · rw [getD_set_ne (by omega)]; exact R.top
  · rw [e1 x h1 h2]; exact R.lkr x h1 h2
  · by_cases e : x = i
    · subst e
      have : gn (ws.set (1 + n + x).toNat g) n x = g := getD_set_eq (by omega)
      rw [this]; omega
    · have : gn (ws.set (1 + n + i).toNat g) n x = gn ws n x := getD_set_ne (by omega)
      rw [this]; have := R.gnr x h1 h2; omega
  · rw [getD_set_ne (by omega)]; exact R.worn
end
/-- What a core holds, within an operation. -/
def owned : CO → List Int
  | .al f i _ _ _ _ _ _ _ _ => if f = 74 then [i] else []
  | .fr _ i _ _ _ _ _ _ _ _ => [i]
  | .idle => []
/-- Where an operation is. -/
inductive Ph (n : Int) (ws S : List Int) (t : Int) (inL : Prop) : CO → Prop where
  | pop1 (w p q : Int) (h : ¬ inL) : Ph n ws S t inL (.al 51 0 0 0 w p q false 0 71)
  | pop2 (p q u : Int) (h : ¬ inL) (h1 : 0 ≤ p) (h2 : p < n) (h3 : 0 ≤ u) (h4 : u ≤ t) (h5 : u = t → hdS S = p) : Ph n ws S t inL (.al 51 0 0 0 (topW p u) p q false 0 92)
  | pop3 (p q u : Int) (h : ¬ inL) (h1 : 0 ≤ p) (h2 : p < n) (h3 : 0 ≤ u) (h4 : u ≤ t) (h6 : -1 ≤ q) (h7 : q < n) (h5 : u = t → ∃ S', S = p :: S' ∧ hdS S' = q) : Ph n ws S t inL (.al 51 0 0 0 (topW p u) p q false 0 104)
  | gives (i w p q g : Int) (d : Bool) (f : Nat) (h : inL) : Ph n ws S t inL (.al 74 i 0 0 w p q d g f)
  | lacks (w p q g : Int) (d : Bool) (f : Nat) (h : ¬ inL) : Ph n ws S t inL (.al 75 0 0 0 w p q d g f)
  | looks (i : Int) (h : ¬ inL) : Ph n ws S t inL (.fr 27 i 0 0 0 i 0 false 0 45)
  | raises (i : Int) (h : ¬ inL) : Ph n ws S t inL (.fr 47 i (gn ws n i) 0 0 i 0 false 0 45)
  | push1 (i r w q : Int) (h : ¬ inL) : Ph n ws S t inL (.fr 69 i r 0 w i q false 0 45)
  | push2 (i r q u : Int) (h : ¬ inL) (h3 : 0 ≤ u) (h4 : u ≤ t) (h6 : -1 ≤ q) (h7 : q < n) (h5 : u = t → hdS S = q) : Ph n ws S t inL (.fr 69 i r 0 (topW q u) i q false 0 68)
  | push3 (i r q u : Int) (h : ¬ inL) (h3 : 0 ≤ u) (h4 : u ≤ t) (h6 : -1 ≤ q) (h7 : q < n) (h5 : u = t → hdS S = q) (h8 : lk ws i = topW q 0) : Ph n ws S t inL (.fr 69 i r 0 (topW q u) i q false 0 89)
theorem Ph.mono {n t t' : Int} {ws ws' S S' : List Int} {p p' : Prop} {x : CO} (H : Ph n ws S t p x) (ht : t ≤ t') (hS : t = t' → S = S') (hw : ∀ i ∈ owned x, lk ws' i = lk ws i ∧ gn ws' n i = gn ws n i) (hp : p ↔ p') : Ph n ws' S' t' p' x := by
  have hn : ¬ p → ¬ p' := fun h g => h (hp.2 g)
  cases H with
  | pop1 w a q h => exact .pop1 w a q (hn h)
  | pop2 a q u h h1 h2 h3 h4 h5 => exact .pop2 a q u (hn h) h1 h2 h3 (by omega) (fun e => hS (show t = t' by omega) ▸ h5 (by omega))
  | pop3 a q u h h1 h2 h3 h4 h6 h7 h5 => exact .pop3 a q u (hn h) h1 h2 h3 (by omega) h6 h7 (fun e => hS (show t = t' by omega) ▸ h5 (by omega))
  | gives i w a q g d f h => exact .gives i w a q g d f (hp.1 h)
  | lacks w a q g d f h => exact .lacks w a q g d f (hn h)
  | looks i h => exact .looks i (hn h)
  | raises i h => rw [← (hw i (by simp [owned])).2]; exact .raises i (hn h)
  | push1 i r w q h => exact .push1 i r w q (hn h)
  | push2 i r q u h h3 h4 h6 h7 h5 => exact .push2 i r q u (hn h) h3 (by omega) h6 h7 (fun e => hS (show t = t' by omega) ▸ h5 (by omega))
  | push3 i r q u h h3 h4 h6 h7 h5 h8 => exact .push3 i r q u (hn h) h3 (by omega) h6 h7 (fun e => hS (show t = t' by omega) ▸ h5 (by omega)) (by rw [(hw i (by simp [owned])).1]; exact h8)
end Go.Sx
/- The plain law of an arena: its calls. -/
namespace Go.Sx
set_option maxRecDepth 100000
def rowC (k : Nat) (f t kd a e x : Int) : List Int := [(k : Int), f, t, kd, a, 0, 0, e, x, 0]
/-- A pool's list: what lies on the stack. -/
def pl (S : List Int) : List Int := upTo 1024 (fun x => decide (x ∈ S))
theorem mem_upTo {m : Nat} {f : Int → Bool} {x : Int} : x ∈ upTo m f ↔ (0 ≤ x ∧ x < (m : Int)) ∧ f x = true := by
  unfold upTo
  rw [List.mem_filter, List.mem_map]
  constructor
  · rintro ⟨⟨q, hq, rfl⟩, h⟩
    have := List.mem_range.1 hq
    exact ⟨⟨by omega, by omega⟩, h⟩
  · rintro ⟨⟨h1, h2⟩, h⟩
    exact ⟨⟨x.toNat, List.mem_range.2 (by omega), by omega⟩, h⟩
theorem upTo_congr {m : Nat} {f g : Int → Bool} (h : ∀ x, 0 ≤ x → x < (m : Int) → f x = g x) : upTo m f = upTo m g := by
  unfold upTo
  refine List.filter_congr fun x hx => ?_
  obtain ⟨q, hq, rfl⟩ := List.mem_map.1 hx
  have := List.mem_range.1 hq
  exact h _ (by omega) (by omega)
theorem mem_pl {S : List Int} {x : Int} : x ∈ pl S ↔ (0 ≤ x ∧ x < 1024) ∧ x ∈ S := by
  unfold pl
  rw [mem_upTo]
  simp
theorem nx_alloc {S : List Int} {a i : Int} (hnd : (i :: S).Nodup) : poolNx (pl (i :: S)) 7 a 0 i = pl S := by
  have e : poolNx (pl (i :: S)) 7 a 0 i = upTo 1024 (freeB (pl (i :: S)) 7 a i) := by unfold poolNx upTo; rw [if_pos rfl]
  rw [e]
  refine upTo_congr fun x h1 h2 => ?_
  unfold freeB
  rw [if_neg (by omega)]
  by_cases hx : x = i
  · subst hx
    rw [if_pos ⟨rfl, rfl⟩]
    exact (decide_eq_false (List.nodup_cons.1 hnd).1).symm
  · rw [if_neg (by simp [hx])]
    refine decide_eq_decide.2 ?_
    rw [mem_pl]
    simp [hx]
    intro _
    exact ⟨h1, by omega⟩
theorem nx_free {S : List Int} {i : Int} : poolNx (pl S) 8 i 0 0 = pl (i :: S) := by
  have e : poolNx (pl S) 8 i 0 0 = upTo 1024 (freeB (pl S) 8 i 0) := by unfold poolNx upTo; rw [if_pos rfl]
  rw [e]
  refine upTo_congr fun x h1 h2 => ?_
  unfold freeB
  by_cases hx : x = i
  · subst hx
    rw [if_pos ⟨rfl, rfl⟩]
    simp
  · rw [if_neg (by simp [hx]), if_neg (by omega)]
    refine decide_eq_decide.2 ?_
    rw [mem_pl]
    simp [hx]
    intro _
    exact ⟨h1, by omega⟩
theorem nx_full {F : List Int} {k a n : Int} : poolNx F k a 7 n = F := by unfold poolNx; rw [if_neg (by decide)]
theorem is_alloc {S : List Int} {a i : Int} (h : i ∈ S) (h1 : 0 ≤ i) (h2 : i < 1024) : poolIs (pl S) 7 a 0 i 0 = true := by
  unfold poolIs poolAns
  rw [if_pos rfl]
  refine decide_eq_true (List.mem_append_left _ (List.mem_map.2 ⟨i, mem_pl.2 ⟨⟨h1, h2⟩, h⟩, rfl⟩))
theorem is_full {F : List Int} {a : Int} : poolIs F 7 a 7 0 0 = true := by
  unfold poolIs poolAns
  rw [if_pos rfl]
  refine decide_eq_true (List.mem_append_right _ (by simp))
theorem is_free {S : List Int} {i : Int} (h : ¬ i ∈ S) (h1 : 0 ≤ i) (h2 : i < 1024) : poolIs (pl S) 8 i 0 0 0 = true := by
  unfold poolIs poolAns
  rw [if_neg (by decide), if_neg (by omega), if_neg (fun g => h (mem_pl.1 g).2)]
  exact decide_eq_true (by simp)
def kdC (cl : List (List Int)) (k : Nat) : Int := (cl.getD k []).getD 3 0
def aC (cl : List (List Int)) (k : Nat) : Int := (cl.getD k []).getD 4 0
/-- Calls, one behind the other, from a pool to a pool, with their answers. -/
def runA (cl : List (List Int)) (ans : Nat → Int × Int) : List Int → List Nat → List Int → Prop
  | F, [], Q => F = Q
  | F, k :: r, Q => poolIs F (kdC cl k) (aC cl k) (ans k).1 (ans k).2 0 = true ∧ runA cl ans (poolNx F (kdC cl k) (aC cl k) (ans k).1 (ans k).2) r Q
theorem runA_snoc {cl : List (List Int)} {ans : Nat → Int × Int} {k : Nat} : ∀ {l : List Nat} {F Q : List Int}, runA cl ans F l Q → poolIs Q (kdC cl k) (aC cl k) (ans k).1 (ans k).2 0 = true → runA cl ans F (l ++ [k]) (poolNx Q (kdC cl k) (aC cl k) (ans k).1 (ans k).2)
  | [], F, Q, h, hi => by
    have h : F = Q := h
    subst h
    exact ⟨hi, rfl⟩
  | j :: l, F, Q, h, hi => ⟨h.1, runA_snoc h.2 hi⟩
theorem runA_congr {cl cl' : List (List Int)} {ans ans' : Nat → Int × Int} : ∀ {l : List Nat} {F Q : List Int}, (∀ k ∈ l, kdC cl' k = kdC cl k ∧ aC cl' k = aC cl k ∧ ans' k = ans k) → runA cl ans F l Q → runA cl' ans' F l Q
  | [], _, _, _, h => h
  | k :: l, F, Q, h, g => by
    obtain ⟨h1, h2, h3⟩ := h k (by simp)
    refine ⟨by rw [h1, h2, h3]; exact g.1, ?_⟩
    rw [h1, h2, h3]
    exact runA_congr (fun j hj => h j (by simp [hj])) g.2
theorem runA_L {cl : List (List Int)} {ans : Nat → Int × Int} : ∀ {l : List Nat} {F Q : List Int}, (∀ k ∈ l, (cl.getD k []).getD 7 0 = (ans k).1 ∧ (cl.getD k []).getD 8 0 = (ans k).2 ∧ (cl.getD k []).getD 9 0 = 0) → runA cl ans F l Q → runsL cl F l
  | [], _, _, _, _ => trivial
  | k :: l, F, Q, h, g => by
    obtain ⟨h1, h2, h3⟩ := h k (by simp)
    refine ⟨?_, ?_⟩
    · unfold cnIs; rw [h1, h2, h3]; exact g.1
    · unfold cnNx; rw [h1, h2]
      exact runA_L (fun j hj => h j (by simp [hj])) g.2
theorem getD_setL {cl : List (List Int)} {k : Nat} {r : List Int} (h : k < cl.length) : (cl.set k r).getD k [] = r := by
  simp [List.getD_eq_getElem?_getD, h]
theorem getD_setL_ne {cl : List (List Int)} {k j : Nat} {r : List Int} (h : k ≠ j) : (cl.set k r).getD j [] = cl.getD j [] := by
  simp [List.getD_eq_getElem?_getD, List.getElem?_set_ne h]
theorem getD_snocL {cl : List (List Int)} {j : Nat} {r : List Int} (h : j < cl.length) : (cl ++ [r]).getD j [] = cl.getD j [] := by
  simp [List.getD_eq_getElem?_getD, List.getElem?_append_left h]
theorem getD_snocE {cl : List (List Int)} {r : List Int} : (cl ++ [r]).getD cl.length [] = r := by
  simp [List.getD_eq_getElem?_getD]
theorem rs_len {cl : List (List Int)} {k f : Nat} {x : Int} : (rs cl k f x).length = cl.length := by unfold rs; simp
theorem rs2_eq {cl : List (List Int)} {k : Nat} {f t kd a e x c : Int} (hr : cl.getD k [] = rowC k f t kd a e x) : rs cl k 2 c = cl.set k (rowC k f c kd a e x) := by
  unfold rs; rw [hr]; rfl
theorem rs27_eq {cl : List (List Int)} {k : Nat} {f t kd a e x c e' : Int} (h : k < cl.length) (hr : cl.getD k [] = rowC k f t kd a e x) : rs (rs cl k 2 c) k 7 e' = cl.set k (rowC k f c kd a e' x) := by
  rw [rs2_eq hr]; unfold rs; rw [getD_setL h, List.set_set]; rfl
theorem rs278_eq {cl : List (List Int)} {k : Nat} {f t kd a e x c e' x' : Int} (h : k < cl.length) (hr : cl.getD k [] = rowC k f t kd a e x) : rs (rs (rs cl k 2 c) k 7 e') k 8 x' = cl.set k (rowC k f c kd a e' x') := by
  rw [rs27_eq h hr]; unfold rs; rw [getD_setL h, List.set_set]; rfl
/-- A history of calls, on its way. -/
structure Hist (cl : List (List Int)) (F Q : List Int) (lin : List Nat) (ans : Nat → Int × Int) (ck : Int) (O : Nat → Prop) : Prop where
  ck0 : 0 ≤ ck
  rows : ∀ k, k < cl.length → ∃ f t kd a e x, cl.getD k [] = rowC k f t kd a e x ∧ (kd = 7 ∨ kd = 8) ∧ f ≤ ck ∧ (t = -1 ∨ 0 ≤ t)
  nd : lin.Nodup
  lt : ∀ k ∈ lin, k < cl.length
  done : ∀ k, k < cl.length → (cl.getD k []).getD 2 0 ≠ -1 → k ∈ lin ∧ (cl.getD k []).getD 7 0 = (ans k).1 ∧ (cl.getD k []).getD 8 0 = (ans k).2
  order : lin.Pairwise fun x y => (cl.getD y []).getD 2 0 = -1 ∨ ¬ (cl.getD y []).getD 2 0 < (cl.getD x []).getD 1 0
  run : runA cl ans F lin Q
  opn : ∀ k, k < cl.length → (cl.getD k []).getD 2 0 = -1 → O k
section
variable {ck : Int} {cl : List (List Int)} {F Q : List Int} {lin : List Nat} {ans : Nat → Int × Int} {O O' : Nat → Prop}
theorem Hist.begin (H : Hist cl F Q lin ans ck O) {kd a : Int} (h1 : kd = 7 ∨ kd = 8) (hO : ∀ k, k < cl.length → O k → O' k) (hn : O' cl.length) :
    Hist (cl ++ [rowC cl.length (ck + 1) (-1) kd a 0 0]) F Q lin ans (ck + 1) O' := by
  have hck := H.ck0
  have hlt : ∀ k ∈ lin, (cl ++ [rowC cl.length (ck + 1) (-1) kd a 0 0]).getD k [] = cl.getD k [] := fun k hk => getD_snocL (H.lt k hk)
  refine ⟨by omega, fun k hk => ?_, H.nd, fun k hk => by have := H.lt k hk; simp; omega, fun k hk ht => ?_, ?_, runA_congr (fun i hi => ?_) H.run, fun k hk ht => ?_⟩
  · simp at hk
    by_cases e : k < cl.length
    · obtain ⟨f, t, kd', a', e', x, g1, g2, g3, g4⟩ := H.rows k e
      exact ⟨f, t, kd', a', e', x, by rw [getD_snocL e]; exact g1, g2, by omega, g4⟩
    · have : k = cl.length := by omega
      subst this
      exact ⟨_, _, _, _, _, _, getD_snocE, h1, Int.le_refl _, .inl rfl⟩
  · simp at hk
    by_cases e : k < cl.length
    · rw [getD_snocL e] at ht ⊢; exact H.done k e ht
    · have : k = cl.length := by omega
      subst this
      rw [getD_snocE] at ht
      exact absurd rfl ht
  · refine List.Pairwise.imp_of_mem (fun {a b} ha hb h => ?_) H.order
    rw [hlt a ha, hlt b hb]; exact h
  · have := hlt i hi
    unfold kdC aC; rw [this]; exact ⟨rfl, rfl, rfl⟩
  · simp at hk
    by_cases e : k < cl.length
    · rw [getD_snocL e] at ht; exact hO k e (H.opn k e ht)
    · have : k = cl.length := by omega
      subst this; exact hn
/-- A call takes effect. -/
theorem Hist.eff (H : Hist cl F Q lin ans ck O) {k : Nat} {f kd a e x e' x' : Int} {Q' : List Int} (hk : k < cl.length) (hr : cl.getD k [] = rowC k f (-1) kd a e x) (hl : ¬ k ∈ lin)
    (hi : poolIs Q kd a e' x' 0 = true) (hq : poolNx Q kd a e' x' = Q') : Hist cl F Q' (lin ++ [k]) (fun j => if j = k then (e', x') else ans j) ck O := by
  have hk1 : kdC cl k = kd := by unfold kdC; rw [hr]; rfl
  have hk2 : aC cl k = a := by unfold aC; rw [hr]; rfl
  have hc : runA cl (fun j => if j = k then (e', x') else ans j) F lin Q := runA_congr (fun j hj => ⟨rfl, rfl, if_neg (fun h : j = k => hl (h ▸ hj))⟩) H.run
  have hs := runA_snoc (k := k) hc (by rw [hk1, hk2]; simpa using hi)
  rw [hk1, hk2] at hs
  simp only [if_pos] at hs
  rw [hq] at hs
  refine ⟨H.ck0, H.rows, ?_, fun j hj => ?_, fun j hj ht => ?_, ?_, hs, H.opn⟩
  · exact List.nodup_append.2 ⟨H.nd, by simp, fun a ha b hb => by rw [List.mem_singleton.1 hb]; exact fun h => hl (h ▸ ha)⟩
  · rcases List.mem_append.1 hj with hj | hj
    · exact H.lt j hj
    · rw [List.mem_singleton.1 hj]; exact hk
  · obtain ⟨g1, g2, g3⟩ := H.done j hj ht
    have hne : ¬ j = k := fun h => hl (h ▸ g1)
    refine ⟨List.mem_append_left _ g1, ?_, ?_⟩
    · simp only [if_neg hne]; exact g2
    · simp only [if_neg hne]; exact g3
  · refine List.pairwise_append.2 ⟨H.order, by simp, fun a _ b hb => ?_⟩
    rw [List.mem_singleton.1 hb, hr]; exact .inl rfl
/-- A call that has taken effect ends. -/
theorem Hist.fin (H : Hist cl F Q lin ans ck O) {k : Nat} {f kd a e x e' x' : Int} (hk : k < cl.length) (hr : cl.getD k [] = rowC k f (-1) kd a e x) (hl : k ∈ lin) (ha : ans k = (e', x')) (hO : ∀ j, j < cl.length → j ≠ k → O j → O' j) :
    Hist (cl.set k (rowC k f (ck + 1) kd a e' x')) F Q lin ans (ck + 1) O' := by
  have hck := H.ck0
  refine ⟨by omega, fun j hj => ?_, H.nd, fun j hj => by simpa using H.lt j hj, fun j hj ht => ?_, ?_, runA_congr (fun i hi => ?_) H.run, fun j hj ht => ?_⟩
  · simp at hj
    obtain ⟨f', t', kd', a', e'', x'', g1, g2, g4, g5⟩ := H.rows j hj
    by_cases ej : k = j
    · subst ej
      rw [hr] at g1
      simp only [rowC, List.cons.injEq] at g1
      obtain ⟨_, rfl, rfl, rfl, rfl, _, _, rfl, rfl, _⟩ := g1
      exact ⟨_, _, _, _, _, _, getD_setL hk, g2, by omega, .inr (by omega)⟩
    · exact ⟨f', t', kd', a', e'', x'', by rw [getD_setL_ne ej]; exact g1, g2, by omega, g5⟩
  · simp at hj
    by_cases ej : k = j
    · subst ej
      rw [getD_setL hk, ha]
      exact ⟨hl, rfl, rfl⟩
    · rw [getD_setL_ne ej] at ht ⊢; exact H.done j hj ht
  · have hfrom : ∀ b ∈ lin, ((cl.set k (rowC k f (ck + 1) kd a e' x')).getD b []).getD 1 0 ≤ ck := fun b hb => by
      obtain ⟨f', t', kd', a', e'', x'', g1, g2, g4, g5⟩ := H.rows b (H.lt b hb)
      by_cases ea : k = b
      · subst ea
        rw [hr] at g1
        simp only [rowC, List.cons.injEq] at g1
        rw [getD_setL hk]
        show f ≤ ck
        omega
      · rw [getD_setL_ne ea, g1]; exact g4
    refine List.Pairwise.imp_of_mem (fun {b c} hb hc h => ?_) H.order
    have h1 := hfrom b hb
    by_cases eb : k = c
    · subst eb
      refine .inr ?_
      rw [getD_setL hk (r := rowC k f (ck + 1) kd a e' x')]
      show ¬ (ck + 1 < _)
      omega
    · rw [getD_setL_ne eb]
      by_cases ea : k = b
      · subst ea
        rw [hr] at h
        rw [getD_setL hk]; exact h
      · rw [getD_setL_ne ea]; exact h
  · unfold kdC aC
    by_cases ei : k = i
    · subst ei; rw [getD_setL hk, hr]; exact ⟨rfl, rfl, rfl⟩
    · rw [getD_setL_ne ei]; exact ⟨rfl, rfl, rfl⟩
  · simp at hj
    by_cases ej : k = j
    · subst ej
      rw [getD_setL hk] at ht
      have : ck + 1 = -1 := ht
      omega
    · rw [getD_setL_ne ej] at ht; exact hO j hj (fun h => ej h.symm) (H.opn j hj ht)
theorem Hist.mono (H : Hist cl F Q lin ans ck O) (hO : ∀ j, j < cl.length → O j → O' j) : Hist cl F Q lin ans ck O' :=
  ⟨H.ck0, H.rows, H.nd, H.lt, H.done, H.order, H.run, fun k hk ht => hO k hk (H.opn k hk ht)⟩
theorem Hist.tick (H : Hist cl F Q lin ans ck O) : Hist cl F Q lin ans (ck + 1) O :=
  ⟨by have := H.ck0; omega, fun k hk => by obtain ⟨f, t, kd, a, e, x, g1, g2, g3, g4⟩ := H.rows k hk; exact ⟨f, t, kd, a, e, x, g1, g2, by omega, g4⟩, H.nd, H.lt, H.done, H.order, H.run, H.opn⟩
/-- All have ended: there is an order. -/
theorem Hist.ord {n : Nat} (H : Hist cl (firstP n) Q lin ans ck O) (hO : ∀ k, ¬ O k) (h1 : 1 ≤ n) (h2 : n ≤ 4) (h3 : cl.length ≤ 8) : OrdPre cl n := by
  have hto : ∀ k, k < cl.length → 0 ≤ (cl.getD k []).getD 2 0 := fun k hk => by
    obtain ⟨f, t, kd, a, e, x, g1, g2, g4, g5⟩ := H.rows k hk
    have : (cl.getD k []).getD 2 0 = t := by rw [g1]; rfl
    rcases g5 with g5 | g5
    · exact absurd (H.opn k hk (by rw [this]; exact g5)) (hO k)
    · omega
  refine ordPre_of (lin := lin) hto (by omega) h1 h2 (fun k hk => ?_) (fun k hk => ?_) H.nd (fun k hk => (H.done k hk (by have := hto k hk; omega)).1) H.lt ?_ (runA_L (fun k hk => ?_) H.run)
  · obtain ⟨f, t, kd, a, e, x, g1, g2, g4, g5⟩ := H.rows k hk
    rw [g1]; exact g2
  · obtain ⟨f, t, kd, a, e, x, g1, g2, g4, g5⟩ := H.rows k hk
    rw [g1]; rfl
  · refine List.Pairwise.imp_of_mem (fun {a b} ha hb h => ?_) H.order
    have := hto b (H.lt b hb)
    unfold aheadP
    refine decide_eq_false ?_
    rcases h with h | h <;> omega
  · have hk' := H.lt k hk
    obtain ⟨f, t, kd, a, e, x, g1, g2, g4, g5⟩ := H.rows k hk'
    have hd := H.done k hk' (by have := hto k hk'; omega)
    exact ⟨hd.2.1, hd.2.2, by rw [g1]; rfl⟩
end
theorem firstP_pl {n : Nat} (h : n ≤ 4) : pl (firstP n) = firstP n := by
  have hc : n = 0 ∨ n = 1 ∨ n = 2 ∨ n = 3 ∨ n = 4 := by omega
  rcases hc with rfl | rfl | rfl | rfl | rfl <;> decide +kernel
end Go.Sx
