/- What lies on a stack, of the words of a memory: the document's own answer. -/
import Derived.Test.YtoiajdjmlbdfnaaSkA
import Derived.Test.YtoiajdjmlbdfnaaSxZa
namespace Go.Sx
set_option maxRecDepth 100000

theorem ghost_slots {J : Nat → V} {sl : List (Option V)} {k g es : Nat} (h : sl[k]? = some (some .nils)) (hl : sl.length < big) (u : Nat) :
    GhV g es (((trO (slots J 0 sl)).get u).getD undefV) (((trO (slots J 0 (sl.set k (some (.osl g es))))).get u).getD undefV) := by
  have hk : k < sl.length := (List.getElem?_eq_some_iff.1 h).1
  rw [trO_get _ (by rw [slots_length]; exact hl), trO_get _ (by rw [slots_length]; simpa using hl), slots_get, slots_get]
  by_cases hu : u = k
  · subst hu
    rw [h, List.getElem?_set_self hk]
    exact .inr ⟨rfl, rfl⟩
  · rw [List.getElem?_set_ne (Ne.symm hu)]
    exact .inl rfl
theorem hO_snoc {l : List (Option Ob)} {o : Ob} : hO (l ++ [some o]) l.length = some o ∧ ∀ m, m ≠ l.length → hO (l ++ [some o]) m = hO l m := by
  refine ⟨by simp [hO], fun m hm => ?_⟩
  simp only [hO]
  by_cases h : m < l.length
  · rw [List.getElem?_append_left h]
  · rw [List.getElem?_eq_none (l := l) (by omega), List.getElem?_eq_none (by simp; omega)]

theorem wrap_i64 {x : Int} (h1 : -9223372036854775808 ≤ x) (h2 : x < 9223372036854775808) : IntKind.i64.wrap x = x := by
  simp only [IntKind.wrap, IntKind.bits, IntKind.signed]
  by_cases h : 0 ≤ x
  · have e : x % 2 ^ 64 = x := by omega
    simp; omega
  · have e : x % 2 ^ 64 = x + 18446744073709551616 := by omega
    simp; omega

def bodyOf (fn : Func) : Code := fn.body.getD .skip
noncomputable def todo99 : List Item := ((ctlN E0 (exec E0 400) ⟨99, none, 35⟩ 9 [.code (bodyOf Go.Proofs.Try.f99)] (Tr.ofList [.agg [.int .i64 2, .int .i64 4, .int .i64 2], .ptr 0 0 0 0]) [] ⟨trO [some (.mem (.cells [.osl 1 1, .int .i64 0, .int .i64 0, .int .u64 0, .int .u64 0, .bool false, .int .i64 0]) 163 none), some (.mem (.words .u64 [0,0,1,0,2,0,0,0]) 60 (some 1))], 2, [], [], []⟩).map (·.1)).getD []
def ref99 (j : MJ) : Ob := .mem (.cells [.osl 1 1, .int .i64 j.a, .int .i64 j.b, .int .u64 j.c, .int .u64 j.d, .bool j.e, .int .i64 j.g]) 163 none
def stkV (n : Int) : V := .agg [.int .i64 2, .int .i64 4, .int .i64 n]
def box43 (n : Int) : Ob := .mem (.cells [.int .i64 2, .int .i64 4, .int .i64 n]) 43 none
def outOb (out : List Int) : Ob := .mem (.words .i64 out) 3 (some 1)
def W76 (W : List Int) : Ob := .mem (.words .u64 W) 60 (some 1)
def sl99 (v5 : V) (x : Int) : List (Option V) := [none, some (.ptr 0 0 0 0), some (.ptr 2 0 0 0), none, none, some v5, some (.int .i64 x)] ++ List.replicate 28 none
def l99 (j : MJ) (W : List Int) (n : Int) (out : List Int) : List (Option Ob) := [some (ref99 j), some (W76 W), some (box43 n), some (outOb out)]

def raw (w : Int) : Int := IntKind.i64.wrap (IntKind.i64.wrap (w.tmod 65536) - 1)
def idxI (n w : Int) : Int := if raw w ≥ n then -1 else raw w
def atI (W : List Int) (i : Int) : Int := W.getD (IntKind.i64.wrap i).toNat 0
def chainGo (n : Int) (W : List Int) : Nat → Int → List Int → List Int
  | 0, _, out => out
  | k + 1, x, out => if 0 ≤ x ∧ (out.length : Int) < n then chainGo n W k (idxI n (atI W (4 + x))) (out ++ [x]) else out
def chainL (n : Int) (W : List Int) : List Int := chainGo n W 13 (idxI n (W.getD 2 0)) []

section
variable {β : Base} {kind : CallKind} {cs : List Frame} {J : Nat → V} {a : Cf} {j : MJ} {W : List Int} {n x : Int} {out : List Int}
abbrev far : Nat := 1000000000

def p4 (m : Nat) : Bool := Nat.blt m 4
theorem p_ok {l' : List (Option Ob)} {n0 : Nat} {k : Nat} (hk : l'.length = k) (hall : ∀ m, m < k → ∃ o, (l'[m]?).join = some o) : ∀ m, (fun m => Nat.blt m k) m = true → m < l'.length ∧ (m < n0 ∨ ∃ o, (l'[m]?).join = some o) := fun m hm => by
  have h : m < k := Nat.blt_eq.mp hm
  exact ⟨by omega, .inr (hall m h)⟩
theorem live99 : ∀ m, m < 4 → ∃ o, ((l99 j W n out)[m]?).join = some o := by
  intro m hm
  match m, hm with
  | 0, _ => exact ⟨_, rfl⟩
  | 1, _ => exact ⟨_, rfl⟩
  | 2, _ => exact ⟨_, rfl⟩
  | 3, _ => exact ⟨_, rfl⟩

theorem iter99 (hβ : β.n0 = 2) (hA : Asrt β ⟨99, none, 35⟩ (trO (slots J 0 (sl99 (.osl 3 1) x))) [] (hO (l99 j W n out)) 4 far a) (b : Bool)
    (hB : allB [cond b (decide (raw (atI W (4 + x)) ≥ n)) (!(decide (raw (atI W (4 + x)) ≥ n))), decide ((IntKind.i64.wrap (4 + x)).toNat < W.length), decide (0 ≤ IntKind.i64.wrap (4 + x) ∧ IntKind.i64.wrap (4 + x) < (W.length : Int)),
      !(decide (IntKind.i64.wrap (4 + x) ≥ (W.length : Int))), !(decide (IntKind.i64.wrap (4 + x) < 0)), decide (out.length + 1 ≤ 1048576), decide ((out.length : Int) < n), decide (0 ≤ x)] = true) :
    ∃ J' b', Asrt β ⟨99, none, 35⟩ (trO (slots J' 0 (sl99 (.osl 3 1) (cond b (-1) (raw (atI W (4 + x))))))) [] (hO (l99 j W n (out ++ [x]))) 4 far b' ∧ Steps Go.Proofs.Try.prog (At ⟨99, none, 35⟩ none kind cs a todo99) (At ⟨99, none, 35⟩ none kind cs b' todo99) := by
  cases b with
  | true =>
    exact Asrt.eval (n := 400) (m := 11) (orc := [(0,true),(4,true),(0,true),(0,false),(6,false),(0,true),(0,true),(1,true)]) (πl := [0, 1, 2, 5]) (nx' := 7) (l' := l99 j W n (out ++ [x])) (sl' := sl99 (.osl 3 1) (-1)) E0_ok S0_ok kind cs hA
      (by kernel_rfl) hB rfl rfl rfl rfl rfl (fun m => Nat.blt m 4) (p_ok rfl live99) (fun m hm => by rw [hβ] at hm; exact Nat.blt_eq.mpr (by omega)) (by rw [hβ]; kernel_rfl) (by kernel_rfl) (by kernel_rfl)
  | false =>
    exact Asrt.eval (n := 400) (m := 11) (orc := [(0,true),(4,true),(0,true),(0,false),(6,false),(0,true),(0,true),(1,false)]) (πl := [0, 1, 2, 5]) (nx' := 7) (l' := l99 j W n (out ++ [x])) (sl' := sl99 (.osl 3 1) (raw (atI W (4 + x)))) E0_ok S0_ok kind cs hA
      (by kernel_rfl) hB rfl rfl rfl rfl rfl (fun m => Nat.blt m 4) (p_ok rfl live99) (fun m hm => by rw [hβ] at hm; exact Nat.blt_eq.mpr (by omega)) (by rw [hβ]; kernel_rfl) (by kernel_rfl) (by kernel_rfl)

/-- The way out. -/
theorem exit99 (hβ : β.n0 = 2) (hA : Asrt β ⟨99, none, 35⟩ (trO (slots J 0 (sl99 (.osl 3 1) x))) [] (hO (l99 j W n out)) 4 far a) (hx : ¬ (0 ≤ x ∧ (out.length : Int) < n)) :
    ∃ J' b', Asrt β ⟨99, none, 35⟩ (trO (slots J' 0 ([none, none, none, none, some (.osl 2 1)] ++ List.replicate 30 none))) [] (hO [some (ref99 j), some (W76 W), some (outOb out)]) 3 far b' ∧ Steps Go.Proofs.Try.prog (At ⟨99, none, 35⟩ none kind cs a todo99) (At ⟨99, none, 35⟩ none kind cs b' [.code .ret]) := by
  have live : ∀ m, m < 3 → ∃ o, (([some (ref99 j), some (W76 W), some (outOb out)] : List (Option Ob))[m]?).join = some o := by
    intro m hm
    match m, hm with
    | 0, _ => exact ⟨_, rfl⟩
    | 1, _ => exact ⟨_, rfl⟩
    | 2, _ => exact ⟨_, rfl⟩
  by_cases h0 : 0 ≤ x
  · have h1 : ¬ (out.length : Int) < n := fun h => hx ⟨h0, h⟩
    exact Asrt.eval (n := 400) (m := 7) (orc := [(0,true),(4,false)]) (πl := [0, 1, 3]) (nx' := 4) (far := far) (todo' := [.code .ret]) (l' := [some (ref99 j), some (W76 W), some (outOb out)]) (sl' := [none, none, none, none, some (.osl 2 1)] ++ List.replicate 30 none) (B := allB [!(decide ((out.length : Int) < n)), decide (0 ≤ x)]) E0_ok S0_ok kind cs hA
      (by kernel_rfl) (by simp [allB, h0, h1]) rfl rfl rfl rfl rfl (fun m => Nat.blt m 3) (p_ok rfl live) (fun m hm => by rw [hβ] at hm; exact Nat.blt_eq.mpr (by omega)) (by rw [hβ]; kernel_rfl) (by kernel_rfl) (by kernel_rfl)
  · exact Asrt.eval (n := 400) (m := 7) (orc := [(0,false)]) (πl := [0, 1, 3]) (nx' := 4) (far := far) (todo' := [.code .ret]) (l' := [some (ref99 j), some (W76 W), some (outOb out)]) (sl' := [none, none, none, none, some (.osl 2 1)] ++ List.replicate 30 none) (B := allB [!(decide (0 ≤ x))]) E0_ok S0_ok kind cs hA
      (by kernel_rfl) (by simp [allB, h0]) rfl rfl rfl rfl rfl (fun m => Nat.blt m 3) (p_ok rfl live) (fun m hm => by rw [hβ] at hm; exact Nat.blt_eq.mpr (by omega)) (by rw [hβ]; kernel_rfl) (by kernel_rfl) (by kernel_rfl)

/-- The way in. -/
theorem start99 (hβ : β.n0 = 2) (hA : Asrt β ⟨99, none, 35⟩ (Tr.ofList [stkV n, .ptr 0 0 0 0]) [] (hO [some (ref99 j), some (W76 W)]) 2 far a) (hW : W.length = 20) :
    ∃ J' b', Asrt β ⟨99, none, 35⟩ (trO (slots J' 0 (sl99 (.osl 3 1) (idxI n (W.getD 2 0))))) [] (hO (l99 j W n [])) 4 far b' ∧ Steps Go.Proofs.Try.prog (At ⟨99, none, 35⟩ none kind cs a [.code (bodyOf Go.Proofs.Try.f99)]) (At ⟨99, none, 35⟩ none kind cs b' todo99) := by
  have live : ∀ m, m < 3 → ∃ o, (([some (ref99 j), some (W76 W), some (box43 n)] : List (Option Ob))[m]?).join = some o := by
    intro m hm
    match m, hm with
    | 0, _ => exact ⟨_, rfl⟩
    | 1, _ => exact ⟨_, rfl⟩
    | 2, _ => exact ⟨_, rfl⟩
  have key : ∃ J' b', Asrt β ⟨99, none, 35⟩ (trO (slots J' 0 (sl99 .nils (idxI n (W.getD 2 0))))) [] (hO [some (ref99 j), some (W76 W), some (box43 n)]) 3 far b' ∧ Steps Go.Proofs.Try.prog (At ⟨99, none, 35⟩ none kind cs a [.code (bodyOf Go.Proofs.Try.f99)]) (At ⟨99, none, 35⟩ none kind cs b' todo99) := by
    by_cases h : raw (W.getD 2 0) ≥ n
    · have e : idxI n (W.getD 2 0) = -1 := by simp only [idxI, if_pos h]
      rw [e]
      exact Asrt.eval (n := 400) (m := 9) (orc := [(7,false),(0,true),(0,true),(1,true)]) (πl := [0, 1, 2]) (nx' := 4) (far := far) (todo' := todo99) (l' := [some (ref99 j), some (W76 W), some (box43 n)]) (sl' := sl99 .nils (-1))
        (B := allB [decide (raw (W.getD 2 0) ≥ n), decide (2 < W.length), decide ((0 : Int) ≤ 2 ∧ (2 : Int) < (W.length : Int)), !(decide ((2 : Int) ≥ (W.length : Int)))]) E0_ok S0_ok kind cs hA
        (by kernel_rfl) (by simp only [allB, h, hW]; simp) rfl rfl rfl rfl rfl (fun m => Nat.blt m 3) (p_ok rfl live) (fun m hm => by rw [hβ] at hm; exact Nat.blt_eq.mpr (by omega)) (by rw [hβ]; kernel_rfl) (by kernel_rfl) (by kernel_rfl)
    · have e : idxI n (W.getD 2 0) = raw (W.getD 2 0) := by simp only [idxI, if_neg h]
      have h : ¬ raw (W.getD 2 0) ≥ n := h
      rw [e]
      exact Asrt.eval (n := 400) (m := 9) (orc := [(7,false),(0,true),(0,true),(1,false)]) (πl := [0, 1, 2]) (nx' := 4) (far := far) (todo' := todo99) (l' := [some (ref99 j), some (W76 W), some (box43 n)]) (sl' := sl99 .nils (raw (W.getD 2 0)))
        (B := allB [!(decide (raw (W.getD 2 0) ≥ n)), decide (2 < W.length), decide ((0 : Int) ≤ 2 ∧ (2 : Int) < (W.length : Int)), !(decide ((2 : Int) ≥ (W.length : Int)))]) E0_ok S0_ok kind cs hA
        (by kernel_rfl) (by simp only [allB, h, hW]; simp) rfl rfl rfl rfl rfl (fun m => Nat.blt m 3) (p_ok rfl live) (fun m hm => by rw [hβ] at hm; exact Nat.blt_eq.mpr (by omega)) (by rw [hβ]; kernel_rfl) (by kernel_rfl) (by kernel_rfl)
  obtain ⟨J', b', h1, h2⟩ := key
  refine ⟨J', b', ?_, h2⟩
  have hs := hO_snoc (l := [some (ref99 j), some (W76 W), some (box43 n)]) (o := outOb [])
  exact h1.ghost (b := .words .i64 []) (es := 1) (t := 3) (by decide) (by rw [hβ]; decide) rfl rfl hs.1 (fun m hm => .inl (hs.2 m hm)) (ghost_slots (k := 5) rfl (Nat.blt_eq.mp (by kernel_rfl)))

/-- The loop. -/
theorem loop99 (hβ : β.n0 = 2) (hW : W.length = 20) (hn : n ≤ 12) : ∀ (k : Nat) (J : Nat → V) (a : Cf) (x : Int) (out : List Int), x < n → n ≤ (out.length : Int) + k → (out.length : Int) ≤ 12 → Asrt β ⟨99, none, 35⟩ (trO (slots J 0 (sl99 (.osl 3 1) x))) [] (hO (l99 j W n out)) 4 far a →
    ∃ J' b', Asrt β ⟨99, none, 35⟩ (trO (slots J' 0 ([none, none, none, none, some (.osl 2 1)] ++ List.replicate 30 none))) [] (hO [some (ref99 j), some (W76 W), some (outOb (chainGo n W k x out))]) 3 far b' ∧ Steps Go.Proofs.Try.prog (At ⟨99, none, 35⟩ none kind cs a todo99) (At ⟨99, none, 35⟩ none kind cs b' [.code .ret]) := by
  intro k
  induction k with
  | zero =>
    intro J a x out hx hk ho hA
    simp only [chainGo]
    exact exit99 hβ hA (by omega)
  | succ k ih =>
    intro J a x out hx hk ho hA
    by_cases h : 0 ≤ x ∧ (out.length : Int) < n
    · simp only [chainGo, if_pos h]
      have hw : IntKind.i64.wrap (4 + x) = 4 + x := wrap_i64 (by omega) (by omega)
      have hcom : decide ((IntKind.i64.wrap (4 + x)).toNat < W.length) = true ∧ decide (0 ≤ IntKind.i64.wrap (4 + x) ∧ IntKind.i64.wrap (4 + x) < (W.length : Int)) = true ∧ (!(decide (IntKind.i64.wrap (4 + x) ≥ (W.length : Int)))) = true ∧ (!(decide (IntKind.i64.wrap (4 + x) < 0))) = true ∧
          decide (out.length + 1 ≤ 1048576) = true ∧ decide ((out.length : Int) < n) = true ∧ decide (0 ≤ x) = true := by
        rw [hw, hW]
        refine ⟨?_, ?_, ?_, ?_, ?_, ?_, ?_⟩ <;> simp <;> omega
      obtain ⟨c1, c2, c3, c4, c5, c6, c7⟩ := hcom
      have go : ∀ b, (cond b (decide (raw (atI W (4 + x)) ≥ n)) (!(decide (raw (atI W (4 + x)) ≥ n)))) = true → idxI n (atI W (4 + x)) = cond b (-1) (raw (atI W (4 + x))) → idxI n (atI W (4 + x)) < n →
          ∃ J' b', Asrt β ⟨99, none, 35⟩ (trO (slots J' 0 ([none, none, none, none, some (.osl 2 1)] ++ List.replicate 30 none))) [] (hO [some (ref99 j), some (W76 W), some (outOb (chainGo n W k (idxI n (atI W (4 + x))) (out ++ [x])))]) 3 far b' ∧ Steps Go.Proofs.Try.prog (At ⟨99, none, 35⟩ none kind cs a todo99) (At ⟨99, none, 35⟩ none kind cs b' [.code .ret]) := fun b hb he hlt => by
        obtain ⟨J1, b1, h1, h2⟩ := iter99 (kind := kind) (cs := cs) hβ hA b (by simp only [allB, hb, c1, c2, c3, c4, c5, c6, c7, cond_true])
        rw [← he] at h1
        obtain ⟨J2, b2, h3, h4⟩ := ih J1 b1 _ (out ++ [x]) hlt (by simp; omega) (by simp; omega) h1
        exact ⟨J2, b2, h3, h2.trans h4⟩
      by_cases hr : raw (atI W (4 + x)) ≥ n
      · exact go true (by simp only [cond_true]; exact decide_eq_true hr) (by simp only [idxI, if_pos hr, cond_true]) (by simp only [idxI, if_pos hr]; omega)
      · exact go false (by simp only [cond_false, decide_eq_false hr, Bool.not_false]) (by simp only [idxI, if_neg hr, cond_false]) (by simp only [idxI, if_neg hr]; omega)
    · simp only [chainGo, if_neg h]
      exact exit99 hβ hA h

/-- The document's answer of what lies on a stack. -/
theorem chain_call (j : MJ) {W : List Int} {n : Int} (hW : W.length = 20) (hn0 : 0 ≤ n) (hn : n ≤ 12) : CallH Go.Proofs.Try.prog 99 [stkV n, .ptr 0 0 0 0] 2 (hO [some (ref99 j), some (W76 W)]) (.osl 2 1) 3 (hO [some (ref99 j), some (W76 W), some (outOb (chainL n W))]) := by
  refine callH_of (c := bodyOf Go.Proofs.Try.f99) (t := 4) (hi := far) Go.Proofs.Try.func99 (by kernel_rfl) (Nat.blt_eq.mp (by kernel_rfl)) (by kernel_rfl) (Nat.ble_eq.mp (by kernel_rfl)) (fun m o ho => ?_) (fun m o ho hr => ?_) rfl ?_
  · have := obsOK_ok (p := fun m => Nat.blt m 3) [some (ref99 j), some (W76 W), some (outOb (chainL n W))] 0 (by kernel_rfl) m o ho
    have hp : (fun m => Nat.blt m 3) = (fun m => decide (m < 3)) := by
      funext m
      cases hb : Nat.blt m 3 with
      | true => exact (decide_eq_true (Nat.blt_eq.mp hb)).symm
      | false => refine (decide_eq_false fun hlt => ?_).symm; rw [Nat.blt_eq.mpr hlt] at hb; cases hb
    rw [hp] at this
    exact ⟨by simpa using this.2.1, this.2.2⟩
  · rw [noRo_ok [some (ref99 j), some (W76 W), some (outOb (chainL n W))] (by kernel_rfl) m o ho] at hr; cases hr
  · intro L w kind cs a hA
    obtain ⟨J1, b1, h1, h2⟩ := start99 (kind := kind) (cs := cs) rfl hA hW
    have hx : idxI n (W.getD 2 0) < n := by
      unfold idxI
      by_cases hr : raw (W.getD 2 0) ≥ n
      · rw [if_pos hr]; omega
      · rw [if_neg hr]; omega
    obtain ⟨J2, b2, h3, h4⟩ := loop99 (kind := kind) (cs := cs) rfl hW hn 13 J1 b1 _ [] hx (by simp; omega) (by simp) h1
    exact ⟨b2, _, 3, far, [.code .ret], h3, rfl, h2.trans h4, .inr ⟨[], rfl⟩⟩
end
end Go.Sx
