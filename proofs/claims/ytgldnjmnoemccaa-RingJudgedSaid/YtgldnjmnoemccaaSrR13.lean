/- A crew plays: the loops. -/
import Derived.Test.YtgldnjmnoemccaaSrR9
import Derived.Test.YtgldnjmnoemccaaSrR4
namespace Go.Sx
set_option maxRecDepth 100000
def c0 (σ : RS) : Cr := ⟨σ.p0, σ.h0, σ.v0, σ.o0⟩
def c1 (σ : RS) : Cr := ⟨σ.p1, σ.h1, σ.v1, σ.o1⟩
def RIx (K : Int) (σ : RS) (D P T Hd : Int) (lin : List Nat) : Prop := RInv K σ.n σ.ws σ.q σ.cl σ.ck σ.pu (c0 σ) (c1 σ) σ.fo σ.dr σ.nx σ.o2 D P T Hd lin
def RI (K : Int) (σ : RS) : Prop := ∃ D P T Hd lin, RIx K σ D P T Hd lin
/-- A piece of plays' way, at these numbers. -/
def PlPz (zs : List Int) (todo : List Item) (sl : List (Option V)) (todo1 : List Item) (sl1 : List (Option V)) (σ σ' : RS) : Prop :=
  ∀ {β : Base} {kind : CallKind} {cs : List Frame} {J : Nat → V} {A : Cf}, β.n0 = 8 → Asrt β frPl (trO (slots J 0 sl)) [] (hO (lR zs σ)) 14 far A →
    ∃ J' b', Asrt β frPl (trO (slots J' 0 sl1)) [] (hO (lR zs σ')) 14 far b' ∧ Steps Go.Proofs.Try.prog (At frPl none kind cs A todo) (At frPl none kind cs b' todo1)
theorem PlPc.z {zs : List Int} {t t1 : List Item} {s s1 : List (Option V)} {σ σ' : RS} (h : PlPc t s t1 s1 σ σ') : PlPz zs t s t1 s1 σ σ' := fun hβ hA => h hβ hA
theorem PlPz.trans {zs : List Int} {t t1 t2 : List Item} {s s1 s2 : List (Option V)} {σ σ' σ'' : RS} (h : PlPz zs t s t1 s1 σ σ') (h' : PlPz zs t1 s1 t2 s2 σ' σ'') : PlPz zs t s t2 s2 σ σ'' := fun hβ hA => by
  obtain ⟨J1, b1, g1, g2⟩ := h hβ hA
  obtain ⟨J2, b2, g3, g4⟩ := h' hβ g1
  exact ⟨J2, b2, g3, g2.trans g4⟩
theorem PlPz.refl {zs : List Int} {t : List Item} {s : List (Option V)} {σ : RS} : PlPz zs t s t s σ σ := fun {β kind cs J A} _ hA => ⟨J, A, hA, .refl _ _⟩
section
variable {K : Int} {σ : RS} {zs : List Int} {len cap : Nat}
theorem pick3 (x : Int) : pickF x 3 = 0 ∨ pickF x 3 = 1 ∨ pickF x 3 = 2 := by
  unfold pickF
  have h1 := Int.tmod_lt_of_pos x (b := 3) (by decide)
  have h2 : -3 < x.tmod 3 := by have := Int.lt_tmod_of_pos x (b := 3) (by decide); omega
  by_cases h : x.tmod 3 < 0
  · rw [if_pos h, wrap_i64 (by omega) (by omega)]; omega
  · rw [if_neg h]; omega
/-- A number played. -/
theorem one (h : RI K σ) (hK : K ≤ 900) {c : Int} (hc : c = 0 ∨ c = 1 ∨ c = 2) : ∃ τ σ', Bgn c σ τ ∧ Stp c τ σ' ∧ RI (K + 2) σ' := by
  obtain ⟨D, P, T, Hd, lin, I⟩ := h
  rcases hc with rfl | rfl | rfl
  · obtain ⟨cl', ck', pu', A', b1, _, I1, h1⟩ := push_begin (j := σ.j) I (by omega)
    obtain ⟨j', ws', q', cl'', ck'', A'', P', T', lin', s1, _, I2, _, _⟩ := push_step (j := σ.j) I1 (by omega) h1
    exact ⟨_, _, b1, s1, D, P', T', Hd, lin', by have := I2; rw [Int.add_assoc] at this; exact this⟩
  · obtain ⟨cl', ck', pu', A', _, b1, I1, h1⟩ := push_begin (j := σ.j) I.swap (by omega)
    obtain ⟨j', ws', q', cl'', ck'', A'', P', T', lin', _, s1, I2, _, _⟩ := push_step (j := σ.j) I1 (by omega) h1
    exact ⟨_, _, b1, s1, D, P', T', Hd, lin', by have := I2.swap; rw [Int.add_assoc] at this; exact this⟩
  · obtain ⟨cl', ck', fo', dr', o2', b1, I1, h1⟩ := take_begin (j := σ.j) I (by omega)
    obtain ⟨j', ws', q', cl'', ck'', fo'', dr'', nx'', o2'', D', Hd', lin', s1, I2, _, _⟩ := take_step (j := σ.j) I1 (by omega) h1
    exact ⟨_, _, b1, s1, D', P, T, Hd', lin', by have := I2; rw [Int.add_assoc] at this; exact this⟩
theorem loop1 (h2 : len = zs.length) (hl : len ≤ 60) : ∀ (d i : Nat) (σ : RS), len = i + d → RI (2 * i) σ → ∃ σ', RI (2 * len) σ' ∧ PlPz zs plH (slH len cap i) plH (slH len cap len) σ σ' := by
  intro d
  induction d with
  | zero =>
    intro i σ hi h
    have e : len = i := by omega
    rw [e]
    exact ⟨σ, h, fun hβ hA => PlPz.refl hβ hA⟩
  | succ d ih =>
    intro i σ hi h
    have hx : zs.getD i 0 ∈ zs := by
      rw [List.getD_eq_getElem?_getD, List.getElem?_eq_getElem (by omega)]
      exact List.getElem_mem _
    obtain ⟨τ, σ', b1, s1, I1⟩ := one h (by omega) (pick3 (zs.getD i 0))
    have e1 : 2 * (i : Int) + 2 = 2 * ((i + 1 : Nat) : Int) := by omega
    rw [e1] at I1
    obtain ⟨σ'', I2, hp⟩ := ih (i + 1) σ' (by omega) I1
    refine ⟨σ'', I2, ?_⟩
    have e2 : IntKind.i64.wrap ((i : Int) + 1) = ((i + 1 : Nat) : Int) := by rw [wrap_i64 (by omega) (by omega)]; omega
    have p1 : PlPz zs plH (slH len cap i) plM (slM len cap i (pickF (zs.getD i 0) 3)) σ σ := fun {β kind cs J A} hβ hA => by
      have := pl_next (kind := kind) (cs := cs) (σ := σ) (i := (i : Int)) hβ hA (by omega) (by omega) h2
      rwa [Int.toNat_natCast] at this
    have p2 : PlPz zs plM (slM len cap i (pickF (zs.getD i 0) 3)) plJ (slM len cap i (pickF (zs.getD i 0) 3)) σ τ := PlPc.z (b1 len cap i)
    have p3 : PlPz zs plJ (slM len cap i (pickF (zs.getD i 0) 3)) plH (slH len cap (IntKind.i64.wrap ((i : Int) + 1))) τ σ' := PlPc.z (s1.1 len cap i)
    rw [e2] at p3
    intro β kind cs J A hβ hA
    exact PlPz.trans (PlPz.trans p1 p2) (PlPz.trans p3 hp) hβ hA
/-- A core that pushes comes to its end. -/
theorem mu_pos {S D P T : Int} {cl : List (List Int)} {lin : List Nat} {A : Cr} (H : PCore S D P T cl lin A) (h : A.o ≠ -1) : 1 ≤ mu P T A.p := by
  rcases H with h' | ⟨k, f, e, t, w, fr, g1, g2, g3, g4, g5, g6, g7⟩
  · exact absurd h' h
  · rw [g6]
    unfold mu
    split
    · split
      · decide
      · split
        · split <;> decide
        · split
          · split <;> decide
          · split
            · split <;> decide
            · split <;> decide
    · rename_i hn; exact absurd rfl (hn _ _ _ _ _)
theorem tmu_pos {D Hd : Int} {q : List Int} {cl : List (List Int)} {lin : List Nat} {fo : FO} {dr : DO} {nx : Bool} {o2 : Int} (H : TCore D Hd q cl lin fo dr nx o2) (h : o2 ≠ -1) : 1 ≤ tmu fo dr nx := by
  rcases H with ⟨h', _⟩ | ⟨k, fr, e, _, _, _, _, rfl, _, ⟨x, rfl⟩ | rfl⟩ | ⟨k, fr, e, _, _, _, rfl, ⟨rfl, _⟩ | ⟨rfl, _⟩⟩
  · exact absurd h' h
  all_goals simp [tmu]
theorem drain2 : ∀ (m k : Nat) (σ : RS) (K : Int) (D P T Hd : Int) (lin : List Nat), RIx K σ D P T Hd lin → K + (m : Int) ≤ 900 → (σ.o2 = -1 ∨ tmu σ.fo σ.dr σ.nx ≤ m) → k + m ≤ 2 →
    ∃ σ', RI (K + m) σ' ∧ σ'.o2 = -1 ∧ PlPc plG (slG 2 k) plK (slK 1) σ σ' := by
  intro m
  induction m with
  | zero =>
    intro k σ K D P T Hd lin I hK hm hk
    have ho : σ.o2 = -1 := by
      rcases hm with h | h
      · exact h
      · by_cases h' : σ.o2 = -1
        · exact h'
        · have := tmu_pos I.t h'; omega
    exact ⟨σ, ⟨D, P, T, Hd, lin, by simpa using I⟩, ho, pl_out2 (by rw [ho]; decide)⟩
  | succ m ih =>
    intro k σ K D P T Hd lin I hK hm hk
    by_cases ho : σ.o2 = -1
    · refine ⟨σ, ⟨D, P, T, Hd, lin, ?_⟩, ho, pl_out2 (by rw [ho]; decide)⟩
      have h1 := I.kl; have h2 := I.kc; have h3 := I.kp; have h4 := I.kP
      exact ⟨I.ring, I.hist, I.a, I.b, I.t, I.ab, I.at2, I.bt2, by omega, by omega, I.pu0, by omega, by omega⟩
    · have hm' : tmu σ.fo σ.dr σ.nx ≤ m + 1 := by rcases hm with h | h; exact absurd h ho; exact h
      obtain ⟨j', ws', q', cl'', ck'', fo'', dr'', nx'', o2'', D', Hd', lin', s1, I2, _, h3⟩ := take_step (j := σ.j) I (by omega) ho
      obtain ⟨σ', g1, g2, g3⟩ := ih (k + 1) (of0 σ.n j' ws' q' cl'' (c0 σ) (c1 σ) fo'' dr'' nx'' o2'' ck'' σ.pu) (K + 1) D' P T Hd' lin' I2 (by omega) (by
        rcases h3 with h3 | h3
        · exact .inl h3
        · exact .inr (by show tmu fo'' dr'' nx'' ≤ m; omega)) (by omega)
      have e2 : IntKind.i64.wrap ((k : Int) + 1) = ((k + 1 : Nat) : Int) := by rw [wrap_i64 (by omega) (by omega)]; omega
      have p1 : PlPc plG (slG 2 k) plG (slG 2 (IntKind.i64.wrap ((k : Int) + 1))) σ _ := s1.2 (k : Int) (by omega) (fun _ => by omega)
      rw [e2] at p1
      refine ⟨σ', ?_, g2, fun hβ hA => PlPz.trans (PlPc.z p1) (PlPc.z g3) hβ hA⟩
      have e3 : K + ((m + 1 : Nat) : Int) = K + 1 + (m : Int) := by omega
      rw [e3]; exact g1
theorem drain0 : ∀ (m k : Nat) (σ : RS) (K : Int) (D P T Hd : Int) (lin : List Nat), RIx K σ D P T Hd lin → K + (m : Int) ≤ 900 → (σ.o0 = -1 ∨ mu P T σ.p0 ≤ m) → k + m ≤ 9 →
    ∃ σ', RI (K + m) σ' ∧ σ'.o0 = -1 ∧ σ'.o1 = σ.o1 ∧ σ'.o2 = σ.o2 ∧ PlPc plG (slG 0 k) plK (slK (-1)) σ σ' := by
  intro m
  induction m with
  | zero =>
    intro k σ K D P T Hd lin I hK hm hk
    have ho : σ.o0 = -1 := by
      rcases hm with h | h
      · exact h
      · by_cases h' : σ.o0 = -1
        · exact h'
        · have : 1 ≤ mu P T σ.p0 := mu_pos I.a h'
          omega
    exact ⟨σ, ⟨D, P, T, Hd, lin, by simpa using I⟩, ho, rfl, rfl, pl_out0 (by rw [ho]; decide)⟩
  | succ m ih =>
    intro k σ K D P T Hd lin I hK hm hk
    by_cases ho : σ.o0 = -1
    · refine ⟨σ, ⟨D, P, T, Hd, lin, ?_⟩, ho, rfl, rfl, pl_out0 (by rw [ho]; decide)⟩
      have h1 := I.kl; have h2 := I.kc; have h3 := I.kp; have h4 := I.kP
      exact ⟨I.ring, I.hist, I.a, I.b, I.t, I.ab, I.at2, I.bt2, by omega, by omega, I.pu0, by omega, by omega⟩
    · have hm' : mu P T σ.p0 ≤ m + 1 := by rcases hm with h | h; exact absurd h ho; exact h
      obtain ⟨j', ws', q', cl'', ck'', A'', P', T', lin', s1, _, I2, _, h3⟩ := push_step (j := σ.j) I (by omega) ho
      obtain ⟨σ', g1, g2, g4, g5, g3⟩ := ih (k + 1) (of0 σ.n j' ws' q' cl'' A'' (c1 σ) σ.fo σ.dr σ.nx σ.o2 ck'' σ.pu) (K + 1) D P' T' Hd lin' I2 (by omega) (by
        rcases h3 with h3 | h3
        · exact .inl h3
        · refine .inr ?_
          have h5 : mu P T (c0 σ).p ≤ m + 1 := hm'
          show mu P' T' A''.p ≤ m
          omega) (by omega)
      have e2 : IntKind.i64.wrap ((k : Int) + 1) = ((k + 1 : Nat) : Int) := by rw [wrap_i64 (by omega) (by omega)]; omega
      have p1 : PlPc plG (slG 0 k) plG (slG 0 (IntKind.i64.wrap ((k : Int) + 1))) σ _ := s1.2 (k : Int) (by omega) (fun h => absurd h (by decide))
      rw [e2] at p1
      refine ⟨σ', ?_, g2, g4, g5, fun hβ hA => PlPz.trans (PlPc.z p1) (PlPc.z g3) hβ hA⟩
      have e3 : K + ((m + 1 : Nat) : Int) = K + 1 + (m : Int) := by omega
      rw [e3]; exact g1
theorem drain1 : ∀ (m k : Nat) (σ : RS) (K : Int) (D P T Hd : Int) (lin : List Nat), RIx K σ D P T Hd lin → K + (m : Int) ≤ 900 → (σ.o1 = -1 ∨ mu P T σ.p1 ≤ m) → k + m ≤ 9 →
    ∃ σ', RI (K + m) σ' ∧ σ'.o1 = -1 ∧ σ'.o2 = σ.o2 ∧ PlPc plG (slG 1 k) plK (slK 0) σ σ' := by
  intro m
  induction m with
  | zero =>
    intro k σ K D P T Hd lin I hK hm hk
    have ho : σ.o1 = -1 := by
      rcases hm with h | h
      · exact h
      · by_cases h' : σ.o1 = -1
        · exact h'
        · have : 1 ≤ mu P T σ.p1 := mu_pos I.b h'
          omega
    exact ⟨σ, ⟨D, P, T, Hd, lin, by simpa using I⟩, ho, rfl, pl_out1 (by rw [ho]; decide)⟩
  | succ m ih =>
    intro k σ K D P T Hd lin I hK hm hk
    by_cases ho : σ.o1 = -1
    · refine ⟨σ, ⟨D, P, T, Hd, lin, ?_⟩, ho, rfl, pl_out1 (by rw [ho]; decide)⟩
      have h1 := I.kl; have h2 := I.kc; have h3 := I.kp; have h4 := I.kP
      exact ⟨I.ring, I.hist, I.a, I.b, I.t, I.ab, I.at2, I.bt2, by omega, by omega, I.pu0, by omega, by omega⟩
    · have hm' : mu P T σ.p1 ≤ m + 1 := by rcases hm with h | h; exact absurd h ho; exact h
      obtain ⟨j', ws', q', cl'', ck'', A'', P', T', lin', _, s1, I2, _, h3⟩ := push_step (j := σ.j) I.swap (by omega) ho
      obtain ⟨σ', g1, g2, g5, g3⟩ := ih (k + 1) (of1 σ.n j' ws' q' cl'' A'' (c0 σ) σ.fo σ.dr σ.nx σ.o2 ck'' σ.pu) (K + 1) D P' T' Hd lin' I2.swap (by omega) (by
        rcases h3 with h3 | h3
        · exact .inl h3
        · refine .inr ?_
          have h5 : mu P T (c1 σ).p ≤ m + 1 := hm'
          show mu P' T' A''.p ≤ m
          omega) (by omega)
      have e2 : IntKind.i64.wrap ((k : Int) + 1) = ((k + 1 : Nat) : Int) := by rw [wrap_i64 (by omega) (by omega)]; omega
      have p1 : PlPc plG (slG 1 k) plG (slG 1 (IntKind.i64.wrap ((k : Int) + 1))) σ _ := s1.2 (k : Int) (by omega) (fun h => absurd h (by decide))
      rw [e2] at p1
      refine ⟨σ', ?_, g2, g5, fun hβ hA => PlPz.trans (PlPc.z p1) (PlPc.z g3) hβ hA⟩
      have e3 : K + ((m + 1 : Nat) : Int) = K + 1 + (m : Int) := by omega
      rw [e3]; exact g1
/-- A crew plays: from plays' first head on to behind its loops; there is an order of its calls. -/
theorem plays_way (h2 : len = zs.length) (hl : len ≤ 60) (h : RI 0 σ) :
    ∃ σ', (σ'.cl.length ≤ 8 → OrdPre σ'.cl σ'.n) ∧ σ'.cl.length ≤ 1000 ∧ PlPz zs plH (slH len cap 0) plK (slK (-1)) σ σ' := by
  obtain ⟨σ1, I1, p1⟩ := loop1 (cap := cap) h2 hl len 0 σ (by omega) h
  obtain ⟨D, P, T, Hd, lin, I1⟩ := I1
  obtain ⟨σ2, ⟨D2, P2, T2, Hd2, lin2, I2⟩, o2, p2⟩ := drain2 2 0 σ1 _ D P T Hd lin I1 (by omega) (.inr tmu_le) (by omega)
  obtain ⟨σ3, ⟨D3, P3, T3, Hd3, lin3, I3⟩, o3, o3', p3⟩ := drain1 9 0 σ2 _ D2 P2 T2 Hd2 lin2 I2 (by omega) (.inr (mu_le _)) (by omega)
  obtain ⟨σ4, ⟨D4, P4, T4, Hd4, lin4, I4⟩, o4, o4', o4'', p4⟩ := drain0 9 0 σ3 _ D3 P3 T3 Hd3 lin3 I3 (by omega) (.inr (mu_le _)) (by omega)
  refine ⟨σ4, fun h8 => I4.hist.ord (fun k hk => ?_) I4.ring.s1 I4.ring.s4 h8, ?_, ?_⟩
  · have e0 : (c0 σ4).o = -1 := o4
    have e1 : (c1 σ4).o = -1 := o4'.trans o3
    have e2 : σ4.o2 = -1 := o4''.trans (o3'.trans o2)
    rw [e0, e1, e2] at hk
    omega
  · have := I4.kl; omega
  · exact fun hβ hA => PlPz.trans (PlPz.trans (PlPz.trans (PlPz.trans p1 (PlPc.z (pl_exit (by omega)))) (PlPc.z pl_in2)) (PlPz.trans (PlPc.z p2) (PlPc.z pl_in1))) (PlPz.trans (PlPz.trans (PlPc.z p3) (PlPc.z pl_in0)) (PlPc.z p4)) hβ hA
end
end Go.Sx
/- A crew plays: the contract of plays. -/
namespace Go.Sx
set_option maxRecDepth 100000
def crewC (x y : V) (σ : RS) : Ob := .mem (.cells [.int .i64 0, .int .i64 1, .int .i64 2, .int .i64 σ.n, .ptr 2 0 0 0, .osl 4 1, .osl 5 1, .nilp, .nilp, .bool false, x, .osl 6 1, .int .i64 0, .int .i64 0, y, .osl 7 1, .int .i64 0, .int .i64 0]) 38 none
/-- A crew as it begins. -/
def σS (n : Int) (j : MJ) (ws : List Int) : RS := ⟨n, j, ws, 0, 0, 0, 0, -1, -1, -1, [], [], .none, .none, .none, .none, false, 0, 0⟩
def l7 (n : Int) (j : MJ) (ws : List Int) : List (Option Ob) := [some (memR 3 (2 + n) j), some (wordsR ws), some (.mem (.cells [.nilp, .nilp]) 44 (some 1)), some (rowI [0, 0]), some (.mem (.words .i64 [0, 0]) 35 (some 1)), some (rowI [-1, -1, -1])]
def l0 (zs : List Int) (n : Int) (j : MJ) (ws : List Int) : List (Option Ob) := some (.ro .i64 zs) :: some (crewC .nils .nils (σS n j ws)) :: l7 n j ws
def slR1 : List (Option V) := [none, none, none, none, some (.bool true)] ++ List.replicate 54 none
theorem ghostC {β : Base} {fr : Frs} {T : Tr V} {hi : Nat} {A : Cf} {a : Option Ob} {t1 : List (Option Ob)} {vs vs' : List V} {k es : Nat} {b : Body} {t t' : TypeId} {op : Option Nat} (hk : k = 2 + t1.length) (hA : Asrt β fr T [] (hO (a :: some (.mem (.cells vs) t op) :: t1)) k hi A) (hlt : k < hi) (hβ : β.n0 ≤ k) (hb : b.flat = []) (hc : b.count es = 0) (hg : GhL k es vs vs') :
    Asrt β fr T [] (hO (a :: some (.mem (.cells vs') t op) :: (t1 ++ [some (.mem b t' (some es))]))) (k + 1) hi A := by
  subst hk
  refine hA.ghost (b := b) (es := es) (t := t') hlt hβ hb hc ?_ (fun m hm => ?_) (fun u => .inl rfl)
  · show ((a :: some (.mem (.cells vs') t op) :: (t1 ++ [some (.mem b t' (some es))]))[2 + t1.length]?).join = _
    rw [show 2 + t1.length = t1.length + 1 + 1 by omega]
    simp only [List.getElem?_cons_succ]
    simp
  · match m, hm with
    | 0, _ => exact .inl rfl
    | 1, _ => exact .inr ⟨vs, vs', t, op, rfl, rfl, hg⟩
    | m + 2, hm =>
      refine .inl ?_
      simp only [hO, List.getElem?_cons_succ]
      by_cases h : m < t1.length
      · rw [List.getElem?_append_left h]
      · rw [List.getElem?_eq_none (l := t1) (by omega), List.getElem?_eq_none (by simp; omega)]
theorem GhL.rfl' {g es : Nat} : ∀ {l : List V}, GhL g es l l
  | [] => .nil
  | _ :: _ => .cons (.inl rfl) GhL.rfl'
theorem pl_ghosts {β : Base} {fr : Frs} {T : Tr V} {A : Cf} {zs : List Int} {n : Int} {j : MJ} {ws : List Int} (hβ : β.n0 = 8) (hA : Asrt β fr T [] (hO (l0 zs n j ws)) 8 far A) : Asrt β fr T [] (hO (lR zs (σS n j ws))) 14 far A := by
  have h1 := ghostC (k := 8) (es := 1) (b := .words .i64 []) (t' := 3) (t1 := l7 n j ws) rfl hA (by decide) (by rw [hβ]; decide) rfl rfl (vs' := [.int .i64 0, .int .i64 1, .int .i64 2, .int .i64 n, .ptr 2 0 0 0, .osl 4 1, .osl 5 1, .nilp, .nilp, .bool false, .osl 8 1, .osl 6 1, .int .i64 0, .int .i64 0, .nils, .osl 7 1, .int .i64 0, .int .i64 0]) (by (repeat (first | exact GhL.nil | refine GhL.cons (by first | exact .inl rfl | exact .inr ⟨rfl, rfl⟩) ?_)))
  have h2 := ghostC (k := 9) (es := 10) (b := .rows shSpan []) (t' := 79) rfl h1 (by decide) (by rw [hβ]; decide) rfl rfl (vs' := [.int .i64 0, .int .i64 1, .int .i64 2, .int .i64 n, .ptr 2 0 0 0, .osl 4 1, .osl 5 1, .nilp, .nilp, .bool false, .osl 8 1, .osl 6 1, .int .i64 0, .int .i64 0, .osl 9 10, .osl 7 1, .int .i64 0, .int .i64 0]) (by (repeat (first | exact GhL.nil | refine GhL.cons (by first | exact .inl rfl | exact .inr ⟨rfl, rfl⟩) ?_)))
  have h3 := ghostC (k := 10) (es := 1) (b := .words .i64 []) (t' := 3) rfl h2 (by decide) (by rw [hβ]; decide) rfl rfl GhL.rfl'
  have h4 := ghostC (k := 11) (es := 1) (b := .words .i64 []) (t' := 3) rfl h3 (by decide) (by rw [hβ]; decide) rfl rfl GhL.rfl'
  have h5 := ghostC (k := 12) (es := 1) (b := .words .i64 []) (t' := 3) rfl h4 (by decide) (by rw [hβ]; decide) rfl rfl GhL.rfl'
  have h6 := ghostC (k := 13) (es := 1) (b := .words .i64 []) (t' := 3) rfl h5 (by decide) (by rw [hβ]; decide) rfl rfl GhL.rfl'
  exact h6
section
variable {β : Base} {kind : CallKind} {cs : List Frame} {J : Nat → V} {A : Cf} {zs : List Int} {len cap : Nat} {n : Int} {j : MJ} {ws : List Int}
theorem pl_start (hβ : β.n0 = 8) (hA : Asrt β frPl (Tr.ofList [.ptr 1 0 0 0, .slice 0 0 1 len cap]) [] (hO (l0 zs n j ws)) 8 far A) :
    ∃ J' b', Asrt β frPl (trO (slots J' 0 (slH len cap 0))) [] (hO (l0 zs n j ws)) 8 far b' ∧ Steps Go.Proofs.Try.prog (At frPl none kind cs A [.code plBody]) (At frPl none kind cs b' plH) :=
  Asrt.eval (n := 400) (m := 7) (orc := []) (πl := [0, 1, 2, 3, 4, 5, 6, 7]) (nx' := 8) (far := far) (todo := [.code plBody]) (todo' := plH) (l := l0 zs n j ws) (l' := l0 zs n j ws) (sl' := slH len cap 0) (B := allB []) F0_ok S0_ok kind cs hA
    (by kernel_rfl) rfl rfl rfl rfl rfl rfl (fun m => Nat.blt m 8) (p_all rfl rfl) (fun m hm => by rw [hβ] at hm; exact Nat.blt_eq.mpr hm) (by rw [hβ]; kernel_rfl) (by kernel_rfl) (by kernel_rfl)
theorem pl_end {σ : RS} (hβ : β.n0 = 8) (hA : Asrt β frPl (trO (slots J 0 (slK (-1)))) [] (hO (lR zs σ)) 14 far A) :
    ∃ J' b', Asrt β frPl (trO (slots J' 0 slR1)) [] (hO (lR zs σ)) 14 far b' ∧ Steps Go.Proofs.Try.prog (At frPl none kind cs A plK) (At frPl none kind cs b' [.code .ret]) :=
  Asrt.evalR (mk := []) (n := 400) (m := 7) (orc := bits 1 0b0) (πl := id14) (nx' := 14) (far := far) (todo := plK) (todo' := [.code .ret]) (l' := lR zs σ) (lr := lR zs σ) (sl' := slR1) (B := allB []) F0_ok S0_ok kind cs hA
    (by kernel_rfl) (renR _ _) rfl rfl rfl rfl rfl rfl p14 (fun m hm => p14_live _ _ _ m hm) (p14_old hβ) (by rw [hβ]; kernel_rfl) (obsR _ _) (by kernel_rfl)
theorem lR_ro {σ : RS} : ∀ m o, hO (lR zs σ) m = some o → o.isRo = true → m = 0 ∧ o = .ro .i64 zs := fun m o ho hr => by
  have hm := lt_of_hO ho
  obtain ⟨n, j, ws, v0, v1, h0, h1, o0, o1, o2, q, cl, p0, p1, fo, dr, nx, ck, pu⟩ := σ
  match m, hm, ho with
  | 0, _, ho => cases ho; exact ⟨rfl, rfl⟩
  | 1, _, ho | 2, _, ho | 3, _, ho | 4, _, ho | 5, _, ho | 6, _, ho | 7, _, ho | 8, _, ho | 9, _, ho => cases ho; cases hr
  | 10, _, ho => cases p0 <;> cases ho <;> cases hr
  | 11, _, ho => cases p1 <;> cases ho <;> cases hr
  | 12, _, ho => cases fo <;> cases ho <;> cases hr
  | 13, _, ho => cases dr <;> cases ho <;> cases hr
/-- What plays makes of a crew. -/
def PlaysTo (zs : List Int) (len cap : Nat) (n : Int) (j : MJ) (ws : List Int) (σ' : RS) : Prop :=
  CallH Go.Proofs.Try.prog 7 [.ptr 1 0 0 0, .slice 0 0 1 len cap] 8 (hO (l0 zs n j ws)) (.bool true) 14 (hO (lR zs σ'))
theorem plays_call (h2 : len = zs.length) (hl : len ≤ 60) (h : RI 0 (σS n j ws)) :
    ∃ σ', (σ'.cl.length ≤ 8 → OrdPre σ'.cl σ'.n) ∧ σ'.cl.length ≤ 1000 ∧ PlaysTo zs len cap n j ws σ' := by
  obtain ⟨σ', g1, g2, g3⟩ := plays_way (cap := cap) h2 hl h
  refine ⟨σ', g1, g2, callH_of (c := plBody) (t := 4) (hi := far) Go.Proofs.Try.func7 (by kernel_rfl) (Nat.blt_eq.mp (by kernel_rfl)) (by kernel_rfl) (Nat.ble_eq.mp (by kernel_rfl)) (fun m o ho => ?_) (fun m o ho hr => ?_) rfl ?_⟩
  · have := obsOK_ok (lR zs σ') 0 (obsR zs σ') m o ho
    have hp : p14 = fun m => Nat.blt m 14 := rfl
    rw [hp, blt_fun] at this
    exact ⟨by simpa using this.2.1, this.2.2⟩
  · obtain ⟨rfl, rfl⟩ := lR_ro m o ho hr
    rfl
  · intro L w kind cs a hA
    obtain ⟨J1, b1, h1, s1⟩ := pl_start (kind := kind) (cs := cs) rfl hA
    have h2 := pl_ghosts rfl h1
    obtain ⟨J2, b2, h3, s2⟩ := g3 (kind := kind) (cs := cs) rfl h2
    obtain ⟨J3, b3, h4, s3⟩ := pl_end (kind := kind) (cs := cs) rfl h3
    exact ⟨b3, _, 14, far, _, h4, rfl, (s1.trans s2).trans s3, .inr ⟨[], rfl⟩⟩
end
end Go.Sx
/- A crew plays: the summary of plays. -/
namespace Go.Sx
set_option maxRecDepth 100000
def gRo : Option Ob → Option (List Int)
  | some (.ro .i64 zs) => some zs
  | _ => none
def gCrew : Option Ob → Option Int
  | some (.mem (.cells [.int .i64 a0, .int .i64 a1, .int .i64 a2, .int .i64 n, .ptr b0 b1 b2 b3, .osl c0 c1, .osl d0 d1, .nilp, .nilp, .bool nx, .nils, .osl e0 e1, .int .i64 a3, .int .i64 a4, .nils, .osl f0 f1, .int .i64 a5, .int .i64 a6]) t none) =>
    (chk (decide (a0 = 0 ∧ a1 = 1 ∧ a2 = 2 ∧ a3 = 0 ∧ a4 = 0 ∧ a5 = 0 ∧ a6 = 0 ∧ nx = false ∧ t = 38))).bind fun _ => (chk (decide (b0 = 2 ∧ b1 = 0 ∧ b2 = 0 ∧ b3 = 0 ∧ c0 = 4 ∧ c1 = 1 ∧ d0 = 5 ∧ d1 = 1 ∧ e0 = 6 ∧ e1 = 1 ∧ f0 = 7 ∧ f1 = 1))).bind fun _ => some n
  | _ => none
def gMem : Option Ob → Option (Int × MJ)
  | some (.mem (.cells [.ptr b0 b1 b2 b3, .int .i64 sz, .int .i64 a, .int .i64 b, .int .u64 c, .int .u64 d, .bool e, .int .i64 g]) t none) =>
    (chk (decide (b0 = 3 ∧ b1 = 0 ∧ b2 = 0 ∧ b3 = 0 ∧ t = 113))).bind fun _ => some (sz, ⟨a, b, c, d, e, g⟩)
  | _ => none
def gWords : Option Ob → Option (List Int)
  | some (.mem (.words .u64 ws) t none) => (chk (decide (t = 111))).bind fun _ => some ws
  | _ => none
def gPush : Option Ob → Option Unit
  | some (.mem (.cells [.nilp, .nilp]) t (some e)) => (chk (decide (t = 44 ∧ e = 1))).bind fun _ => some ()
  | _ => none
def gRow : Option Ob → Option (TypeId × List Int)
  | some (.mem (.words .i64 l) t (some e)) => (chk (decide (e = 1))).bind fun _ => some (t, l)
  | _ => none
theorem gRo_ok {x : Option Ob} {zs : List Int} (h : gRo x = some zs) : x = some (.ro .i64 zs) := by
  unfold gRo at h; split at h <;> cases h; rfl
theorem gCrew_ok {x : Option Ob} {n : Int} (h : gCrew x = some n) (j : MJ) (ws : List Int) : x = some (crewC .nils .nils (σS n j ws)) := by
  unfold gCrew at h
  split at h
  · simp only [Option.bind_eq_some_iff, exists_const] at h
    obtain ⟨_, h1, _, h2, h3⟩ := h
    obtain ⟨rfl, rfl, rfl, rfl, rfl, rfl, rfl, rfl, rfl⟩ := chk_dec h1
    obtain ⟨rfl, rfl, rfl, rfl, rfl, rfl, rfl, rfl, rfl, rfl, rfl, rfl⟩ := chk_dec h2
    cases h3; rfl
  · cases h
theorem gMem_ok {x : Option Ob} {sz : Int} {j : MJ} (h : gMem x = some (sz, j)) : x = some (memR 3 sz j) := by
  unfold gMem at h
  split at h
  · simp only [Option.bind_eq_some_iff, exists_const] at h
    obtain ⟨_, h1, h3⟩ := h
    obtain ⟨rfl, rfl, rfl, rfl, rfl⟩ := chk_dec h1
    cases h3; rfl
  · cases h
theorem gWords_ok {x : Option Ob} {ws : List Int} (h : gWords x = some ws) : x = some (wordsR ws) := by
  unfold gWords at h
  split at h
  · simp only [Option.bind_eq_some_iff, exists_const] at h
    obtain ⟨_, h1, h3⟩ := h
    obtain rfl := chk_dec h1
    cases h3; rfl
  · cases h
theorem gPush_ok {x : Option Ob} {u : Unit} (h : gPush x = some u) : x = some (.mem (.cells [.nilp, .nilp]) 44 (some 1)) := by
  unfold gPush at h
  split at h
  · simp only [Option.bind_eq_some_iff, exists_const] at h
    obtain ⟨_, h1, h3⟩ := h
    obtain ⟨rfl, rfl⟩ := chk_dec h1
    rfl
  · cases h
theorem gRow_ok {x : Option Ob} {t : TypeId} {l : List Int} (h : gRow x = some (t, l)) : x = some (.mem (.words .i64 l) t (some 1)) := by
  unfold gRow at h
  split at h
  · simp only [Option.bind_eq_some_iff, exists_const] at h
    obtain ⟨_, h1, h3⟩ := h
    obtain rfl := chk_dec h1
    cases h3; rfl
  · cases h
noncomputable def smPl (σ' : RS) (args : List V) (s : St) : Option (V × St) :=
  match args with
  | [.ptr c i z o, .slice b bi bz len cap] => (chk (decide (c = 1 ∧ i = 0 ∧ z = 0 ∧ o = 0 ∧ b = 0 ∧ bi = 0 ∧ bz = 1 ∧ s.nx = 8))).bind fun _ => (gRo (s.H.get 0)).bind fun zs => (gCrew (s.H.get 1)).bind fun n => (gMem (s.H.get 2)).bind fun r => match r with
    | (sz, j) => (chk (decide (sz = 2 + n))).bind fun _ => (gWords (s.H.get 3)).bind fun ws => (gPush (s.H.get 4)).bind fun _ => (gRow (s.H.get 5)).bind fun r1 => (gRow (s.H.get 6)).bind fun r2 => (gRow (s.H.get 7)).bind fun r3 =>
      (chk (decide (r1 = (3, [0, 0]) ∧ r2 = (35, [0, 0]) ∧ r3 = (3, [-1, -1, -1])))).bind fun _ => (need (propB (PlaysTo zs len cap n j ws σ')) s).bind fun s1 =>
        some (.bool true, { s1 with H := putL 0 (lR zs σ') s1.H, nx := 14, wr := [0, 1, 2, 3, 4, 5, 6, 7] ++ s1.wr })
  | _ => none
theorem hO_map {l : List (Option Ob)} {g : Ob → Ob} {m : Nat} : hO (l.map (Option.map g)) m = (hO l m).map g := by
  simp only [hO, List.getElem?_map]
  cases l[m]? with
  | none => rfl
  | some o => cases o <;> rfl
theorem ext_id : ext (fun m => m) 8 8 = fun m => m := by
  funext m
  show (if m < 8 then m else 8 + (m - 8)) = m
  split <;> omega
theorem l0_ob {zs : List Int} {n : Int} {j : MJ} {ws : List Int} : obsOK (fun m => Nat.blt m 8) 0 (l0 zs n j ws) = true := by kernel_rfl
theorem smPl_sm (σ' : RS) : SmOK Go.Proofs.Try.prog 7 (smPl σ') := by
  refine ⟨fun args s v s' h ho => ?_, Go.Proofs.Try.call7⟩
  unfold smPl at h
  split at h
  · rename_i c i z o b bi bz len cap
    simp only [Option.bind_eq_some_iff] at h
    obtain ⟨_, h0, zs, a0, n, a1, ⟨sz, j⟩, a2, h⟩ := h
    simp only [Option.bind_eq_some_iff] at h
    obtain ⟨_, h1, ws, a3, _, a4, r1, a5, r2, a6, r3, a7, _, h2, s1, h3, h4⟩ := h
    obtain ⟨rfl, rfl, rfl, rfl, rfl, rfl, rfl, hnx⟩ := chk_dec h0
    obtain rfl := chk_dec h1
    obtain ⟨rfl, rfl, rfl⟩ := chk_dec h2
    simp only [Option.some.injEq, Prod.mk.injEq] at h4
    obtain ⟨rfl, rfl⟩ := h4
    have ho1 : Obl s1 := ho
    obtain ⟨hp, hq⟩ := need_ok h3 ho1
    have hp := propB_iff.1 hp
    have g0 := gRo_ok a0; have g1 := gCrew_ok a1 j ws; have g2 := gMem_ok a2; have g3 := gWords_ok a3; have g4 := gPush_ok a4; have g5 := gRow_ok a5; have g6 := gRow_ok a6; have g7 := gRow_ok a7
    have hH : ∀ m, m < 8 → s.H.get m = hO (l0 zs n j ws) m := fun m hm => by
      match m, hm with
      | 0, _ => exact g0
      | 1, _ => exact g1
      | 2, _ => exact g2
      | 3, _ => exact g3
      | 4, _ => exact g4
      | 5, _ => exact g5
      | 6, _ => exact g6
      | 7, _ => exact g7
    have hput : ∀ m, (putL 0 (lR zs σ') s1.H).get m = if m < 14 then hO (lR zs σ') m else s.H.get m := fun m => by
      rw [putL_get _ _ _ _ (by show 0 + 14 < big; decide)]
      by_cases hm : m < 14
      · rw [if_pos ⟨Nat.zero_le _, by show m < 0 + 14; omega⟩, if_pos hm]; rfl
      · rw [if_neg (by show ¬ (0 ≤ m ∧ m < 0 + 14); omega), if_neg hm, hq.1.H]
    have hid : ∀ m, (hO (lR zs σ') m).map (Ob.ren fun m => m) = hO (lR zs σ') m := fun m => by
      rw [← hO_map, lr_at]; rfl
    have hid0 : ∀ m, (hO (l0 zs n j ws) m).map (Ob.ren fun m => m) = hO (l0 zs n j ws) m := fun m => by
      rw [← hO_map]; rfl
    have hlt : ∀ m o, hO (l0 zs n j ws) m = some o → m < 8 := fun m o h => lt_of_hO h
    have hsome : ∀ m, m < 8 → ∃ o, hO (l0 zs n j ws) m = some o := fun m hm => allSome_ok (l := l0 zs n j ws) rfl m hm
    refine ⟨⟨by show s.nx ≤ 14; omega, [0, 1, 2, 3, 4, 5, 6, 7], by show _ ++ s1.wr = _ ++ s.wr; rw [hq.1.wr], fun m hm hr => ?_⟩, hq.2, ?_⟩
    · have h14 : ¬ m < 14 := fun hm14 => by
        simp only [List.mem_cons, List.not_mem_nil, or_false] at hm
        have : ¬ (s.nx ≤ m ∧ m < 14) := hr
        omega
      show (putL 0 (lR zs σ') s1.H).get m = _
      rw [hput, if_neg h14]
    · refine embedW (n0 := 8) (n1 := 14) (Hc := hO (l0 zs n j ws)) (Hc' := hO (lR zs σ')) (vc := .bool true) (ac := [.ptr 1 0 0 0, .slice 0 0 1 len cap]) hp (by decide) (fun m hm => ?_) (fun m o hm => ?_) (fun m o hm => ?_) (fun v hv => ?_) (fun m => m) (fun m hm => ?_) (fun m o hm => ?_) (fun m n _ _ _ _ hne => hne) rfl rfl (by show 14 = s.nx + 6; omega) (fun m hm hm' => ?_) (fun m o hm => ?_) (fun m hm hm' => ?_)
      · cases h : hO (l0 zs n j ws) m with
        | none => rfl
        | some o => have := hlt m o h; omega
      · have := obsOK_ok _ 0 l0_ob m o hm
        rw [blt_fun] at this
        exact ⟨this.1, this.2.2⟩
      · have := obsOK_ok (lR zs σ') 0 (obsR zs σ') m o hm
        exact ⟨this.1, lt_of_hO hm⟩
      · simp only [List.mem_cons, List.not_mem_nil, or_false] at hv
        rcases hv with rfl | rfl <;> rfl
      · obtain ⟨o, h⟩ := hsome m hm
        exact ⟨o, (hH m hm).trans h⟩
      · have h8 := hlt m o hm
        have := hid0 m
        rw [hm] at this
        rw [hH m h8, hm]
        exact this.symm
      · have hm1 : s.nx ≤ m := hm
        have hm2 : m < 14 := hm'
        show (putL 0 (lR zs σ') s1.H).get m = _
        rw [hput, if_pos hm2, hnx, ext_id, hid]
        congr 1; omega
      · have h8 := hlt m o hm
        show (putL 0 (lR zs σ') s1.H).get m = _
        rw [hput, if_pos (by omega), hnx, ext_id, hid]
      · have h14 : ¬ m < 14 := fun h14 => by
          have h : ¬ (s.nx ≤ m ∧ m < 14) := hm
          have h8 : m < 8 := by omega
          obtain ⟨o, ho⟩ := hsome m h8
          exact hm' m o ho rfl
        show (putL 0 (lR zs σ') s1.H).get m = _
        rw [hput, if_neg h14]
  · cases h
end Go.Sx
