/- StackJudged's loop. Printed by gen_join.py. -/
import Derived.Test.YtoiajdjmlbdfnaaSkG
import Derived.Test.YtoiajdjmlbdfnaaSkPc
namespace Go.Sx
set_option maxRecDepth 100000
section
variable {β : Base} {kind : CallKind} {cs : List Frame} {J : Nat → V} {A : Cf} {zs : List Int} {len cap : Nat} {i v : Int} {K : Nat} {n : Int} {ws : List Int} {x y me : CoreS} {C : List Int} {t : Int} {j : MJ}
def busyP (o : OpS) : Prop := match o with | .idle => False | _ => True

theorem beg_a (hβ : β.n0 = 1) (hA : Asrt β ⟨4, none, 69⟩ (trO (slots J 0 (slM len cap i v 0))) [] (hO (lS zs ⟨n, j, ws, me, x, y⟩)) 11 far A) (I : Inv3 K n ws me x y C t) :
    ∃ me', Inv3 K n ws me' x y C t ∧ busyP me'.op ∧ ∃ J' b', Asrt β ⟨4, none, 69⟩ (trO (slots J' 0 (slM len cap i v 0))) [] (hO (lS zs ⟨n, j, ws, me', x, y⟩)) 11 far b' ∧ Steps Go.Proofs.Try.prog (At ⟨4, none, 69⟩ none kind cs A todoM) (At ⟨4, none, 69⟩ none kind cs b' todoJ) := by
  obtain ⟨op, ha, la⟩ := me
  cases op with
  | pop h f => exact ⟨_, I, trivial, yPop_a hβ hA rfl⟩
  | push h f => exact ⟨_, I, trivial, yPush_a hβ hA rfl⟩
  | all h f => exact ⟨_, I, trivial, yAll_a hβ hA rfl⟩
  | idle =>
    have Ip : Inv3 K n ws ⟨.pop ⟨0, 0, 0, 0⟩ 96, ha, la⟩ x y C t := I.perm (List.Perm.refl _) (.inl rfl) I.iy I.iz
    have Ia : Inv3 K n ws ⟨.all ⟨0, 0, 0, 0⟩ 94, ha, la⟩ x y C t := I.perm (List.Perm.refl _) (.inl rfl) I.iy I.iz
    cases h5 : ((IntKind.i64.wrap (v.tdiv 3)).tmod 5 == 4) with
    | true =>
      cases h3 : ((IntKind.i64.wrap (v.tdiv 3)).tmod 3 == 1) with
      | false => exact ⟨_, Ia, trivial, ballA_a hβ hA (by rw [h5, h3]; rfl)⟩
      | true =>
        cases hp : decide ((ha.length : Int) > 0) with
        | false => exact ⟨_, Ia, trivial, ballB_a hβ hA (by rw [h5, h3, hp]; rfl)⟩
        | true =>
          obtain ⟨d, I'⟩ := dec_bpush I (of_decide_eq_true hp) h3
          exact ⟨_, I', trivial, bpush_a hβ hA d⟩
    | false =>
      cases h3 : ((IntKind.i64.wrap (v.tdiv 3)).tmod 3 == 1) with
      | false => exact ⟨_, Ip, trivial, bpopA_a hβ hA (by rw [h5, h3]; rfl)⟩
      | true =>
        cases hp : decide ((ha.length : Int) > 0) with
        | false => exact ⟨_, Ip, trivial, bpopB_a hβ hA (by rw [h5, h3, hp]; rfl)⟩
        | true =>
          obtain ⟨d, I'⟩ := dec_bpush I (of_decide_eq_true hp) h3
          exact ⟨_, I', trivial, bpush_a hβ hA d⟩

theorem jud_a (hβ : β.n0 = 1) (hA : Asrt β ⟨4, none, 69⟩ (trO (slots J 0 (slM len cap i v 0))) [] (hO (lS zs ⟨n, j, ws, me, x, y⟩)) 11 far A) (I : Inv3 K n ws me x y C t) (hK : K ≤ 300) (hb : busyP me.op) :
    ∃ j' ws' me', (∃ C' t', Inv3 (K + 1) n ws' me' x y C' t') ∧ ∃ J' b', Asrt β ⟨4, none, 69⟩ (trO (slots J' 0 (slH len cap (IntKind.i64.wrap (i + 1))))) [] (hO (lS zs ⟨n, j', ws', me', x, y⟩)) 11 far b' ∧ Steps Go.Proofs.Try.prog (At ⟨4, none, 69⟩ none kind cs A todoJ) (At ⟨4, none, 69⟩ none kind cs b' todoH) := by
  obtain ⟨op, ha, la⟩ := me
  cases op with
  | idle => exact hb.elim
  | pop h f =>
    rcases I.ix with rfl | ⟨_, _, _, ⟨rfl, _⟩ | ⟨rfl, _⟩⟩
    · by_cases hC : C = []
      · obtain ⟨d, I'⟩ := dec_pop1E I hK hC
        exact ⟨_, _, _, I', pop1E_a hβ hA d⟩
      · obtain ⟨d, I'⟩ := dec_pop1N I hK hC
        exact ⟨_, _, _, I', pop1N_a hβ hA d⟩
    · obtain ⟨d, I'⟩ := dec_pop2 I hK
      exact ⟨_, _, _, I', pop2_a hβ hA d⟩
    · by_cases hw : h.w = ws.getD 2 0
      · obtain ⟨d, I'⟩ := dec_pop3K I hK hw
        exact ⟨_, _, _, I', pop3K_a hβ hA d⟩
      · obtain ⟨d, I'⟩ := dec_pop3F I hK hw
        exact ⟨_, _, _, I', pop3F_a hβ hA d⟩
  | push h f =>
    obtain ⟨_, _, _, rfl | ⟨_, _, _, _, rfl | ⟨rfl, _⟩⟩⟩ := I.ix
    · obtain ⟨d, I'⟩ := dec_push1 I hK
      exact ⟨_, _, _, I', push1_a hβ hA d⟩
    · obtain ⟨d, I'⟩ := dec_push2 I hK
      exact ⟨_, _, _, I', push2_a hβ hA d⟩
    · by_cases hw : h.w = ws.getD 2 0
      · obtain ⟨d, I'⟩ := dec_push3K I hK hw
        exact ⟨_, _, _, I', push3K_a hβ hA d⟩
      · obtain ⟨d, I'⟩ := dec_push3F I hK hw
        exact ⟨_, _, _, I', push3F_a hβ hA d⟩
  | all h f =>
    rcases I.ix with rfl | ⟨rfl, _⟩
    · by_cases hC : C = []
      · obtain ⟨d, I'⟩ := dec_all1E I hK hC
        exact ⟨_, _, _, I', all1E_a hβ hA d⟩
      · obtain ⟨d, I'⟩ := dec_all1N I hK hC
        exact ⟨_, _, _, I', all1N_a hβ hA d⟩
    · by_cases hw : h.w = ws.getD 2 0
      · obtain ⟨d, I'⟩ := dec_all2K I hK hw
        exact ⟨_, _, _, I', all2K_a hβ hA d⟩
      · obtain ⟨d, I'⟩ := dec_all2F I hK hw
        exact ⟨_, _, _, I', all2F_a hβ hA d⟩

theorem beg_b (hβ : β.n0 = 1) (hA : Asrt β ⟨4, none, 69⟩ (trO (slots J 0 (slM len cap i v 1))) [] (hO (lS zs ⟨n, j, ws, x, me, y⟩)) 11 far A) (I : Inv3 K n ws me x y C t) :
    ∃ me', Inv3 K n ws me' x y C t ∧ busyP me'.op ∧ ∃ J' b', Asrt β ⟨4, none, 69⟩ (trO (slots J' 0 (slM len cap i v 1))) [] (hO (lS zs ⟨n, j, ws, x, me', y⟩)) 11 far b' ∧ Steps Go.Proofs.Try.prog (At ⟨4, none, 69⟩ none kind cs A todoM) (At ⟨4, none, 69⟩ none kind cs b' todoJ) := by
  obtain ⟨op, ha, la⟩ := me
  cases op with
  | pop h f => exact ⟨_, I, trivial, yPop_b hβ hA rfl⟩
  | push h f => exact ⟨_, I, trivial, yPush_b hβ hA rfl⟩
  | all h f => exact ⟨_, I, trivial, yAll_b hβ hA rfl⟩
  | idle =>
    have Ip : Inv3 K n ws ⟨.pop ⟨0, 0, 0, 0⟩ 96, ha, la⟩ x y C t := I.perm (List.Perm.refl _) (.inl rfl) I.iy I.iz
    have Ia : Inv3 K n ws ⟨.all ⟨0, 0, 0, 0⟩ 94, ha, la⟩ x y C t := I.perm (List.Perm.refl _) (.inl rfl) I.iy I.iz
    cases h5 : ((IntKind.i64.wrap (v.tdiv 3)).tmod 5 == 4) with
    | true =>
      cases h3 : ((IntKind.i64.wrap (v.tdiv 3)).tmod 3 == 1) with
      | false => exact ⟨_, Ia, trivial, ballA_b hβ hA (by rw [h5, h3]; rfl)⟩
      | true =>
        cases hp : decide ((ha.length : Int) > 0) with
        | false => exact ⟨_, Ia, trivial, ballB_b hβ hA (by rw [h5, h3, hp]; rfl)⟩
        | true =>
          obtain ⟨d, I'⟩ := dec_bpush I (of_decide_eq_true hp) h3
          exact ⟨_, I', trivial, bpush_b hβ hA d⟩
    | false =>
      cases h3 : ((IntKind.i64.wrap (v.tdiv 3)).tmod 3 == 1) with
      | false => exact ⟨_, Ip, trivial, bpopA_b hβ hA (by rw [h5, h3]; rfl)⟩
      | true =>
        cases hp : decide ((ha.length : Int) > 0) with
        | false => exact ⟨_, Ip, trivial, bpopB_b hβ hA (by rw [h5, h3, hp]; rfl)⟩
        | true =>
          obtain ⟨d, I'⟩ := dec_bpush I (of_decide_eq_true hp) h3
          exact ⟨_, I', trivial, bpush_b hβ hA d⟩

theorem jud_b (hβ : β.n0 = 1) (hA : Asrt β ⟨4, none, 69⟩ (trO (slots J 0 (slM len cap i v 1))) [] (hO (lS zs ⟨n, j, ws, x, me, y⟩)) 11 far A) (I : Inv3 K n ws me x y C t) (hK : K ≤ 300) (hb : busyP me.op) :
    ∃ j' ws' me', (∃ C' t', Inv3 (K + 1) n ws' me' x y C' t') ∧ ∃ J' b', Asrt β ⟨4, none, 69⟩ (trO (slots J' 0 (slH len cap (IntKind.i64.wrap (i + 1))))) [] (hO (lS zs ⟨n, j', ws', x, me', y⟩)) 11 far b' ∧ Steps Go.Proofs.Try.prog (At ⟨4, none, 69⟩ none kind cs A todoJ) (At ⟨4, none, 69⟩ none kind cs b' todoH) := by
  obtain ⟨op, ha, la⟩ := me
  cases op with
  | idle => exact hb.elim
  | pop h f =>
    rcases I.ix with rfl | ⟨_, _, _, ⟨rfl, _⟩ | ⟨rfl, _⟩⟩
    · by_cases hC : C = []
      · obtain ⟨d, I'⟩ := dec_pop1E I hK hC
        exact ⟨_, _, _, I', pop1E_b hβ hA d⟩
      · obtain ⟨d, I'⟩ := dec_pop1N I hK hC
        exact ⟨_, _, _, I', pop1N_b hβ hA d⟩
    · obtain ⟨d, I'⟩ := dec_pop2 I hK
      exact ⟨_, _, _, I', pop2_b hβ hA d⟩
    · by_cases hw : h.w = ws.getD 2 0
      · obtain ⟨d, I'⟩ := dec_pop3K I hK hw
        exact ⟨_, _, _, I', pop3K_b hβ hA d⟩
      · obtain ⟨d, I'⟩ := dec_pop3F I hK hw
        exact ⟨_, _, _, I', pop3F_b hβ hA d⟩
  | push h f =>
    obtain ⟨_, _, _, rfl | ⟨_, _, _, _, rfl | ⟨rfl, _⟩⟩⟩ := I.ix
    · obtain ⟨d, I'⟩ := dec_push1 I hK
      exact ⟨_, _, _, I', push1_b hβ hA d⟩
    · obtain ⟨d, I'⟩ := dec_push2 I hK
      exact ⟨_, _, _, I', push2_b hβ hA d⟩
    · by_cases hw : h.w = ws.getD 2 0
      · obtain ⟨d, I'⟩ := dec_push3K I hK hw
        exact ⟨_, _, _, I', push3K_b hβ hA d⟩
      · obtain ⟨d, I'⟩ := dec_push3F I hK hw
        exact ⟨_, _, _, I', push3F_b hβ hA d⟩
  | all h f =>
    rcases I.ix with rfl | ⟨rfl, _⟩
    · by_cases hC : C = []
      · obtain ⟨d, I'⟩ := dec_all1E I hK hC
        exact ⟨_, _, _, I', all1E_b hβ hA d⟩
      · obtain ⟨d, I'⟩ := dec_all1N I hK hC
        exact ⟨_, _, _, I', all1N_b hβ hA d⟩
    · by_cases hw : h.w = ws.getD 2 0
      · obtain ⟨d, I'⟩ := dec_all2K I hK hw
        exact ⟨_, _, _, I', all2K_b hβ hA d⟩
      · obtain ⟨d, I'⟩ := dec_all2F I hK hw
        exact ⟨_, _, _, I', all2F_b hβ hA d⟩

theorem beg_c (hβ : β.n0 = 1) (hA : Asrt β ⟨4, none, 69⟩ (trO (slots J 0 (slM len cap i v 2))) [] (hO (lS zs ⟨n, j, ws, x, y, me⟩)) 11 far A) (I : Inv3 K n ws me x y C t) :
    ∃ me', Inv3 K n ws me' x y C t ∧ busyP me'.op ∧ ∃ J' b', Asrt β ⟨4, none, 69⟩ (trO (slots J' 0 (slM len cap i v 2))) [] (hO (lS zs ⟨n, j, ws, x, y, me'⟩)) 11 far b' ∧ Steps Go.Proofs.Try.prog (At ⟨4, none, 69⟩ none kind cs A todoM) (At ⟨4, none, 69⟩ none kind cs b' todoJ) := by
  obtain ⟨op, ha, la⟩ := me
  cases op with
  | pop h f => exact ⟨_, I, trivial, yPop_c hβ hA rfl⟩
  | push h f => exact ⟨_, I, trivial, yPush_c hβ hA rfl⟩
  | all h f => exact ⟨_, I, trivial, yAll_c hβ hA rfl⟩
  | idle =>
    have Ip : Inv3 K n ws ⟨.pop ⟨0, 0, 0, 0⟩ 96, ha, la⟩ x y C t := I.perm (List.Perm.refl _) (.inl rfl) I.iy I.iz
    have Ia : Inv3 K n ws ⟨.all ⟨0, 0, 0, 0⟩ 94, ha, la⟩ x y C t := I.perm (List.Perm.refl _) (.inl rfl) I.iy I.iz
    cases h5 : ((IntKind.i64.wrap (v.tdiv 3)).tmod 5 == 4) with
    | true =>
      cases h3 : ((IntKind.i64.wrap (v.tdiv 3)).tmod 3 == 1) with
      | false => exact ⟨_, Ia, trivial, ballA_c hβ hA (by rw [h5, h3]; rfl)⟩
      | true =>
        cases hp : decide ((ha.length : Int) > 0) with
        | false => exact ⟨_, Ia, trivial, ballB_c hβ hA (by rw [h5, h3, hp]; rfl)⟩
        | true =>
          obtain ⟨d, I'⟩ := dec_bpush I (of_decide_eq_true hp) h3
          exact ⟨_, I', trivial, bpush_c hβ hA d⟩
    | false =>
      cases h3 : ((IntKind.i64.wrap (v.tdiv 3)).tmod 3 == 1) with
      | false => exact ⟨_, Ip, trivial, bpopA_c hβ hA (by rw [h5, h3]; rfl)⟩
      | true =>
        cases hp : decide ((ha.length : Int) > 0) with
        | false => exact ⟨_, Ip, trivial, bpopB_c hβ hA (by rw [h5, h3, hp]; rfl)⟩
        | true =>
          obtain ⟨d, I'⟩ := dec_bpush I (of_decide_eq_true hp) h3
          exact ⟨_, I', trivial, bpush_c hβ hA d⟩

theorem jud_c (hβ : β.n0 = 1) (hA : Asrt β ⟨4, none, 69⟩ (trO (slots J 0 (slM len cap i v 2))) [] (hO (lS zs ⟨n, j, ws, x, y, me⟩)) 11 far A) (I : Inv3 K n ws me x y C t) (hK : K ≤ 300) (hb : busyP me.op) :
    ∃ j' ws' me', (∃ C' t', Inv3 (K + 1) n ws' me' x y C' t') ∧ ∃ J' b', Asrt β ⟨4, none, 69⟩ (trO (slots J' 0 (slH len cap (IntKind.i64.wrap (i + 1))))) [] (hO (lS zs ⟨n, j', ws', x, y, me'⟩)) 11 far b' ∧ Steps Go.Proofs.Try.prog (At ⟨4, none, 69⟩ none kind cs A todoJ) (At ⟨4, none, 69⟩ none kind cs b' todoH) := by
  obtain ⟨op, ha, la⟩ := me
  cases op with
  | idle => exact hb.elim
  | pop h f =>
    rcases I.ix with rfl | ⟨_, _, _, ⟨rfl, _⟩ | ⟨rfl, _⟩⟩
    · by_cases hC : C = []
      · obtain ⟨d, I'⟩ := dec_pop1E I hK hC
        exact ⟨_, _, _, I', pop1E_c hβ hA d⟩
      · obtain ⟨d, I'⟩ := dec_pop1N I hK hC
        exact ⟨_, _, _, I', pop1N_c hβ hA d⟩
    · obtain ⟨d, I'⟩ := dec_pop2 I hK
      exact ⟨_, _, _, I', pop2_c hβ hA d⟩
    · by_cases hw : h.w = ws.getD 2 0
      · obtain ⟨d, I'⟩ := dec_pop3K I hK hw
        exact ⟨_, _, _, I', pop3K_c hβ hA d⟩
      · obtain ⟨d, I'⟩ := dec_pop3F I hK hw
        exact ⟨_, _, _, I', pop3F_c hβ hA d⟩
  | push h f =>
    obtain ⟨_, _, _, rfl | ⟨_, _, _, _, rfl | ⟨rfl, _⟩⟩⟩ := I.ix
    · obtain ⟨d, I'⟩ := dec_push1 I hK
      exact ⟨_, _, _, I', push1_c hβ hA d⟩
    · obtain ⟨d, I'⟩ := dec_push2 I hK
      exact ⟨_, _, _, I', push2_c hβ hA d⟩
    · by_cases hw : h.w = ws.getD 2 0
      · obtain ⟨d, I'⟩ := dec_push3K I hK hw
        exact ⟨_, _, _, I', push3K_c hβ hA d⟩
      · obtain ⟨d, I'⟩ := dec_push3F I hK hw
        exact ⟨_, _, _, I', push3F_c hβ hA d⟩
  | all h f =>
    rcases I.ix with rfl | ⟨rfl, _⟩
    · by_cases hC : C = []
      · obtain ⟨d, I'⟩ := dec_all1E I hK hC
        exact ⟨_, _, _, I', all1E_c hβ hA d⟩
      · obtain ⟨d, I'⟩ := dec_all1N I hK hC
        exact ⟨_, _, _, I', all1N_c hβ hA d⟩
    · by_cases hw : h.w = ws.getD 2 0
      · obtain ⟨d, I'⟩ := dec_all2K I hK hw
        exact ⟨_, _, _, I', all2K_c hβ hA d⟩
      · obtain ⟨d, I'⟩ := dec_all2F I hK hw
        exact ⟨_, _, _, I', all2F_c hβ hA d⟩

def InvS (K : Nat) (σ : SS) : Prop := ∃ C t, Inv3 K σ.n σ.ws σ.a σ.b σ.c C t

theorem step4 {σ : SS} (hβ : β.n0 = 1) (hA : Asrt β ⟨4, none, 69⟩ (trO (slots J 0 (slH len cap i))) [] (hO (lS zs σ)) 11 far A) (I : InvS K σ) (hK : K ≤ 300) (h0 : 0 ≤ i) (h1 : i < (len : Int)) (h2 : len = zs.length) :
    ∃ σ', InvS (K + 1) σ' ∧ ∃ J' b', Asrt β ⟨4, none, 69⟩ (trO (slots J' 0 (slH len cap (IntKind.i64.wrap (i + 1))))) [] (hO (lS zs σ')) 11 far b' ∧ Steps Go.Proofs.Try.prog (At ⟨4, none, 69⟩ none kind cs A todoH) (At ⟨4, none, 69⟩ none kind cs b' todoH) := by
  obtain ⟨J1, b1, e1, e2⟩ := next4 (kind := kind) (cs := cs) hβ hA h0 h1 h2
  obtain ⟨v, hv⟩ : ∃ v, v = pickF (zs.getD i.toNat 0) 300 := ⟨_, rfl⟩
  rw [← hv] at e1
  have hr : 0 ≤ v ∧ v < 300 := by
    rw [hv]; unfold pickF
    have g1 := Int.tmod_lt_of_pos (zs.getD i.toNat 0) (b := 300) (by decide)
    have g2 := Int.lt_tmod_of_pos (zs.getD i.toNat 0) (b := 300) (by decide)
    split
    · rw [wrap_i64 (by omega) (by omega)]; omega
    · omega
  have hk : v.tmod 3 = 0 ∨ v.tmod 3 = 1 ∨ v.tmod 3 = 2 := by
    rw [Int.tmod_eq_emod_of_nonneg hr.1]; omega
  obtain ⟨C, t, I⟩ := I
  obtain ⟨n, j, ws, a, b, c⟩ := σ
  rcases hk with hk | hk | hk
  · rw [hk] at e1
    obtain ⟨me', I', h3, J2, b2, e3, e4⟩ := beg_a (kind := kind) (cs := cs) hβ e1 I
    obtain ⟨j', ws', me2, ⟨C', t', I2⟩, J3, b3, e5, e6⟩ := jud_a (kind := kind) (cs := cs) hβ e3 I' hK h3
    exact ⟨⟨n, j', ws', me2, b, c⟩, ⟨C', t', I2⟩, J3, b3, e5, (e2.trans e4).trans e6⟩
  · rw [hk] at e1
    obtain ⟨me', I', h3, J2, b2, e3, e4⟩ := beg_b (kind := kind) (cs := cs) hβ e1 I.swap
    obtain ⟨j', ws', me2, ⟨C', t', I2⟩, J3, b3, e5, e6⟩ := jud_b (kind := kind) (cs := cs) hβ e3 I' hK h3
    exact ⟨⟨n, j', ws', a, me2, c⟩, ⟨C', t', I2.swap⟩, J3, b3, e5, (e2.trans e4).trans e6⟩
  · rw [hk] at e1
    obtain ⟨me', I', h3, J2, b2, e3, e4⟩ := beg_c (kind := kind) (cs := cs) hβ e1 I.rot
    obtain ⟨j', ws', me2, ⟨C', t', I2⟩, J3, b3, e5, e6⟩ := jud_c (kind := kind) (cs := cs) hβ e3 I' hK h3
    exact ⟨⟨n, j', ws', a, b, me2⟩, ⟨C', t', I2.rot.rot⟩, J3, b3, e5, (e2.trans e4).trans e6⟩

/-- The loop, up to its last round. -/
theorem loop4 (hβ : β.n0 = 1) (h2 : len = zs.length) (hl : len ≤ 300) : ∀ (d : Nat) (J : Nat → V) (A : Cf) (i : Nat) (σ : SS), len = i + d → InvS i σ → Asrt β ⟨4, none, 69⟩ (trO (slots J 0 (slH len cap (i : Int)))) [] (hO (lS zs σ)) 11 far A →
    ∃ σ' J' b', Asrt β ⟨4, none, 69⟩ (trO (slots J' 0 (slH len cap (len : Int)))) [] (hO (lS zs σ')) 11 far b' ∧ Steps Go.Proofs.Try.prog (At ⟨4, none, 69⟩ none kind cs A todoH) (At ⟨4, none, 69⟩ none kind cs b' todoH) := by
  intro d
  induction d with
  | zero =>
    intro J A i σ hd I hA
    have : i = len := by omega
    subst this
    exact ⟨σ, J, A, hA, .refl _ _⟩
  | succ d ih =>
    intro J A i σ hd I hA
    obtain ⟨σ1, I1, J1, b1, e1, e2⟩ := step4 (kind := kind) (cs := cs) hβ hA I (by omega) (by omega) (by omega) h2
    rw [wrap_i64 (by omega) (by omega)] at e1
    obtain ⟨σ2, J2, b2, e3, e4⟩ := ih J1 b1 (i + 1) σ1 (by omega) I1 (by exact_mod_cast e1)
    exact ⟨σ2, J2, b2, e3, e2.trans e4⟩
end
end Go.Sx

