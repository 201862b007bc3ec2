/- mailCalls: its begin, its end, its contract. Printed by gen_C1.py. -/
import Derived.Test.YtmmcpgjfkphgaaaGreatSmW8
namespace Go.Sx
set_option maxRecDepth 100000
/-- The number chosen. -/
def smPk (p : Int) (args : List V) (s : St) : Option (V × St) :=
  match args with
  | [.int .i64 x, .int .i64 k] => (chk (decide (k = 3))).bind fun _ => (need (decide (pickF x k = p)) s).bind fun s1 => some (.int .i64 p, s1)
  | _ => none
theorem smPk_sm (p : Int) : SmOK Go.Proofs.Tryz.prog 22 (smPk p) := by
  refine ⟨fun args s v s' h ho => ?_, Go.Proofs.Tryz.call22⟩
  unfold smPk at h
  split at h
  · rename_i x k
    simp only [Option.bind_eq_some_iff] at h
    obtain ⟨_, h1, s1, h2, h3⟩ := h
    obtain rfl := chk_dec h1
    cases h3
    obtain ⟨hd, hq⟩ := need_ok h2 ho
    have hd := of_decide_eq_true hd
    subst hd
    refine ⟨Lg.of_same hq.1, hq.2, ?_⟩
    exact embed0 (l := []) (pick_call x 3 (by decide)) (fun m hm => absurd hm (Nat.not_lt_zero _)) (by kernel_rfl) (by kernel_rfl) [] rfl (fun m o ho => by simp at ho) List.nodup_nil rfl hq.1 rfl
  · cases h
noncomputable def FS (p : Int) : Env := envOf tabT tabF (smOf [(22, smPk p)]) seT imT pzT
theorem FS_ok (p : Int) : EnvOK Go.Proofs.Tryz.prog (FS p) := env_ok _
theorem SS_ok (p : Int) : SumOK Go.Proofs.Tryz.prog (FS p) := sumOK_of rfl ⟨smPk_sm p, trivial⟩
def slS (len cap : Nat) (x : V) : List (Option V) := [none, some (.slice 0 0 1 len cap), none, none, none, none, none, some (.ptr 1 0 0 0), some x, some (.osl 12 1), some (.int .i64 0)] ++ List.replicate 229 none
def σS (n : Int) (j : MJ) (ws : List Int) : MS := ⟨n, j, ws, -1, -1, -1, [], .none, .none, .none⟩
def lS (zs : List Int) (n : Int) (j : MJ) (ws : List Int) : List (Option Ob) := (lM zs (σS n j ws)).take 13
section
variable {β : Base} {kind : CallKind} {cs : List Frame} {J : Nat → V} {A : Cf} {zs : List Int} {len cap : Nat} {z : Int}
def ws1 : List Int := (((((((List.replicate 4096 0).set 3 0).set 4 0).set 5 0).set 6 0).set 7 0).set 8 0)
theorem ws1_z : ws1 = List.replicate 4096 0 := by unfold ws1; simp only [List.set_replicate_self]
def j1 : MJ := ⟨2, 8, 0, 0, true, 6⟩
theorem mcS1 (hβ : β.n0 = 1) (hA : Asrt β frMc (Tr.ofList [.int .i64 z, .slice 0 0 1 len cap]) [] (hO [some (.ro .i64 zs)]) 1 far A) (hp : pickF z 3 = 0) :
    ∃ J' b', Asrt β frMc (trO (slots J' 0 (slS len cap .nils))) [] (hO (lS zs 1 j1 ws1)) 13 far b' ∧ Steps Go.Proofs.Tryz.prog (At frMc none kind cs A [.code mcBody]) (At frMc none kind cs b' plH) :=
  Asrt.eval (n := 400) (m := 18) (orc := bits 188 0b10000001111111110111100000000000000010000001110000000000000010000001111000000000000001000000111001111000000000000000100000011100000000000000100000011110000000000000010000001110000111111110) (πl := [0, 43, 4, 3, 35, 36, 37, 38, 39, 40, 41, 42, 44]) (nx' := 45) (far := far) (todo := [.code mcBody]) (todo' := plH) (l := [some (.ro .i64 zs)]) (l' := lS zs 1 j1 ws1) (sl' := slS len cap .nils) (B := allB [decide (pickF z 3 = 0)]) (FS_ok 0) (SS_ok 0) kind cs hA
    (by kernel_rfl) (by rw [decide_eq_true hp]; rfl) rfl rfl rfl rfl rfl (fun m => Nat.blt m 13) (p_all rfl rfl) (fun m hm => by rw [hβ] at hm; exact Nat.blt_eq.mpr (by omega)) (by rw [hβ]; kernel_rfl) (by kernel_rfl) (by kernel_rfl)
def ws2 : List Int := (((((((((List.replicate 4096 0).set 3 0).set 4 0).set 5 0).set 6 0).set 7 0).set 8 0).set 9 0).set 10 0)
theorem ws2_z : ws2 = List.replicate 4096 0 := by unfold ws2; simp only [List.set_replicate_self]
def j2 : MJ := ⟨2, 10, 0, 0, true, 8⟩
theorem mcS2 (hβ : β.n0 = 1) (hA : Asrt β frMc (Tr.ofList [.int .i64 z, .slice 0 0 1 len cap]) [] (hO [some (.ro .i64 zs)]) 1 far A) (hp : pickF z 3 = 1) :
    ∃ J' b', Asrt β frMc (trO (slots J' 0 (slS len cap .nils))) [] (hO (lS zs 2 j2 ws2)) 13 far b' ∧ Steps Go.Proofs.Tryz.prog (At frMc none kind cs A [.code mcBody]) (At frMc none kind cs b' plH) :=
  Asrt.eval (n := 400) (m := 18) (orc := bits 238 0b1000000111111111011110000000000000001000000111000000000000001000000111100000000000000100000011110000000000000010000001110011110000000000000001000000111000000000000001000000111100000000000000100000011110000000000000010000001110000111111110) (πl := [0, 49, 4, 3, 41, 42, 43, 44, 45, 46, 47, 48, 50]) (nx' := 51) (far := far) (todo := [.code mcBody]) (todo' := plH) (l := [some (.ro .i64 zs)]) (l' := lS zs 2 j2 ws2) (sl' := slS len cap .nils) (B := allB [decide (pickF z 3 = 1)]) (FS_ok 1) (SS_ok 1) kind cs hA
    (by kernel_rfl) (by rw [decide_eq_true hp]; rfl) rfl rfl rfl rfl rfl (fun m => Nat.blt m 13) (p_all rfl rfl) (fun m hm => by rw [hβ] at hm; exact Nat.blt_eq.mpr (by omega)) (by rw [hβ]; kernel_rfl) (by kernel_rfl) (by kernel_rfl)
def ws3 : List Int := (((((((((((List.replicate 4096 0).set 3 0).set 4 0).set 5 0).set 6 0).set 7 0).set 8 0).set 9 0).set 10 0).set 11 0).set 12 0)
theorem ws3_z : ws3 = List.replicate 4096 0 := by unfold ws3; simp only [List.set_replicate_self]
def j3 : MJ := ⟨2, 12, 0, 0, true, 10⟩
theorem mcS3 (hβ : β.n0 = 1) (hA : Asrt β frMc (Tr.ofList [.int .i64 z, .slice 0 0 1 len cap]) [] (hO [some (.ro .i64 zs)]) 1 far A) (hp : pickF z 3 = 2) :
    ∃ J' b', Asrt β frMc (trO (slots J' 0 (slS len cap .nils))) [] (hO (lS zs 3 j3 ws3)) 13 far b' ∧ Steps Go.Proofs.Tryz.prog (At frMc none kind cs A [.code mcBody]) (At frMc none kind cs b' plH) :=
  Asrt.eval (n := 400) (m := 18) (orc := bits 288 0b100000011111111101111000000000000000100000011100000000000000100000011110000000000000010000001111000000000000001000000111100000000000000100000011100111100000000000000010000001110000000000000010000001111000000000000001000000111100000000000000100000011110000000000000010000001110000111111110) (πl := [0, 55, 4, 3, 47, 48, 49, 50, 51, 52, 53, 54, 56]) (nx' := 57) (far := far) (todo := [.code mcBody]) (todo' := plH) (l := [some (.ro .i64 zs)]) (l' := lS zs 3 j3 ws3) (sl' := slS len cap .nils) (B := allB [decide (pickF z 3 = 2)]) (FS_ok 2) (SS_ok 2) kind cs hA
    (by kernel_rfl) (by rw [decide_eq_true hp]; rfl) rfl rfl rfl rfl rfl (fun m => Nat.blt m 13) (p_all rfl rfl) (fun m hm => by rw [hβ] at hm; exact Nat.blt_eq.mpr (by omega)) (by rw [hβ]; kernel_rfl) (by kernel_rfl) (by kernel_rfl)
def slE (n : Int) : List (Option V) := [none, none, none, none, some (.osl 1 10), some (.int .i64 n), some (.bool true)] ++ List.replicate 233 none
def lE (zs : List Int) (cl : List (List Int)) : List (Option Ob) := [some (.ro .i64 zs), some (callsOb cl)]
theorem mcE {n : Int} {j : MJ} {ws : List Int} {cl : List (List Int)} {p0 p1 : PO} {d : DO} (hβ : β.n0 = 1) (hA : Asrt β frMc (trO (slots J 0 (slH len cap ((len : Int) + 60)))) [] (hO (lM zs ⟨n, j, ws, -1, -1, -1, cl, p0, p1, d⟩)) 21 far A) (h : ¬ (len : Int) + 60 < IntKind.i64.wrap ((len : Int) + 60)) :
    ∃ J' b', Asrt β frMc (trO (slots J' 0 (slE n))) [] (hO (lE zs cl)) 2 far b' ∧ Steps Go.Proofs.Tryz.prog (At frMc none kind cs A plH) (At frMc none kind cs b' [.code .ret]) :=
  Asrt.eval (n := 400) (m := 7) (orc := bits 15 0b011111111111111) (πl := [0, 13]) (nx' := 21) (far := far) (todo := plH) (todo' := [.code .ret]) (l := lM zs ⟨n, j, ws, -1, -1, -1, cl, p0, p1, d⟩) (l' := lE zs cl) (sl' := slE n) (B := allB [!(decide ((len : Int) + 60 < IntKind.i64.wrap ((len : Int) + 60)))]) FP_ok SP_ok kind cs hA
    (by kernel_rfl) (by rw [decide_eq_false h]; rfl) rfl rfl rfl rfl rfl (fun m => Nat.blt m 2) (p_all rfl rfl) (fun m hm => by rw [hβ] at hm; exact Nat.blt_eq.mpr (by omega)) (by rw [hβ]; kernel_rfl) (by kernel_rfl) (by kernel_rfl)
theorem Asrt.nx_up {β : Base} {fr : Frs} {T : Tr V} {df : List Dfr} {H : Nat → Option Ob} {nx nx' hi : Nat} {a : Cf} (hA : Asrt β fr T df H nx hi a) (hn : nx ≤ nx') : Asrt β fr T df H nx' hi a := by
  obtain ⟨D, L, h1, h2, h3, h4⟩ := hA
  exact ⟨D, L, h1, h2, fun n hD => (h3 n hD).imp (fun h => by omega) id, h4⟩
theorem mc_ghost {n : Int} {j : MJ} {ws : List Int} (hβ : β.n0 = 1) (hA : Asrt β frMc (trO (slots J 0 (slS len cap .nils))) [] (hO (lS zs n j ws)) 13 far A) :
    Asrt β frMc (trO (slots J 0 (slH len cap 0))) [] (hO (lM zs (σS n j ws))) 21 far A := by
  have h := hA.ghost (H' := hO (lM zs (σS n j ws))) (T' := trO (slots J 0 (slS len cap (.osl 13 10)))) (b := .rows shSpan []) (es := 10) (t := 63) (by decide) (by rw [hβ]; decide) rfl rfl rfl (fun m hm => by
    match m, hm with
    | 0, _ | 1, _ | 2, _ | 3, _ | 4, _ | 5, _ | 6, _ | 7, _ | 8, _ | 9, _ | 10, _ | 11, _ | 12, _ => exact .inl rfl
    | 13, h => exact absurd rfl h
    | 14, _ | 15, _ | 16, _ | 17, _ | 18, _ | 19, _ | 20, _ => exact .inl rfl
    | m + 21, _ => exact .inl rfl) (ghost_slots (k := 8) (sl := slS len cap .nils) rfl (Nat.blt_eq.mp (by kernel_rfl)))
  exact h.nx_up (by decide)
theorem rep_getD (k : Nat) : (List.replicate 4096 (0 : Int)).getD k 0 = 0 := by
  rw [List.getD_eq_getElem?_getD, List.getElem?_replicate]
  split <;> rfl
theorem init3 {n : Int} {j : MJ} {ws : List Int} (h1 : 1 ≤ n) (h2 : n ≤ 3) (hz : ws = List.replicate 4096 0) : RI 0 (σS n j ws) := by
  subst hz
  refine ⟨[], 0, 0, 0, 0, [], none, ?_⟩
  have hR : Ring n (List.replicate 4096 0) [] 0 0 0 0 := by
    refine ⟨h1, by omega, List.length_replicate, by decide, rfl, by show (0 : Int) ≤ n; omega, by decide, by decide, by decide, rep_getD _, rep_getD _, fun v hv => (by cases hv), fun m m1 m2 => ?_⟩
    rw [rep_getD, if_neg (by omega)]
    have : m / n = 0 := Int.ediv_eq_zero_of_lt m1 (by omega)
    rw [this]; rfl
  have hno : ∀ k, ¬ dm [] none k := fun k h => by rcases h with h | ⟨_, h⟩; exact absurd h (Nat.not_lt_zero _); cases h
  have hH : Hist n (rl [] none) (dm [] none) [] [] (2 * 0) (fun k => (-1 : Int) = (k : Int) ∨ (-1 : Int) = (k : Int) ∨ (-1 : Int) = (k : Int) ∨ k = 1000) :=
    ⟨by decide, fun k hk => absurd hk (hno k), List.nodup_nil, fun k hk => (by cases hk), fun k hk => absurd hk (hno k), List.Pairwise.nil, rfl, fun k hk => absurd hk (hno k)⟩
  exact ⟨hR, h2, hH, ⟨fun q hq => absurd hq (Nat.not_lt_zero _), fun q hq => absurd hq (Nat.not_lt_zero _)⟩, .inl rfl, .inl rfl, .inl ⟨rfl, rfl, rfl⟩, fun h => absurd rfl h, fun h => absurd rfl h, fun h => absurd rfl h, Nat.zero_le 7, fun h => absurd rfl h, Int.le_refl 0, Int.le_refl 0⟩
end
/-- What mailCalls gives. -/
def McTo (zs : List Int) (len cap : Nat) (z n : Int) (cl : List (List Int)) : Prop :=
  CallH Go.Proofs.Tryz.prog 5 [.int .i64 z, .slice 0 0 1 len cap] 1 (hO [some (.ro .i64 zs)]) (.tup [.osl 1 10, .int .i64 n, .bool true]) 2 (hO (lE zs cl))
theorem mc_call {zs : List Int} {len cap : Nat} {z : Int} (h2 : len = zs.length) (hl : len ≤ 120) : ∃ n cl, 1 ≤ n ∧ n ≤ 3 ∧ cl.length ≤ 7 ∧ OrdPre cl n ∧ McTo zs len cap z n cl := by
  have key : ∀ (n : Int) (j : MJ) (ws : List Int), 1 ≤ n → n ≤ 3 → ws = List.replicate 4096 0 →
      (∀ {β : Base} {kind : CallKind} {cs : List Frame} {A : Cf}, β.n0 = 1 → Asrt β frMc (Tr.ofList [.int .i64 z, .slice 0 0 1 len cap]) [] (hO [some (.ro .i64 zs)]) 1 far A →
        ∃ J' b', Asrt β frMc (trO (slots J' 0 (slS len cap .nils))) [] (hO (lS zs n j ws)) 13 far b' ∧ Steps Go.Proofs.Tryz.prog (At frMc none kind cs A [.code mcBody]) (At frMc none kind cs b' plH)) →
      ∃ n cl, 1 ≤ n ∧ n ≤ 3 ∧ cl.length ≤ 7 ∧ OrdPre cl n ∧ McTo zs len cap z n cl := by
    intro n j ws hn1 hn3 hz hS
    obtain ⟨σ', e0, e1, e2, hord, hcl, hs1, hs3, hw⟩ := mc_way (cap := cap) h2 hl (init3 (j := j) hn1 hn3 hz)
    obtain ⟨n', j', ws', o0, o1, o2, cl, p0, p1, d⟩ := σ'
    simp only at e0 e1 e2 hord hcl hs1 hs3
    subst e0; subst e1; subst e2
    refine ⟨n', cl, hs1, hs3, hcl, hord, callH_of3 (c := mcBody) (t1 := 4) (t2 := 5) (t3 := 6) (hi := far) Go.Proofs.Tryz.func5 (by kernel_rfl) (Nat.blt_eq.mp (by kernel_rfl)) (by kernel_rfl) (Nat.ble_eq.mp (by kernel_rfl)) (fun m o ho => ?_) (fun m o ho hr => ?_) rfl ?_⟩
    · match m, ho with
      | 0, ho => cases ho; exact ⟨by decide, rfl⟩
      | 1, ho => cases ho; exact ⟨by decide, rfl⟩
    · match m, ho with
      | 0, ho => exact ho
      | 1, ho => cases ho; cases hr
    · intro L w kind cs a hA
      obtain ⟨J1, b1, g1, s1⟩ := hS (kind := kind) (cs := cs) rfl hA
      obtain ⟨J2, b2, g2, s2⟩ := hw (kind := kind) (cs := cs) rfl (mc_ghost rfl g1)
      obtain ⟨J3, b3, g3, s3⟩ := mcE (kind := kind) (cs := cs) rfl g2 (by rw [wrap_i64 (by omega) (by omega)]; omega)
      exact ⟨b3, _, 2, far, _, g3, rfl, rfl, rfl, (s1.trans s2).trans s3, .inr ⟨[], rfl⟩⟩
  rcases pick3 z with hp | hp | hp
  · exact key 1 j1 ws1 (by decide) (by decide) ws1_z (fun hβ hA => mcS1 hβ hA hp)
  · exact key 2 j2 ws2 (by decide) (by decide) ws2_z (fun hβ hA => mcS2 hβ hA hp)
  · exact key 3 j3 ws3 (by decide) (by decide) ws3_z (fun hβ hA => mcS3 hβ hA hp)
end Go.Sx
/- MailJudged: its summaries. -/
namespace Go.Sx
set_option maxRecDepth 100000
/-- A closed call: what it lays is not asked for. -/
theorem closed_call {P : Program} {E : Env} (hE : EnvOK P E) (hS : SumOK P E) {n : Nat} {f : FuncId} {b : Bool} (h : (callX (exec E n) E f [] ⟨.nil, 0, [], [], []⟩).map (·.1) = some (.bool b)) (hob : (callX (exec E n) E f [] ⟨.nil, 0, [], [], []⟩).map (fun r => allB r.2.obl) = some true) (s : St) :
    CallOK P f [] s (.bool b) s ∧ ∀ av w, (callFunc f av).run P w = .ok (.enter f av) w := by
  cases hr : callX (exec E n) E f [] ⟨.nil, 0, [], [], []⟩ with
  | none => rw [hr] at h; cases h
  | some r =>
    obtain ⟨v, s1⟩ := r
    rw [hr] at h hob
    cases h
    have ho : Obl s1 := allB_ok (by simpa using hob)
    obtain ⟨c1, c2, c3, c4⟩ := call_ok hE hS n f [] _ _ _ hr ho
    refine ⟨?_, c4⟩
    intro D L w kind cs av hSR hav hD
    obtain ⟨L1, w1, val, m1, m2, m3, fr', m4, m5⟩ := c3 (fun _ => False) L w kind cs av (fun L' _ => ⟨fun n o ho => (by cases ho), fun n m on om hn => (by cases hn)⟩) (fun L' _ => by rw [hav L (.refl _ _)]; rfl) (fun n hn => hn.elim)
    have hkeep : ∀ k, k < w.heap.size → w1.heap[k]? = w.heap[k]? := fun k hk => m1.frame k hk fun n o ho => by cases ho
    refine ⟨L, w1, val, ⟨.refl _ _, m1.size, fun k hk _ => hkeep k hk, fun n o k ho hr hk => .inr ⟨n, o, ho, hr, hk⟩, m1.os, m1.tape, m1.output, fun _ _ h _ => h⟩, ?_, fun L'' _ => m3 L1 (.refl _ _), fr', m4, m5⟩
    rw [grow_self rfl]
    intro L' hL'
    have h0 := hSR L' hL'
    exact ⟨fun n o ho => (h0.ob n o ho).keep m1.size (fun k _ hk => hkeep k hk), h0.inj⟩
def smKn (args : List V) (s : St) : Option (V × St) :=
  match args with
  | [] => some (.bool true, s)
  | _ => none
theorem smKn_sm : SmOK Go.Proofs.Tryz.prog 4 smKn := by
  refine ⟨fun args s v s' h ho => ?_, Go.Proofs.Tryz.call4⟩
  unfold smKn at h
  split at h
  · cases h
    exact ⟨.refl _, ho, (closed_call (n := 400) F0_ok S0_ok (by kernel_rfl) (by kernel_rfl) s).1⟩
  · cases h
def gRo : Option Ob → Option (List Int)
  | some (.ro .i64 zs) => some zs
  | _ => none
theorem gRo_ok {x : Option Ob} {zs : List Int} (h : gRo x = some zs) : x = some (.ro .i64 zs) := by
  unfold gRo at h; split at h <;> cases h; rfl
noncomputable def smMc (n : Int) (cl : List (List Int)) (args : List V) (s : St) : Option (V × St) :=
  match args with
  | [.int .i64 z, .slice b bi bz len cap] => (chk (decide (b = 0 ∧ bi = 0 ∧ bz = 1 ∧ s.nx = 1))).bind fun _ => (gRo (s.H.get 0)).bind fun zs => (need (propB (McTo zs len cap z n cl)) s).bind fun s1 =>
        some (.tup [.osl 1 10, .int .i64 n, .bool true], { s1 with H := putL 0 (lE zs cl) s1.H, nx := 2, wr := [0] ++ s1.wr })
  | _ => none
theorem hO_map {l : List (Option Ob)} {g : Ob → Ob} {m : Nat} : hO (l.map (Option.map g)) m = (hO l m).map g := by
  simp only [hO, List.getElem?_map]
  cases l[m]? with
  | none => rfl
  | some o => cases o <;> rfl
theorem ext_id : ext (fun m => m) 1 1 = fun m => m := by
  funext m
  show (if m < 1 then m else 1 + (m - 1)) = m
  split <;> omega
theorem l0_ob {zs : List Int} : obsOK (fun m => Nat.blt m 1) 0 [some (.ro .i64 zs)] = true := by kernel_rfl
theorem lE_ob {zs : List Int} {cl : List (List Int)} : obsOK (fun m => Nat.blt m 2) 0 (lE zs cl) = true := by kernel_rfl
theorem smMc_sm (n : Int) (cl : List (List Int)) : SmOK Go.Proofs.Tryz.prog 5 (smMc n cl) := by
  refine ⟨fun args s v s' h ho => ?_, Go.Proofs.Tryz.call5⟩
  unfold smMc at h
  split at h
  · rename_i z b bi bz len cap
    simp only [Option.bind_eq_some_iff] at h
    obtain ⟨_, h0, zs, a0, s1, h3, h4⟩ := h
    obtain ⟨rfl, rfl, rfl, hnx⟩ := chk_dec h0
    simp only [Option.some.injEq, Prod.mk.injEq] at h4
    obtain ⟨rfl, rfl⟩ := h4
    have ho1 : Obl s1 := ho
    obtain ⟨hp, hq⟩ := need_ok h3 ho1
    have hp := propB_iff.1 hp
    have g0 := gRo_ok a0
    have hH : ∀ m, m < 1 → s.H.get m = hO [some (.ro .i64 zs)] m := fun m hm => by
      match m, hm with
      | 0, _ => exact g0
    have hput : ∀ m, (putL 0 (lE zs cl) s1.H).get m = if m < 2 then hO (lE zs cl) m else s.H.get m := fun m => by
      rw [putL_get _ _ _ _ (by show 0 + 2 < big; decide)]
      by_cases hm : m < 2
      · rw [if_pos ⟨Nat.zero_le _, by show m < 0 + 2; omega⟩, if_pos hm]; rfl
      · rw [if_neg (by show ¬ (0 ≤ m ∧ m < 0 + 2); omega), if_neg hm, hq.1.H]
    have hid : ∀ m, (hO (lE zs cl) m).map (Ob.ren fun m => m) = hO (lE zs cl) m := fun m => by
      rw [← hO_map]; rfl
    have hid0 : ∀ m, (hO [some (.ro .i64 zs)] m).map (Ob.ren fun m => m) = hO [some (.ro .i64 zs)] m := fun m => by
      rw [← hO_map]; rfl
    have hlt : ∀ m o, hO [some (.ro .i64 zs)] m = some o → m < 1 := fun m o h => lt_of_hO h
    have hsome : ∀ m, m < 1 → ∃ o, hO [some (.ro .i64 zs)] m = some o := fun m hm => allSome_ok (l := [some (.ro .i64 zs)]) rfl m hm
    refine ⟨⟨by show s.nx ≤ 2; omega, [0], by show _ ++ s1.wr = _ ++ s.wr; rw [hq.1.wr], fun m hm hr => ?_⟩, hq.2, ?_⟩
    · have h14 : ¬ m < 2 := fun hm14 => by
        simp only [List.mem_cons, List.not_mem_nil, or_false] at hm
        have : ¬ (s.nx ≤ m ∧ m < 2) := hr
        omega
      show (putL 0 (lE zs cl) s1.H).get m = _
      rw [hput, if_neg h14]
    · refine embedW (n0 := 1) (n1 := 2) (Hc := hO [some (.ro .i64 zs)]) (Hc' := hO (lE zs cl)) (vc := .tup [.osl 1 10, .int .i64 n, .bool true]) (ac := [.int .i64 z, .slice 0 0 1 len cap]) hp (by decide) (fun m hm => ?_) (fun m o hm => ?_) (fun m o hm => ?_) (fun v hv => ?_) (fun m => m) (fun m hm => ?_) (fun m o hm => ?_) (fun m n _ _ _ _ hne => hne) rfl (by rw [hnx, ext_id]; rfl) (by show 2 = s.nx + 1; omega) (fun m hm hm' => ?_) (fun m o hm => ?_) (fun m hm hm' => ?_)
      · cases h : hO [some (.ro .i64 zs)] m with
        | none => rfl
        | some o => have := hlt m o h; omega
      · have := obsOK_ok _ 0 l0_ob m o hm
        rw [blt_fun] at this
        exact ⟨this.1, this.2.2⟩
      · have := obsOK_ok (lE zs cl) 0 lE_ob m o hm
        exact ⟨this.1, lt_of_hO hm⟩
      · simp only [List.mem_cons, List.not_mem_nil, or_false] at hv
        rcases hv with rfl | rfl <;> rfl
      · obtain ⟨o, h⟩ := hsome m hm
        exact ⟨o, (hH m hm).trans h⟩
      · have h8 := hlt m o hm
        have := hid0 m
        rw [hm] at this
        rw [hH m h8, hm]
        exact this.symm
      · have hm1 : s.nx ≤ m := hm
        have hm2 : m < 2 := hm'
        show (putL 0 (lE zs cl) s1.H).get m = _
        rw [hput, if_pos hm2, hnx, ext_id, hid]
        congr 1; omega
      · have h8 := hlt m o hm
        show (putL 0 (lE zs cl) s1.H).get m = _
        rw [hput, if_pos (by omega), hnx, ext_id, hid]
      · have h14 : ¬ m < 2 := fun h14 => by
          have h : ¬ (s.nx ≤ m ∧ m < 2) := hm
          have h8 : m < 1 := by omega
          obtain ⟨o, ho⟩ := hsome m h8
          exact hm' m o ho rfl
        show (putL 0 (lE zs cl) s1.H).get m = _
        rw [hput, if_neg h14]
  · cases h
noncomputable def FJ (n : Int) (cl : List (List Int)) : Env := envOf tabT tabF (smOf [(4, smKn), (5, smMc n cl), (6, smOrd)]) seT imT pzT
theorem FJ_ok (n : Int) (cl : List (List Int)) : EnvOK Go.Proofs.Tryz.prog (FJ n cl) := env_ok _
theorem SJ_ok (n : Int) (cl : List (List Int)) : SumOK Go.Proofs.Tryz.prog (FJ n cl) := sumOK_of rfl ⟨smKn_sm, smMc_sm n cl, smOrd_sm, trivial⟩
noncomputable def FN (p : Int) : Env := envOf tabT tabF (smOf [(22, smPk p), (4, smKn)]) seT imT pzT
theorem FN_ok (p : Int) : EnvOK Go.Proofs.Tryz.prog (FN p) := env_ok _
theorem SN_ok (p : Int) : SumOK Go.Proofs.Tryz.prog (FN p) := sumOK_of rfl ⟨smPk_sm p, smKn_sm, trivial⟩
end Go.Sx
/- MailJudged: its walk. -/
namespace Go.Sx
set_option maxRecDepth 100000
abbrev fr3 : Frs := ⟨3, none, 41⟩
noncomputable def f3Body : Code := bodyOf Go.Proofs.Tryz.f3
noncomputable def todoL3 : List Item := ((ctlN (FJ 0 []) (exec (FJ 0 []) 400) fr3 10 [.code f3Body] (Tr.ofList [.int .i64 0, .slice 0 0 1 121 121]) [] ⟨trO [some (.ro .i64 [0])], 1, [], [], []⟩).map (·.1)).getD []
def slT : List (Option V) := [none, none, none, none, some (.bool true)] ++ List.replicate 36 none
section
variable {β : Base} {kind : CallKind} {cs : List Frame} {J : Nat → V} {A : Cf} {zs : List Int} {len cap : Nat} {z : Int}
theorem long3 (hβ : β.n0 = 1) (hA : Asrt β fr3 (Tr.ofList [.int .i64 z, .slice 0 0 1 len cap]) [] (hO [some (.ro .i64 zs)]) 1 far A) (h : (len : Int) > 120) :
    ∃ J' b', Asrt β fr3 (trO (slots J' 0 slT)) [] (hO [some (.ro .i64 zs)]) 1 far b' ∧ Steps Go.Proofs.Tryz.prog (At fr3 none kind cs A [.code f3Body]) (At fr3 none kind cs b' todoL3) :=
  Asrt.eval (n := 400) (m := 10) (orc := bits 1 0b1) (πl := [0]) (nx' := 1) (far := far) (todo := [.code f3Body]) (todo' := todoL3) (l := [some (.ro .i64 zs)]) (l' := [some (.ro .i64 zs)]) (sl' := slT) (B := allB [decide ((len : Int) > 120)]) (FJ_ok 0 []) (SJ_ok 0 []) kind cs hA
    (by kernel_rfl) (by rw [decide_eq_true h]; rfl) rfl rfl rfl rfl rfl (fun m => Nat.blt m 1) (p_all rfl rfl) (fun m hm => by rw [hβ] at hm; exact Nat.blt_eq.mpr hm) (by rw [hβ]; kernel_rfl) (by kernel_rfl) (by kernel_rfl)
theorem a3 {n : Int} {cl : List (List Int)} (hβ : β.n0 = 1) (hA : Asrt β fr3 (Tr.ofList [.int .i64 z, .slice 0 0 1 len cap]) [] (hO [some (.ro .i64 zs)]) 1 far A) (h : ¬ (len : Int) > 120) (h1 : McTo zs len cap z n cl) (h2 : OrdPre cl n) :
    ∃ J' b', Asrt β fr3 (trO (slots J' 0 slT)) [] (hO [some (.ro .i64 zs)]) 1 far b' ∧ Steps Go.Proofs.Tryz.prog (At fr3 none kind cs A [.code f3Body]) (At fr3 none kind cs b' [.code .ret]) :=
  Asrt.eval (n := 400) (m := 20) (orc := bits 7 0b0101111) (πl := [0]) (nx' := 3) (far := far) (todo := [.code f3Body]) (todo' := [.code .ret]) (l := [some (.ro .i64 zs)]) (l' := [some (.ro .i64 zs)]) (sl' := slT) (B := allB [propB (OrdPre cl n), propB (McTo zs len cap z n cl), !(decide ((len : Int) > 120))]) (FJ_ok n cl) (SJ_ok n cl) kind cs hA
    (by kernel_rfl) (by rw [decide_eq_false h, propB_iff.2 h1, propB_iff.2 h2]; rfl) rfl rfl rfl rfl rfl (fun m => Nat.blt m 1) (p_all rfl rfl) (fun m hm => by rw [hβ] at hm; exact Nat.blt_eq.mpr hm) (by rw [hβ]; kernel_rfl) (by kernel_rfl) (by kernel_rfl)
theorem n3_0 (hβ : β.n0 = 0) (hA : Asrt β fr3 (Tr.ofList [.int .i64 z, .nils]) [] (hO []) 0 far A) (hp : pickF z 3 = 0) :
    ∃ J' b', Asrt β fr3 (trO (slots J' 0 slT)) [] (hO []) 0 far b' ∧ Steps Go.Proofs.Tryz.prog (At fr3 none kind cs A [.code f3Body]) (At fr3 none kind cs b' [.code .ret]) :=
  Asrt.eval (n := 400) (m := 20) (orc := bits 899 0b01000000111111111011110000000000000001000000111000000000000001000000111100000000000000100000011100111100000000000000010000001110000000000000010000001111000000000000001000000111000011111111011011111111110111111111101111111111011111111110111111111101111111111011111111110111111111101111111111011111111110111111111101111111111011111111110111111111101111111111011111111110111111111101111111111011111111110111111111101111111111011111111110111111111101111111111011111111110111111111101111111111011111111110111111111101111111111011111111110111111111101111111111011111111110111111111101111111111011111111110111111111101111111111011111111110111111111101111111111011111111110111111111101111111111011111111110111111111101111111111011111111110111111111101111111111011111111110111111111101111111111011111111110111111111101111111111011111111110111111111101111111101111111111111100000000000000000000000111011000111) (πl := []) (nx' := 48) (far := far) (todo := [.code f3Body]) (todo' := [.code .ret]) (l := []) (l' := []) (sl' := slT) (B := allB [decide (pickF z 3 = 0)]) (FN_ok 0) (SN_ok 0) kind cs hA
    (by kernel_rfl) (by rw [decide_eq_true hp]; rfl) (by kernel_rfl) (by kernel_rfl) (by kernel_rfl) (by kernel_rfl) (by kernel_rfl) (fun _ => false) (fun m hm => by cases hm) (fun m hm => by rw [hβ] at hm; exact absurd hm (Nat.not_lt_zero _)) (by rw [hβ]; kernel_rfl) (by kernel_rfl) (by kernel_rfl)
theorem n3_1 (hβ : β.n0 = 0) (hA : Asrt β fr3 (Tr.ofList [.int .i64 z, .nils]) [] (hO []) 0 far A) (hp : pickF z 3 = 1) :
    ∃ J' b', Asrt β fr3 (trO (slots J' 0 slT)) [] (hO []) 0 far b' ∧ Steps Go.Proofs.Tryz.prog (At fr3 none kind cs A [.code f3Body]) (At fr3 none kind cs b' [.code .ret]) :=
  Asrt.eval (n := 400) (m := 20) (orc := bits 949 0b0100000011111111101111000000000000000100000011100000000000000100000011110000000000000010000001111000000000000001000000111001111000000000000000100000011100000000000000100000011110000000000000010000001111000000000000001000000111000011111111011011111111110111111111101111111111011111111110111111111101111111111011111111110111111111101111111111011111111110111111111101111111111011111111110111111111101111111111011111111110111111111101111111111011111111110111111111101111111111011111111110111111111101111111111011111111110111111111101111111111011111111110111111111101111111111011111111110111111111101111111111011111111110111111111101111111111011111111110111111111101111111111011111111110111111111101111111111011111111110111111111101111111111011111111110111111111101111111111011111111110111111111101111111111011111111110111111111101111111111011111111110111111111101111111111011111111110111111111101111111101111111111111100000000000000000000000111011000111) (πl := []) (nx' := 54) (far := far) (todo := [.code f3Body]) (todo' := [.code .ret]) (l := []) (l' := []) (sl' := slT) (B := allB [decide (pickF z 3 = 1)]) (FN_ok 1) (SN_ok 1) kind cs hA
    (by kernel_rfl) (by rw [decide_eq_true hp]; rfl) (by kernel_rfl) (by kernel_rfl) (by kernel_rfl) (by kernel_rfl) (by kernel_rfl) (fun _ => false) (fun m hm => by cases hm) (fun m hm => by rw [hβ] at hm; exact absurd hm (Nat.not_lt_zero _)) (by rw [hβ]; kernel_rfl) (by kernel_rfl) (by kernel_rfl)
theorem n3_2 (hβ : β.n0 = 0) (hA : Asrt β fr3 (Tr.ofList [.int .i64 z, .nils]) [] (hO []) 0 far A) (hp : pickF z 3 = 2) :
    ∃ J' b', Asrt β fr3 (trO (slots J' 0 slT)) [] (hO []) 0 far b' ∧ Steps Go.Proofs.Tryz.prog (At fr3 none kind cs A [.code f3Body]) (At fr3 none kind cs b' [.code .ret]) :=
  Asrt.eval (n := 400) (m := 20) (orc := bits 999 0b010000001111111110111100000000000000010000001110000000000000010000001111000000000000001000000111100000000000000100000011110000000000000010000001110011110000000000000001000000111000000000000001000000111100000000000000100000011110000000000000010000001111000000000000001000000111000011111111011011111111110111111111101111111111011111111110111111111101111111111011111111110111111111101111111111011111111110111111111101111111111011111111110111111111101111111111011111111110111111111101111111111011111111110111111111101111111111011111111110111111111101111111111011111111110111111111101111111111011111111110111111111101111111111011111111110111111111101111111111011111111110111111111101111111111011111111110111111111101111111111011111111110111111111101111111111011111111110111111111101111111111011111111110111111111101111111111011111111110111111111101111111111011111111110111111111101111111111011111111110111111111101111111111011111111110111111111101111111101111111111111100000000000000000000000111011000111) (πl := []) (nx' := 60) (far := far) (todo := [.code f3Body]) (todo' := [.code .ret]) (l := []) (l' := []) (sl' := slT) (B := allB [decide (pickF z 3 = 2)]) (FN_ok 2) (SN_ok 2) kind cs hA
    (by kernel_rfl) (by rw [decide_eq_true hp]; rfl) (by kernel_rfl) (by kernel_rfl) (by kernel_rfl) (by kernel_rfl) (by kernel_rfl) (fun _ => false) (fun m hm => by cases hm) (fun m hm => by rw [hβ] at hm; exact absurd hm (Nat.not_lt_zero _)) (by rw [hβ]; kernel_rfl) (by kernel_rfl) (by kernel_rfl)
end
end Go.Sx
