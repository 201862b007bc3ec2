/- The next state of a queue: the contract of coxswainref06.Next. Printed by gen_O4.py. -/
import Derived.Test.YtmmcpgjfkphgaaaGreatSmO1
namespace Go.Sx
set_option maxRecDepth 100000
section
variable {F : List Int} {room : Int} {st ln ba : Nat} {k a b w e n x : Int}
def nxArgs (room : Int) (ba st ln : Nat) (k a b w e n x : Int) : List V := [.int .i64 room, .osv 0 1 ba st ln, .agg [.int .i64 k, .int .i64 a, .int .i64 b, .int .u64 w], .agg [.int .i64 e, .int .i64 n, .int .u64 x]]
theorem nxV1 (hB : allB [!(!(eqL [7, 0, 0] [e, n, x])), ((ln : Int) == room), (k == 1), !(decide (k > 3)), !(decide (k < 1)), !(decide ((ln : Int) > room)), !(decide (room > 1024)), !(decide (room < 1)), decide (([] : List Int).length + ln ≤ 1048576), decide (st + ln ≤ F.length)] = true) : CallH Go.Proofs.Tryz.prog 68 (nxArgs room ba st ln k a b w e n x) 1 (hO [some (rowU F)]) (.tup [.osl 1 1, .bool true]) 2 (hO [some (rowU F), some (rowU ([] ++ (F.drop st).take ln))]) :=
  callH_eval (n := 400) (l := [some (rowU F)]) (l' := [some (rowU F), some (rowU ([] ++ (F.drop st).take ln))]) (orc := bits 22 0b1100000000000111110000) (πl := [0, 6]) (nx' := 8) F1_ok S1_ok (by kernel_rfl) hB rfl rfl rfl rfl rfl
theorem nxV1n (hB : allB [!(eqL [7, 0, 0] [e, n, x]), ((ln : Int) == room), (k == 1), !(decide (k > 3)), !(decide (k < 1)), !(decide ((ln : Int) > room)), !(decide (room > 1024)), !(decide (room < 1)), decide (([] : List Int).length + ln ≤ 1048576), decide (st + ln ≤ F.length)] = true) : CallH Go.Proofs.Tryz.prog 68 (nxArgs room ba st ln k a b w e n x) 1 (hO [some (rowU F)]) (.tup [.nils, .bool false]) 1 (hO [some (rowU F)]) :=
  callH_eval (n := 400) (l := [some (rowU F)]) (l' := [some (rowU F)]) (orc := bits 22 0b1100000000000111110001) (πl := [0]) (nx' := 8) F1_ok S1_ok (by kernel_rfl) hB rfl rfl rfl rfl rfl
theorem nxV2 (hB : allB [!(!(eqL [0, 0, 0] [e, n, x])), decide (([] ++ (F.drop st).take ln).length + [w].length ≤ 1048576), (k == 1), !((ln : Int) == room), (k == 1), !(decide (k > 3)), !(decide (k < 1)), !(decide ((ln : Int) > room)), !(decide (room > 1024)), !(decide (room < 1)), decide (([] : List Int).length + ln ≤ 1048576), decide (st + ln ≤ F.length)] = true) : CallH Go.Proofs.Tryz.prog 68 (nxArgs room ba st ln k a b w e n x) 1 (hO [some (rowU F)]) (.tup [.osl 1 1, .bool true]) 2 (hO [some (rowU F), some (rowU (([] ++ (F.drop st).take ln) ++ [w]))]) :=
  callH_eval (n := 400) (l := [some (rowU F)]) (l' := [some (rowU F), some (rowU (([] ++ (F.drop st).take ln) ++ [w]))]) (orc := bits 24 0b110000000000011110110000) (πl := [0, 8]) (nx' := 10) F1_ok S1_ok (by kernel_rfl) hB rfl rfl rfl rfl rfl
theorem nxV2n (hB : allB [!(eqL [0, 0, 0] [e, n, x]), decide (([] ++ (F.drop st).take ln).length + [w].length ≤ 1048576), (k == 1), !((ln : Int) == room), (k == 1), !(decide (k > 3)), !(decide (k < 1)), !(decide ((ln : Int) > room)), !(decide (room > 1024)), !(decide (room < 1)), decide (([] : List Int).length + ln ≤ 1048576), decide (st + ln ≤ F.length)] = true) : CallH Go.Proofs.Tryz.prog 68 (nxArgs room ba st ln k a b w e n x) 1 (hO [some (rowU F)]) (.tup [.nils, .bool false]) 1 (hO [some (rowU F)]) :=
  callH_eval (n := 400) (l := [some (rowU F)]) (l' := [some (rowU F)]) (orc := bits 24 0b110000000000011110110001) (πl := [0]) (nx' := 10) F1_ok S1_ok (by kernel_rfl) hB rfl rfl rfl rfl rfl
theorem nxV3 (hB : allB [!(!(eqL [15, 0, 0] [e, n, x])), ((ln : Int) == 0), !(k == 1), !(k == 1), !(decide (k > 3)), !(decide (k < 1)), !(decide ((ln : Int) > room)), !(decide (room > 1024)), !(decide (room < 1)), decide (([] : List Int).length + ln ≤ 1048576), decide (st + ln ≤ F.length)] = true) : CallH Go.Proofs.Tryz.prog 68 (nxArgs room ba st ln k a b w e n x) 1 (hO [some (rowU F)]) (.tup [.osl 1 1, .bool true]) 2 (hO [some (rowU F), some (rowU ([] ++ (F.drop st).take ln))]) :=
  callH_eval (n := 400) (l := [some (rowU F)]) (l' := [some (rowU F), some (rowU ([] ++ (F.drop st).take ln))]) (orc := bits 25 0b1100000000000000000010000) (πl := [0, 6]) (nx' := 8) F1_ok S1_ok (by kernel_rfl) hB rfl rfl rfl rfl rfl
theorem nxV3n (hB : allB [!(eqL [15, 0, 0] [e, n, x]), ((ln : Int) == 0), !(k == 1), !(k == 1), !(decide (k > 3)), !(decide (k < 1)), !(decide ((ln : Int) > room)), !(decide (room > 1024)), !(decide (room < 1)), decide (([] : List Int).length + ln ≤ 1048576), decide (st + ln ≤ F.length)] = true) : CallH Go.Proofs.Tryz.prog 68 (nxArgs room ba st ln k a b w e n x) 1 (hO [some (rowU F)]) (.tup [.nils, .bool false]) 1 (hO [some (rowU F)]) :=
  callH_eval (n := 400) (l := [some (rowU F)]) (l' := [some (rowU F)]) (orc := bits 25 0b1100000000000000000010001) (πl := [0]) (nx' := 8) F1_ok S1_ok (by kernel_rfl) hB rfl rfl rfl rfl rfl
theorem nxV4 (hB : allB [!(!(eqL [0, 0, F.getD (st + Int.toNat 0) 0] [e, n, x])), decide (st + Int.toNat 0 < F.length), decide (st + ln ≤ F.length), decide ((0 : Int) ≤ 0 ∧ (0 : Int) < (ln : Int)), (k == 2), !((ln : Int) == 0), !(k == 1), !(k == 1), !(decide (k > 3)), !(decide (k < 1)), !(decide ((ln : Int) > room)), !(decide (room > 1024)), !(decide (room < 1)), decide (([] : List Int).length + ln ≤ 1048576), decide (st + ln ≤ F.length)] = true) : CallH Go.Proofs.Tryz.prog 68 (nxArgs room ba st ln k a b w e n x) 1 (hO [some (rowU F)]) (.tup [.osl 1 1, .bool true]) 2 (hO [some (rowU F), some (rowU ([] ++ (F.drop st).take ln))]) :=
  callH_eval (n := 400) (l := [some (rowU F)]) (l' := [some (rowU F), some (rowU ([] ++ (F.drop st).take ln))]) (orc := bits 29 0b11000000000000000000011110000) (πl := [0, 6]) (nx' := 8) F1_ok S1_ok (by kernel_rfl) hB rfl rfl rfl rfl rfl
theorem nxV4n (hB : allB [!(eqL [0, 0, F.getD (st + Int.toNat 0) 0] [e, n, x]), decide (st + Int.toNat 0 < F.length), decide (st + ln ≤ F.length), decide ((0 : Int) ≤ 0 ∧ (0 : Int) < (ln : Int)), (k == 2), !((ln : Int) == 0), !(k == 1), !(k == 1), !(decide (k > 3)), !(decide (k < 1)), !(decide ((ln : Int) > room)), !(decide (room > 1024)), !(decide (room < 1)), decide (([] : List Int).length + ln ≤ 1048576), decide (st + ln ≤ F.length)] = true) : CallH Go.Proofs.Tryz.prog 68 (nxArgs room ba st ln k a b w e n x) 1 (hO [some (rowU F)]) (.tup [.nils, .bool false]) 1 (hO [some (rowU F)]) :=
  callH_eval (n := 400) (l := [some (rowU F)]) (l' := [some (rowU F)]) (orc := bits 29 0b11000000000000000000011110001) (πl := [0]) (nx' := 8) F1_ok S1_ok (by kernel_rfl) hB rfl rfl rfl rfl rfl
theorem nxV5 (hB : allB [!(!(eqL [0, 0, 0] [e, n, x])), decide ((∀ z ∈ (some 1 : Option Int), 0 ≤ z) ∧ 1 ≤ ([] ++ (F.drop st).take ln).length), !(k == 2), !((ln : Int) == 0), !(k == 1), !(k == 1), !(decide (k > 3)), !(decide (k < 1)), !(decide ((ln : Int) > room)), !(decide (room > 1024)), !(decide (room < 1)), decide (([] : List Int).length + ln ≤ 1048576), decide (st + ln ≤ F.length)] = true) : CallH Go.Proofs.Tryz.prog 68 (nxArgs room ba st ln k a b w e n x) 1 (hO [some (rowU F)]) (.tup [.osv 1 1 0 1 (([] ++ (F.drop st).take ln).length - 1), .bool true]) 2 (hO [some (rowU F), some (rowU ([] ++ (F.drop st).take ln))]) :=
  callH_eval (n := 400) (l := [some (rowU F)]) (l' := [some (rowU F), some (rowU ([] ++ (F.drop st).take ln))]) (orc := bits 27 0b110000000000000000000010000) (πl := [0, 6]) (nx' := 8) F1_ok S1_ok (by kernel_rfl) hB rfl rfl rfl rfl rfl
theorem nxV5n (hB : allB [!(eqL [0, 0, 0] [e, n, x]), decide ((∀ z ∈ (some 1 : Option Int), 0 ≤ z) ∧ 1 ≤ ([] ++ (F.drop st).take ln).length), !(k == 2), !((ln : Int) == 0), !(k == 1), !(k == 1), !(decide (k > 3)), !(decide (k < 1)), !(decide ((ln : Int) > room)), !(decide (room > 1024)), !(decide (room < 1)), decide (([] : List Int).length + ln ≤ 1048576), decide (st + ln ≤ F.length)] = true) : CallH Go.Proofs.Tryz.prog 68 (nxArgs room ba st ln k a b w e n x) 1 (hO [some (rowU F)]) (.tup [.nils, .bool false]) 1 (hO [some (rowU F)]) :=
  callH_eval (n := 400) (l := [some (rowU F)]) (l' := [some (rowU F)]) (orc := bits 27 0b110000000000000000000010001) (πl := [0]) (nx' := 8) F1_ok S1_ok (by kernel_rfl) hB rfl rfl rfl rfl rfl
end
/-- What a queue answers; what it holds then, as a row from a number on. -/
def fifoS (room : Int) (Q : List Int) (k w : Int) : List Int × List Int × Nat :=
  if k = 1 ∧ (Q.length : Int) = room then ([7, 0, 0], Q, 0) else if k = 1 then ([0, 0, 0], Q ++ [w], 0) else if Q.length = 0 then ([15, 0, 0], Q, 0) else if k = 2 then ([0, 0, Q.getD 0 0], Q, 0) else ([0, 0, 0], Q, 1)

def smNx (args : List V) (s : St) : Option (V × St) :=
  match args with
  | [.int .i64 room, q, .agg [.int .i64 k, .int .i64 _, .int .i64 _, .int .u64 w], .agg [.int .i64 e, .int .i64 n, .int .u64 x]] => (nrm .u64 57 q s).bind fun r => match r with
    | ((_, _, st, ln, ws), s1) => (need (decide (1 ≤ room ∧ room ≤ 1024 ∧ (ln : Int) ≤ room ∧ 1 ≤ k ∧ k ≤ 3)) s1).bind fun s2 =>
      (s2.new (rowU (cond (eqL (fifoS room (part ws st ln) k w).1 [e, n, x]) (fifoS room (part ws st ln) k w).2.1 []))).bind fun r2 => match r2 with
      | (m, s3) => some (.tup [.osv m 1 0 (cond (eqL (fifoS room (part ws st ln) k w).1 [e, n, x]) (fifoS room (part ws st ln) k w).2.2 0) (cond (eqL (fifoS room (part ws st ln) k w).1 [e, n, x]) ((fifoS room (part ws st ln) k w).2.1.length - (fifoS room (part ws st ln) k w).2.2) 0), .bool (eqL (fifoS room (part ws st ln) k w).1 [e, n, x])], s3)
  | _ => none

theorem eqL3 {a : List Int} {e n x : Int} : eqL a [e, n, x] = true ↔ a = [e, n, x] := by
  have key : ∀ (a b : List Int), eqL a b = true ↔ a = b := by
    intro a
    induction a with
    | nil => intro b; cases b <;> simp [eqL]
    | cons u l ih =>
      intro b
      cases b with
      | nil => simp [eqL]
      | cons v r =>
        simp only [eqL, List.cons.injEq]
        cases huv : (u == v) with
        | true => rw [cond_true, ih]; simp [eq_of_beq huv]
        | false =>
          rw [cond_false]
          constructor
          · intro h; cases h
          · rintro ⟨h, _⟩; rw [h, beq_self_eq_true] at huv; cases huv
  exact key a _

theorem nx_key {s2 s3 : St} {q b st ln m : Nat} {ws : List Int} {room k a bb w e n x : Int} (hg : s2.H.get q = some (rowU ws)) (hw : st + ln ≤ ws.length) (hd : 1 ≤ room ∧ room ≤ 1024 ∧ (ln : Int) ≤ room ∧ 1 ≤ k ∧ k ≤ 3)
    (hn : s2.new (rowU (cond (eqL (fifoS room (part ws st ln) k w).1 [e, n, x]) (fifoS room (part ws st ln) k w).2.1 [])) = some (m, s3)) :
    CallOK Go.Proofs.Tryz.prog 68 [.int .i64 room, .osv q 1 b st ln, .agg [.int .i64 k, .int .i64 a, .int .i64 bb, .int .u64 w], .agg [.int .i64 e, .int .i64 n, .int .u64 x]] s2
      (.tup [.osv m 1 0 (cond (eqL (fifoS room (part ws st ln) k w).1 [e, n, x]) (fifoS room (part ws st ln) k w).2.2 0) (cond (eqL (fifoS room (part ws st ln) k w).1 [e, n, x]) ((fifoS room (part ws st ln) k w).2.1.length - (fifoS room (part ws st ln) k w).2.2) 0), .bool (eqL (fifoS room (part ws st ln) k w).1 [e, n, x])]) s3 := by
  obtain ⟨d1, d2, d3, d4, d5⟩ := hd
  have hlen := part_length hw
  have hQ : ([] ++ (ws.drop st).take ln : List Int) = part ws st ln := rfl
  have hl : ([] ++ (ws.drop st).take ln : List Int).length = ln := hlen
  have hst : ∀ m o, (([some (rowU ws)] : List (Option Ob))[m]?).join = some o → s2.H.get (πf [q] m) = some (o.ren (πf [q])) := fun m o ho => by
    match m, ho with
    | 0, ho => cases ho; exact hg
  obtain ⟨c1, c2, c3, c4, c5⟩ := new_ok hn
  have c6 := c5 m
  rw [if_pos c1] at c6
  -- as it was asked for
  have yes : ∀ (X : List Int) (i : Nat), (fifoS room (part ws st ln) k w).2 = (X, i) → eqL (fifoS room (part ws st ln) k w).1 [e, n, x] = true →
      (∃ vc : V, CallH Go.Proofs.Tryz.prog 68 (nxArgs room b st ln k a bb w e n x) 1 (hO [some (rowU ws)]) vc 2 (hO [some (rowU ws), some (rowU X)]) ∧ ((i = 0 ∧ vc = .tup [.osl 1 1, .bool true]) ∨ (i = 1 ∧ vc = .tup [.osv 1 1 0 1 (X.length - 1), .bool true]))) →
      CallOK Go.Proofs.Tryz.prog 68 [.int .i64 room, .osv q 1 b st ln, .agg [.int .i64 k, .int .i64 a, .int .i64 bb, .int .u64 w], .agg [.int .i64 e, .int .i64 n, .int .u64 x]] s2
        (.tup [.osv m 1 0 (cond (eqL (fifoS room (part ws st ln) k w).1 [e, n, x]) (fifoS room (part ws st ln) k w).2.2 0) (cond (eqL (fifoS room (part ws st ln) k w).1 [e, n, x]) ((fifoS room (part ws st ln) k w).2.1.length - (fifoS room (part ws st ln) k w).2.2) 0), .bool (eqL (fifoS room (part ws st ln) k w).1 [e, n, x])]) s3 := by
    intro X i hX his ⟨vc, hc, hv⟩
    rw [his] at hn c6 ⊢
    rw [hX] at hn c6 ⊢
    simp only [cond_true] at hn c6 ⊢
    rcases hv with ⟨rfl, rfl⟩ | ⟨rfl, rfl⟩
    · have h1 := embed1 (l := [some (rowU ws)]) (o := rowU X) (ac := nxArgs room b st ln k a bb w e n x) (s := s2) (s1 := s2) hc (fun m hm => live1 m hm) rfl rfl rfl [q] rfl hst (by simp) rfl ⟨rfl, rfl, rfl⟩ hn rfl rfl
      refine CallOK.val h1 fun L w hR => ?_
      have h2 := osl_osv hR (n := m) (es := 1) (b := .words .u64 X) c6
      have h3 : (V.osv m 1 0 0 (X.length - 0)).den L = (V.osl s2.nx 1).den L := by rw [← c1]; exact h2
      show Value.tuple [(V.osv m 1 0 0 (X.length - 0)).den L, Value.bool true].toArray = Value.tuple [(V.osl s2.nx 1).den L, Value.bool true].toArray
      rw [h3]
    · have h1 := embed1 (l := [some (rowU ws)]) (o := rowU X) (ac := nxArgs room b st ln k a bb w e n x) (s := s2) (s1 := s2) hc (fun m hm => live1 m hm) rfl rfl rfl [q] rfl hst (by simp) rfl ⟨rfl, rfl, rfl⟩ hn rfl rfl
      rw [c1]
      exact h1
  have no : eqL (fifoS room (part ws st ln) k w).1 [e, n, x] = false → CallH Go.Proofs.Tryz.prog 68 (nxArgs room b st ln k a bb w e n x) 1 (hO [some (rowU ws)]) (.tup [.nils, .bool false]) 1 (hO [some (rowU ws)]) →
      CallOK Go.Proofs.Tryz.prog 68 [.int .i64 room, .osv q 1 b st ln, .agg [.int .i64 k, .int .i64 a, .int .i64 bb, .int .u64 w], .agg [.int .i64 e, .int .i64 n, .int .u64 x]] s2
        (.tup [.osv m 1 0 (cond (eqL (fifoS room (part ws st ln) k w).1 [e, n, x]) (fifoS room (part ws st ln) k w).2.2 0) (cond (eqL (fifoS room (part ws st ln) k w).1 [e, n, x]) ((fifoS room (part ws st ln) k w).2.1.length - (fifoS room (part ws st ln) k w).2.2) 0), .bool (eqL (fifoS room (part ws st ln) k w).1 [e, n, x])]) s3 := by
    intro his hc
    rw [his] at hn ⊢
    simp only [cond_false] at hn ⊢
    have h1 := embedRO (l := [some (rowU ws)]) (ac := nxArgs room b st ln k a bb w e n x) (s := s2) (v := .tup [.nils, .bool false]) hc (fun m hm => live1 m hm) rfl rfl [q] rfl hst (by simp) rfl rfl
    refine CallOK.after h1 (Nat.le_refl _) hn fun L hL => ?_
    simp [V.den, V.denL, hL]
  -- which way
  cases his : eqL (fifoS room (part ws st ln) k w).1 [e, n, x] with
  | true =>
    rw [← his]
    by_cases k1 : k = 1
    · by_cases hf : (ln : Int) = room
      · have hS : fifoS room (part ws st ln) k w = ([7, 0, 0], part ws st ln, 0) := by unfold fifoS; rw [if_pos ⟨k1, by rw [hlen]; exact hf⟩]
        rw [hS] at his
        refine yes _ _ (by rw [hS]; rfl) (by rw [hS]; exact his) ⟨_, nxV1 ?_, .inl ⟨rfl, rfl⟩⟩
        simp only [allB_iff, List.forall_mem_cons, decide_eq_true_eq, Bool.not_not, Bool.not_eq_true', decide_eq_false_iff_not, beq_iff_eq]
        refine ⟨his, hf, k1, ?_, ?_, ?_, ?_, ?_, ?_, ?_, fun _ hb => by cases hb⟩ <;> (try simp only [List.length_nil]) <;> (first | assumption | omega)
      · have hS : fifoS room (part ws st ln) k w = ([0, 0, 0], part ws st ln ++ [w], 0) := by unfold fifoS; rw [if_neg (by rw [hlen]; exact fun h => hf h.2), if_pos k1]
        rw [hS] at his
        refine yes _ _ (by rw [hS]; rfl) (by rw [hS]; exact his) ⟨_, nxV2 ?_, .inl ⟨rfl, rfl⟩⟩
        simp only [allB_iff, List.forall_mem_cons, decide_eq_true_eq, Bool.not_not, Bool.not_eq_true', decide_eq_false_iff_not, beq_iff_eq, beq_eq_false_iff_ne]
        refine ⟨his, ?_, k1, hf, k1, ?_, ?_, ?_, ?_, ?_, ?_, ?_, fun _ hb => by cases hb⟩ <;> (try rw [hl]) <;> (try simp only [List.length_nil, List.length_cons]) <;> (first | assumption | omega)
    · by_cases h0 : ln = 0
      · have hS : fifoS room (part ws st ln) k w = ([15, 0, 0], part ws st ln, 0) := by unfold fifoS; rw [if_neg (fun h => k1 h.1), if_neg k1, if_pos (by rw [hlen]; exact h0)]
        rw [hS] at his
        refine yes _ _ (by rw [hS]; rfl) (by rw [hS]; exact his) ⟨_, nxV3 ?_, .inl ⟨rfl, rfl⟩⟩
        simp only [allB_iff, List.forall_mem_cons, decide_eq_true_eq, Bool.not_not, Bool.not_eq_true', decide_eq_false_iff_not, beq_iff_eq, beq_eq_false_iff_ne]
        refine ⟨his, ?_, k1, k1, ?_, ?_, ?_, ?_, ?_, ?_, ?_, fun _ hb => by cases hb⟩ <;> (try simp only [List.length_nil]) <;> (first | assumption | omega)
      · by_cases k2 : k = 2
        · have hS : fifoS room (part ws st ln) k w = ([0, 0, (part ws st ln).getD 0 0], part ws st ln, 0) := by unfold fifoS; rw [if_neg (fun h => k1 h.1), if_neg k1, if_neg (by rw [hlen]; exact h0), if_pos k2]
          rw [hS, part_getD hw (by omega)] at his
          refine yes _ _ (by rw [hS]; rfl) (by rw [hS, part_getD hw (by omega)]; exact his) ⟨_, nxV4 ?_, .inl ⟨rfl, rfl⟩⟩
          simp only [allB_iff, List.forall_mem_cons, decide_eq_true_eq, Bool.not_not, Bool.not_eq_true', decide_eq_false_iff_not, beq_iff_eq, beq_eq_false_iff_ne]
          refine ⟨his, ?_, ?_, ?_, k2, ?_, k1, k1, ?_, ?_, ?_, ?_, ?_, ?_, ?_, fun _ hb => by cases hb⟩ <;> (try simp only [List.length_nil, Int.toNat_zero]) <;> (first | assumption | omega)
        · have hS : fifoS room (part ws st ln) k w = ([0, 0, 0], part ws st ln, 1) := by unfold fifoS; rw [if_neg (fun h => k1 h.1), if_neg k1, if_neg (by rw [hlen]; exact h0), if_neg k2]
          rw [hS] at his
          refine yes _ _ (by rw [hS]; rfl) (by rw [hS]; exact his) ⟨_, nxV5 ?_, .inr ⟨rfl, rfl⟩⟩
          simp only [allB_iff, List.forall_mem_cons, decide_eq_true_eq, Bool.not_not, Bool.not_eq_true', decide_eq_false_iff_not, beq_iff_eq, beq_eq_false_iff_ne]
          refine ⟨his, ⟨fun z hz => by simp at hz; omega, by rw [hl]; omega⟩, k2, ?_, k1, k1, ?_, ?_, ?_, ?_, ?_, ?_, ?_, fun _ hb => by cases hb⟩ <;> (try simp only [List.length_nil]) <;> (first | assumption | omega)
  | false =>
    rw [← his]
    by_cases k1 : k = 1
    · by_cases hf : (ln : Int) = room
      · have hS : fifoS room (part ws st ln) k w = ([7, 0, 0], part ws st ln, 0) := by unfold fifoS; rw [if_pos ⟨k1, by rw [hlen]; exact hf⟩]
        rw [hS] at his
        refine no (by rw [hS]; exact his) (nxV1n ?_)
        simp only [allB_iff, List.forall_mem_cons, decide_eq_true_eq, Bool.not_not, Bool.not_eq_true', decide_eq_false_iff_not, beq_iff_eq]
        refine ⟨his, hf, k1, ?_, ?_, ?_, ?_, ?_, ?_, ?_, fun _ hb => by cases hb⟩ <;> (try simp only [List.length_nil]) <;> (first | assumption | omega)
      · have hS : fifoS room (part ws st ln) k w = ([0, 0, 0], part ws st ln ++ [w], 0) := by unfold fifoS; rw [if_neg (by rw [hlen]; exact fun h => hf h.2), if_pos k1]
        rw [hS] at his
        refine no (by rw [hS]; exact his) (nxV2n ?_)
        simp only [allB_iff, List.forall_mem_cons, decide_eq_true_eq, Bool.not_not, Bool.not_eq_true', decide_eq_false_iff_not, beq_iff_eq, beq_eq_false_iff_ne]
        refine ⟨his, ?_, k1, hf, k1, ?_, ?_, ?_, ?_, ?_, ?_, ?_, fun _ hb => by cases hb⟩ <;> (try rw [hl]) <;> (try simp only [List.length_nil, List.length_cons]) <;> (first | assumption | omega)
    · by_cases h0 : ln = 0
      · have hS : fifoS room (part ws st ln) k w = ([15, 0, 0], part ws st ln, 0) := by unfold fifoS; rw [if_neg (fun h => k1 h.1), if_neg k1, if_pos (by rw [hlen]; exact h0)]
        rw [hS] at his
        refine no (by rw [hS]; exact his) (nxV3n ?_)
        simp only [allB_iff, List.forall_mem_cons, decide_eq_true_eq, Bool.not_not, Bool.not_eq_true', decide_eq_false_iff_not, beq_iff_eq, beq_eq_false_iff_ne]
        refine ⟨his, ?_, k1, k1, ?_, ?_, ?_, ?_, ?_, ?_, ?_, fun _ hb => by cases hb⟩ <;> (try simp only [List.length_nil]) <;> (first | assumption | omega)
      · by_cases k2 : k = 2
        · have hS : fifoS room (part ws st ln) k w = ([0, 0, (part ws st ln).getD 0 0], part ws st ln, 0) := by unfold fifoS; rw [if_neg (fun h => k1 h.1), if_neg k1, if_neg (by rw [hlen]; exact h0), if_pos k2]
          rw [hS, part_getD hw (by omega)] at his
          refine no (by rw [hS, part_getD hw (by omega)]; exact his) (nxV4n ?_)
          simp only [allB_iff, List.forall_mem_cons, decide_eq_true_eq, Bool.not_not, Bool.not_eq_true', decide_eq_false_iff_not, beq_iff_eq, beq_eq_false_iff_ne]
          refine ⟨his, ?_, ?_, ?_, k2, ?_, k1, k1, ?_, ?_, ?_, ?_, ?_, ?_, ?_, fun _ hb => by cases hb⟩ <;> (try simp only [List.length_nil, Int.toNat_zero]) <;> (first | assumption | omega)
        · have hS : fifoS room (part ws st ln) k w = ([0, 0, 0], part ws st ln, 1) := by unfold fifoS; rw [if_neg (fun h => k1 h.1), if_neg k1, if_neg (by rw [hlen]; exact h0), if_neg k2]
          rw [hS] at his
          refine no (by rw [hS]; exact his) (nxV5n ?_)
          simp only [allB_iff, List.forall_mem_cons, decide_eq_true_eq, Bool.not_not, Bool.not_eq_true', decide_eq_false_iff_not, beq_iff_eq, beq_eq_false_iff_ne]
          refine ⟨his, ⟨fun z hz => by simp at hz; omega, by rw [hl]; omega⟩, k2, ?_, k1, k1, ?_, ?_, ?_, ?_, ?_, ?_, ?_, fun _ hb => by cases hb⟩ <;> (try simp only [List.length_nil]) <;> (first | assumption | omega)

theorem smNx_sm : SmOK Go.Proofs.Tryz.prog 68 smNx := by
  refine ⟨fun args s v s' h ho => ?_, Go.Proofs.Tryz.call68⟩
  unfold smNx at h
  split at h
  · rename_i room q k a bb w e n x
    obtain ⟨⟨⟨m, b, st, ln, ws⟩, s1⟩, h1, h2⟩ := bind_some' h
    obtain ⟨s2, h3, h4⟩ := bind_some' h2
    obtain ⟨⟨g, s3⟩, h5, h6⟩ := bind_some' h4
    cases h6
    obtain ⟨n1, n2, n3, n4, n5⟩ := new_ok h5
    have ho2 : Obl s2 := by unfold Obl at ho ⊢; rw [n4] at ho; exact ho
    obtain ⟨hd, hq⟩ := need_ok h3 ho2
    obtain ⟨g1, g2, g3, g4, g5, g6⟩ := nrm_ok h1 hq.2
    have e1 : s2.nx = s1.nx := hq.1.nx
    have e2 : s2.H = s1.H := hq.1.H
    refine ⟨(g1.trans (.of_same hq.1)).trans (.new h5), g2, ?_⟩
    have hcall := nx_key (b := b) (a := a) (bb := bb) (q := m) (by rw [e2]; exact g3) g4 (of_decide_eq_true hd) h5
    refine CallOK.gh hcall (by rw [e1]; exact g1.le) (by omega) (fun D L w hSR hD hst => ?_)
    rw [e1] at hD
    obtain ⟨L', k1, k2⟩ := g6 D L w hSR hD
    refine ⟨L', ⟨by rw [e1]; exact k1.le, k1.agree, by rw [e1, e2]; exact k1.sr, fun n o b ho => by rw [e2] at ho; exact k1.sub n o b ho, fun n o ho => by rw [e2] at ho; exact k1.ro n o ho⟩, fun L'' hL'' => ?_⟩
    rw [e1] at hL''
    simp only [List.map_cons, List.map_nil, k2 L'' hL'']
    rfl
  · cases h
end Go.Sx
