/- Mailboxes: the memory of those who send and drain. -/
import Derived.Test.YtmmcpgjfkphgaaaGreatSxTabM
import Derived.Test.YtmmcpgjfkphgaaaGreatSmW1
namespace Go.Sx
set_option maxRecDepth 100000
noncomputable def F0 : Env := envOf tabT tabF (fun _ => none) seT imT pzT
theorem F0_ok : EnvOK Go.Proofs.Tryz.prog F0 := env_ok _
theorem S0_ok : SumOK Go.Proofs.Tryz.prog F0 := fun f F h => by cases h
def rowI (ws : List Int) : Ob := .mem (.words .i64 ws) 3 (some 1)
def shSpan : List Sh := [.int .i64, .int .i64, .int .i64, .int .i64, .int .i64, .int .i64, .int .u64, .int .i64, .int .i64, .int .u64]
def callsOb (cl : List (List Int)) : Ob := .mem (.rows shSpan cl) 63 (some 10)
/-- A memory's struct: its last access, how many there were. -/
structure MJ where
  a : Int
  b : Int
  c : Int
  d : Int
  e : Bool
  g : Int
/-- A Send: none; ended; its Push's next step. -/
inductive PO where
  | none
  | ended (e : Int)
  | act (f : Nat) (v t w : Int)
/-- A Drain: none; within its Front, or its Drop; ended, with nothing, or with a value. -/
inductive DO where
  | none
  | front (f : Nat) (h : Int)
  | drop (f : Nat) (h v : Int)
  | endN
  | endT (v : Int)
/-- Those who send to a mailbox, and who drains it. -/
structure MS where
  n : Int
  j : MJ
  ws : List Int
  o0 : Int
  o1 : Int
  o2 : Int
  cl : List (List Int)
  p0 : PO
  p1 : PO
  d : DO
def poV (k : Nat) : PO → V
  | .none => .nilp
  | _ => .ptr k 0 0 0
def doV (k : Nat) : DO → V
  | .none => .nilp
  | _ => .ptr k 0 0 0
def sendOb (k : Nat) : PO → Option Ob
  | .none => Option.none
  | .ended e => some (.mem (.cells [.bool true, .nilp, .int .i64 e]) 92 Option.none)
  | .act _ _ _ _ => some (.mem (.cells [.bool true, .ptr k 0 0 0, .int .i64 0]) 92 Option.none)
def pushOb (n : Int) (k : Nat) : PO → Option Ob
  | .act f v t w => some (.mem (.cells [.int .i64 (5 + n), .int .i64 (6 + n), .int .i64 (7 + n), .int .i64 n, .fn f [.ptr k 0 0 0] [], .bool true, .int .i64 0, .int .i64 v, .int .u64 t, .int .u64 w]) 130 Option.none)
  | _ => Option.none
def drainC (n : Int) (now tk : V) (v : Int) : Ob := .mem (.cells [.bool true, .int .i64 (5 + n), .int .i64 (6 + n), .int .i64 (7 + n), .int .i64 n, .int .i64 1, now, tk, .int .i64 v, .int .i64 0]) 97 Option.none
def drainOb (n : Int) (k l : Nat) : DO → Option Ob
  | .none => Option.none
  | .front _ _ => some (drainC n (.iface 98 (.ptr k 0 0 0)) .nils 0)
  | .drop _ _ v => some (drainC n (.iface 102 (.ptr k 0 0 0)) .nils v)
  | .endN => some (drainC n .nili .nils 0)
  | .endT v => some (drainC n .nili (.osl l 1) v)
def partOb (n : Int) (k : Nat) : DO → Option Ob
  | .front f h => some (.mem (.cells [.int .i64 (5 + n), .int .i64 (6 + n), .int .i64 (7 + n), .int .i64 n, .fn f [.ptr k 0 0 0] [], .bool true, .int .i64 0, .int .u64 h, .int .i64 0]) 133 Option.none)
  | .drop f h _ => some (.mem (.cells [.int .i64 (5 + n), .int .i64 (6 + n), .int .i64 (7 + n), .int .i64 n, .fn f [.ptr k 0 0 0] [], .bool true, .int .i64 0, .int .u64 h]) 135 Option.none)
  | _ => Option.none
def takenOb : DO → Option Ob
  | .endT v => some (rowI [v])
  | _ => Option.none
def memM (blk : Nat) (n : Int) (j : MJ) : Ob := .mem (.cells [.ptr blk 0 0 0, .int .i64 n, .int .i64 j.a, .int .i64 j.b, .int .u64 j.c, .int .u64 j.d, .bool j.e, .int .i64 j.g]) 150 Option.none
def wordsM (ws : List Int) : Ob := .mem (.words .u64 ws) 146 Option.none
def crewAt (f : Nat → Nat) (n : Int) : Ob := .mem (.cells [.int .i64 3, .int .i64 2, .int .i64 n, .ptr (f 2) 0 0 0, .osl (f 4) 1, .osl (f 5) 1, .osl (f 6) 1, .osl (f 7) 1, .osl (f 8) 1, .osl (f 9) 1, .osl (f 10) 1, .osl (f 11) 1, .int .i64 0]) 69 Option.none
def lrAt (zs : List Int) (σ : MS) (f : Nat → Nat) : List (Option Ob) := [some (.ro .i64 zs), some (crewAt f σ.n), some (memM (f 3) (7 + 2 * σ.n) σ.j), some (wordsM σ.ws),
  some (.mem (.cells [poV (f 14) σ.p0, poV (f 16) σ.p1, .nilp]) 46 (some 1)), some (rowI [0, 0, 0]), some (rowI [0, 0, 0]), some (.mem (.cells [.nilp, doV (f 18) σ.d]) 49 (some 1)),
  some (.mem (.cells [.nils, .nils]) 22 (some 1)), some (rowI [0, 0]), some (rowI [0, 0]), some (.mem (.rows [.bool] [[0], [0]]) 4 (some 1)), some (rowI [σ.o0, σ.o1, σ.o2]), some (callsOb σ.cl),
  sendOb (f 15) σ.p0, pushOb σ.n (f 15) σ.p0, sendOb (f 17) σ.p1, pushOb σ.n (f 17) σ.p1, drainOb σ.n (f 19) (f 20) σ.d, partOb σ.n (f 19) σ.d, takenOb σ.d]
def lM (zs : List Int) (σ : MS) : List (Option Ob) := lrAt zs σ fun m => m
theorem lr_at (zs : List Int) (σ : MS) (f : Nat → Nat) : (lM zs σ).map (Option.map (Ob.ren f)) = lrAt zs σ f := by
  obtain ⟨n, j, ws, o0, o1, o2, cl, p0, p1, d⟩ := σ
  cases p0 <;> cases p1 <;> cases d <;> rfl
def rs (cl : List (List Int)) (k f : Nat) (x : Int) : List (List Int) := cl.set k (rowSet (cl.getD k []) f x)
def hiOK (hz : Option Int) (h len : Nat) : Bool := decide ((∀ z ∈ hz, 0 ≤ z) ∧ h ≤ len)
def pickF (x k : Int) : Int := if x.tmod k < 0 then IntKind.i64.wrap (x.tmod k + k) else x.tmod k
theorem pick_call (x k : Int) (h : 0 < k) : CallH Go.Proofs.Tryz.prog 22 [.int .i64 x, .int .i64 k] 0 (hO []) (.int .i64 (pickF x k)) 0 (hO []) := by
  have h0 : ¬ k = 0 := by omega
  have h1 : ¬ k ≤ 0 := by omega
  by_cases h2 : x.tmod k < 0
  · have e : pickF x k = IntKind.i64.wrap (x.tmod k + k) := by simp only [pickF, if_pos h2]
    rw [e]
    exact callH_eval (n := 400) (l := []) (l' := []) (orc := bits 3 0b011) (πl := []) (nx' := 0) (B := allB [decide (x.tmod k < 0), !(k == 0), !(decide (k ≤ 0))]) F0_ok S0_ok (by kernel_rfl) (by simp only [allB, decide_eq_true h2, decide_eq_false h1, beq_eq_false_iff_ne.2 h0]; rfl) rfl (by kernel_rfl) (by kernel_rfl) (by kernel_rfl) (by kernel_rfl)
  · have e : pickF x k = x.tmod k := by simp only [pickF, if_neg h2]
    rw [e]
    exact callH_eval (n := 400) (l := []) (l' := []) (orc := bits 3 0b010) (πl := []) (nx' := 0) (B := allB [!(decide (x.tmod k < 0)), !(k == 0), !(decide (k ≤ 0))]) F0_ok S0_ok (by kernel_rfl) (by simp only [allB, decide_eq_false h2, decide_eq_false h1, beq_eq_false_iff_ne.2 h0]; rfl) rfl (by kernel_rfl) (by kernel_rfl) (by kernel_rfl) (by kernel_rfl)
/-- The number chosen. -/
def smPick (args : List V) (s : St) : Option (V × St) :=
  match args with
  | [.int .i64 x, .int .i64 k] => (need (decide (0 < k)) s).bind fun s1 => some (.int .i64 (pickF x k), s1)
  | _ => none
theorem smPick_sm : SmOK Go.Proofs.Tryz.prog 22 smPick := by
  refine ⟨fun args s v s' h ho => ?_, Go.Proofs.Tryz.call22⟩
  unfold smPick at h
  split at h
  · rename_i x k
    simp only [Option.bind_eq_some_iff] at h
    obtain ⟨s1, h2, h3⟩ := h
    cases h3
    obtain ⟨hd, hq⟩ := need_ok h2 ho
    have hd := of_decide_eq_true hd
    refine ⟨Lg.of_same hq.1, hq.2, ?_⟩
    exact embed0 (l := []) (pick_call x k hd) (fun m hm => absurd hm (Nat.not_lt_zero _)) (by kernel_rfl) (by kernel_rfl) [] rfl (fun m o ho => by simp at ho) List.nodup_nil rfl hq.1 rfl
  · cases h
abbrev frMc : Frs := ⟨5, Option.none, 240⟩
noncomputable def mcBody : Code := bodyOf Go.Proofs.Tryz.f5
end Go.Sx
/- A slot's words, and a mailbox's place: summaries. -/
namespace Go.Sx
set_option maxRecDepth 100000
theorem place_call {a b s n x : Int} (h1 : 1 ≤ n) (h2 : n ≤ 4) (h3 : 0 ≤ s) (h4 : s < 1000) (h5 : 0 ≤ x) (h6 : x < 100000) : CallH Go.Proofs.Tryz.prog 57 [.agg [.int .i64 a, .int .i64 b, .int .i64 s, .int .i64 n], .int .u64 x] 0 (hO []) (.int .i64 (s + x % n)) 0 (hO []) := by
  have e : s + x % n = IntKind.i64.wrap (s + IntKind.i64.wrap (x.tmod (IntKind.u64.wrap n))) := by
    have q1 := Int.emod_nonneg x (b := n) (by omega)
    have q2 := Int.emod_lt_of_pos x (b := n) (by omega)
    rw [wrap_u64 (x := n) (by omega) (by omega), Int.tmod_eq_emod_of_nonneg h5, wrap_i64 (x := x % n) (by omega) (by omega), wrap_i64 (by omega) (by omega)]
  have hn : (IntKind.u64.wrap n == 0) = false := by rw [wrap_u64 (by omega) (by omega)]; exact beq_eq_false_iff_ne.2 (by omega)
  rw [e]
  exact callH_eval (n := 400) (l := []) (l' := []) (orc := bits 1 0b1) (πl := []) (nx' := 1) (B := allB [!(IntKind.u64.wrap n == 0)]) F0_ok S0_ok (by kernel_rfl) (by simp only [allB, hn]; rfl) rfl (by kernel_rfl) (by kernel_rfl) (by kernel_rfl) (by kernel_rfl)
theorem lap_call {a b s n x : Int} (h1 : 1 ≤ n) (h2 : n ≤ 4) (h5 : 0 ≤ x) (h6 : x < 100000) : CallH Go.Proofs.Tryz.prog 74 [.agg [.int .i64 a, .int .i64 b, .int .i64 s, .int .i64 n], .int .u64 x] 0 (hO []) (.int .u32 (x / n)) 0 (hO []) := by
  have e : x / n = IntKind.u32.wrap (IntKind.u64.wrap (x.tdiv (IntKind.u64.wrap n))) := by
    have q1 : 0 ≤ x / n := Int.ediv_nonneg h5 (by omega)
    have q2 : x / n ≤ x := Int.ediv_le_self _ h5
    rw [wrap_u64 (x := n) (by omega) (by omega), Int.tdiv_eq_ediv_of_nonneg h5, wrap_u64 (x := x / n) (by omega) (by omega), wrap_u32 (by omega) (by omega)]
  have hn : (IntKind.u64.wrap n == 0) = false := by rw [wrap_u64 (by omega) (by omega)]; exact beq_eq_false_iff_ne.2 (by omega)
  rw [e]
  exact callH_eval (n := 400) (l := []) (l' := []) (orc := bits 1 0b1) (πl := []) (nx' := 1) (B := allB [!(IntKind.u64.wrap n == 0)]) F0_ok S0_ok (by kernel_rfl) (by simp only [allB, hn]; rfl) rfl (by kernel_rfl) (by kernel_rfl) (by kernel_rfl) (by kernel_rfl)
theorem full_call {w l : Int} : CallH Go.Proofs.Tryz.prog 73 [.int .u64 w, .int .u32 l] 0 (hO []) (.bool (fullQ w l)) 0 (hO []) := by
  by_cases h : hiR w = l
  · have e : fullQ w l = (bitR w != 0) := by unfold fullQ; by_cases hb : bitR w = 0 <;> simp [h, hb]
    rw [e]
    exact callH_eval (n := 400) (l := []) (l' := []) (orc := bits 4 0b1111) (πl := []) (nx' := 0) (B := allB [hiR w == l]) F0_ok S0_ok (by kernel_rfl) (by simp only [allB, beq_iff_eq.2 h]; rfl) rfl (by kernel_rfl) (by kernel_rfl) (by kernel_rfl) (by kernel_rfl)
  · have e : fullQ w l = false := by unfold fullQ; simp [h]
    rw [e]
    exact callH_eval (n := 400) (l := []) (l' := []) (orc := bits 5 0b10000) (πl := []) (nx' := 0) (B := allB [!(hiR w == l)]) F0_ok S0_ok (by kernel_rfl) (by simp only [allB, beq_eq_false_iff_ne.2 h]; rfl) rfl (by kernel_rfl) (by kernel_rfl) (by kernel_rfl) (by kernel_rfl)
theorem empty_call {w l : Int} : CallH Go.Proofs.Tryz.prog 91 [.int .u64 w, .int .u32 l] 0 (hO []) (.bool (emptyQ w l)) 0 (hO []) := by
  by_cases h : hiR w = l
  · have e : emptyQ w l = (bitR w == 0) := by unfold emptyQ; by_cases hb : bitR w = 0 <;> simp [h, hb]
    rw [e]
    exact callH_eval (n := 400) (l := []) (l' := []) (orc := bits 4 0b1111) (πl := []) (nx' := 0) (B := allB [hiR w == l]) F0_ok S0_ok (by kernel_rfl) (by simp only [allB, beq_iff_eq.2 h]; rfl) rfl (by kernel_rfl) (by kernel_rfl) (by kernel_rfl) (by kernel_rfl)
  · have e : emptyQ w l = false := by unfold emptyQ; simp [h]
    rw [e]
    exact callH_eval (n := 400) (l := []) (l' := []) (orc := bits 5 0b10000) (πl := []) (nx' := 0) (B := allB [!(hiR w == l)]) F0_ok S0_ok (by kernel_rfl) (by simp only [allB, beq_eq_false_iff_ne.2 h]; rfl) rfl (by kernel_rfl) (by kernel_rfl) (by kernel_rfl) (by kernel_rfl)
theorem value_call {w : Int} : CallH Go.Proofs.Tryz.prog 58 [.int .u64 w] 0 (hO []) (.int .i64 (valR w)) 0 (hO []) :=
  callH_eval (n := 400) (l := []) (l' := []) (orc := []) (πl := []) (nx' := 0) (B := allB []) F0_ok S0_ok (by kernel_rfl) rfl rfl (by kernel_rfl) (by kernel_rfl) (by kernel_rfl) (by kernel_rfl)
theorem of_call {l : Int} (h1 : 0 ≤ l) (h2 : l < 100001) : CallH Go.Proofs.Tryz.prog 79 [.int .u32 l] 0 (hO []) (.int .u64 (emptyW l)) 0 (hO []) := by
  have e : emptyW l = IntKind.u64.wrap (IntKind.u64.wrap l * 2 ^ min (Int.toNat 32) IntKind.u64.bits) := by
    have e1 : min (Int.toNat 32) IntKind.u64.bits = 32 := rfl
    unfold emptyW
    rw [e1, wrap_u64 (x := l) (by omega) (by omega), wrap_u64 (by omega) (by omega)]
    omega
  rw [e]
  exact callH_eval (n := 400) (l := []) (l' := []) (orc := bits 1 0b1) (πl := []) (nx' := 0) (B := allB []) F0_ok S0_ok (by kernel_rfl) rfl rfl (by kernel_rfl) (by kernel_rfl) (by kernel_rfl) (by kernel_rfl)
def layR (w v : Int) : Int := IntKind.u64.wrap ((BitVec.ofInt IntKind.u64.bits (IntKind.u64.wrap ((BitVec.ofInt IntKind.u64.bits (IntKind.u64.wrap ((BitVec.ofInt IntKind.u64.bits w &&& ~~~(BitVec.ofInt IntKind.u64.bits 65535)).toNat : Int)) ||| BitVec.ofInt IntKind.u64.bits 65536).toNat : Int)) ||| BitVec.ofInt IntKind.u64.bits (IntKind.u64.wrap v)).toNat : Int)
theorem layR_eq {w v : Int} (h1 : 0 ≤ w) (h2 : w < 1000000000000000) (h3 : w % 4294967296 = 0) (h5 : 0 ≤ v) (h6 : v < 65536) : layR w v = w + 65536 + v := by
  unfold layR
  obtain ⟨l, hl⟩ : ∃ l, l = w / 4294967296 := ⟨_, rfl⟩
  have hw : w = l * 2 ^ 32 := by omega
  have a : 0 ≤ l := by omega
  have b : l < 1000000 := by omega
  have e2 : IntKind.u64.bits = 64 := rfl
  clear hl
  subst hw
  rw [e2, wrap_u64 (x := v) (by omega) (by omega)]
  have k1 : ((BitVec.ofInt 64 (l * 2 ^ 32) &&& ~~~BitVec.ofInt 64 65535).toNat : Int) = l * 2 ^ 32 := by
    obtain ⟨x, rfl⟩ := Int.eq_ofNat_of_zero_le a
    have hb : BitVec.ofInt 64 ((x : Int) * 2 ^ 32) = (BitVec.ofNat 64 x) <<< 32 := by
      apply BitVec.eq_of_toNat_eq
      rw [BitVec.toNat_ofInt, BitVec.toNat_shiftLeft, BitVec.toNat_ofNat, Nat.shiftLeft_eq]
      omega
    have hc : (BitVec.ofNat 64 x) <<< 32 &&& ~~~BitVec.ofInt 64 65535 = (BitVec.ofNat 64 x) <<< 32 := by
      have : BitVec.ofInt 64 65535 = 65535#64 := by decide
      rw [this]
      apply BitVec.eq_of_getLsbD_eq
      intro i hi
      rw [BitVec.getLsbD_and, BitVec.getLsbD_shiftLeft, BitVec.getLsbD_not]
      by_cases h : i < 32
      · simp [h]
      · have : (65535#64).getLsbD i = false := by
          rw [BitVec.getLsbD_ofNat]
          have : Nat.testBit 65535 i = false := Nat.testBit_lt_two_pow (Nat.lt_of_lt_of_le (by decide : 65535 < 2 ^ 32) (Nat.pow_le_pow_right (by decide) (by omega)))
          simp [this]
        rw [this]
        simp [hi]
    rw [hb, hc, BitVec.toNat_shiftLeft, BitVec.toNat_ofNat, Nat.shiftLeft_eq]
    omega
  rw [k1, wrap_u64 (x := l * 2 ^ 32) (by omega) (by omega)]
  have k2 : ((BitVec.ofInt 64 (l * 2 ^ 32) ||| BitVec.ofInt 64 65536).toNat : Int) = 65536 + l * 2 ^ 32 := by
    rw [BitVec.or_comm]
    exact or_add 65536 l 32 (by omega) (by decide) a (by omega) (by omega)
  rw [k2, wrap_u64 (x := 65536 + l * 2 ^ 32) (by omega) (by omega)]
  have k3 : ((BitVec.ofInt 64 (65536 + l * 2 ^ 32) ||| BitVec.ofInt 64 v).toNat : Int) = v + (l * 2 ^ 16 + 1) * 2 ^ 16 := by
    have : 65536 + l * 2 ^ 32 = (l * 2 ^ 16 + 1) * 2 ^ 16 := by omega
    rw [this, BitVec.or_comm]
    exact or_add v (l * 2 ^ 16 + 1) 16 h5 (by omega) (by omega) (by omega) (by omega)
  rw [k3, wrap_u64 (by omega) (by omega)]
  omega
theorem with_call {w v : Int} (h1 : 0 ≤ w) (h2 : w < 1000000000000000) (h3 : w % 4294967296 = 0) (h5 : 0 ≤ v) (h6 : v < 65536) : CallH Go.Proofs.Tryz.prog 102 [.int .u64 w, .int .i64 v] 0 (hO []) (.int .u64 (w + 65536 + v)) 0 (hO []) := by
  rw [← layR_eq h1 h2 h3 h5 h6]
  exact callH_eval (n := 400) (l := []) (l' := []) (orc := []) (πl := []) (nx' := 0) (B := allB []) F0_ok S0_ok (by kernel_rfl) rfl rfl (by kernel_rfl) (by kernel_rfl) (by kernel_rfl) (by kernel_rfl)
def boxV (n : Int) : V := .tup [.agg [.int .i64 (5 + n), .int .i64 (6 + n), .int .i64 (7 + n), .int .i64 n], .bool true]
theorem box_call {n : Int} (h1 : 1 ≤ n) (h2 : n ≤ 3) : CallH Go.Proofs.Tryz.prog 10 [.agg [.int .i64 3, .int .i64 2, .int .i64 n], .int .i64 1] 0 (hO []) (boxV n) 0 (hO []) := by
  have hc : n = 1 ∨ n = 2 ∨ n = 3 := by omega
  rcases hc with rfl | rfl | rfl
  iterate 3 exact callH_eval (n := 400) (l := []) (l' := []) (orc := []) (πl := []) (nx' := 11) (B := allB []) F0_ok S0_ok (by kernel_rfl) rfl rfl (by kernel_rfl) (by kernel_rfl) (by kernel_rfl) (by kernel_rfl)
def smPlace (args : List V) (s : St) : Option (V × St) :=
  match args with
  | [.agg [.int .i64 _, .int .i64 _, .int .i64 s0, .int .i64 n], .int .u64 x] => (need (decide (1 ≤ n ∧ n ≤ 4 ∧ 0 ≤ s0 ∧ s0 < 1000 ∧ 0 ≤ x ∧ x < 100000)) s).bind fun s1 => some (.int .i64 (s0 + x % n), s1)
  | _ => none
theorem smPlace_sm : SmOK Go.Proofs.Tryz.prog 57 smPlace := by
  refine ⟨fun args s v s' h ho => ?_, Go.Proofs.Tryz.call57⟩
  unfold smPlace at h
  split at h
  · simp only [Option.bind_eq_some_iff] at h
    obtain ⟨s1, h2, h3⟩ := h
    cases h3
    obtain ⟨hd, hq⟩ := need_ok h2 ho
    have hd := of_decide_eq_true hd
    exact ⟨Lg.of_same hq.1, hq.2, embed0 (l := []) (place_call hd.1 hd.2.1 hd.2.2.1 hd.2.2.2.1 hd.2.2.2.2.1 hd.2.2.2.2.2) (fun m hm => absurd hm (Nat.not_lt_zero _)) (by kernel_rfl) (by kernel_rfl) [] rfl (fun m o ho => by simp at ho) List.nodup_nil rfl hq.1 rfl⟩
  · cases h
def smLap (args : List V) (s : St) : Option (V × St) :=
  match args with
  | [.agg [.int .i64 _, .int .i64 _, .int .i64 _, .int .i64 n], .int .u64 x] => (need (decide (1 ≤ n ∧ n ≤ 4 ∧ 0 ≤ x ∧ x < 100000)) s).bind fun s1 => some (.int .u32 (x / n), s1)
  | _ => none
theorem smLap_sm : SmOK Go.Proofs.Tryz.prog 74 smLap := by
  refine ⟨fun args s v s' h ho => ?_, Go.Proofs.Tryz.call74⟩
  unfold smLap at h
  split at h
  · simp only [Option.bind_eq_some_iff] at h
    obtain ⟨s1, h2, h3⟩ := h
    cases h3
    obtain ⟨hd, hq⟩ := need_ok h2 ho
    have hd := of_decide_eq_true hd
    exact ⟨Lg.of_same hq.1, hq.2, embed0 (l := []) (lap_call hd.1 hd.2.1 hd.2.2.1 hd.2.2.2) (fun m hm => absurd hm (Nat.not_lt_zero _)) (by kernel_rfl) (by kernel_rfl) [] rfl (fun m o ho => by simp at ho) List.nodup_nil rfl hq.1 rfl⟩
  · cases h
def smFull (args : List V) (s : St) : Option (V × St) :=
  match args with
  | [.int .u64 w, .int .u32 l] => some (.bool (fullQ w l), s)
  | _ => none
theorem smFull_sm : SmOK Go.Proofs.Tryz.prog 73 smFull := by
  refine ⟨fun args s v s' h ho => ?_, Go.Proofs.Tryz.call73⟩
  unfold smFull at h
  split at h
  · cases h
    exact ⟨.refl _, ho, embed0 (l := []) (full_call) (fun m hm => absurd hm (Nat.not_lt_zero _)) (by kernel_rfl) (by kernel_rfl) [] rfl (fun m o ho => by simp at ho) List.nodup_nil rfl (.refl _) rfl⟩
  · cases h
def smEmpty (args : List V) (s : St) : Option (V × St) :=
  match args with
  | [.int .u64 w, .int .u32 l] => some (.bool (emptyQ w l), s)
  | _ => none
theorem smEmpty_sm : SmOK Go.Proofs.Tryz.prog 91 smEmpty := by
  refine ⟨fun args s v s' h ho => ?_, Go.Proofs.Tryz.call91⟩
  unfold smEmpty at h
  split at h
  · cases h
    exact ⟨.refl _, ho, embed0 (l := []) (empty_call) (fun m hm => absurd hm (Nat.not_lt_zero _)) (by kernel_rfl) (by kernel_rfl) [] rfl (fun m o ho => by simp at ho) List.nodup_nil rfl (.refl _) rfl⟩
  · cases h
def smValue (args : List V) (s : St) : Option (V × St) :=
  match args with
  | [.int .u64 w] => some (.int .i64 (valR w), s)
  | _ => none
theorem smValue_sm : SmOK Go.Proofs.Tryz.prog 58 smValue := by
  refine ⟨fun args s v s' h ho => ?_, Go.Proofs.Tryz.call58⟩
  unfold smValue at h
  split at h
  · cases h
    exact ⟨.refl _, ho, embed0 (l := []) (value_call) (fun m hm => absurd hm (Nat.not_lt_zero _)) (by kernel_rfl) (by kernel_rfl) [] rfl (fun m o ho => by simp at ho) List.nodup_nil rfl (.refl _) rfl⟩
  · cases h
def smOfW (args : List V) (s : St) : Option (V × St) :=
  match args with
  | [.int .u32 l] => (need (decide (0 ≤ l ∧ l < 100001)) s).bind fun s1 => some (.int .u64 (emptyW l), s1)
  | _ => none
theorem smOfW_sm : SmOK Go.Proofs.Tryz.prog 79 smOfW := by
  refine ⟨fun args s v s' h ho => ?_, Go.Proofs.Tryz.call79⟩
  unfold smOfW at h
  split at h
  · simp only [Option.bind_eq_some_iff] at h
    obtain ⟨s1, h2, h3⟩ := h
    cases h3
    obtain ⟨hd, hq⟩ := need_ok h2 ho
    have hd := of_decide_eq_true hd
    exact ⟨Lg.of_same hq.1, hq.2, embed0 (l := []) (of_call hd.1 hd.2) (fun m hm => absurd hm (Nat.not_lt_zero _)) (by kernel_rfl) (by kernel_rfl) [] rfl (fun m o ho => by simp at ho) List.nodup_nil rfl hq.1 rfl⟩
  · cases h
def smWith (args : List V) (s : St) : Option (V × St) :=
  match args with
  | [.int .u64 w, .int .i64 v] => (need (decide (0 ≤ w ∧ w < 1000000000000000 ∧ w % 4294967296 = 0 ∧ 0 ≤ v ∧ v < 65536)) s).bind fun s1 => some (.int .u64 (w + 65536 + v), s1)
  | _ => none
theorem smWith_sm : SmOK Go.Proofs.Tryz.prog 102 smWith := by
  refine ⟨fun args s v s' h ho => ?_, Go.Proofs.Tryz.call102⟩
  unfold smWith at h
  split at h
  · simp only [Option.bind_eq_some_iff] at h
    obtain ⟨s1, h2, h3⟩ := h
    cases h3
    obtain ⟨hd, hq⟩ := need_ok h2 ho
    have hd := of_decide_eq_true hd
    exact ⟨Lg.of_same hq.1, hq.2, embed0 (l := []) (with_call hd.1 hd.2.1 hd.2.2.1 hd.2.2.2.1 hd.2.2.2.2) (fun m hm => absurd hm (Nat.not_lt_zero _)) (by kernel_rfl) (by kernel_rfl) [] rfl (fun m o ho => by simp at ho) List.nodup_nil rfl hq.1 rfl⟩
  · cases h
def smBox (args : List V) (s : St) : Option (V × St) :=
  match args with
  | [.agg [.int .i64 a, .int .i64 b, .int .i64 n], .int .i64 c] => (need (decide (a = 3 ∧ b = 2 ∧ c = 1 ∧ 1 ≤ n ∧ n ≤ 3)) s).bind fun s1 => some (boxV n, s1)
  | _ => none
theorem smBox_sm : SmOK Go.Proofs.Tryz.prog 10 smBox := by
  refine ⟨fun args s v s' h ho => ?_, Go.Proofs.Tryz.call10⟩
  unfold smBox at h
  split at h
  · simp only [Option.bind_eq_some_iff] at h
    obtain ⟨s1, h2, h3⟩ := h
    cases h3
    obtain ⟨hd, hq⟩ := need_ok h2 ho
    have hd := of_decide_eq_true hd
    obtain ⟨rfl, rfl, rfl, hd3⟩ := hd
    exact ⟨Lg.of_same hq.1, hq.2, embed0 (l := []) (box_call hd3.1 hd3.2) (fun m hm => absurd hm (Nat.not_lt_zero _)) (by kernel_rfl) (by kernel_rfl) [] rfl (fun m o ho => by simp at ho) List.nodup_nil rfl hq.1 rfl⟩
  · cases h
noncomputable def smsP : List (Nat × SmF) := [(22, smPick), (57, smPlace), (74, smLap), (73, smFull), (91, smEmpty), (58, smValue), (79, smOfW), (102, smWith), (10, smBox)]
noncomputable def FP : Env := envOf tabT tabF (smOf smsP) seT imT pzT
theorem FP_ok : EnvOK Go.Proofs.Tryz.prog FP := env_ok _
theorem SP_ok : SumOK Go.Proofs.Tryz.prog FP := sumOK_of rfl ⟨smPick_sm, smPlace_sm, smLap_sm, smFull_sm, smEmpty_sm, smValue_sm, smOfW_sm, smWith_sm, smBox_sm, trivial⟩
end Go.Sx
/- Mailboxes: the places of mailCalls, its slots, its memory's frame. -/
namespace Go.Sx
set_option maxRecDepth 100000
noncomputable def mcT (k : Nat) : List Item := ((ctlN FP (exec FP 400) frMc k [.code mcBody] (Tr.ofList [.int .i64 0, .slice 0 0 1 1 1]) [] ⟨trO [some (.ro .i64 [0])], 1, [], [], []⟩).map (·.1)).getD []
noncomputable def plH : List Item := mcT 18
noncomputable def plM : List Item := mcT 32
def slH (len cap : Nat) (k : Int) : List (Option V) := [none, some (.slice 0 0 1 len cap), none, none, none, none, none, some (.ptr 1 0 0 0), some (.osl 13 10), some (.osl 12 1), some (.int .i64 k)] ++ List.replicate 229 none
def slM (len cap : Nat) (k n : Int) : List (Option V) := [none, some (.slice 0 0 1 len cap), none, none, none, none, none, some (.ptr 1 0 0 0), some (.osl 13 10), some (.osl 12 1), some (.int .i64 k), some (.int .i64 n)] ++ List.replicate 228 none
def isAct : PO → Bool
  | .act .. => true
  | _ => false
def isSome : PO → Bool
  | .none => false
  | _ => true
def isPart : DO → Bool
  | .front .. => true
  | .drop .. => true
  | _ => false
def isD : DO → Bool
  | .none => false
  | _ => true
def isT : DO → Bool
  | .endT _ => true
  | _ => false
def pA (σ : MS) (m : Nat) : Bool := match m with
  | 0 | 1 | 2 | 3 | 4 | 5 | 6 | 7 | 8 | 9 | 10 | 11 | 12 | 13 => true
  | 14 => isSome σ.p0
  | 15 => isAct σ.p0
  | 16 => isSome σ.p1
  | 17 => isAct σ.p1
  | 18 => isD σ.d
  | 19 => isPart σ.d
  | 20 => isT σ.d
  | _ => false
theorem pA_live (zs : List Int) (σ : MS) (n0 : Nat) (m : Nat) (h : pA σ m = true) : m < (lM zs σ).length ∧ (m < n0 ∨ ∃ o, ((lM zs σ)[m]?).join = some o) := by
  obtain ⟨n, j, ws, o0, o1, o2, cl, p0, p1, d⟩ := σ
  match m, h with
  | 0, _ | 1, _ | 2, _ | 3, _ | 4, _ | 5, _ | 6, _ | 7, _ | 8, _ | 9, _ | 10, _ | 11, _ | 12, _ | 13, _ => exact ⟨by simp [lM, lrAt], .inr ⟨_, rfl⟩⟩
  | 14, h | 15, h => cases p0 <;> first | exact ⟨by simp [lM, lrAt], .inr ⟨_, rfl⟩⟩ | cases h
  | 16, h | 17, h => cases p1 <;> first | exact ⟨by simp [lM, lrAt], .inr ⟨_, rfl⟩⟩ | cases h
  | 18, h | 19, h | 20, h => cases d <;> first | exact ⟨by simp [lM, lrAt], .inr ⟨_, rfl⟩⟩ | cases h
  | m + 21, h => cases h
theorem pA_old {σ : MS} {n0 : Nat} (h : n0 = 1) (m : Nat) (hm : m < n0) : pA σ m = true := by
  subst h
  match m, hm with
  | 0, _ => rfl
theorem obsA (zs : List Int) (σ : MS) : obsOK (pA σ) 0 (lM zs σ) = true := by
  obtain ⟨n, j, ws, o0, o1, o2, cl, p0, p1, d⟩ := σ
  cases p0 <;> cases p1 <;> cases d <;> rfl
def id21 : List Nat := [0, 1, 2, 3, 4, 5, 6, 7, 8, 9, 10, 11, 12, 13, 14, 15, 16, 17, 18, 19, 20]
theorem renA (zs : List Int) (σ : MS) : (lM zs σ).map (Option.map (Ob.ren (πf id21))) = lM zs σ := by
  obtain ⟨n, j, ws, o0, o1, o2, cl, p0, p1, d⟩ := σ
  cases p0 <;> cases p1 <;> cases d <;> rfl
/-- A piece of mailCalls' way. -/
def PlPc (todo : List Item) (sl : List (Option V)) (todo1 : List Item) (sl1 : List (Option V)) (σ σ' : MS) : Prop :=
  ∀ {β : Base} {kind : CallKind} {cs : List Frame} {J : Nat → V} {A : Cf} {zs : List Int}, β.n0 = 1 → Asrt β frMc (trO (slots J 0 sl)) [] (hO (lM zs σ)) 21 far A →
    ∃ J' b', Asrt β frMc (trO (slots J' 0 sl1)) [] (hO (lM zs σ')) 21 far b' ∧ Steps Go.Proofs.Tryz.prog (At frMc none kind cs A todo) (At frMc none kind cs b' todo1)
/-- A piece of its way, at these numbers. -/
def PlPz (zs : List Int) (todo : List Item) (sl : List (Option V)) (todo1 : List Item) (sl1 : List (Option V)) (σ σ' : MS) : Prop :=
  ∀ {β : Base} {kind : CallKind} {cs : List Frame} {J : Nat → V} {A : Cf}, β.n0 = 1 → Asrt β frMc (trO (slots J 0 sl)) [] (hO (lM zs σ)) 21 far A →
    ∃ J' b', Asrt β frMc (trO (slots J' 0 sl1)) [] (hO (lM zs σ')) 21 far b' ∧ Steps Go.Proofs.Tryz.prog (At frMc none kind cs A todo) (At frMc none kind cs b' todo1)
theorem PlPc.z {zs : List Int} {t t1 : List Item} {s s1 : List (Option V)} {σ σ' : MS} (h : PlPc t s t1 s1 σ σ') : PlPz zs t s t1 s1 σ σ' := fun hβ hA => h hβ hA
theorem PlPz.trans {zs : List Int} {t t1 t2 : List Item} {s s1 s2 : List (Option V)} {σ σ' σ'' : MS} (h : PlPz zs t s t1 s1 σ σ') (h' : PlPz zs t1 s1 t2 s2 σ' σ'') : PlPz zs t s t2 s2 σ σ'' := fun hβ hA => by
  obtain ⟨J1, b1, g1, g2⟩ := h hβ hA
  obtain ⟨J2, b2, g3, g4⟩ := h' hβ g1
  exact ⟨J2, b2, g3, g2.trans g4⟩
theorem PlPz.refl {zs : List Int} {t : List Item} {s : List (Option V)} {σ : MS} : PlPz zs t s t s σ σ := fun {β kind cs J A} _ hA => ⟨J, A, hA, .refl _ _⟩
/-- An act of one of them. -/
def Stp (n : Int) (len : Nat) (k : Int) (σ σ' : MS) : Prop := ∀ cap, PlPc plM (slM len cap k n) plH (slH len cap (IntKind.i64.wrap (k + 1))) σ σ'
end Go.Sx
