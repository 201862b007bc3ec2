/- An arena's crew: its memory. -/
import Derived.Test.YtgldnjmnoemccaaGreatSxTabZ
import Derived.Test.YtgldnjmnoemccaaGreatSxLib
namespace Go.Sx
set_option maxRecDepth 100000
noncomputable def F0 : Env := envOf tabT tabF (fun _ => none) seT
theorem F0_ok : EnvOK Go.Proofs.Tryz.prog F0 := env_ok _
theorem S0_ok : SumOK Go.Proofs.Tryz.prog F0 := fun f F h => by cases h
def rowI (ws : List Int) : Ob := .mem (.words .i64 ws) 3 (some 1)
def rowU (ws : List Int) : Ob := .mem (.words .u64 ws) 63 (some 1)
def shSpan : List Sh := [.int .i64, .int .i64, .int .i64, .int .i64, .int .i64, .int .i64, .int .u64, .int .i64, .int .i64, .int .u64]
def callsOb (cl : List (List Int)) : Ob := .mem (.rows shSpan cl) 69 (some 10)
/-- A memory's struct: its last access, how many there were. -/
structure MJ where
  a : Int
  b : Int
  c : Int
  d : Int
  e : Bool
  g : Int
/-- What a core is within: nothing; an Alloc; a Free: its next step, the stack's operation. -/
inductive CO where
  | idle
  | al (f : Nat) (i r e w p q : Int) (d : Bool) (k : Int) (h : Nat)
  | fr (f : Nat) (i r e w p q : Int) (d : Bool) (k : Int) (h : Nat)
/-- A crew. -/
structure AS where
  n : Int
  j : MJ
  ws : List Int
  hd : List Int
  b0 : Int
  b1 : Int
  b2 : Int
  o0 : Int
  o1 : Int
  o2 : Int
  cl : List (List Int)
  x0 : CO
  x1 : CO
  x2 : CO
  ck : Int
def alV (k : Nat) : CO → V
  | .al .. => .ptr k 0 0 0
  | _ => .nilp
def frV (k : Nat) : CO → V
  | .fr .. => .ptr k 0 0 0
  | _ => .nilp
def busyB : CO → Bool
  | .idle => false
  | _ => true
def opOb (n : Int) (k : Nat) : CO → Option Ob
  | .idle => none
  | .al f i r e _ _ _ _ _ _ => some (.mem (.cells [.ptr k 0 0 0, .int .i64 0, .int .i64 1, .int .i64 n, .int .i64 (1 + n), .int .i64 (1 + 2 * n), .int .i64 1000, .bool true, .fn f [] [], .int .i64 i, .int .u64 r, .int .i64 e]) 122 none)
  | .fr f i r e _ _ _ _ _ _ => some (.mem (.cells [.ptr k 0 0 0, .int .i64 0, .int .i64 1, .int .i64 n, .int .i64 (1 + n), .int .i64 (1 + 2 * n), .int .i64 1000, .bool true, .fn f [] [], .int .i64 i, .int .u64 r, .int .i64 e]) 74 none)
def inOb (n : Int) : CO → Option Ob
  | .idle => none
  | .al _ _ _ _ w p q d k h => some (.mem (.cells [.int .i64 0, .int .i64 1, .int .i64 n, .int .u64 w, .int .i64 p, .int .i64 q, .bool true, .bool d, .int .i64 k, .fn h [] []]) 150 none)
  | .fr _ _ _ _ w p q d k h => some (.mem (.cells [.int .i64 0, .int .i64 1, .int .i64 n, .int .u64 w, .int .i64 p, .int .i64 q, .bool true, .bool d, .int .i64 k, .fn h [] []]) 115 none)
def memA (blk : Nat) (n : Int) (j : MJ) : Ob := .mem (.cells [.ptr blk 0 0 0, .int .i64 n, .int .i64 j.a, .int .i64 j.b, .int .u64 j.c, .int .u64 j.d, .bool j.e, .int .i64 j.g]) 95 none
def wordsA (ws : List Int) : Ob := .mem (.words .u64 ws) 91 none
def crewOb (σ : AS) : Ob := .mem (.cells [.int .i64 0, .int .i64 1, .int .i64 σ.n, .int .i64 (1 + σ.n), .int .i64 (1 + 2 * σ.n), .int .i64 1000, .ptr 2 0 0 0, .osl 4 1, .osl 5 1, .osl 8 1, .osl 6 1, .osl 9 10, .osl 7 1, .int .i64 σ.ck]) 38 none
def lA (zs : List Int) (σ : AS) : List (Option Ob) := [some (.ro .i64 zs), some (crewOb σ), some (memA 3 (2 + 2 * σ.n) σ.j), some (wordsA σ.ws),
  some (.mem (.cells [alV 10 σ.x0, alV 12 σ.x1, alV 14 σ.x2]) 77 (some 1)), some (.mem (.cells [frV 10 σ.x0, frV 12 σ.x1, frV 14 σ.x2]) 44 (some 1)),
  some (rowU [σ.b0, σ.b1, σ.b2]), some (rowI [σ.o0, σ.o1, σ.o2]), some (rowU σ.hd), some (callsOb σ.cl),
  opOb σ.n 11 σ.x0, inOb σ.n σ.x0, opOb σ.n 13 σ.x1, inOb σ.n σ.x1, opOb σ.n 15 σ.x2, inOb σ.n σ.x2]
def rs (cl : List (List Int)) (k f : Nat) (x : Int) : List (List Int) := cl.set k (rowSet (cl.getD k []) f x)
def hiOK (hz : Option Int) (h len : Nat) : Bool := decide ((∀ z ∈ hz, 0 ≤ z) ∧ h ≤ len)
def pickF (x k : Int) : Int := if x.tmod k < 0 then IntKind.i64.wrap (x.tmod k + k) else x.tmod k
theorem pick_call (x k : Int) (h : 0 < k) : CallH Go.Proofs.Tryz.prog 6 [.int .i64 x, .int .i64 k] 0 (hO []) (.int .i64 (pickF x k)) 0 (hO []) := by
  have h0 : ¬ k = 0 := by omega
  have h1 : ¬ k ≤ 0 := by omega
  by_cases h2 : x.tmod k < 0
  · have e : pickF x k = IntKind.i64.wrap (x.tmod k + k) := by simp only [pickF, if_pos h2]
    rw [e]
    exact callH_eval (n := 400) (l := []) (l' := []) (orc := bits 3 0b011) (πl := []) (nx' := 0) (B := allB [decide (x.tmod k < 0), !(k == 0), !(decide (k ≤ 0))]) F0_ok S0_ok (by kernel_rfl) (by simp only [allB, decide_eq_true h2, decide_eq_false h1, beq_eq_false_iff_ne.2 h0]; rfl) rfl (by kernel_rfl) (by kernel_rfl) (by kernel_rfl) (by kernel_rfl)
  · have e : pickF x k = x.tmod k := by simp only [pickF, if_neg h2]
    rw [e]
    exact callH_eval (n := 400) (l := []) (l' := []) (orc := bits 3 0b010) (πl := []) (nx' := 0) (B := allB [!(decide (x.tmod k < 0)), !(k == 0), !(decide (k ≤ 0))]) F0_ok S0_ok (by kernel_rfl) (by simp only [allB, decide_eq_false h2, decide_eq_false h1, beq_eq_false_iff_ne.2 h0]; rfl) rfl (by kernel_rfl) (by kernel_rfl) (by kernel_rfl) (by kernel_rfl)
/-- The number chosen. -/
def smPick (args : List V) (s : St) : Option (V × St) :=
  match args with
  | [.int .i64 x, .int .i64 k] => (need (decide (0 < k)) s).bind fun s1 => some (.int .i64 (pickF x k), s1)
  | _ => none
theorem smPick_sm : SmOK Go.Proofs.Tryz.prog 6 smPick := by
  refine ⟨fun args s v s' h ho => ?_, Go.Proofs.Tryz.call6⟩
  unfold smPick at h
  split at h
  · rename_i x k
    simp only [Option.bind_eq_some_iff] at h
    obtain ⟨s1, h2, h3⟩ := h
    cases h3
    obtain ⟨hd, hq⟩ := need_ok h2 ho
    have hd := of_decide_eq_true hd
    refine ⟨Lg.of_same hq.1, hq.2, ?_⟩
    exact embed0 (l := []) (pick_call x k hd) (fun m hm => absurd hm (Nat.not_lt_zero _)) (by kernel_rfl) (by kernel_rfl) [] rfl (fun m o ho => by simp at ho) List.nodup_nil rfl hq.1 rfl
  · cases h
abbrev frPl : Frs := ⟨7, none, 80⟩
noncomputable def plBody : Code := bodyOf Go.Proofs.Tryz.f7
end Go.Sx
