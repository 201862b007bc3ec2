/- A crew over a ring: its memory. -/
import Derived.Test.YtgldnjmnoemccaaSrO9
namespace Go.Sx
set_option maxRecDepth 100000
/-- A memory's struct: its last access, how many there were. -/
structure MJ where
  a : Int
  b : Int
  c : Int
  d : Int
  e : Bool
  g : Int
/-- A Push: none; ended; its next step. -/
inductive PO where
  | none
  | ended (e v t w : Int)
  | act (f : Nat) (e v t w : Int)
inductive FO where
  | none
  | ended (e h v : Int)
  | act (f : Nat) (e h v : Int)
inductive DO where
  | none
  | ended (e h : Int)
  | act (f : Nat) (e h : Int)
/-- A crew. -/
structure RS where
  n : Int
  j : MJ
  ws : List Int
  v0 : Int
  v1 : Int
  h0 : Int
  h1 : Int
  o0 : Int
  o1 : Int
  o2 : Int
  q : List Int
  cl : List (List Int)
  p0 : PO
  p1 : PO
  fo : FO
  dr : DO
  nx : Bool
  ck : Int
  pu : Int
def poV (k : Nat) : PO → V
  | .none => .nilp
  | _ => .ptr k 0 0 0
def foV (k : Nat) : FO → V
  | .none => .nilp
  | _ => .ptr k 0 0 0
def doV (k : Nat) : DO → V
  | .none => .nilp
  | _ => .ptr k 0 0 0
def ghostOb : Ob := .mem (.words .i64 []) 3 (some 1)
def poOb (n : Int) (k : Nat) : PO → Ob
  | .none => ghostOb
  | .ended e v t w => .mem (.cells [.int .i64 0, .int .i64 1, .int .i64 2, .int .i64 n, .nilf, .bool true, .int .i64 e, .int .i64 v, .int .u64 t, .int .u64 w]) 88 none
  | .act f e v t w => .mem (.cells [.int .i64 0, .int .i64 1, .int .i64 2, .int .i64 n, .fn f [.ptr k 0 0 0] [], .bool true, .int .i64 e, .int .i64 v, .int .u64 t, .int .u64 w]) 88 none
def foOb (n : Int) (k : Nat) : FO → Ob
  | .none => ghostOb
  | .ended e h v => .mem (.cells [.int .i64 0, .int .i64 1, .int .i64 2, .int .i64 n, .nilf, .bool true, .int .i64 e, .int .u64 h, .int .i64 v]) 107 none
  | .act f e h v => .mem (.cells [.int .i64 0, .int .i64 1, .int .i64 2, .int .i64 n, .fn f [.ptr k 0 0 0] [], .bool true, .int .i64 e, .int .u64 h, .int .i64 v]) 107 none
def doOb (n : Int) (k : Nat) : DO → Ob
  | .none => ghostOb
  | .ended e h => .mem (.cells [.int .i64 0, .int .i64 1, .int .i64 2, .int .i64 n, .nilf, .bool true, .int .i64 e, .int .u64 h]) 126 none
  | .act f e h => .mem (.cells [.int .i64 0, .int .i64 1, .int .i64 2, .int .i64 n, .fn f [.ptr k 0 0 0] [], .bool true, .int .i64 e, .int .u64 h]) 126 none
def memR (blk : Nat) (n : Int) (j : MJ) : Ob := .mem (.cells [.ptr blk 0 0 0, .int .i64 n, .int .i64 j.a, .int .i64 j.b, .int .u64 j.c, .int .u64 j.d, .bool j.e, .int .i64 j.g]) 113 none
def wordsR (ws : List Int) : Ob := .mem (.words .u64 ws) 111 none
def crewOb (σ : RS) : Ob := .mem (.cells [.int .i64 0, .int .i64 1, .int .i64 2, .int .i64 σ.n, .ptr 2 0 0 0, .osl 4 1, .osl 5 1, foV 12 σ.fo, doV 13 σ.dr, .bool σ.nx, .osl 8 1, .osl 6 1, .int .i64 0, .int .i64 0, .osl 9 10, .osl 7 1, .int .i64 σ.ck, .int .i64 σ.pu]) 38 none
def pushRow (σ : RS) : Ob := .mem (.cells [poV 10 σ.p0, poV 11 σ.p1]) 44 (some 1)
def heardOb (σ : RS) : Ob := .mem (.words .i64 [σ.h0, σ.h1]) 35 (some 1)
def lR (zs : List Int) (σ : RS) : List (Option Ob) := [some (.ro .i64 zs), some (crewOb σ), some (memR 3 (2 + σ.n) σ.j), some (wordsR σ.ws), some (pushRow σ), some (rowI [σ.v0, σ.v1]), some (heardOb σ), some (rowI [σ.o0, σ.o1, σ.o2]), some (rowI σ.q), some (callsOb σ.cl), some (poOb σ.n 10 σ.p0), some (poOb σ.n 11 σ.p1), some (foOb σ.n 12 σ.fo), some (doOb σ.n 13 σ.dr)]
abbrev frPl : Frs := ⟨7, none, 59⟩
noncomputable def plBody : Code := bodyOf Go.Proofs.Try.f7
end Go.Sx
