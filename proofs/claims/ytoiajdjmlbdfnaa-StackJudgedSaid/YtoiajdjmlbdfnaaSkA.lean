/- Words: what a memory of twenty cells tells. -/
import Derived.Test.YtoiajdjmlbdfnaaSxTab
import Derived.Test.YtoiajdjmlbdfnaaSxZ
import Derived.KernelRfl
namespace Go.Sx
set_option maxRecDepth 100000
noncomputable def E0 : Env := envOf tabT tabF (fun _ => none)
theorem E0_ok : EnvOK Go.Proofs.Try.prog E0 := env_ok _
theorem S0_ok : SumOK Go.Proofs.Try.prog E0 := fun f F h => by cases h

/-- A memory: its struct and its cells. -/
structure MJ where
  a : Int
  b : Int
  c : Int
  d : Int
  e : Bool
  g : Int
def memS (blk : Nat) (j : MJ) : Ob := .mem (.cells [.ptr blk 0 0 0, .int .i64 20, .int .i64 j.a, .int .i64 j.b, .int .u64 j.c, .int .u64 j.d, .bool j.e, .int .i64 j.g]) 106 none
def wordsOb (ws : List Int) : Ob := .mem (.words .u64 ws) 102 none

theorem words_run (j : MJ) (w0 w1 w2 w3 w4 w5 w6 w7 w8 w9 w10 w11 w12 w13 w14 w15 w16 w17 w18 w19 : Int) (rest : List Int) : CallH Go.Proofs.Try.prog 49 [.ptr 0 0 0 0] 2 (hO [some (memS 1 j), some (wordsOb (w0 :: w1 :: w2 :: w3 :: w4 :: w5 :: w6 :: w7 :: w8 :: w9 :: w10 :: w11 :: w12 :: w13 :: w14 :: w15 :: w16 :: w17 :: w18 :: w19 :: rest))]) (.osl 2 1) 3 (hO [some (memS 1 j), some (wordsOb (w0 :: w1 :: w2 :: w3 :: w4 :: w5 :: w6 :: w7 :: w8 :: w9 :: w10 :: w11 :: w12 :: w13 :: w14 :: w15 :: w16 :: w17 :: w18 :: w19 :: rest)), some (.mem (.words .u64 [w0, w1, w2, w3, w4, w5, w6, w7, w8, w9, w10, w11, w12, w13, w14, w15, w16, w17, w18, w19]) 60 (some 1))]) :=
  callH_eval (n := 400) (orc := []) (πl := [0, 1, 2]) (nx' := 3) (B := true) (l := [some (memS 1 j), some (wordsOb (w0 :: w1 :: w2 :: w3 :: w4 :: w5 :: w6 :: w7 :: w8 :: w9 :: w10 :: w11 :: w12 :: w13 :: w14 :: w15 :: w16 :: w17 :: w18 :: w19 :: rest))]) (l' := [some (memS 1 j), some (wordsOb (w0 :: w1 :: w2 :: w3 :: w4 :: w5 :: w6 :: w7 :: w8 :: w9 :: w10 :: w11 :: w12 :: w13 :: w14 :: w15 :: w16 :: w17 :: w18 :: w19 :: rest)), some (.mem (.words .u64 [w0, w1, w2, w3, w4, w5, w6, w7, w8, w9, w10, w11, w12, w13, w14, w15, w16, w17, w18, w19]) 60 (some 1))]) E0_ok S0_ok
    (by kernel_rfl) rfl (by kernel_rfl) (by kernel_rfl) (by kernel_rfl) (by kernel_rfl) (by kernel_rfl)
end Go.Sx
