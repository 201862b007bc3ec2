/- The words of a stack, as the program reads and writes them. -/
import Derived.Test.YtoiajdjmlbdfnaaSkB
namespace Go.Sx
def bits : Nat → Nat → List (Nat × Bool)
  | 0, _ => []
  | k + 1, n => (0, Nat.testBit n k) :: bits k n
def hiOK (hz : Option Int) (h len : Nat) : Bool := decide ((∀ z ∈ hz, 0 ≤ z) ∧ h ≤ len)
/-- The index, and the tag that comes next, of a word, as the program reads them. -/
def rawG (w : Int) : Int := IntKind.i64.wrap (IntKind.i64.wrap (IntKind.u64.wrap ((BitVec.ofInt IntKind.u64.bits (w.fdiv (2 ^ min (Int.toNat 0) IntKind.u64.bits)) &&& BitVec.ofInt IntKind.u64.bits (IntKind.u64.wrap (IntKind.u64.wrap (1 * 2 ^ min (Int.toNat 16) IntKind.u64.bits) - 1))).toNat : Int)) - 1)
def putG (x t : Int) : Int := IntKind.u64.wrap ((BitVec.ofInt IntKind.u64.bits (IntKind.u64.wrap ((BitVec.ofInt IntKind.u64.bits 0 ||| BitVec.ofInt IntKind.u64.bits (IntKind.u64.wrap (IntKind.u64.wrap (IntKind.i64.wrap (x + 1)) * 2 ^ min (Int.toNat 0) IntKind.u64.bits))).toNat : Int)) ||| BitVec.ofInt IntKind.u64.bits (IntKind.u64.wrap (IntKind.u64.wrap t * 2 ^ min (Int.toNat 16) IntKind.u64.bits))).toNat : Int)
def tagN (w : Int) : Int := IntKind.i64.wrap ((BitVec.ofInt IntKind.i64.bits (IntKind.i64.wrap (IntKind.i64.wrap (IntKind.u64.wrap ((BitVec.ofInt IntKind.u64.bits (w.fdiv (2 ^ min (Int.toNat 16) IntKind.u64.bits)) &&& BitVec.ofInt IntKind.u64.bits (IntKind.u64.wrap (IntKind.u64.wrap (1 * 2 ^ min (Int.toNat 48) IntKind.u64.bits) - 1))).toNat : Int)) + 1)) &&& BitVec.ofInt IntKind.i64.bits 281474976710655).toNat : Int)
end Go.Sx
