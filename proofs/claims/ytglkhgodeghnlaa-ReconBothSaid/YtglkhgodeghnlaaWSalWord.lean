/- What the leaves compute: varints, words, as plain lists. No program in sight. -/
import Derived.Test.YtglkhgodeghnlaaWVseDefs
namespace Go.Sal
open Go.Vse
abbrev B8 := BitVec 8
abbrev Bytes := List (BitVec 8)

def iter {α : Type} (f : α → Nat → α) : Nat → α → α
 | 0, a => a
 | n + 1, a => f (iter f n a) n

def varintN (n : Nat) : Bytes := if n < 128 then [BitVec.ofNat 8 n] else BitVec.ofNat 8 (n % 128 + 128) :: varintN (n / 128)
termination_by n
decreasing_by omega

end Go.Sal
