/- Digests in order; the reference's messages, as plain data. No program in sight. -/
import Derived.Test.YtogjeflhlnnbdaaQSalMsg
set_option maxRecDepth 100000
namespace Go.Sal
open Go.Vse
abbrev dig0 : DigP := T_Dig.dflt
/-- of the first i the least one's place, the first of those -/
def minTo (l : List DigP) : Nat → Nat
  | 0 => 0
  | i + 1 => if lessL (l.getD i dig0) (l.getD (minTo l i) dig0) = true then i else minTo l i
def minIx (l : List DigP) : Nat := minTo l l.length
def remV (l : List DigP) : List DigP := l.take (minIx l) ++ l.drop (minIx l + 1)
def restI (l : List DigP) : Nat → List DigP
  | 0 => l
  | j + 1 => remV (restI l j)
def outI (l : List DigP) (j : Nat) : List DigP := (List.range j).map fun i => (restI l i).getD (minIx (restI l i)) dig0
def sortV (l : List DigP) : List DigP := outI l l.length
def keepB (l : List DigP) (i : Nat) : Bool := decide (i = 0) || !(l.getD i dig0 == l.getD (i - 1) dig0)
def onceI (l : List DigP) (i : Nat) : List DigP := ((List.range i).filter (keepB l)).map fun k => l.getD k dig0
def onceV (l : List DigP) : List DigP := onceI l l.length
def risV (l : List DigP) : List DigP := onceV (sortV l)
def rrowV (l : List DigP) : Bool := decide (1 ≤ l.length) && decide (l.length ≤ 64) && decide (risV l = l)
-- the reference's reading
def dgtI (b : Bytes) (p i : Nat) : DigP := (List.range 32).map fun k => if k < i then b.getD (p + k) 0#8 else 0#8
def dgtR (b : Bytes) (p : Int) : DigP := dgtI b p.toNat 32
def nokR (b : Bytes) (p : Int) : Bool := decide (p ≤ (b.length : Int)) && okNum (b.drop p.toNat)
def nvalR (b : Bytes) (p : Int) : Int := bif nokR b p then valNum (b.drop p.toNat) else 0
def natR (b : Bytes) (p : Int) : Int := bif nokR b p then p + ((readN (b.drop p.toNat) 0 0).2.1 : Int) else p
def dgsI (b : Bytes) (i : Nat) : List DigP := (List.range i).map fun k => dgtR b (2 + 32 * Int.ofNat k)
def dgsN (b : Bytes) : Nat := min 65 ((b.length - 2 + 31) / 32)
def parseXR (b : Bytes) : Msg := sel (kindM b) (kindM b, (nvalR b 1, nvalR b (natR b 1), dgtR b (natR b (natR b 1))), 0, zero32, rec0, [], []) (kindM b, head0, nvalR b 1, zero32, rec0, [], [])
  (kindM b, head0, nvalR b 1, dgtR b (natR b 1), rec0, [], []) (kindM b, head0, nvalR b 1, dgtR b (natR b 1), rec0, [], []) (kindM b, head0, 0, zero32, (parseR (b.drop 1)).1, [], [])
  (kindM b, head0, 0, zero32, rec0, dgsI b (dgsN b), []) (kindM b, head0, 0, zero32, rec0, [], b.drop 1) (kindM b, head0, 0, dgtR b 1, rec0, [], []) (kindM b, head0, 0, zero32, rec0, [], [])
def parseMR (b : Bytes) : Msg × Int := if 1 ≤ b.length ∧ b.length ≤ 524288 ∧ bytesM (parseXR b) = (b, 0) then (parseXR b, 0) else (msg0, 200)
end Go.Sal
