/- Messages, as plain data. No program in sight. -/
import Derived.Test.YtogjeflhlnnbdaaQSalPar3
import Derived.Test.YtogjeflhlnnbdaaQSalChk
set_option maxRecDepth 100000
namespace Go.Sal
open Go.Vse
abbrev T_Msg : T := .pair .i64 (.pair T_Head (.pair .i64 (.pair T_Dig (.pair T_Rec (.pair (.slc T_Dig) (.slc .u8))))))
abbrev Msg := T_Msg.den
def msg0 : Msg := (0, head0, 0, zero32, rec0, [], [])
/-- by kinds: a head (1, 9), an ask, a chain, a cut, a put, wants (6, 10), a chunk, a gone one -/
def sel {α : Type} (k : Int) (h a c t p w ch g d : α) : α :=
  if k = 1 then h else if k = 9 then h else if k = 2 then a else if k = 3 then c else if k = 4 then t else if k = 5 then p else if k = 6 then w else if k = 10 then w else if k = 7 then ch else if k = 8 then g else d
def cmpV : Bytes → Bytes → Int
  | [], [] => 0
  | [], _ :: _ => -1
  | _ :: _, [] => 1
  | a :: r, b :: s => if a.toNat < b.toNat then -1 else if b.toNat < a.toNat then 1 else cmpV r s
def ascB (l : List DigP) (i : Nat) : Bool := decide (cmpV (l.getD i T_Dig.dflt) (l.getD (i + 1) T_Dig.dflt) < 0)
def ascV (l : List DigP) : Bool := (List.range (l.length - 1)).all (ascB l)
def rowV (l : List DigP) : Bool := decide (1 ≤ l.length) && decide (l.length ≤ 64) && ascV l
def seqV (n least : Int) : Bool := decide (least ≤ n) && decide (n ≤ 1073741824)
def onlyV (m : Msg) : Msg := sel m.1 (m.1, m.2.1, 0, zero32, rec0, [], []) (m.1, head0, m.2.2.1, zero32, rec0, [], []) (m.1, head0, m.2.2.1, m.2.2.2.1, rec0, [], []) (m.1, head0, m.2.2.1, m.2.2.2.1, rec0, [], [])
  (m.1, head0, 0, zero32, m.2.2.2.2.1, [], []) (m.1, head0, 0, zero32, rec0, m.2.2.2.2.2.1, []) (m.1, head0, 0, zero32, rec0, [], m.2.2.2.2.2.2) (m.1, head0, 0, m.2.2.2.1, rec0, [], []) (m.1, head0, 0, zero32, rec0, [], [])
def chunkV (b : Bytes) : Bool := decide (1 ≤ b.length) && decide (b.length ≤ 4096)
def cutOk (m : Msg) : Bool := seqV m.2.2.1 0 && (decide (0 < m.2.2.1) || (m.2.2.2.1 == zero32))
def okMsg (m : Msg) : Bool := sel m.1 (isHeadV m.2.1) (seqV m.2.2.1 1) (seqV m.2.2.1 1) (cutOk m) (decide (checkV m.2.2.2.2.1 = 0)) (rowV m.2.2.2.2.2.1) (chunkV m.2.2.2.2.2.2) true false
def sameHead (a b : HeadT) : Bool := decide (a.1 = b.1) && decide (a.2.1 = b.2.1) && (a.2.2 == b.2.2)
def sameDg (a b : List DigP) : Bool := decide (a = b)
def sameM (s t : Msg) : Bool := decide (s.1 = t.1) && sameHead s.2.1 t.2.1 && decide (s.2.2.1 = t.2.2.1) && (s.2.2.2.1 == t.2.2.2.1) && sameV s.2.2.2.2.1 t.2.2.2.2.1 && sameDg s.2.2.2.2.2.1 t.2.2.2.2.2.1 && (s.2.2.2.2.2.2 == t.2.2.2.2.2.2)
def checkM (m : Msg) : Int := if okMsg m = true ∧ sameM (onlyV m) m = true then 0 else 200
def tailM (m : Msg) : Bytes := sel m.1 (varintN m.2.1.1.toNat ++ varintN m.2.1.2.1.toNat ++ m.2.1.2.2) (varintN m.2.2.1.toNat) (varintN m.2.2.1.toNat ++ m.2.2.2.1) (varintN m.2.2.1.toNat ++ m.2.2.2.1)
  (bytesV m.2.2.2.2.1).1 (BitVec.ofInt 8 (m.2.2.2.2.2.1.length : Int) :: m.2.2.2.2.2.1.flatten) m.2.2.2.2.2.2 m.2.2.2.1 []
def encM (m : Msg) : Bytes := BitVec.ofInt 8 m.1 :: tailM m
def bytesM (m : Msg) : Bytes × Int := if checkM m = 0 then (encM m, 0) else ([], 200)
-- parsing
def numV (s : Bytes) : Int := bif okNum s then valNum s else -1
def numR (s : Bytes) : Bytes := bif okNum s then offNum s else []
def digsV (b : Bytes) : List DigP := (List.range (b.length / 32)).map fun i => (b.drop (32 * i)).take 32
def fstDig (b : Bytes) : DigP := bif decide (32 ≤ b.length) then b.take 32 else zero32
def kindM (b : Bytes) : Int := ((b.getD 0 0#8).toNat : Int)
def parseX (b : Bytes) : Msg := sel (kindM b) (kindM b, (numV (b.drop 1), numV (numR (b.drop 1)), fstDig (numR (numR (b.drop 1)))), 0, zero32, rec0, [], []) (kindM b, head0, numV (b.drop 1), zero32, rec0, [], [])
  (kindM b, head0, numV (b.drop 1), fstDig (numR (b.drop 1)), rec0, [], []) (kindM b, head0, numV (b.drop 1), fstDig (numR (b.drop 1)), rec0, [], []) (kindM b, head0, 0, zero32, (parseV (b.drop 1)).1, [], [])
  (kindM b, head0, 0, zero32, rec0, digsV (b.drop 2), []) (kindM b, head0, 0, zero32, rec0, [], b.drop 1) (kindM b, head0, 0, fstDig (b.drop 1), rec0, [], []) (kindM b, head0, 0, zero32, rec0, [], [])
def parseMs (b : Bytes) : Msg × Int := if 2 ≤ b.length ∧ bytesM (parseX b) = (b, 0) then (parseX b, 0) else (msg0, 200)
end Go.Sal
