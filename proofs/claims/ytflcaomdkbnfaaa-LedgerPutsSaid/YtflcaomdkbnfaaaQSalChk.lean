/- Checkpoints, as plain data. No program in sight. -/
import Derived.Test.YtflcaomdkbnfaaaQSalMac
namespace Go.Sal
open Go.Vse
abbrev T_Mark : T := .pair .i64 (.pair .i64 (.pair .i64 (.pair T_Dig T_Dig)))
abbrev T_Fin : T := .pair .i64 (.pair .i64 .i64)
abbrev Mark := T_Mark.den
abbrev Fin3 := T_Fin.den
def headM (m : Mark) : HeadT := (m.2.1, m.2.2.1, m.2.2.2.1)
def isHeadV (h : HeadT) : Bool := decide (h = head0) || decide ((1 : Int) ≤ h.1 ∧ h.1 ≤ 1073741824 ∧ (1 : Int) ≤ h.2.1 ∧ h.2.1 ≤ 1073741824)
def mayV (m : Mark) : Bool := (decide (m.1 = 0) || decide (m.1 = 1)) && isHeadV (headM m)
def markKey : Bytes := [109#8, 97#8, 114#8, 107#8]
def mbodyV (m : Mark) : Bytes := [77#8, BitVec.ofInt 8 m.1] ++ varintN m.2.1.toNat ++ varintN m.2.2.1.toNat ++ m.2.2.2.1
def sealV (key : Bytes) (m : Mark) : Bytes := macV (deriveV key markKey (BitVec.ofInt 64 m.1)) (mbodyV m)
def sealedV (key : Bytes) (m : Mark) : Bool := mayV m && alikeV m.2.2.2.2 (sealV key m)
def mark0 : Mark := (0, 0, 0, zero32, zero32)
def withMac (m : Mark) (d : Bytes) : Mark := (m.1, m.2.1, m.2.2.1, m.2.2.2.1, d)
def markOf (site : Int) (h : HeadT) : Mark := (site, h.1, h.2.1, h.2.2, zero32)
def mkV (key : Bytes) (site : Int) (h : HeadT) : Mark × Int := if mayV (markOf site h) = true then (withMac (markOf site h) (sealV key (markOf site h)), 0) else (mark0, 160)
def mbytesV (m : Mark) : Bytes × Int := if mayV m = true then (mbodyV m ++ m.2.2.2.2, 0) else ([], 160)
def mcheckV (m : Mark) : Int := if mayV m = true then 0 else 160
/-- the number with which bytes begin -/
def numB (b : Bytes) : Nat := (BitVec.ofNat 64 (readN b 0 0).1).toNat
def mnumV (b : Bytes) : Int × Bytes := if (readN b 0 0).2.2 = 0 ∧ numB b ≤ 1073741824 then ((numB b : Int), b.drop (readN b 0 0).2.1) else (-1, [])
def parseAt (b : Bytes) : Mark := (((b.getD 1 0#8).toNat : Int), (mnumV (b.drop 2)).1, (mnumV (mnumV (b.drop 2)).2).1, (mnumV (mnumV (b.drop 2)).2).2.take 32, (mnumV (mnumV (b.drop 2)).2).2.drop 32)
def parseM (b : Bytes) : Mark × Int := if 2 ≤ b.length ∧ b.getD 0 0#8 = 77#8 ∧ (mnumV (mnumV (b.drop 2)).2).2.length = 64 ∧ mayV (parseAt b) = true then (parseAt b, 0) else (mark0, 160)
def hasV (l : List Rec) (h : HeadT) : Bool := if 0 ≤ h.1 ∧ h.1 ≤ (l.length : Int) then decide ((walkV head0 (l.take h.1.toNat) 0).2.2 = 0) && decide ((walkV head0 (l.take h.1.toNat) 0).1 = h) else false
/-- the first of which p holds -/
def firstV (p : Mark → Bool) : List Mark → Nat → Option Nat
  | [], _ => none
  | m :: r, i => if p m = true then some i else firstV p r (i + 1)
def apartV (a b : Mark) : Bool := decide (a.2.1 = b.2.1) && !decide (headM a = headM b)
/-- of the last j ahead of k, the first that says another head of one number -/
def clashV (l : List Mark) (k : Nat) : Nat → Option Nat
  | 0 => none
  | j + 1 => if apartV (l.getD (k - (j + 1)) T_Mark.dflt) (l.getD k T_Mark.dflt) = true then some (k - (j + 1)) else clashV l k j
def forkR (l : List Mark) : Nat → Option (Nat × Nat)
  | 0 => none
  | j + 1 => match clashV l (l.length - (j + 1)) (l.length - (j + 1)) with
    | some i => some (i, l.length - (j + 1))
    | none => forkR l j
def forkV (l : List Mark) : Option (Nat × Nat) := forkR l l.length
def forkA (l : List Mark) : Int := match forkV l with | some p => (p.1 : Int) | none => 0
def forkB (l : List Mark) : Int := match forkV l with | some p => (p.2 : Int) | none => 0
def forkC (l : List Mark) : Bool := match forkV l with | some _ => true | none => false
/-- does a mark count against a catalogue, in the kind's way? -/
def failV (l : List Rec) (kind : Int) (m : Mark) : Bool := (decide (kind = 4) && !decide ((l.length : Int) < m.2.1) && !hasV l (headM m)) || (decide (kind = 5) && decide ((l.length : Int) < m.2.1))
def auditV (key : Bytes) (l : List Rec) (ms : List Mark) : Fin3 :=
  if (walkV head0 l 0).2.2 = 0 then
    match firstV (fun m => !sealedV key m) ms 0 with
    | some i => (2, (i : Int), 0)
    | none => match forkV ms with
      | some p => (3, (p.1 : Int), (p.2 : Int))
      | none => match firstV (failV l 4) ms 0 with
        | some i => (4, (i : Int), 0)
        | none => match firstV (failV l 5) ms 0 with
          | some i => (5, (i : Int), 0)
          | none => (6, 0, 0)
  else (1, (walkV head0 l 0).2.1, 0)
/-- a catalogue's records that are looked at -/
def fewT : Nat → List Rec → List Rec
  | 0, _ => []
  | _ + 1, [] => []
  | n + 1, r :: l => if 60 < r.2.2.2.2.2.2.length ∨ 300 < r.2.2.2.2.2.1.length then [] else r :: fewT n l
/-- records made to follow one another -/
def chainL : HeadT → List Rec → List Rec
  | _, [] => []
  | h, r :: l => if (makeV h r).2 = 0 then (makeV h r).1 :: chainL (nextV h (makeV h r).1).1 l else chainL h l
def twiceV (a b : Rec) : Bool := decide ((bytesV a).2 = 0) && decide ((bytesV b).2 = 0) && !((bytesV a).1 == (bytesV b).1) && alikeV (sha (bytesV a).1) (sha (bytesV b).1)
def collV (a b : List Rec) : Bool := (a.zip b).any fun p => twiceV p.1 p.2
end Go.Sal
