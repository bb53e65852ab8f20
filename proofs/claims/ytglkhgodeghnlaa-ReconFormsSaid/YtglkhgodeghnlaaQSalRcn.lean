/- Sets of digests, prefixes, items (recon), as plain data. No program in sight. -/
import Derived.Test.YtglkhgodeghnlaaQSalDig
set_option maxRecDepth 100000
namespace Go.Sal
open Go.Vse
abbrev T_Pre : T := .pair .i64 T_Dig
abbrev T_Item : T := .pair .i64 (.pair .i64 (.pair T_Dig (.pair .i64 (.pair T_Dig (.slc T_Dig)))))
abbrev Pre := T_Pre.den
abbrev Item := T_Item.den
def zeroD : DigP := List.replicate 32 0#8
def checkS (l : List DigP) : Int := bif decide (65536 < l.length) || !ascV l then 281 else 0
def maskB (n : Int) (ones : Bool) (k : Nat) (b : B8) : B8 :=
 bif ones then (b &&& ~~~(255#8 >>> (min 8 (max 0 (n - 8 * (k : Int)))).toNat)) ||| (255#8 >>> (min 8 (max 0 (n - 8 * (k : Int)))).toNat)
 else b &&& ~~~(255#8 >>> (min 8 (max 0 (n - 8 * (k : Int)))).toNat)
def maskI (d : DigP) (n : Int) (ones : Bool) : Nat → DigP
 | 0 => d
 | k + 1 => (maskI d n ones k).set k (maskB n ones k ((maskI d n ones k).getD k 0#8))
def maskV (d : DigP) (n : Int) (ones : Bool) : DigP := maskI d n ones 32
def rightB (p : Pre) : Bool := decide (0 ≤ p.1) && decide (p.1 ≤ 256) && decide (maskV p.2 p.1 false = p.2)
def rightV (p : Pre) : Int := bif rightB p then 0 else 280
def bitV (d : DigP) (i : Nat) : Bool := (d.getD (i / 8) 0#8).getLsbD (7 - i % 8)
def underV (d : DigP) (p : Pre) : Bool := (List.range p.1.toNat).all fun i => bitV d i == bitV p.2 i
def belowV (l : List DigP) (p : Pre) : List DigP := l.filter fun d => underV d p
def sumV (l : List DigP) (p : Pre) : Item := (1, p.1, p.2, ((belowV l p).length : Int), sha (belowV l p).flatten, [])
def setB (d : DigP) (i : Nat) : DigP := d.set (i / 8) (d.getD (i / 8) 0#8 ||| (128#8 >>> (i % 8)))
def partsV (p : Pre) : List Pre :=
 if p.1 = 256 then [] else if p.1 = 255 then [(256, p.2), (256, setB p.2 255)]
 else [(p.1 + 2, p.2), (p.1 + 2, setB p.2 (p.1.toNat + 1)), (p.1 + 2, setB p.2 p.1.toNat), (p.1 + 2, setB (setB p.2 p.1.toNat) (p.1.toNat + 1))]
def iP (x : Item) : Pre := (x.2.1, x.2.2.1)
def iN (x : Item) : Int := x.2.2.2.1
def iH (x : Item) : DigP := x.2.2.2.2.1
def iL (x : Item) : List DigP := x.2.2.2.2.2
def listI (k : Int) (p : Pre) (l : List DigP) : Item := (k, p.1, p.2, 0, zeroD, l)
def goodB (x : Item) : Bool :=
 rightB (iP x) && (bif x.1 == 1 then decide (0 ≤ iN x) && decide (iN x ≤ 65536) && decide ((iL x).length = 0)
  else bif x.1 == 2 then decide (iN x = 0) && decide (iH x = zeroD) && decide ((iL x).length = 0)
  else (x.1 == 3 || x.1 == 4) && decide (iN x = 0) && decide (iH x = zeroD) && decide (checkS (iL x) = 0) && decide ((belowV (iL x) (iP x)).length = (iL x).length))
def goodV (x : Item) : Int := bif goodB x then 0 else 280
def toV (l : List DigP) (x : Item) : Int :=
 bif iN (sumV l (iP x)) == iN x && decide (iH (sumV l (iP x)) = iH x) then 0 else bif decide (iN (sumV l (iP x)) ≤ 8) || x.2.1 == 256 then 1 else bif decide (iN x ≤ 8) then 2 else 3
def outV (l : List DigP) (x : Item) : List Item :=
 if x.1 = 2 then [listI 3 (iP x) (belowV l (iP x))] else if x.1 = 3 then [listI 4 (iP x) (belowV l (iP x))] else if x.1 = 4 then []
 else if toV l x = 0 then [] else if toV l x = 1 then [listI 3 (iP x) (belowV l (iP x))] else if toV l x = 2 then [listI 2 (iP x) []] else (partsV (iP x)).map (sumV l)
def hasD (l : List DigP) (d : DigP) : Bool := l.contains d
def lessV (a b : List DigP) : List DigP := a.filter fun d => !hasD b d
def lackV (l : List DigP) (x : Item) : List DigP := if x.1 = 3 ∨ x.1 = 4 then lessV (iL x) (belowV l (iP x)) else []
def otherV (l : List DigP) (x : Item) : List DigP := if x.1 = 3 ∨ x.1 = 4 then lessV (belowV l (iP x)) (iL x) else []
def respV (l : List DigP) (xs : List Item) : List Item × List DigP × List DigP × Int :=
 bif !(checkS l == 0) then ([], [], [], 281) else bif xs.all goodB then (xs.flatMap (outV l), risV (xs.flatMap (lackV l)), risV (xs.flatMap (otherV l)), 0) else ([], [], [], 280)
abbrev Sd := List DigP × List (Pre × Item) × List Item × List DigP × List DigP × Unit
def sumsP (l : List DigP) (es : List (Pre × Item)) (p : Pre) : List (Pre × Item) := bif (mget T_Pre es p).isSome then es else mput T_Pre es p (sumV l p)
def sumsK (l : List DigP) (es : List (Pre × Item)) (ps : List Pre) : List (Pre × Item) := ps.foldl (sumsP l) es
def sumsX (l : List DigP) (es : List (Pre × Item)) (x : Item) : List (Pre × Item) :=
 if x.1 = 2 ∨ x.1 = 3 ∨ x.1 = 4 then es else if toV l x = 3 then sumsK l (sumsP l es (iP x)) (partsV (iP x)) else sumsP l es (iP x)
def itemS (s : Sd) (x : Item) : Sd := (s.1, sumsX s.1 s.2.1 x, s.2.2.1 ++ outV s.1 x, s.2.2.2.1 ++ lackV s.1 x, s.2.2.2.2.1 ++ otherV s.1 x, ())
def itemsS (s : Sd) (xs : List Item) : Sd := xs.foldl itemS s
def sumsOk (l : List DigP) (es : List (Pre × Item)) : Prop := ∀ q ∈ es, q.2 = sumV l q.1
def smallI (x : Item) : Prop := goodB x = true ∧ (iL x).length ≤ 1000
def okSd (s : Sd) (xs : List Item) : Prop :=
 ascV s.1 = true ∧ s.1.length ≤ 1000 ∧ sumsOk s.1 s.2.1 ∧ xs.length ≤ 100000 ∧ (∀ x ∈ xs, smallI x) ∧ s.2.2.1.length ≤ 1000000 ∧ s.2.2.2.1.length ≤ 1000000 ∧ s.2.2.2.2.1.length ≤ 1000000
def okR (l : List DigP) (xs : List Item) : Prop := (checkS l = 0 → l.length ≤ 1000) ∧ xs.length ≤ 100000 ∧ ∀ x ∈ xs, checkS (iL x) = 0 → (iL x).length ≤ 1000
structure Mt where
 way : List Item
 la : List DigP
 lb : List DigP
 n : Nat
def turnM (a b : List DigP) (s : Mt) : Mt :=
 if s.n % 2 = 0 then ⟨(respV b s.way).1, s.la, s.lb ++ (respV b s.way).2.1, s.n + 1⟩ else ⟨(respV a s.way).1, s.la ++ (respV a s.way).2.1, s.lb, s.n + 1⟩
def runM (a b : List DigP) : Nat → Mt → Mt
 | 0, s => s
 | f + 1, s => if s.way = [] then s else runM a b f (turnM a b s)
def mt0 (a : List DigP) : Mt := ⟨[sumV a (0, zeroD)], [], [], 0⟩
def endM (a b : List DigP) : Mt := runM a b 200 (mt0 a)
def meetV (a b : List DigP) : List DigP × List DigP × Int × Int :=
 bif !(checkS a == 0) || !(checkS b == 0) then ([], [], 0, 281) else (risV (endM a b).la, risV (endM a b).lb, ((endM a b).n : Int), 0)
end Go.Sal
