/- A symbolic executor for loaded Go code: its values, its states, its steps. No proof here. -/
import GoSem.Step
import Derived.Calls
import Derived.DeepKeys2
namespace Go.Vse

@[reducible] def ofN (n : Nat) : Int := (n : Int)

def deep : Nat := 12
def STRIDE : Nat := 1000000

def eqP {α : Type} (x y : α) : Prop := x = y
def neP {α : Type} (x y : α) : Prop := x ≠ y
def leP (x y : Int) : Prop := x ≤ y
@[reducible] def nilOf (α : Type) : List α := []

inductive T where
 | u8 | u16 | u32 | u64 | i64 | bool | str | unit
 | arr (n : Nat) (t : T)
 | slc (t : T)
 | pair (a b : T)
 deriving DecidableEq

@[reducible] def T.den : T → Type
 | .u8 => BitVec 8
 | .u16 => BitVec 16
 | .u32 => BitVec 32
 | .u64 => BitVec 64
 | .i64 => Int
 | .bool => Bool
 | .str => List (BitVec 8)
 | .unit => Unit
 | .arr _ t => List t.den
 | .slc t => List t.den
 | .pair a b => a.den × b.den

def T.size : T → Nat
 | .arr n t => n * t.size
 | .pair a b => a.size + b.size
 | .unit => 0
 | _ => 1

def T.dflt : (t : T) → t.den
 | .u8 => 0#8
 | .u16 => 0#16
 | .u32 => 0#32
 | .u64 => 0#64
 | .i64 => (0 : Int)
 | .bool => false
 | .str => []
 | .unit => ()
 | .arr n t => List.replicate n t.dflt
 | .slc _ => []
 | .pair a b => (a.dflt, b.dflt)

inductive DV where
 | u8 (x : BitVec 8)
 | u16 (x : BitVec 16)
 | u32 (x : BitVec 32)
 | u64 (x : BitVec 64)
 | i64 (n : Int)
 | bool (b : Bool)
 | str (l : List (BitVec 8))
 | nils (t : T)
 | imm (t : T) (xs : List t.den)
 | cst (v : Value)

inductive Run where
 | one (d : DV)
 | many (t : T) (n : Nat) (xs : List t.den)

def Run.size : Run → Nat
 | .one _ => 1
 | .many t n _ => n * t.size

def app0 : List Run → List Run → List Run
 | [], l => l
 | x :: r, l => x :: app0 r l

def enc : (t : T) → t.den → List Run
 | .u8, x => [.one (.u8 x)]
 | .u16, x => [.one (.u16 x)]
 | .u32, x => [.one (.u32 x)]
 | .u64, x => [.one (.u64 x)]
 | .i64, x => [.one (.i64 x)]
 | .bool, x => [.one (.bool x)]
 | .str, x => [.one (.str x)]
 | .unit, _ => []
 | .arr n t, xs => [.many t n xs]
 | .slc t, xs => [.one (.imm t xs)]
 | .pair a b, p => app0 (enc a p.1) (enc b p.2)

structure Hop where
 off : Nat
 s : Nat
 e : Nat
 n : Nat
 lit : Bool

inductive Ref where
 | cell (l : Nat) (path : List Hop) (off : Nat)
 | win (l : Nat) (path : List Hop) (off : Nat) (t : T) (start len n : Nat) (lit : Bool)
 | map (l : Nat)
 | row (l : Nat)
 | elt (l : Nat) (path : List Hop) (off : Nat)
 | ewin (l : Nat) (path : List Hop) (off : Nat) (t : T) (start len n : Nat)
 | cwin (l n : Nat)

inductive SC where
 | run (r : Run)
 | ref (r : Ref)
 | own (k : Nat) (t : T) (xs : List t.den)

def SC.size : SC → Nat
 | .run r => r.size
 | _ => 1

inductive SV where
 | dv (d : DV)
 | own (k : Nat) (t : T) (xs : List t.den)
 | full (t : T) (xs : List t.den)
 | ref (r : Ref)
 | ipt (rs : List Run)
 | agg (cs : List SC)
 | clo (f : FuncId) (caps : List (List Run))
 | clr (f : FuncId) (cs : List SC)
 | yld (k : Nat)
 | top

inductive Sl where
 | sv (v : SV)
 | tup (vs : List SV)
 | cond (g : Nat) (want : Bool) (v : SV)
 | un

structure Gh where
 r : Nat
 en : Array MapEntry
 clock : Nat

inductive SObj where
 | cells (cs : List SC) (ro : Bool)
 | tok (e : TypeId) (s : Nat)
 | row (e : TypeId) (s : Nat) (t : T) (xs : List t.den) (ro : Bool)
 | mp (ka : Bool) (kt : T) (va : Bool) (vt : T) (es : List (kt.den × vt.den))
 | mpi (ka : Bool) (kt : T) (va : Bool) (vt : T) (es : List (kt.den × vt.den)) (g : Gh)
 | it (ka : Bool) (kt : T) (va : Bool) (vt : T) (left : List (kt.den × vt.den)) (cur : Option (kt.den × vt.den)) (g : Gh)
 | gone

structure SState where
 tmps : List Sl
 hp : List (Nat × SObj)
 next : Nat
 wr : List Nat
 rows : List Nat := []
 jump : Option Exit := none

def nth {α : Type} (d : α) : List α → Nat → α
 | [], _ => d
 | x :: _, 0 => x
 | _ :: r, n + 1 => nth d r n
def nthO {α : Type} : List α → Nat → Option α
 | [], _ => none
 | x :: _, 0 => some x
 | _ :: r, n + 1 => nthO r n
def setN {α : Type} : List α → Nat → α → List α
 | [], _, _ => []
 | _ :: r, 0, v => v :: r
 | x :: r, n + 1, v => x :: setN r n v
def app {α : Type} : List α → List α → List α
 | [], l => l
 | x :: r, l => x :: app r l
def mapL {α β : Type} (f : α → β) : List α → List β
 | [] => []
 | x :: r => f x :: mapL f r
def optMap {α β : Type} (f : α → Option β) : List α → Option (List β)
 | [] => some []
 | x :: r => match f x with
   | none => none
   | some y => match optMap f r with
     | none => none
     | some ys => some (y :: ys)
def rep {α : Type} (x : α) : Nat → List α
 | 0 => []
 | n + 1 => x :: rep x n

def look (l : Nat) : List (Nat × SObj) → SObj
 | [] => .gone
 | (k, o) :: r => bif Nat.beq k l then o else look l r
def put (l : Nat) (o : SObj) : List (Nat × SObj) → List (Nat × SObj)
 | [] => [(l, o)]
 | (k, p) :: r => bif Nat.beq k l then (l, o) :: r else (k, p) :: put l o r

def normB : Sl → Sl
 | .sv (.dv (.cst (.bool q))) => .sv (.dv (.bool q))
 | s => s
def SState.get (S : SState) (t : Nat) : Sl := normB (nth .un S.tmps t)
def SState.set (S : SState) (dst : Option Nat) (v : Sl) : SState :=
 match dst with
 | some d => { S with tmps := setN S.tmps d v }
 | none => S

def noL (a : Array Value) : Bool := match a.toList with
 | [] => true
 | _ => false
def fnV (f : FuncId) : Value := .func (.func f) #[] #[]
def isNilV : Value → Bool
 | .func (.func _) a b => noL a && noL b
 | .bool _ => true
 | .slice none 0 0 => true
 | .pointer none => true
 | .map none => true
 | .nilFunc => true
 | .iface _ (.agg c) => match c.toList with
   | [] => true
   | _ => false
 | _ => false

def bytesOf (s : ByteArray) : List (BitVec 8) := s.data.toList.map (·.toBitVec)
def ofValue : Value → SV
 | .bool b => .dv (.bool b)
 | .int .i64 n => bif (decide (-9223372036854775808 ≤ n) && decide (n ≤ 9223372036854775807)) then .dv (.i64 n) else .top
 | .int .u8 n => bif (decide (0 ≤ n) && decide (n < 256)) then .dv (.u8 (BitVec.ofInt 8 n)) else .top
 | .int .u16 n => bif (decide (0 ≤ n) && decide (n < 65536)) then .dv (.u16 (BitVec.ofInt 16 n)) else .top
 | .int .u32 n => bif (decide (0 ≤ n) && decide (n < 4294967296)) then .dv (.u32 (BitVec.ofInt 32 n)) else .top
 | .int .u64 n => bif (decide (0 ≤ n) && decide (n < 18446744073709551616)) then .dv (.u64 (BitVec.ofInt 64 n)) else .top
 | .string s => bif Nat.ble s.data.toList.length 1048576 then .dv (.str (bytesOf s)) else .top
 | .pointer none => .dv (.cst (.pointer none))
 | .slice none 0 0 => .dv (.cst (.slice none 0 0))
 | .map none => .dv (.cst (.map none))
 | .nilFunc => .dv (.cst .nilFunc)
 | _ => .top

def evalO (S : SState) : Operand → Sl
 | .tmp t => S.get t
 | .const v => .sv (ofValue v)
 | .func f => .sv (.clo f [])
 | .global _ => .un

inductive Leaf where
 | dat (c : T)
 | raw (v : Value)

def foldT : List Leaf → Option T
 | [] => some .unit
 | [.dat c] => some c
 | .dat c :: r => match foldT r with
   | some u => some (.pair c u)
   | none => none
 | .raw _ :: _ => none

def concatO : List (Option (List Leaf)) → Option (List Leaf)
 | [] => some []
 | none :: _ => none
 | some l :: r => match concatO r with
   | none => none
   | some m => some (app l m)

def shape (P : Program) : Nat → TypeId → Option (List Leaf)
 | 0, _ => none
 | k + 1, t =>
   match P.underlying t with
   | some (.int .u8) => some [.dat .u8]
   | some (.int .u16) => some [.dat .u16]
   | some (.int .u32) => some [.dat .u32]
   | some (.int .u64) => some [.dat .u64]
   | some (.int .i64) => some [.dat .i64]
   | some .bool => some [.dat .bool]
   | some .string => some [.dat .str]
   | some (.array n e) => match (shape P k e).bind foldT with
     | some c => some [.dat (.arr n c)]
     | none => none
   | some (.slice e) => match (shape P k e).bind foldT with
     | some c => some [.dat (.slc c)]
     | none => some [.raw (.slice none 0 0)]
   | some (.struct fs) => concatO (mapL (fun f => shape P k f.type) fs.toList)
   | some (.pointer _) => some [.raw (.pointer none)]
   | some (.map _ _) => some [.raw (.map none)]
   | some (.func _ _ _) => some [.raw .nilFunc]
   | _ => none

def eqV : Value → Value → Bool
 | .bool a, .bool b => a == b
 | .int j a, .int k b => decide (j = k) && decide (a = b)
 | .string a, .string b => decide (a.data.toList = b.data.toList)
 | .pointer none, .pointer none => true
 | .slice none 0 0, .slice none 0 0 => true
 | .map none, .map none => true
 | .nilFunc, .nilFunc => true
 | .func (.func f) a b, .func (.func g) c d => Nat.beq f g && noL a && noL b && noL c && noL d
 | _, _ => false
def eqVs : List Value → List Value → Bool
 | [], [] => true
 | a :: r, b :: s => eqV a b && eqVs r s
 | _, _ => false
def zeroL : T → List Value
 | .u8 => [.int .u8 0]
 | .u16 => [.int .u16 0]
 | .u32 => [.int .u32 0]
 | .u64 => [.int .u64 0]
 | .i64 => [.int .i64 0]
 | .bool => [.bool false]
 | .str => [.string ⟨#[]⟩]
 | .unit => []
 | .arr n t => (rep (zeroL t) n).flatten
 | .slc _ => [.slice none 0 0]
 | .pair a b => zeroL a ++ zeroL b
def Leaf.zeroL : Leaf → List Value
 | .dat c => Vse.zeroL c
 | .raw v => [v]
def zeroIs (P : Program) (t : TypeId) (l : List Value) : Bool :=
 match P.info? t with
 | some i => match i.zero with
   | some z => Nat.beq i.size l.length && eqVs z.cells.toList l
   | none => false
 | none => false

def code (P : Program) (t : TypeId) : Option T :=
 match (shape P deep t).bind foldT with
 | some c => bif zeroIs P t (Vse.zeroL c) && Nat.beq (zeroL c).length c.size then some c else none
 | none => none
def elemCode (P : Program) (t : TypeId) : Option T :=
 match P.underlying t with
 | some (.slice e) => code P e
 | some (.array _ e) => code P e
 | _ => none

def scalarZero : (t : T) → SC
 | .u8 => .run (.one (.u8 0#8))
 | .u16 => .run (.one (.u16 0#16))
 | .u32 => .run (.one (.u32 0#32))
 | .u64 => .run (.one (.u64 0#64))
 | .i64 => .run (.one (.i64 0))
 | .bool => .run (.one (.bool false))
 | .str => .run (.one (.str []))
 | .unit => .run (.many .unit 0 [])
 | .arr n t => .run (.many t n (List.replicate n t.dflt))
 | .slc t => .run (.one (.nils t))
 | .pair a b => .run (.many (.pair a b) 1 [(a.dflt, b.dflt)])
def Leaf.zero : Leaf → SC
 | .dat c => scalarZero c
 | .raw v => .run (.one (.cst v))
def rawOk : List Leaf → Bool
 | [] => true
 | .dat _ :: r => rawOk r
 | .raw v :: r => isNilV v && rawOk r
def zeros (P : Program) (t : TypeId) : Option (List SC) :=
 match shape P deep t with
 | some l => bif zeroIs P t (mapL Leaf.zeroL l).flatten && rawOk l then some (mapL Leaf.zero l) else none
 | none => none

def sizeL : List SC → Nat
 | [] => 0
 | c :: r => c.size + sizeL r

def dropC : List SC → Nat → Option (List SC)
 | cs, 0 => some cs
 | [], _ + 1 => none
 | c :: r, n + 1 => bif Nat.ble c.size (n + 1) then dropC r (n + 1 - c.size) else none
def takeC : List SC → Nat → Option (List SC)
 | _, 0 => some []
 | [], _ + 1 => none
 | c :: r, n + 1 => bif Nat.ble c.size (n + 1) then
     (match takeC r (n + 1 - c.size) with
      | some l => some (c :: l)
      | none => none) else none
def replC (cs : List SC) (off n : Nat) (new : List SC) : Option (List SC) :=
 match takeC cs off, dropC cs (off + n) with
 | some a, some b => some (app a (app new b))
 | _, _ => none
def modC (f : SC → Option SC) : List SC → Nat → Option (List SC)
 | [], _ => none
 | c :: r, 0 => match f c with
   | some d => some (d :: r)
   | none => none
 | c :: r, n + 1 => bif Nat.ble c.size (n + 1) then
     (match modC f r (n + 1 - c.size) with
      | some l => some (c :: l)
      | none => none) else none

def normRun : Run → Run
 | .one (.nils t) => .one (.imm t [])
 | r => r
def toRun : SC → Option Run
 | .run r => some (normRun r)
 | .own _ t xs => some (.one (.imm t xs))
 | .ref _ => none
def toRuns (cs : List SC) : Option (List Run) := optMap toRun cs
def ofRuns (rs : List Run) : List SC := mapL SC.run rs

def castL {t u : T} (h : t = u) (xs : List t.den) : List u.den := h ▸ xs

def dec : (t : T) → List Run → Option (t.den × List Run)
 | .u8, .one (.u8 x) :: r => some (x, r)
 | .u16, .one (.u16 x) :: r => some (x, r)
 | .u32, .one (.u32 x) :: r => some (x, r)
 | .u64, .one (.u64 x) :: r => some (x, r)
 | .i64, .one (.i64 x) :: r => some (x, r)
 | .bool, .one (.bool x) :: r => some (x, r)
 | .str, .one (.str x) :: r => some (x, r)
 | .unit, r => some ((), r)
 | .arr n t, .many t' n' xs :: r => if h : t' = t then bif Nat.beq n' n then some (castL h xs, r) else none else none
 | .slc t, .one (.imm t' xs) :: r => if h : t' = t then some (castL h xs, r) else none
 | .slc _, .one (.nils _) :: r => some ([], r)
 | .pair a b, rs => match dec a rs with
   | some (x, rs') => match dec b rs' with
     | some (y, rs'') => some ((x, y), rs'')
     | none => none
   | none => none
 | _, _ => none
def decAll (t : T) (cs : List SC) : Option t.den :=
 match toRuns cs with
 | some rs => match dec t rs with
   | some (x, []) => some x
   | _ => none
 | none => none

def fitsHop (h : Hop) (t : T) (n : Nat) : Bool := Nat.beq t.size h.s && (!h.lit || Nat.ble h.n n)
def descend : List SC → List Hop → Option (List SC)
 | cs, [] => some cs
 | cs, h :: p => match dropC cs h.off with
   | some (.run (.many t n xs) :: _) => bif fitsHop h t n then descend (ofRuns (enc t (xs.getD h.e t.dflt))) p else none
   | _ => none
def modAt (f : List SC → Option (List SC)) : List Hop → List SC → Option (List SC)
 | [], cs => f cs
 | h :: p, cs => modC (fun
     | .run (.many t n xs) => bif fitsHop h t n then
         (match modAt f p (ofRuns (enc t (xs.getD h.e t.dflt))) with
          | some cs' => match decAll t cs' with
            | some x => some (.run (.many t n (xs.set h.e x)))
            | none => none
          | none => none) else none
     | _ => none) cs h.off

def andVC : Option Prop → Option Prop → Option Prop
 | none, q => q
 | p, none => p
 | some p, some q => some (p ∧ q)
def pathVC : List SC → List Hop → Option Prop
 | _, [] => none
 | cs, h :: p => match dropC cs h.off with
   | some (.run (.many t n xs) :: _) =>
     andVC (bif h.lit then none else some (h.e < n)) (pathVC (ofRuns (enc t (xs.getD h.e t.dflt))) p)
   | _ => none
def allLit : List Hop → Bool
 | [] => true
 | h :: p => h.lit && allLit p

def cellsAt (hp : List (Nat × SObj)) (l : Nat) : Option (List SC) :=
 match look l hp with
 | .cells cs _ => some cs
 | _ => none

def rowCells (hp : List (Nat × SObj)) (l : Nat) : Option (List SC) :=
 match look l hp with
 | .row _ _ t xs _ => some [.run (.many t xs.length xs)]
 | _ => none

structure SlD where
 t : T
 xs : List t.den
 still : Option Nat
 vc : Option Prop

def rowAt (t : T) (n : Nat) (lit : Bool) (cs : List SC) (off : Nat) : Option (List t.den × Option Prop) :=
 match dropC cs off with
 | some (.run (.many t' m xs) :: _) => if h : t' = t then
     (bif lit then (bif Nat.ble n m then some (castL h xs, none) else none) else some (castL h xs, some (n ≤ m))) else none
 | _ => none

def asSlice (hp : List (Nat × SObj)) : SV → Option SlD
 | .dv (.imm t xs) => some ⟨t, xs, none, none⟩
 | .dv (.nils t) => some ⟨t, [], none, none⟩
 | .own _ t xs => some ⟨t, xs, none, none⟩
 | .full t xs => some ⟨t, xs, none, none⟩
 | .ref (.win l path off t start len n lit) =>
   bif allLit path then
    (match (cellsAt hp l).bind (descend · path) with
    | some cs => match rowAt t n lit cs off with
      | some (xs, vc) => some ⟨t, (xs.drop start).take len, some l, vc⟩
      | none => none
    | none => none)
   else none
 | .ref (.row l) => match look l hp with
   | .row _ _ t xs _ => some ⟨t, xs, some l, none⟩
   | _ => none
 | _ => none

def stills (hp : List (Nat × SObj)) : Option Nat → List (Nat × SObj)
 | some l => match look l hp with
   | .cells cs _ => [(l, .cells cs true)]
   | .row e s t xs _ => [(l, .row e s t xs true)]
   | _ => []
 | none => []

structure Dat where
 v : SV
 upd : List (Nat × SObj)
 vc : Option Prop
def asData (hp : List (Nat × SObj)) : SV → Option Dat
 | .dv (.nils t) => some ⟨.dv (.imm t []), [], none⟩
 | .dv d => some ⟨.dv d, [], none⟩
 | .agg cs => match toRuns cs with
   | some rs => some ⟨.agg (ofRuns rs), [], none⟩
   | none => none
 | .ipt rs => some ⟨.ipt rs, [], none⟩
 | .clo f caps => some ⟨.clo f caps, [], none⟩
 | v => match asSlice hp v with
   | some d => some ⟨.dv (.imm d.t d.xs), stills hp d.still, d.vc⟩
   | none => none

structure Caps where
 rss : List (List Run)
 upd : List (Nat × SObj)
def capsO (hp : List (Nat × SObj)) : List SV → Option Caps
 | [] => some ⟨[], []⟩
 | .ref (.cell l [] 0) :: r => match look l hp with
   | .cells cs _ => match toRuns cs, capsO hp r with
     | some rs, some c => some ⟨rs :: c.rss, (l, .cells cs true) :: c.upd⟩
     | _, _ => none
   | _ => none
 | .ipt rs :: r => match capsO hp r with
   | some c => some ⟨rs :: c.rss, c.upd⟩
   | none => none
 | _ => none

structure Dats where
 vs : List SV
 upd : List (Nat × SObj)
 vc : Option Prop
def asDatas (hp : List (Nat × SObj)) : List SV → Option Dats
 | [] => some ⟨[], [], none⟩
 | v :: r => match asData hp v with
   | some d => match asDatas hp r with
     | some ds => some ⟨d.v :: ds.vs, app d.upd ds.upd, andVC d.vc ds.vc⟩
     | none => none
   | none => none

def toCells : SV → Option (List SC)
 | .dv d => some [.run (.one d)]
 | .own k t xs => some [.own k t xs]
 | .full t xs => some [.run (.one (.imm t xs))]
 | .ref r => some [.ref r]
 | .agg cs => some cs
 | .clo f [] => some [.run (.one (.cst (fnV f)))]
 | _ => none

def cloOf : DV → SV
 | .cst (.func (.func f) a b) => bif noL a && noL b then .clo f [] else .dv (.cst (.func (.func f) a b))
 | d => .dv d
def isStrT (P : Program) (t : TypeId) : Bool :=
 match P.underlying t with
 | some .string => true
 | _ => false
def isAggT (P : Program) (t : TypeId) : Option Bool :=
 match P.underlying t with
 | some (.struct _) => some true
 | some (.array _ _) => some true
 | some _ => some false
 | none => none
def sizeT (P : Program) (t : TypeId) : Nat := P.cellsOf t

def ofCells (P : Program) (t : TypeId) (cs : List SC) : Option SV :=
 match isAggT P t, cs with
 | some true, cs => some (.agg cs)
 | some false, [.run (.one d)] => some (cloOf d)
 | some false, [.own k t xs] => some (.own k t xs)
 | some false, [.ref r] => some (.ref r)
 | _, _ => none

structure Res where
 vc : Option Prop
 out : Sl
 upd : List (Nat × SObj)

def val (v : SV) : Option Res := some ⟨none, .sv v, []⟩
def dval (d : DV) : Option Res := some ⟨none, .sv (.dv d), []⟩
def owed (p : Prop) (v : SV) : Option Res := some ⟨some p, .sv v, []⟩

def inI64 (n : Int) : Prop := -9223372036854775808 ≤ n ∧ n ≤ 9223372036854775807
def ROOM : Nat := 4294967296

def nilFor (P : Program) (t : TypeId) : SV → SV
 | .dv (.cst (.slice none 0 0)) => match elemCode P t with
   | some c => .dv (.nils c)
   | none => .dv (.cst (.slice none 0 0))
 | v => v

def bvOp {w : Nat} (mk : BitVec w → DV) (op : BinOp) (x y : BitVec w) : Option Res :=
 match op with
 | .add => dval (mk (x + y))
 | .sub => dval (mk (x - y))
 | .mul => dval (mk (x * y))
 | .quo => owed (neP y 0#w) (.dv (mk (x / y)))
 | .rem => owed (neP y 0#w) (.dv (mk (x % y)))
 | .and => dval (mk (x &&& y))
 | .or => dval (mk (x ||| y))
 | .xor => dval (mk (x ^^^ y))
 | .andNot => dval (mk (x &&& ~~~y))
 | .eql => dval (.bool (x == y))
 | .neq => dval (.bool (x != y))
 | .lss => dval (.bool (decide (x < y)))
 | .leq => dval (.bool (decide (x ≤ y)))
 | .gtr => dval (.bool (decide (y < x)))
 | .geq => dval (.bool (decide (y ≤ x)))
 | _ => none

def i64Op (op : BinOp) (x y : Int) : Option Res :=
 match op with
 | .add => owed (inI64 (x + y)) (.dv (.i64 (x + y)))
 | .sub => owed (inI64 (x - y)) (.dv (.i64 (x - y)))
 | .mul => owed (inI64 (x * y)) (.dv (.i64 (x * y)))
 | .quo => owed (neP y 0 ∧ inI64 (x.tdiv y)) (.dv (.i64 (x.tdiv y)))
 | .rem => owed (neP y 0) (.dv (.i64 (x.tmod y)))
 | .eql => dval (.bool (x == y))
 | .neq => dval (.bool (x != y))
 | .lss => dval (.bool (decide (x < y)))
 | .leq => dval (.bool (decide (x ≤ y)))
 | .gtr => dval (.bool (decide (y < x)))
 | .geq => dval (.bool (decide (y ≤ x)))
 | .and => dval (.i64 (BitVec.ofInt 64 x &&& BitVec.ofInt 64 y).toInt)
 | .or => dval (.i64 (BitVec.ofInt 64 x ||| BitVec.ofInt 64 y).toInt)
 | .xor => dval (.i64 (BitVec.ofInt 64 x ^^^ BitVec.ofInt 64 y).toInt)
 | _ => none

def countOf : SV → Option (Option Prop × Nat)
 | .dv (.u8 x) => some (none, x.toNat)
 | .dv (.u16 x) => some (none, x.toNat)
 | .dv (.u32 x) => some (none, x.toNat)
 | .dv (.u64 x) => some (none, x.toNat)
 | .dv (.i64 n) => some (some (leP 0 n), n.toNat)
 | _ => none
def shiftBV {w : Nat} (mk : BitVec w → DV) (left : Bool) (x : BitVec w) (vc : Option Prop) (n : Nat) : Option Res :=
 some ⟨vc, .sv (.dv (mk (bif left then x <<< n else x >>> n))), []⟩
def shiftOp (left : Bool) (x y : SV) : Option Res :=
 match countOf y with
 | none => none
 | some (vc, n) => match x with
   | .dv (.u8 x) => shiftBV .u8 left x vc n
   | .dv (.u16 x) => shiftBV .u16 left x vc n
   | .dv (.u32 x) => shiftBV .u32 left x vc n
   | .dv (.u64 x) => shiftBV .u64 left x vc n
   | .dv (.i64 x) => bif left
       then some ⟨andVC vc (some (n ≤ 62 ∧ inI64 (x * 2 ^ n))), .sv (.dv (.i64 (x * 2 ^ n))), []⟩
       else some ⟨andVC vc (some (n ≤ 64)), .sv (.dv (.i64 (x.fdiv (2 ^ n)))), []⟩
   | _ => none

def T.deq : (t : T) → DecidableEq t.den
 | .u8 => inferInstanceAs (DecidableEq (BitVec 8))
 | .u16 => inferInstanceAs (DecidableEq (BitVec 16))
 | .u32 => inferInstanceAs (DecidableEq (BitVec 32))
 | .u64 => inferInstanceAs (DecidableEq (BitVec 64))
 | .i64 => inferInstanceAs (DecidableEq Int)
 | .bool => inferInstanceAs (DecidableEq Bool)
 | .str => inferInstanceAs (DecidableEq (List (BitVec 8)))
 | .unit => inferInstanceAs (DecidableEq Unit)
 | .arr _ t => haveI := t.deq; inferInstanceAs (DecidableEq (List t.den))
 | .slc t => haveI := t.deq; inferInstanceAs (DecidableEq (List t.den))
 | .pair a b => haveI := a.deq; haveI := b.deq; inferInstanceAs (DecidableEq (a.den × b.den))

def eqL (t : T) (xs ys : List t.den) : Bool := haveI := t.deq; decide (xs = ys)

def eqDV : DV → DV → Option Bool
 | .u8 x, .u8 y => some (x == y)
 | .u16 x, .u16 y => some (x == y)
 | .u32 x, .u32 y => some (x == y)
 | .u64 x, .u64 y => some (x == y)
 | .i64 x, .i64 y => some (x == y)
 | .bool x, .bool y => some (x == y)
 | .str x, .str y => some (x == y)
 | _, _ => none
def scalarT (P : Program) (e : TypeId) (c : T) : Bool :=
 match P.underlying e, c with
 | some (.int .u8), .u8 => true
 | some (.int .u16), .u16 => true
 | some (.int .u32), .u32 => true
 | some (.int .u64), .u64 => true
 | some (.int .i64), .i64 => true
 | some .bool, .bool => true
 | some .string, .str => true
 | _, _ => false
def dvOf : T → DV → Bool
 | .u8, .u8 _ => true
 | .u16, .u16 _ => true
 | .u32, .u32 _ => true
 | .u64, .u64 _ => true
 | .i64, .i64 _ => true
 | .bool, .bool _ => true
 | .str, .str _ => true
 | _, _ => false
def scalarOf (P : Program) (e : TypeId) : T :=
 match P.underlying e with
 | some (.int .u8) => .u8
 | some (.int .u16) => .u16
 | some (.int .u32) => .u32
 | some (.int .u64) => .u64
 | some (.int .i64) => .i64
 | some .bool => .bool
 | some .string => .str
 | _ => .unit

structure Eqd where
 b : Bool
 cs : List SC
 ds : List SC
def eqFs (f : TypeId → List SC → List SC → Option Eqd) (P : Program) : Nat → List Field → List SC → List SC → Option Eqd
 | _, [], _, _ => none
 | off, [fd], cs, ds => bif (fd.name == "_") || !Nat.beq fd.offset off then none else f fd.type cs ds
 | off, fd :: r, cs, ds => bif (fd.name == "_") || !Nat.beq fd.offset off then none else
   match f fd.type cs ds with
   | some x => match eqFs f P (off + P.cellsOf fd.type) r x.cs x.ds with
     | some y => some ⟨x.b && y.b, y.cs, y.ds⟩
     | none => none
   | none => none
def sumF (P : Program) : List Field → Nat
 | [] => 0
 | f :: r => P.cellsOf f.type + sumF P r
def eqTake (P : Program) : Nat → TypeId → List SC → List SC → Option Eqd
 | 0, _, _, _ => none
 | k + 1, t, cs, ds =>
   match P.underlying t with
   | some (.array n e) => match cs, ds with
     | .run (.many c m xs) :: r, .run (.many c' m' ys) :: s => if h : c' = c then
         (bif scalarT P e c && Nat.beq m n && Nat.beq m' n && Nat.beq (P.cellsOf e) 1 && Nat.beq (P.cellsOf t) n then some ⟨eqL c xs (castL h ys), r, s⟩ else none) else none
     | _, _ => none
   | some (.struct fs) => bif P.stoodInHeld t || !Nat.beq (sumF P fs.toList) (P.cellsOf t) then none else eqFs (eqTake P k) P 0 fs.toList cs ds
   | some _ => match cs, ds with
     | .run (.one a) :: r, .run (.one b) :: s => bif dvOf (scalarOf P t) a && dvOf (scalarOf P t) b && Nat.beq (P.cellsOf t) 1 then
         (match eqDV a b with
         | some q => some ⟨q, r, s⟩
         | none => none) else none
     | _, _ => none
   | none => none
def eqAgg (P : Program) (t : TypeId) (cs ds : List SC) : Option Bool :=
 bif P.eqGuardType P.depth t then none else
 match isAggT P t, eqTake P deep t cs ds with
 | some true, some ⟨b, [], []⟩ => some b
 | _, _ => none

def lessL : List (BitVec 8) → List (BitVec 8) → Bool
 | _, [] => false
 | [], _ :: _ => true
 | a :: x, b :: y => decide (a < b) || (a == b && lessL x y)

def strOp (op : BinOp) (x y : List (BitVec 8)) : Option Res :=
 match op with
 | .add => owed (x.length + y.length ≤ ROOM) (.dv (.str (x ++ y)))
 | .eql => dval (.bool (x == y))
 | .neq => dval (.bool (x != y))
 | .lss => dval (.bool (lessL x y))
 | .leq => dval (.bool (!lessL y x))
 | .gtr => dval (.bool (lessL y x))
 | .geq => dval (.bool (!lessL x y))
 | _ => none

def eqVals (op : BinOp) (r : Option Bool) : Option Res :=
 match op, r with
 | .eql, some b => dval (.bool b)
 | .neq, some b => dval (.bool (!b))
 | _, _ => none

def isBoolT (P : Program) (t : TypeId) : Bool :=
 match P.underlying t with
 | some .bool => true
 | _ => false
def nilPtr (P : Program) (t : TypeId) (v : Value) : Bool :=
 match P.underlying t, v with
 | some (.pointer _), .pointer none => true
 | _, _ => false
def nilMap (P : Program) (t : TypeId) (v : Value) : Bool :=
 match P.underlying t, v with
 | some (.map _ _), .map none => true
 | _, _ => false

def binO (P : Program) (op : BinOp) (t : TypeId) (x y : SV) : Option Res :=
 match op with
 | .shl => shiftOp true x y
 | .shr => shiftOp false x y
 | _ => match x, y with
   | .dv (.u8 a), .dv (.u8 b) => bvOp .u8 op a b
   | .dv (.u16 a), .dv (.u16 b) => bvOp .u16 op a b
   | .dv (.u32 a), .dv (.u32 b) => bvOp .u32 op a b
   | .dv (.u64 a), .dv (.u64 b) => bvOp .u64 op a b
   | .dv (.i64 a), .dv (.i64 b) => i64Op op a b
   | .dv (.bool a), .dv (.bool b) => bif isBoolT P t then eqVals op (some (a == b)) else none
   | .dv (.str a), .dv (.str b) => strOp op a b
   | .agg cs, .agg ds => eqVals op (eqAgg P t cs ds)
   | .ref (.cell _ _ _), .dv (.cst v) => bif nilPtr P t v then eqVals op (some false) else none
   | .ref (.map _), .dv (.cst v) => bif nilMap P t v then eqVals op (some false) else none
   | .dv (.cst u), .dv (.cst v) => bif (nilPtr P t u && nilPtr P t v) || (nilMap P t u && nilMap P t v) then eqVals op (some true) else none
   | _, _ => none

def unO (op : UnOp) (x : SV) : Option Res :=
 match op, x with
 | .not, .dv (.bool b) => dval (.bool (!b))
 | .neg, .dv (.i64 n) => owed (inI64 (0 - n)) (.dv (.i64 (0 - n)))
 | .neg, .dv (.u64 x) => dval (.u64 (0#64 - x))
 | .xor, .dv (.u8 x) => dval (.u8 (~~~x))
 | .xor, .dv (.u32 x) => dval (.u32 (~~~x))
 | .xor, .dv (.u64 x) => dval (.u64 (~~~x))
 | _, _ => none

def convBV {w : Nat} (x : BitVec w) : IntKind → Option Res
 | .u8 => dval (.u8 (x.setWidth 8))
 | .u16 => dval (.u16 (x.setWidth 16))
 | .u32 => dval (.u32 (x.setWidth 32))
 | .u64 => dval (.u64 (x.setWidth 64))
 | .i64 => bif Nat.blt w 64 then dval (.i64 (x.toNat : Int)) else dval (.i64 (x.setWidth 64).toInt)
 | _ => none
def convI (n : Int) : IntKind → Option Res
 | .u8 => dval (.u8 (BitVec.ofInt 8 n))
 | .u16 => dval (.u16 (BitVec.ofInt 16 n))
 | .u32 => dval (.u32 (BitVec.ofInt 32 n))
 | .u64 => dval (.u64 (BitVec.ofInt 64 n))
 | .i64 => dval (.i64 n)
 | _ => none
def isByteT (P : Program) (e : TypeId) : Bool :=
 match P.underlying e with
 | some (.int .u8) => true
 | _ => false
def convO (P : Program) (hp : List (Nat × SObj)) (lab : Nat) (src dst : TypeId) (x : SV) : Option Res :=
 match P.underlying src, P.underlying dst with
 | some _, some (.int k) => match x with
   | .dv (.u8 x) => convBV x k
   | .dv (.u16 x) => convBV x k
   | .dv (.u32 x) => convBV x k
   | .dv (.u64 x) => convBV x k
   | .dv (.i64 n) => convI n k
   | _ => none
 | some .string, some .string => match x with
   | .dv (.str l) => dval (.str l)
   | _ => none
 | some (.slice e), some .string => match asSlice hp x with
   | some ⟨.u8, xs, _, vc⟩ => bif isByteT P e then some ⟨vc, .sv (.dv (.str xs)), []⟩ else none
   | _ => none
 | some .string, some (.slice e) => match x with
   | .dv (.str l) => bif isByteT P e then some ⟨some (l.length ≤ ROOM), .sv (.own lab .u8 l), [(lab, .tok e 1)]⟩ else none
   | _ => none
 | some (.slice e), some (.slice _) => match x with
   | .own k .u8 xs => match look k hp with
     | .tok _ _ => bif Nat.beq src dst && isByteT P e then some ⟨some (0 < xs.length), .sv (.dv (.imm .u8 xs)), [(k, .gone)]⟩ else none
     | _ => none
   | _ => none
 | _, _ => none

def fieldOf (P : Program) (t : TypeId) (f : Nat) : Option (Nat × TypeId) :=
 match P.underlying t with
 | some (.struct fs) => match fs.toList[f]? with
   | some fd => some (fd.offset, fd.type)
   | none => none
 | _ => none

def dropR (rs : List Run) (n : Nat) : Option (List Run) := (dropC (ofRuns rs) n).bind toRuns

def fieldAddrO (P : Program) (t : TypeId) (x : SV) (f : Nat) : Option Res :=
 match fieldOf P t f with
 | none => none
 | some (off, ft) => bif Nat.beq (sizeT P ft) 0 then none else match x with
   | .ref (.cell l p o) => val (.ref (.cell l p (o + off)))
   | .ref (.elt l p o) => val (.ref (.elt l p (o + off)))
   | .ipt rs => match dropR rs off with
     | some rs' => val (.ipt rs')
     | none => none
   | _ => none
def fieldO (P : Program) (t : TypeId) (x : SV) (f : Nat) : Option Res :=
 match fieldOf P t f, x with
 | some (off, ft), .agg cs => match (dropC cs off).bind (takeC · (sizeT P ft)) with
   | some ds => match ofCells P ft ds with
     | some v => val v
     | none => none
   | none => none
 | _, _ => none

def within (i : Int) (n : Nat) : Prop := 0 ≤ i ∧ i < (n : Int)

def indexAddrO (P : Program) (hp : List (Nat × SObj)) (t : TypeId) (x i : SV) : Option Res :=
 match i with
 | .dv (.i64 i) => match P.underlying t with
   | some (.array n e) => bif Nat.beq (sizeT P e) 0 then none else match x with
     | .ref (.cell l p o) => owed (within i n) (.ref (.cell l (app p [⟨o, sizeT P e, i.toNat, n, true⟩]) 0))
     | .ref (.elt l p o) => owed (within i n) (.ref (.elt l (app p [⟨o, sizeT P e, i.toNat, n, true⟩]) 0))
     | .ipt (.many c m xs :: _) => bif Nat.beq c.size (sizeT P e) && Nat.ble n m then owed (within i n) (.ipt (enc c (xs.getD i.toNat c.dflt))) else none
     | _ => none
   | some (.slice e) => bif Nat.beq (sizeT P e) 0 then none else match x with
     | .ref (.cwin l n) => bif Nat.beq (sizeT P e) 1 then owed (within i n) (.ref (.cell l [] i.toNat)) else none
     | .ref (.row l) => match look l hp with
       | .row _ s c xs _ => bif Nat.beq s (sizeT P e) && Nat.beq c.size s then owed (within i xs.length) (.ref (.elt l [⟨0, s, i.toNat, xs.length, false⟩] 0)) else none
       | _ => none
     | .ref (.win l p o c start len n lit) => bif Nat.beq c.size (sizeT P e) then
         owed (within i len) (.ref (.cell l (app p [⟨o, sizeT P e, start + i.toNat, n, lit⟩]) 0)) else none
     | .ref (.ewin l p o c start len n) => bif Nat.beq c.size (sizeT P e) then
         owed (within i len) (.ref (.elt l (app p [⟨o, sizeT P e, start + i.toNat, n, false⟩]) 0)) else none
     | v => match asSlice hp v with
       | some ⟨c, xs, none, _⟩ => bif Nat.beq c.size (sizeT P e) then owed (within i xs.length) (.ipt (enc c (xs.getD i.toNat c.dflt))) else none
       | _ => none
   | _ => none
 | _ => none
def indexLitO (P : Program) (t : TypeId) (x i : SV) : Option Res :=
 match i, x, P.underlying t with
 | .dv (.i64 i), .ref (.cell l p o), some (.array n e) => bif Nat.beq (sizeT P e) 0 then none else owed (within i n) (.ref (.cell l p (o + i.toNat * sizeT P e)))
 | _, _, _ => none
def idxI : SV → Option Int
 | .dv (.i64 i) => some i
 | .dv (.u8 x) => some (Int.ofNat x.toNat)
 | .dv (.u16 x) => some (Int.ofNat x.toNat)
 | .dv (.u32 x) => some (Int.ofNat x.toNat)
 | .dv (.u64 x) => some (Int.ofNat x.toNat)
 | _ => none
def indexO (P : Program) (t : TypeId) (x i : SV) : Option Res :=
 match idxI i with
 | some i => match x with
   | .dv (.str l) => bif isStrT P t then owed (within i l.length) (.dv (.u8 (l.getD i.toNat 0#8))) else none
   | .agg (.run (.many c m xs) :: _) => match P.underlying t with
     | some (.array n e) => bif Nat.beq c.size (sizeT P e) && Nat.ble n m && !Nat.beq (sizeT P e) 0 then
         (match ofCells P e (ofRuns (enc c (xs.getD i.toNat c.dflt))) with
         | some v => owed (within i n) v
         | none => none) else none
     | _ => none
   | _ => none
 | _ => none

def loadO (P : Program) (hp : List (Nat × SObj)) (t : TypeId) (x : SV) : Option Res :=
 match x with
 | .ref (.cell l p o) => match cellsAt hp l with
   | some cs0 => match descend cs0 p with
     | some cs => match (dropC cs o).bind (takeC · (sizeT P t)) with
       | some ds => match ofCells P t ds with
         | some v => some ⟨pathVC cs0 p, .sv v, []⟩
         | none => none
       | none => none
     | none => none
   | none => none
 | .ref (.elt l p o) => match rowCells hp l with
   | some cs0 => match descend cs0 p with
     | some cs => match (dropC cs o).bind (takeC · (sizeT P t)) with
       | some ds => match ofCells P t ds with
         | some v => some ⟨pathVC cs0 p, .sv v, []⟩
         | none => none
       | none => none
     | none => none
   | none => none
 | .ipt rs => match takeC (ofRuns rs) (sizeT P t) with
   | some ds => match ofCells P t ds with
     | some v => val v
     | none => none
   | none => none
 | _ => none
def storeO (P : Program) (hp : List (Nat × SObj)) (t : TypeId) (x v : SV) : Option Res :=
 match x, toCells v with
 | .ref (.cell l p o), some new => bif Nat.beq (sizeL new) (sizeT P t) then
     (match look l hp with
     | .cells cs false => match modAt (fun ds => replC ds o (sizeT P t) new) p cs with
       | some cs' => some ⟨pathVC cs p, .un, [(l, .cells cs' false)]⟩
       | none => none
     | _ => none) else none
 | .ref (.elt l p o), some new => bif Nat.beq (sizeL new) (sizeT P t) then
     (match look l hp with
     | .row e s c xs false => match modAt (fun ds => replC ds o (sizeT P t) new) p [.run (.many c xs.length xs)] with
       | some [.run (.many c' _ ys)] => if h : c' = c then (bif Nat.beq c.size 0 then none else some ⟨pathVC [.run (.many c xs.length xs)] p, .un, [(l, .row e s c (castL h ys) false)]⟩) else none
       | _ => none
     | _ => none) else none
 | _, _ => none

def natOf : Option SV → Option (Option Int)
 | none => some none
 | some (.dv (.i64 n)) => some (some n)
 | _ => none

def cutVC (n : Nat) (lo hi : Option Int) : Option Prop × Nat × Nat :=
 match lo, hi with
 | none, none => (none, 0, n)
 | some l, none => (some (leP 0 l ∧ leP l (n : Int)), l.toNat, n)
 | none, some h => (some (leP 0 h ∧ leP h (n : Int)), 0, h.toNat)
 | some l, some h => (some (leP 0 l ∧ leP l h ∧ leP h (n : Int)), l.toNat, h.toNat)

def sliceO (P : Program) (hp : List (Nat × SObj)) (t : TypeId) (x : SV) (lo hi mx : Option SV) : Option Res :=
 match natOf lo, natOf hi, natOf mx with
 | some lo, some hi, some mx => match x with
   | .dv (.str l) => bif isStrT P t then
       (match cutVC l.length lo hi, mx with
       | (vc, a, b), none => some ⟨vc, .sv (.dv (.str ((l.take b).drop a))), []⟩
       | _, _ => none) else none
   | .ref (.cell l p o) => match P.underlying t with
     | some (.array n e) => match cutVC n lo hi, code P e, mx with
       | (vc, a, b), some c, none => bif Nat.ble n 4194304 && Nat.ble 1 n then some ⟨andVC vc (match lo with | none => none | some _ => some (a < n)), .sv (.ref (.win l p o c a (b - a) n true)), []⟩ else none
       | _, _, _ => none
     | _ => none
   | .ref (.elt l p o) => match P.underlying t with
     | some (.array n e) => match cutVC n lo hi, code P e, mx with
       | (vc, a, b), some c, none => bif Nat.ble n 4194304 && Nat.ble 1 n then some ⟨andVC vc (match lo with | none => none | some _ => some (a < n)), .sv (.ref (.ewin l p o c a (b - a) n)), []⟩ else none
       | _, _, _ => none
     | _ => none
   | .ipt (.many c m xs :: _) => match P.underlying t, lo, hi, mx with
     | some (.array n e), none, none, none => match code P e with
       | some c' => if c' = c then (bif Nat.ble n 4194304 && Nat.beq m n then some ⟨none, .sv (.dv (.imm c xs)), []⟩ else none) else none
       | none => none
     | _, _, _, _ => none
   | v => match asSlice hp v with
     | some ⟨c, xs, none, _⟩ => match P.underlying t with
       | some (.slice e) => bif Nat.beq c.size (sizeT P e) && !Nat.beq (sizeT P e) 0 then
           (match cutVC xs.length lo hi, mx with
           | (vc, a, b), none => some ⟨vc, .sv (.dv (.imm c ((xs.take b).drop a))), []⟩
           | (vc, a, b), some m => match hi with
             | some _ => some ⟨andVC vc (some (m = (b : Int))), .sv (.full c ((xs.take b).drop a)), []⟩
             | none => none) else none
       | _ => none
     | _ => none
 | _, _, _ => none

def sliceStillO (P : Program) (hp : List (Nat × SObj)) (t : TypeId) (x : SV) (lo hi mx : Option SV) : Option Res :=
 match asSlice hp x with
 | some ⟨c, xs, some l, vc⟩ => match sliceO P [] t (.dv (.imm c xs)) lo hi mx with
   | some r => some ⟨andVC vc r.vc, r.out, stills hp (some l)⟩
   | none => none
 | _ => none
def sliceRowO (P : Program) (hp : List (Nat × SObj)) (t : TypeId) (lab : Nat) (x : SV) (lo hi mx : Option SV) : Option Res :=
 match x, P.underlying t with
 | .ref (.row l), some (.slice e) => match look l hp with
   | .row e' s c xs ro => bif Nat.beq s (sizeT P e) && Nat.beq c.size s && !Nat.beq s 0 then
       (match natOf lo, natOf hi, mx with
       | some (some a), some none, none => some ⟨some (leP 0 a ∧ a < xs.length), .sv (.ref (.ewin l [] 0 c a.toNat (xs.length - a.toNat) xs.length)), []⟩
       | some none, some (some b), none => bif ro then none else some ⟨some (leP 0 b ∧ leP b xs.length ∧ 0 < xs.length), .sv (.ref (.row lab)), [(lab, .row e' s c (xs.take b.toNat) false), (l, .gone)]⟩
       | _, _, _ => none) else none
   | _ => none
 | _, _ => none
def clearO (P : Program) (hp : List (Nat × SObj)) (t : TypeId) (x : SV) : Option Res :=
 match x, P.underlying t with
 | .ref (.ewin l [] 0 c start len _), some (.slice e) => match look l hp, code P e with
   | .row e' s k xs false, some c' => if c' = k then (bif Nat.beq c.size k.size && !Nat.beq k.size 0 then
       some ⟨some (start + len ≤ xs.length), .tup [], [(l, .row e' s k (xs.take start ++ (List.replicate len k.dflt ++ xs.drop (start + len))) false)]⟩ else none) else none
   | _, _ => none
 | _, _ => none
def allocXO (P : Program) (t : TypeId) (lab : Nat) : Option Res :=
 match P.underlying t with
 | some (.array n e) => match code P e with
   | some (.slc c) => bif zeroIs P t (zeroL (.arr n (.slc c))) && Nat.ble n 8 then some ⟨none, .sv (.ref (.cell lab [] 0)), [(lab, .cells (rep (.run (.one (.nils c))) n) false)]⟩ else none
   | _ => none
 | _ => none
def arrAtO (P : Program) (hp : List (Nat × SObj)) (arr : TypeId) (x : SV) : Option Res :=
 match P.underlying arr, asSlice hp x with
 | some (.array n e), some ⟨c, xs, st, vc⟩ => bif Nat.beq c.size (sizeT P e) && Nat.ble 1 n then some ⟨andVC vc (some (n ≤ xs.length)), .sv (.ipt [.many c n (xs.take n)]), stills hp st⟩ else none
 | _, _ => none

def inOrder : Nat → List (Nat × SV) → Bool
 | _, [] => true
 | k, (i, _) :: r => Nat.beq k i && inOrder (k + 1) r
structure Dec (α : Type) where
 x : α
 upd : List (Nat × SObj)
 vc : Option Prop
def decSV (hp : List (Nat × SObj)) (t : T) (v : SV) : Option (Dec t.den) :=
 match asData hp v with
 | some d => match toCells d.v with
   | some cs => match decAll t cs with
     | some x => some ⟨x, d.upd, d.vc⟩
     | none => none
   | none => none
 | none => none
def decParts (hp : List (Nat × SObj)) (t : T) : List (Nat × SV) → Option (Dec (List t.den))
 | [] => some ⟨[], [], none⟩
 | (_, v) :: r => match decSV hp t v with
   | some d => match decParts hp t r with
     | some ds => some ⟨d.x :: ds.x, app d.upd ds.upd, andVC d.vc ds.vc⟩
     | none => none
   | none => none
def setParts (hp : List (Nat × SObj)) (t : T) (n : Nat) (xs : List t.den) : List (Nat × SV) → Option (Dec (List t.den))
 | [] => some ⟨xs, [], none⟩
 | (i, v) :: r => match decSV hp t v with
   | some d => bif Nat.blt i n then
       (match setParts hp t n (xs.set i d.x) r with
       | some ds => some ⟨ds.x, app d.upd ds.upd, andVC d.vc ds.vc⟩
       | none => none) else none
   | none => none
def lenL {α : Type} : List α → Nat
 | [] => 0
 | _ :: r => lenL r + 1
def rowOf (hp : List (Nat × SObj)) (t : T) (n : Nat) (parts : List (Nat × SV)) : Option (Dec (List t.den)) :=
 bif inOrder 0 parts && Nat.beq (lenL parts) n then decParts hp t parts else setParts hp t n (List.replicate n t.dflt) parts

def fillS (P : Program) (t : TypeId) : List SC → List (Nat × SV) → Option (List SC)
 | cs, [] => some cs
 | cs, (i, v) :: r => match fieldOf P t i, toCells v with
   | some (off, ft), some new => bif Nat.beq (sizeL new) (sizeT P ft) then
       (match replC cs off (sizeT P ft) new with
        | some cs' => fillS P t cs' r
        | none => none) else none
   | _, _ => none

def nilParts (P : Program) (tyOf : Nat → TypeId) : List (Nat × SV) → List (Nat × SV) := mapL fun p => (p.1, nilFor P (tyOf p.1) p.2)

def infosOk (P : Program) : List Field → Bool
 | [] => true
 | f :: r => match P.info? f.type with
   | some _ => infosOk P r
   | none => false
def buildO (P : Program) (hp : List (Nat × SObj)) (t : TypeId) (parts : List (Nat × SV)) : Option Res :=
 match P.underlying t with
 | some (.struct fs) => match zeros P t with
   | some z => match fillS P t z (nilParts P (fun i => ((fieldOf P t i).getD (0, 0)).2) parts) with
     | some cs => bif infosOk P fs.toList then val (.agg cs) else none
     | none => none
   | none => none
 | some (.array n e) => match code P e with
   | some c => match rowOf hp c n (nilParts P (fun _ => e) parts) with
     | some d => bif zeroIs P t (zeroL (.arr n c)) then some ⟨d.vc, .sv (.agg [.run (.many c n d.x)]), d.upd⟩ else none
     | none => none
   | none => none
 | _ => none
def buildSliceO (P : Program) (hp : List (Nat × SObj)) (t : TypeId) (n lab : Nat) (parts : List (Nat × SV)) : Option Res :=
 match P.underlying t with
 | some (.slice e) => match code P e with
   | some c => match rowOf hp c n (nilParts P (fun _ => e) parts) with
     | some d => bif Nat.ble n 4194304 && Nat.ble (n * c.size) 16777216 && Nat.ble 1 c.size then some ⟨d.vc, .sv (.own lab c d.x), app d.upd [(lab, .tok e c.size)]⟩ else none
     | none => none
   | none => none
 | _ => none

def buildRowO (P : Program) (hp : List (Nat × SObj)) (t : TypeId) (n lab : Nat) (parts : List (Nat × SV)) : Option Res :=
 match P.underlying t with
 | some (.slice e) => match code P e with
   | some c => match rowOf hp c n (nilParts P (fun _ => e) parts) with
     | some d => bif Nat.ble n 4194304 && Nat.ble (n * c.size) 16777216 && Nat.ble 1 c.size then some ⟨d.vc, .sv (.ref (.row lab)), app d.upd [(lab, .row e c.size c d.x false)]⟩ else none
     | none => none
   | none => none
 | _ => none

def fillP : List SC → List (Nat × SV) → Option (List SC)
 | cs, [] => some cs
 | cs, (i, v) :: r => match toCells v with
   | some [c] => bif Nat.beq c.size 1 then (match replC cs i 1 [c] with
     | some cs' => fillP cs' r
     | none => none) else none
   | _ => none
def buildPtrO (P : Program) (t : TypeId) (n lab : Nat) (parts : List (Nat × SV)) : Option Res :=
 match P.underlying t with
 | some (.slice e) => match P.underlying e with
   | some (.pointer _) => match fillP (rep (.run (.one (.cst (.pointer none)))) n) (nilParts P (fun _ => e) parts) with
     | some cs => bif zeroIs P e [.pointer none] && Nat.ble n 4096 && Nat.ble 1 n then some ⟨none, .sv (.ref (.cwin lab n)), [(lab, .cells cs false)]⟩ else none
     | none => none
   | _ => none
 | _ => none
def buildSl (P : Program) (hinted : Bool) (hp : List (Nat × SObj)) (t : TypeId) (n lab : Nat) (parts : List (Nat × SV)) : Option Res :=
 bif hinted then buildRowO P hp t n lab parts else match buildSliceO P hp t n lab parts with
  | some r => some r
  | none => buildPtrO P t n lab parts

def lenO (P : Program) (hp : List (Nat × SObj)) (t : TypeId) (x : SV) : Option Res :=
 match P.underlying t with
 | some (.array n _) => bif Nat.ble n 4194304 then dval (.i64 (n : Int)) else none
 | some .string => match x with
   | .dv (.str l) => dval (.i64 (l.length : Int))
   | _ => none
 | some (.slice _) => match x with
   | .ref (.win _ _ _ _ _ len _ _) => dval (.i64 (len : Int))
   | .ref (.ewin _ _ _ _ _ len _) => dval (.i64 (len : Int))
   | .ref (.cwin _ n) => dval (.i64 (n : Int))
   | .ref (.row l) => match look l hp with
     | .row _ _ _ xs _ => dval (.i64 (xs.length : Int))
     | _ => none
   | v => match asSlice hp v with
     | some d => dval (.i64 (d.xs.length : Int))
     | none => none
 | some (.map _ _) => match x with
   | .ref (.map l) => match look l hp with
     | .mp _ _ _ _ es => some ⟨some (inI64 (es.length : Int)), .sv (.dv (.i64 (es.length : Int))), []⟩
     | _ => none
   | _ => none
 | _ => none

def small (P : Program) (t : TypeId) : Bool := Nat.ble (P.bytesOf t) 4096

def srcOf (P : Program) (hp : List (Nat × SObj)) (c : T) (tx : TypeId) (x : SV) : Option (List c.den × Option Prop) :=
 match P.underlying tx with
 | some .string => match x with
   | .dv (.str l) => if h : T.u8 = c then some (castL h l, none) else none
   | _ => none
 | some (.slice _) => match asSlice hp x with
   | some d => if h : d.t = c then some (castL h d.xs, d.vc) else none
   | none => none
 | some (.int _) => match x with
   | .dv (.u64 n) => some (List.replicate n.toNat c.dflt, some (n.toNat ≤ ROOM))
   | .dv (.i64 n) => some (List.replicate n.toNat c.dflt, some (leP 0 n ∧ n.toNat ≤ ROOM))
   | _ => none
 | _ => none

def appendO (P : Program) (hp : List (Nat × SObj)) (ts tx : TypeId) (lab : Nat) (s x : SV) : Option Res :=
 match P.underlying ts with
 | some (.slice e) => match code P e with
   | none => none
   | some c =>
     bif !small P e || Nat.beq c.size 0 then none else
     match srcOf P hp c tx x with
     | none => none
     | some (ys, vc) =>
       match s with
       | .dv (.nils _) => some ⟨andVC vc (some (ys.length ≤ ROOM)), .sv (.own lab c ys), [(lab, .tok e c.size)]⟩
       | .full t xs => if h : t = c then some ⟨andVC vc (some (0 < ys.length ∧ xs.length + ys.length ≤ ROOM)), .sv (.own lab c (castL h xs ++ ys)), [(lab, .tok e c.size)]⟩ else none
       | .own k t xs => match look k hp with
         | .tok e' s => bif Nat.beq s c.size && Nat.beq e' e then
             (if h : t = c then some ⟨andVC vc (some (xs.length + ys.length ≤ ROOM)), .sv (.own lab c (castL h xs ++ ys)), [(k, .gone), (lab, .tok e c.size)]⟩ else none) else none
         | _ => none
       | _ => none
 | _ => none

def isRowV : SV → Bool
 | .ref (.row _) => true
 | _ => false
def appendRowO (P : Program) (hp : List (Nat × SObj)) (ts tx : TypeId) (lab : Nat) (s x : SV) : Option Res :=
 match P.underlying ts with
 | some (.slice e) => match code P e with
   | none => none
   | some c =>
     bif !small P e || Nat.beq c.size 0 then none else
     match srcOf P hp c tx x with
     | none => none
     | some (ys, vc) =>
       match s with
       | .dv (.nils _) => some ⟨andVC vc (some (ys.length ≤ ROOM)), .sv (.ref (.row lab)), [(lab, .row e c.size c ys false)]⟩
       | .full t xs => if h : t = c then some ⟨andVC vc (some (0 < ys.length ∧ xs.length + ys.length ≤ ROOM)), .sv (.ref (.row lab)), [(lab, .row e c.size c (castL h xs ++ ys) false)]⟩ else none
       | .ref (.row k) => match look k hp with
         | .row e' s t xs false => bif Nat.beq s c.size && Nat.beq e' e then
             (if h : t = c then some ⟨andVC vc (some (xs.length + ys.length ≤ ROOM)), .sv (.ref (.row lab)), [(k, .gone), (lab, .row e c.size c (castL h xs ++ ys) false)]⟩ else none) else none
         | _ => none
       | _ => none
 | _ => none

def spliceL {α : Type} (xs ys : List α) (start : Nat) : List α := xs.take start ++ (ys ++ xs.drop (start + ys.length))

def copyEO (P : Program) (hp : List (Nat × SObj)) (td tx : TypeId) (l : Nat) (p : List Hop) (o : Nat) (c : T) (start len m : Nat) (x : SV) : Option Res :=
 match P.underlying td, P.underlying tx with
 | some (.slice e), some (.slice _) =>
   match srcOf P hp c tx x, look l hp with
   | some (ys, vc), .row e' s k xs false =>
     match modAt (fun ds => modC (fun
      | .run (.many t n xs) => bif Nat.ble m n then
          (if h : c = t then some (.run (.many t n (spliceL xs (castL h (ys.take len)) start))) else none) else none
      | _ => none) ds o) p [.run (.many k xs.length xs)] with
     | some [.run (.many k' _ zs)] => if h : k' = k then
         (bif Nat.beq c.size 1 && Nat.beq (sizeT P e) 1 && !Nat.beq k.size 0 then
          some ⟨andVC vc (pathVC [.run (.many k xs.length xs)] p), .sv (.dv (.i64 (min ys.length len : Nat))), [(l, .row e' s k (castL h zs) false)]⟩ else none) else none
     | _ => none
   | _, _ => none
 | _, _ => none
def copyO (P : Program) (hp : List (Nat × SObj)) (td tx : TypeId) (d x : SV) : Option Res :=
 match d, P.underlying td, P.underlying tx with
 | .ref (.ewin l p o c start len m), _, _ => copyEO P hp td tx l p o c start len m x
 | .ref (.win l p o c start len m lit), some (.slice e), some (.slice _) =>
   match srcOf P hp c tx x, look l hp with
   | some (ys, vc), .cells cs false =>
     match modAt (fun ds => modC (fun
      | .run (.many t n xs) => bif lit && Nat.ble m n then
          (if h : c = t then some (.run (.many t n (spliceL xs (castL h (ys.take len)) start))) else none) else none
      | _ => none) ds o) p cs with
     | some cs' => bif allLit p && Nat.beq c.size 1 && Nat.beq (sizeT P e) 1 then some ⟨vc, .sv (.dv (.i64 (min ys.length len : Nat))), [(l, .cells cs' false)]⟩ else none
     | none => none
   | _, _ => none
 | _, _, _ => none

def makeSliceO (P : Program) (t : TypeId) (lab : Nat) (n m : SV) : Option Res :=
 match P.underlying t, n, m with
 | some (.slice e), .dv (.i64 n), .dv (.i64 m) => match code P e with
   | some c => bif !small P e then none else
     some ⟨some (eqP m n ∧ leP 0 n ∧ leP n (ROOM : Int)), .sv (.ref (.win lab [] 0 c 0 n.toNat n.toNat false)), [(lab, .cells [.run (.many c n.toNat (List.replicate n.toNat c.dflt))] false)]⟩
   | none => none
 | _, _, _ => none

def nilSV : SV → Bool
 | .dv (.cst (.slice none 0 0)) => true
 | _ => false
def nilsV : SV → Bool
 | .dv (.nils _) => true
 | .dv (.cst (.slice none 0 0)) => true
 | _ => false
def nilNil (P : Program) (op : BinOp) (t : TypeId) (x y : SV) : Option Bool :=
 match P.underlying t with
 | some (.slice _) => bif nilsV x && nilSV y then (match op with
   | .eql => some true
   | .neq => some false
   | _ => none) else none
 | some (.map _ _) => match x, y with
   | .ref (.map _), .dv (.cst (.map none)) => (match op with
     | .eql => some false
     | .neq => some true
     | _ => none)
   | _, _ => none
 | _ => none
def rowNilO (P : Program) (hp : List (Nat × SObj)) (op : BinOp) (t : TypeId) (x y : SV) : Option Res :=
 match x, P.underlying t with
 | .ref (.row l), some (.slice _) => match look l hp with
   | .row _ _ _ xs _ => bif nilSV y then
       (match op with
       | .eql => owed (0 < xs.length) (.dv (.bool false))
       | .neq => owed (0 < xs.length) (.dv (.bool true))
       | _ => none) else none
   | _ => none
 | _, _ => none
def makeRowO (P : Program) (t : TypeId) (lab : Nat) (n m : SV) : Option Res :=
 match P.underlying t, n, m with
 | some (.slice e), .dv (.i64 n), .dv (.i64 m) => match code P e with
   | some c => bif !small P e then none else
     some ⟨some (eqP m n ∧ leP 0 n ∧ leP n (ROOM : Int)), .sv (.ref (.row lab)), [(lab, .row e c.size c (List.replicate n.toNat c.dflt) false)]⟩
   | none => none
 | _, _, _ => none

def makeOwnO (P : Program) (t : TypeId) (lab : Nat) (n m : SV) : Option Res :=
 match P.underlying t, n, m with
 | some (.slice e), .dv (.i64 n), .dv (.i64 m) => match code P e with
   | some c => bif !small P e then none else
     some ⟨some (eqP m n ∧ leP 0 n ∧ leP n (16777216 : Int)), .sv (.own lab c (List.replicate n.toNat c.dflt)), [(lab, .tok e c.size)]⟩
   | none => none
 | _, _, _ => none

def mget (k : T) {v : Type} : List (k.den × v) → k.den → Option v
 | [], _ => none
 | p :: r, x => haveI := k.deq; bif decide (x = p.1) then some p.2 else mget k r x
def mput (k : T) {v : Type} : List (k.den × v) → k.den → v → List (k.den × v)
 | [], x, y => [(x, y)]
 | p :: r, x, y => haveI := k.deq; bif decide (x = p.1) then (p.1, y) :: r else p :: mput k r x y
def mdel (k : T) {v : Type} : List (k.den × v) → k.den → List (k.den × v)
 | [], _ => []
 | p :: r, x => haveI := k.deq; bif decide (x = p.1) then r else p :: mdel k r x
def zeroFits (va : Bool) (l : List Value) : Value → Bool
 | .agg a => va && eqVs a.toList l
 | z => match va, l with
   | false, [u] => eqV z u
   | _, _ => false
def flatT : T → Bool
 | .str => false
 | .slc _ => false
 | .arr _ t => flatT t
 | .pair a b => flatT a && flatT b
 | _ => true
def wideT (P : Program) (k : TypeId) (kt : T) : Bool :=
 (match P.underlying k with
 | some (.array _ _) | some (.struct _) => true
 | _ => false) && flatT kt && P.keyTypeAt 6 k && P.tiled 6 k && P.keyType k && (P.keyLits (P.types.size + 1) k (zeroL kt)).isSome && Nat.beq (P.cellsOf k) kt.size
def keyT (P : Program) (k : TypeId) (ka : Bool) (kt : T) : Bool := bif ka then wideT P k kt else scalarT P k kt
def mapOk (P : Program) (kty ety : TypeId) (ka : Bool) (kt : T) (va : Bool) (vt : T) : Bool :=
 keyT P kty ka kt && (match isAggT P ety, P.info? ety with
  | some b, some i => (b == va) && Nat.beq (P.cellsOf ety) vt.size && (match i.zero with
    | some z => zeroFits va (zeroL vt) z
    | none => false)
  | _, _ => false)
def plainOf (hp : List (Nat × SObj)) (ka : Bool) (t : T) (v : SV) : Option t.den :=
 match ka, v with
 | false, .dv d => match decSV hp t (.dv d) with
   | some ⟨x, [], none⟩ => some x
   | _ => none
 | true, .agg cs => decAll t cs
 | _, _ => none
def makeMapO (P : Program) (t : TypeId) (lab : Nat) (r : Option SV) : Option Res :=
 match r, P.underlying t with
 | none, some (.map kty ety) => match code P kty, code P ety, isAggT P ety, isAggT P kty with
   | some kt, some vt, some va, some ka => bif mapOk P kty ety ka kt va vt then some ⟨none, .sv (.ref (.map lab)), [(lab, .mp ka kt va vt [])]⟩ else none
   | _, _, _, _ => none
 | _, _ => none
def lookupO (P : Program) (hp : List (Nat × SObj)) (t : TypeId) (x i : SV) (commaOk : Bool) : Option Res :=
 match x, P.underlying t with
 | .ref (.map l), some (.map kty ety) => match look l hp with
   | .mp ka kt va vt es => bif mapOk P kty ety ka kt va vt then
       (match plainOf hp ka kt i with
       | some k => match ofCells P ety (ofRuns (enc vt ((mget kt es k).getD vt.dflt))) with
         | some v => some ⟨none, bif commaOk then .tup [v, .dv (.bool (mget kt es k).isSome)] else .sv v, []⟩
         | none => none
       | none => none) else none
   | _ => none
 | _, _ => none
def datSV (va : Bool) : SV → Bool
 | .dv _ => !va
 | .agg _ => va
 | _ => false
def mapUpdateO (P : Program) (hp : List (Nat × SObj)) (t : TypeId) (m k v : SV) : Option Res :=
 match m, P.underlying t with
 | .ref (.map l), some (.map kty ety) => match look l hp with
   | .mp ka kt va vt es => bif mapOk P kty ety ka kt va vt && datSV va v then
       (match plainOf hp ka kt k, decSV hp vt v with
       | some x, some ⟨y, [], vc⟩ => some ⟨vc, .un, [(l, .mp ka kt va vt (mput kt es x y))]⟩
       | _, _ => none) else none
   | _ => none
 | _, _ => none
def deleteO (P : Program) (hp : List (Nat × SObj)) (t : TypeId) (m k : SV) : Option Res :=
 match m, P.underlying t with
 | .ref (.map l), some (.map kty ety) => match look l hp with
   | .mp ka kt va vt es => bif mapOk P kty ety ka kt va vt then
       (match plainOf hp ka kt k with
       | some x => some ⟨none, .un, [(l, .mp ka kt va vt (mdel kt es x))]⟩
       | _ => none) else none
   | _ => none
 | _, _ => none

def minmax (mx : Bool) : Int → List SV → Option Int
 | a, [] => some a
 | a, .dv (.i64 b) :: r => minmax mx (bif mx then max a b else min a b) r
 | _, _ => none
def minmaxO (mx : Bool) : List SV → Option Res
 | .dv (.i64 a) :: r => match minmax mx a r with
   | some n => dval (.i64 n)
   | none => none
 | _ => none

structure CRes where
 vc : Option Prop
 out : Sl
 rcv : Option (List SC)
 fresh : Option SObj
structure GRes where
 vc : Option Prop
 out : Sl
 post : List (Nat × SObj)
structure PC where
 ptr : Bool
 ct : List SV → Option CRes
 gr : Option (List Bool × (List SV → List (Nat × SObj) → Option GRes)) := none
 alt : Option (List Bool × (List SV → List (Nat × SObj) → Option GRes)) := none
 keep : List Nat := []
def PC.flip (c : PC) : PC := { c with gr := c.alt, keep := [] }
def altG : Bool → (FuncId → Option PC) → FuncId → Option PC
 | false, Γ => Γ
 | true, Γ => fun f => match Γ f with
   | some c => some c.flip
   | none => none
def relN (lab k : Nat) : Nat := bif Nat.beq k 0 then lab else k
def relabV (lab : Nat) : SV → SV
 | .own k t xs => .own (relN lab k) t xs
 | .ref (.cell k p o) => .ref (.cell (relN lab k) p o)
 | .ref _ => .top
 | .agg cs => match toRuns cs with
   | some rs => .agg (ofRuns rs)
   | none => .top
 | .clr _ _ => .top
 | .yld _ => .top
 | v => v
def relabS (lab : Nat) : Sl → Sl
 | .sv v => .sv (relabV lab v)
 | .tup vs => .tup (mapL (relabV lab) vs)
 | .cond _ _ _ => .un
 | .un => .un

def svOf : Sl → Option SV
 | .sv v => some v
 | _ => none

def argsOf (P : Program) (ts : List TypeId) (vs : List SV) : List SV :=
 match ts, vs with
 | t :: ts, v :: vs => nilFor P t v :: argsOf P ts vs
 | _, vs => vs

def putAll : List (Nat × SObj) → List (Nat × SObj) → List (Nat × SObj)
 | hp, [] => hp
 | hp, (l, o) :: r => putAll (put l o hp) r

def labelsOf : List (Nat × SObj) → List Nat
 | [] => []
 | (l, _) :: r => l :: labelsOf r
def freshU (lab : Nat) : Option SObj → Option (List (Nat × SObj))
 | none => some []
 | some (.cells cs false) => match toRuns cs with
   | some rs => some [(lab, .cells (ofRuns rs) false)]
   | none => none
 | some (.tok e s) => some [(lab, .tok e s)]
 | _ => none
def labR : Ref → Nat
 | .cell l _ _ => l
 | .win l _ _ _ _ _ _ _ => l
 | .map l => l
 | .row l => l
 | .elt l _ _ => l
 | .ewin l _ _ _ _ _ _ => l
 | .cwin l _ => l
def labsC : List SC → List Nat
 | [] => []
 | .run _ :: r => labsC r
 | .ref x :: r => labR x :: labsC r
 | .own k _ _ :: r => k :: labsC r
def labsV : SV → List Nat
 | .own k _ _ => [k]
 | .ref r => [labR r]
 | .agg cs => labsC cs
 | .clr _ cs => labsC cs
 | .yld k => [k]
 | _ => []
def refArgs : List SC → Option (List SV)
 | [] => some []
 | .ref r :: l => match refArgs l with
   | some vs => some (.ref r :: vs)
   | none => none
 | _ :: _ => none
def refCaps : List SV → Option (List SC)
 | [] => some []
 | .ref r :: l => match refCaps l with
   | some cs => some (.ref r :: cs)
   | none => none
 | _ :: _ => none
def labsVs : List SV → List Nat
 | [] => []
 | v :: r => app (labsV v) (labsVs r)
def labsS : Sl → List Nat
 | .sv v => labsV v
 | .tup vs => labsVs vs
 | .cond _ _ v => labsV v
 | .un => []
def labsO : SObj → List Nat
 | .cells cs _ => labsC cs
 | _ => []
def memN (n : Nat) : List Nat → Bool
 | [] => false
 | k :: r => Nat.beq n k || memN n r
def allN (f : Nat → Bool) : List Nat → Bool
 | [] => true
 | k :: r => f k && allN f r
def renR (f : Nat → Nat) : Ref → Ref
 | .cell l p o => .cell (f l) p o
 | .win l p o t s len n lit => .win (f l) p o t s len n lit
 | .map l => .map (f l)
 | .row l => .row (f l)
 | .elt l p o => .elt (f l) p o
 | .ewin l p o t s len n => .ewin (f l) p o t s len n
 | .cwin l n => .cwin (f l) n
def renC (f : Nat → Nat) : List SC → List SC
 | [] => []
 | .run r :: l => .run r :: renC f l
 | .ref r :: l => .ref (renR f r) :: renC f l
 | .own k t xs :: l => .own (f k) t xs :: renC f l
def renV (f : Nat → Nat) : SV → SV
 | .own k t xs => .own (f k) t xs
 | .ref r => .ref (renR f r)
 | .agg cs => .agg (renC f cs)
 | .clr g cs => .clr g (renC f cs)
 | .yld k => .yld (f k)
 | v => v
def renS (f : Nat → Nat) : Sl → Sl
 | .sv v => .sv (renV f v)
 | .tup vs => .tup (mapL (renV f) vs)
 | _ => .un
def renO (f : Nat → Nat) : SObj → SObj
 | .cells cs ro => .cells (renC f cs) ro
 | o => o
def reach (hp : List (Nat × SObj)) : Nat → List Nat → List Nat → List Nat
 | 0, _, acc => acc
 | _ + 1, [], acc => acc
 | k + 1, l :: r, acc => bif memN l acc then reach hp k r acc else reach hp k (app (labsO (look l hp)) r) (app acc [l])
def isGone : SObj → Bool
 | .gone => true
 | _ => false
def closedB (hp : List (Nat × SObj)) (order : List Nat) : Bool := allN (fun l => !isGone (look l hp) && allN (fun m => memN m order) (labsO (look l hp))) order
def numOf : List Nat → Nat → Nat
 | [], _ => 0
 | k :: r, l => bif Nat.beq k l then 1 else (match numOf r l with
   | 0 => 0
   | n => n + 1)
def canonH (f : Nat → Nat) (hp : List (Nat × SObj)) : List Nat → List (Nat × SObj)
 | [] => []
 | l :: r => (f l, renO f (look l hp)) :: canonH f hp r
def backOf (order : List Nat) (lab : Nat) (i : Nat) : Nat :=
 match i with
 | 0 => lab
 | j + 1 => match nthO order j with
   | some l => l
   | none => lab + STRIDE * (j + 1)
def backH (f : Nat → Nat) : List (Nat × SObj) → List (Nat × SObj)
 | [] => []
 | (i, o) :: r => (f i, renO f o) :: backH f r
def killAll : List Nat → List (Nat × SObj)
 | [] => []
 | l :: r => (l, .gone) :: killAll r
def distinctN : List Nat → Bool
 | [] => true
 | k :: r => !memN k r && distinctN r
def postOk (post : List (Nat × SObj)) : List (Nat × SObj) → Bool
 | [] => true
 | (i, o) :: r => Nat.blt i 1000 && !isGone o && allN (fun m => !isGone (look m post)) (labsO o) && postOk post r
def gArgs (hp : List (Nat × SObj)) : List Bool → List SV → Option Dats
 | [], [] => some ⟨[], [], none⟩
 | true :: fs, v :: r => match asData hp v with
   | some d => match gArgs hp fs r with
     | some ds => some ⟨d.v :: ds.vs, app d.upd ds.upd, andVC d.vc ds.vc⟩
     | none => none
   | none => none
 | false :: fs, v :: r => match gArgs hp fs r with
   | some ds => some ⟨v :: ds.vs, ds.upd, ds.vc⟩
   | none => none
 | _, _ => none
def orderG (hp : List (Nat × SObj)) (d : Dats) : List Nat := reach (putAll hp d.upd) 100 (labsVs d.vs) []
def keepNames (keep : List Nat) : List Nat → List Nat
 | [] => []
 | k :: r => bif memN k keep then k :: keepNames keep r else keepNames keep r
def keepVC (heap post : List (Nat × SObj)) : List Nat → Option Prop
 | [] => none
 | k :: r => andVC (some (eqP (look k post) (look k heap))) (keepVC heap post r)
def namesKept (keep order : List Nat) : List Nat := keepNames keep (mapL (numOf order) order)
def notKept (keep : List Nat) (num : Nat → Nat) : List Nat → List Nat
 | [] => []
 | l :: r => bif memN (num l) keep then notKept keep num r else l :: notKept keep num r
def dropKept (keep names : List Nat) : List (Nat × SObj) → List (Nat × SObj)
 | [] => []
 | (k, o) :: r => bif memN k keep && memN k names then dropKept keep names r else (k, o) :: dropKept keep names r
def callG (P : Program) (flags : List Bool) (g : List SV → List (Nat × SObj) → Option GRes) (keep : List Nat) (hp : List (Nat × SObj)) (ts : List TypeId) (lab : Nat) (vs : List SV) : Option Res :=
 match gArgs hp flags (argsOf P ts vs) with
 | some d => bif closedB (putAll hp d.upd) (orderG hp d) && allN (fun m => memN m (orderG hp d)) (labsVs d.vs) && distinctN (orderG hp d) then
     (match g (mapL (renV (numOf (orderG hp d))) d.vs) (canonH (numOf (orderG hp d)) (putAll hp d.upd) (orderG hp d)) with
     | some r => bif postOk r.post r.post && distinctN (labelsOf r.post) && allN (fun m => !isGone (look m r.post)) (labsS r.out) then
         some ⟨andVC d.vc (andVC r.vc (keepVC (canonH (numOf (orderG hp d)) (putAll hp d.upd) (orderG hp d)) r.post (namesKept keep (orderG hp d)))), renS (backOf (orderG hp d) lab) r.out, app d.upd (app (killAll (notKept keep (numOf (orderG hp d)) (orderG hp d))) (backH (backOf (orderG hp d) lab) (dropKept keep (mapL (numOf (orderG hp d)) (orderG hp d)) r.post)))⟩ else none
     | none => none) else none
 | none => none
def callO (P : Program) (Γ : FuncId → Option PC) (hp : List (Nat × SObj)) (f : FuncId) (ts : List TypeId) (lab : Nat) (vs : List SV) : Option Res :=
 match Γ f with
 | none => none
 | some c => match c.gr with
   | some (flags, g) => callG P flags g c.keep hp ts lab vs
   | none => match c.ptr, argsOf P ts vs with
   | false, as => match asDatas hp as with
     | some d => match c.ct d.vs with
       | some ⟨vc, out, none, fr⟩ => match freshU lab fr with
         | some u => some ⟨andVC d.vc vc, relabS lab out, app d.upd u⟩
         | none => none
       | _ => none
     | none => none
   | true, .ref (.cell l [] 0) :: as => match asDatas hp as with
     | some d => match look l (putAll hp d.upd) with
       | .cells cs false => match toRuns cs with
         | some rs => match c.ct (.agg (ofRuns rs) :: d.vs) with
           | some ⟨vc, out, some new, fr⟩ => match freshU lab fr, toRuns new with
             | some u, some rs' => some ⟨andVC d.vc vc, relabS lab out, app d.upd ((l, .cells (ofRuns rs') false) :: u)⟩
             | _, _ => none
           | _ => none
         | none => none
       | _ => none
     | none => none
   | _, _ => none

def ev (S : SState) (x : Operand) : Option SV := svOf (evalO S x)
def evs (S : SState) (xs : List Operand) : Option (List SV) := optMap (ev S) xs
def evP (S : SState) (xs : List (Nat × Operand)) : Option (List (Nat × SV)) :=
 optMap (fun p => match ev S p.2 with | some v => some (p.1, v) | none => none) xs
def evO (S : SState) : Option Operand → Option (Option SV)
 | none => some none
 | some x => match ev S x with
   | some v => some (some v)
   | none => none

def armOf (S : SState) (g : Nat) (want : Bool) (x : Operand) : Option Bool :=
 match evalO S x with
 | .sv (.dv (.bool v)) => some v
 | .cond g' want' (.dv (.bool v)) => bif Nat.beq g g' && (want == want') then some v else none
 | _ => none
def pickO (S : SState) (c a b : Operand) : Option Res :=
 match c with
 | .tmp g => match evalO S c, armOf S g true a, armOf S g false b with
   | .sv (.dv (.bool cb)), some va, some vb =>
     match a, b with
     | .const (.bool true), _ => dval (.bool (cb || vb))
     | _, .const (.bool false) => dval (.bool (cb && va))
     | _, _ => dval (.bool (bif cb then va else vb))
   | _, _, _ => none
 | _ => none

def callsOf (S : SState) (c : Call) : Option (FuncId × List SV) :=
 match c.callee, evs S c.args.toList with
 | .value (.func f), some vs => some (f, vs)
 | .value (.tmp t), some vs => match S.get t with
   | .sv (.clo f caps) => some (f, app vs (mapL SV.ipt caps))
   | .sv (.clr f cs) => match refArgs cs with
     | some rs => some (f, app vs rs)
     | none => none
   | _ => none
 | _, _ => none
def rdO (P : Program) (Γ : FuncId → Option PC) (hp : List (Nat × SObj)) (f : FuncId) (ts : List TypeId) (vs : List SV) : List Nat :=
 match Γ f with
 | some c => match c.gr with
   | some (flags, _) => match gArgs hp flags (argsOf P ts vs) with
     | some d => orderG hp d
     | none => []
   | none => []
 | none => []
def readsAt (P : Program) (Γ : FuncId → Option PC) (S : SState) (o : Oper) (lab : Nat) : List Nat :=
 match o.op with
 | .call c => match callsOf S c with
   | some (f, vs) => rdO P (altG (memN lab S.rows) Γ) S.hp f c.argTypes.toList vs
   | none => []
 | _ => []
def hLit : Nat := STRIDE * 8
def hAlloc : Nat := STRIDE * 9
def hRow : Nat := STRIDE * 10
def resOp (P : Program) (Γ : FuncId → Option PC) (S : SState) (o : Oper) (lab : Nat) : Option Res :=
 match o.op with
 | .move x => match evalO S x with
   | .sv v => val (nilFor P o.type v)
   | sl => some ⟨none, sl, []⟩
 | .assign x => match ev S x with
   | some v => val (nilFor P o.type v)
   | none => none
 | .pick c a b => pickO S c a b
 | .alloc t => bif memN (lab + hAlloc) S.rows then allocXO P t lab else (match zeros P t with
   | some cs => some ⟨none, .sv (.ref (.cell lab [] 0)), [(lab, .cells cs false)]⟩
   | none => none)
 | .box t x => match (ev S x).bind (fun v => toCells (nilFor P t v)) with
   | some cs => bif Nat.beq (sizeL cs) (sizeT P t) then some ⟨none, .sv (.ref (.cell lab [] 0)), [(lab, .cells cs false)]⟩ else none
   | none => none
 | .build t parts => (evP S parts.toList).bind (buildO P S.hp t)
 | .buildSlice t n parts => (evP S parts.toList).bind (buildSl P (memN lab S.rows) S.hp t n lab)
 | .load t x => (ev S x).bind (loadO P S.hp t)
 | .store t x v => match ev S x, ev S v, P.underlying t with
   | some x, some v, some _ => storeO P S.hp t x (nilFor P t v)
   | _, _, _ => none
 | .nilCheck x => match ev S x with
   | some (.ref (.cell l p o)) => val (.ref (.cell l p o))
   | some (.ref (.elt l p o)) => val (.ref (.elt l p o))
   | _ => none
 | .binOp op t x y _ => match ev S x, ev S y with
   | some x, some y => bif isRowV x then rowNilO P S.hp op t x y else (match nilNil P op t x y with
     | some q => dval (.bool q)
     | none => binO P op t x y)
   | _, _ => none
 | .unOp op _ x => (ev S x).bind (unO op)
 | .convert src dst x => (ev S x).bind (convO P S.hp lab src dst)
 | .sliceToArrayPointer a x => (ev S x).bind (arrAtO P S.hp a)
 | .makeSlice t l c => match ev S l, ev S c with
   | some l, some c => bif memN lab S.rows then makeRowO P t lab l c else bif memN (lab + STRIDE) S.rows then makeOwnO P t lab l c else makeSliceO P t lab l c
   | _, _ => none
 | .slice t x lo hi mx => match ev S x, evO S lo, evO S hi, evO S mx with
   | some x, some lo, some hi, some mx => bif memN (lab + hRow) S.rows then sliceRowO P S.hp t lab x lo hi mx else (match sliceO P S.hp t x lo hi mx with
     | some r => some r
     | none => sliceStillO P S.hp t x lo hi mx)
   | _, _, _, _ => none
 | .fieldAddr t x f => (ev S x).bind (fieldAddrO P t · f)
 | .field t x f => (ev S x).bind (fieldO P t · f)
 | .indexAddr t x i => match ev S x, ev S i with
   | some x, some i => bif memN (lab + hLit) S.rows then indexLitO P t x i else indexAddrO P S.hp t x i
   | _, _ => none
 | .index t x i => match ev S x, ev S i with
   | some x, some i => indexO P t x i
   | _, _ => none
 | .extract x i => match evalO S x with
   | .tup vs => (nthO vs i).bind val
   | _ => none
 | .call c => match c.callee, evs S c.args.toList with
   | .builtin b, some vs => match b, c.argTypes.toList, argsOf P c.argTypes.toList vs with
     | .len, [t], [x] => lenO P S.hp t x
     | .append, [ts, tx], [s, x] => bif memN lab S.rows || isRowV s then appendRowO P S.hp ts tx lab s x else appendO P S.hp ts tx lab s x
     | .copy, [td, tx], [d, x] => copyO P S.hp td tx d x
     | .delete, [tm, _], [m, k] => deleteO P S.hp tm m k
     | .clear, [ts], [s] => clearO P S.hp ts s
     | .min, _, vs => minmaxO false vs
     | .max, _, vs => minmaxO true vs
     | _, _, _ => none
   | .value (.func f), some vs => callO P (altG (memN lab S.rows) Γ) S.hp f c.argTypes.toList lab vs
   | .value (.tmp t), some vs => match S.get t with
     | .sv (.clo f caps) => callO P (altG (memN lab S.rows) Γ) S.hp f c.argTypes.toList lab (app vs (mapL SV.ipt caps))
     | .sv (.clr f cs) => match refArgs cs with
       | some rs => callO P (altG (memN lab S.rows) Γ) S.hp f c.argTypes.toList lab (app vs rs)
       | none => none
     | _ => none
   | _, _ => none
 | .makeFunc (.func f) first captured => match first.toList, evs S captured.toList with
   | [], some vs => bif memN (lab + STRIDE * 11) S.rows then (match refCaps vs with
     | some cs => some ⟨none, .sv (.clr f cs), []⟩
     | none => none) else match capsO S.hp vs with
     | some c => some ⟨none, .sv (.clo f c.rss), c.upd⟩
     | none => none
   | _, _ => none
 | .makeInterface t x => match ev S x, P.underlying t with
   | some (.agg []), some (.struct _) => val (.dv (.cst (.iface t (.agg #[]))))
   | _, _ => none
 | .makeMap t r => match r with
   | none => makeMapO P t lab none
   | some _ => none
 | .lookup t x i ok => match ev S x, ev S i with
   | some x, some i => lookupO P S.hp t x i ok
   | _, _ => none
 | .mapUpdate t m k v => match ev S m, ev S k, ev S v with
   | some m, some k, some v => mapUpdateO P S.hp t m k v
   | _, _, _ => none
 | _ => none

def SState.apply (S : SState) (dst : Option Nat) (r : Res) : SState := { S.set dst r.out with hp := putAll S.hp r.upd, wr := app (labelsOf r.upd) S.wr }

def freeOf (d : Nat) : List Sl → Bool
 | [] => true
 | .cond g _ _ :: r => !Nat.beq g d && freeOf d r
 | _ :: r => freeOf d r
def SState.free (S : SState) : Option Nat → Bool
 | some d => freeOf d S.tmps
 | none => true
def uncond : Sl → Sl
 | .cond _ _ _ => .un
 | s => s

def owe (p : Option Prop) (q : Prop) : Prop :=
 match p with
 | some p => p ∧ q
 | none => q
def nilL {α : Type} : List α → Bool
 | [] => true
 | _ => false

def dstOf (ops : List Oper) (j : Nat) : Option Nat := (ops[j]?).bind (·.dst)

def chainO (all : List Oper) : Nat → Nat → Bool → List (Nat × Bool)
 | 0, _, _ => []
 | k + 1, j, want => match dstOf all j with
   | some g => match (all[j]?).bind (·.guard) with
     | some (j', want') => (g, want) :: chainO all k j' want'
     | none => [(g, want)]
   | none => []
def memB (g : Nat) (want : Bool) : List (Nat × Bool) → Bool
 | [] => false
 | (g', want') :: r => (Nat.beq g g' && (want == want')) || memB g want r
def bare (l : List (Nat × Bool)) : Sl → Sl
 | .cond g want v => bif memB g want l then .sv v else .cond g want v
 | s => s
def SState.bare (S : SState) (l : List (Nat × Bool)) : SState := { S with tmps := mapL (Vse.bare l) S.tmps }
def metO (S : SState) : List (Nat × Bool) → Option (List Prop)
 | [] => none
 | (g, want) :: r => match S.get g with
   | .sv (.dv (.bool b)) => bif nilL r then some [eqP b want] else none
   | .cond g' want' (.dv (.bool b)) => match r with
     | (g2, want2) :: _ => bif Nat.beq g' g2 && (want' == want2) then (match metO S r with
       | some ps => some (eqP b want :: ps)
       | none => none) else none
     | [] => none
   | _ => none

def impVC (c : Prop) : Option Prop → Option Prop
 | none => none
 | some p => some (c → p)
def impAll : List Prop → Option Prop → Option Prop
 | [], p => p
 | c :: r, p => impAll r (impVC c p)
def isU8 : T → Bool
 | .u8 => true
 | _ => false
def dataRes (bytes : Bool) (lab : Nat) : Option Res → Option Res
 | some ⟨vc, .sv (.own k c xs), [(l, _)]⟩ => bif Nat.beq l lab && Nat.beq k lab && (bytes || !isU8 c) then some ⟨vc, .sv (.dv (.imm c xs)), []⟩ else none
 | _ => none
def resG (P : Program) (Γ : FuncId → Option PC) (S : SState) (o : Oper) (lab : Nat) : Option Res :=
 match o.op with
 | .buildSlice _ _ _ => dataRes false lab (resOp P Γ S o lab)
 | .convert _ _ _ => match resOp P Γ S o lab with
   | some ⟨vc, .sv v, []⟩ => some ⟨vc, .sv v, []⟩
   | r => dataRes true lab r
 | _ => resOp P Γ S o lab
def isSliceOp : Op → Bool
 | .slice _ _ _ _ _ => true
 | _ => false
def isRowO : SObj → Bool
 | .row _ _ _ _ _ => true
 | _ => false
def guardG (all : List Oper) (o : Oper) : Option (Nat × Bool) :=
 match o.guard with
 | some (j, want) => match chainO all deep j want with
   | [(g, w)] => some (g, w)
   | _ => none
 | none => none
def skipped (g : Nat) (w : Bool) : Sl := .cond g w (.dv (.bool false))
def LITB : Nat := STRIDE * 1000
def litOf (rows : List Nat) : Option Int := bif memN LITB rows then some 0 else bif memN (LITB + 1) rows then some 1 else none
def dropLit : List Nat → List Nat
 | [] => []
 | k :: r => bif Nat.beq k LITB || Nat.beq k (LITB + 1) then dropLit r else k :: dropLit r
def SState.lit (S : SState) (k : Nat) : SState := { S with rows := (LITB + k) :: dropLit S.rows }
def hSplit : Nat := STRIDE * 6
def hSame : Nat := STRIDE * 7
def litR (k : Option Int) (r : Option Res) : Option Res :=
 match r, k with
 | some ⟨vc, .sv (.dv (.i64 v)), u⟩, some k => some ⟨andVC vc (some (eqP v k)), .sv (.dv (.i64 k)), u⟩
 | r, _ => r
def litO (S : SState) (lab : Nat) (r : Option Res) : Option Res := bif memN (lab + hSame) S.rows then litR (litOf S.rows) r else r
def splitI (S : SState) (lab : Nat) (r : Res) : Option Int := bif memN (lab + hSplit) S.rows then (match r.out with
 | .sv (.dv (.i64 v)) => some v
 | _ => none) else none
def Res.int (r : Res) (k : Int) : Res := { r with out := .sv (.dv (.i64 k)) }
def stepO0 (P : Program) (Γ : FuncId → Option PC) (all : List Oper) (S : SState) (o : Oper) (lab : Nat) : Option Res :=
 match o.guard with
 | none => litO S lab (resOp P Γ S o lab)
 | some (j, want) => match chainO all deep j want with
   | (g, w) :: r => match metO S ((g, w) :: r), resG P Γ (S.bare ((g, w) :: r)) o lab with
     | some ps, some ⟨vc, .sv v, []⟩ => some ⟨impAll ps vc, .cond g w v, []⟩
     | some ps, some ⟨vc, .sv v, (l, _) :: _⟩ => bif isSliceOp o.op && isRowO (look l S.hp) then some ⟨impAll ps vc, .cond g w v, stills S.hp (some l)⟩ else none
     | _, _ => none
   | [] => none
def sureO (P : Program) (Γ : FuncId → Option PC) (all : List Oper) (S : SState) (o : Oper) (lab : Nat) : Option Res :=
 match guardG all o with
 | some (g, w) => match S.get g with
   | .sv (.dv (.bool b)) => bif b == w then resOp P Γ (S.bare [(g, w)]) o lab else some ⟨none, skipped g w, []⟩
   | _ => none
 | none => none
def allP : List Prop → Prop
 | [] => True
 | [p] => p
 | p :: r => p ∧ allP r
def stepOwed (P : Program) (Γ : FuncId → Option PC) (all : List Oper) (S : SState) (o : Oper) (lab : Nat) : Option Res :=
 match o.guard with
 | none => none
 | some (j, want) => match chainO all deep j want with
   | (g, w) :: r => match metO S ((g, w) :: r), resOp P Γ (S.bare ((g, w) :: r)) o lab with
     | some ps, some x => some ⟨andVC (some (allP ps)) x.vc, x.out, x.upd⟩
     | _, _ => none
   | [] => none
def stepO (P : Program) (Γ : FuncId → Option PC) (all : List Oper) (S : SState) (o : Oper) (lab : Nat) : Option Res :=
 bif memN (lab + STRIDE * 5) S.rows then sureO P Γ all S o lab else bif memN (lab + STRIDE * 12) S.rows && o.guard.isSome then stepOwed P Γ all S o lab else stepO0 P Γ all S o lab
def stepR (P : Program) (Γ : FuncId → Option PC) (all : List Oper) (S : SState) (o : Oper) (lab : Nat) : Option Res :=
 match stepO P Γ all S o lab with
 | some r => some r
 | none => stepOwed P Γ all S o lab
def okOut : Option Nat → Sl → Bool
 | some d, .cond g _ _ => !Nat.beq g d
 | _, _ => true

def isNilS : Value → Bool
 | .slice none 0 0 => true
 | _ => false
def nilT (P : Program) (S : SState) (same : Bool) (t : TypeId) (x y : Operand) : Option (Bool × Prop) :=
 match P.underlying t, ev S x, ev S y with
 | some (.slice _), some (.dv (.imm _ xs)), some (.dv (.cst v)) => bif isNilS v then some (same, eqP xs []) else none
 | some (.slice _), some (.own _ _ xs), some (.dv (.cst v)) => bif isNilS v then some (same, eqP xs []) else none
 | some (.slice _), some (.ref (.row l)), some (.dv (.cst v)) => match look l S.hp with
   | .row _ _ _ xs _ => bif isNilS v && memN (STRIDE * 4) S.rows then some (same, eqP xs []) else none
   | _ => none
 | _, _, _ => none
def nilTest (P : Program) (S : SState) (o : Oper) : Option (Bool × Prop) :=
 match o.guard, o.op with
 | none, .binOp .eql t x y _ => nilT P S true t x y
 | none, .binOp .neq t x y _ => nilT P S false t x y
 | _, _ => none
inductive DrawR where
 | range (f : Gh → Res)
 | next (vc : Prop) (r : Res) (kt vt : T) (left : List (kt.den × vt.den)) (f : kt.den → vt.den → List (kt.den × vt.den) → Res)
 | entry (r : Res)
def datS (agg : Bool) (t : T) (x : t.den) : SV := bif agg then .agg (ofRuns (enc t x)) else (match enc t x with
 | [.one d] => .dv d
 | _ => .top)
def ghostIn (hp : List (Nat × SObj)) : List (Nat × SObj) → Option Gh
 | [] => none
 | (l, _) :: r => match look l hp with
   | .mpi _ _ _ _ _ g => some g
   | _ => ghostIn hp r
def ghostOf (hp : List (Nat × SObj)) : Option Gh := ghostIn hp hp
def rangeO (P : Program) (hp : List (Nat × SObj)) (lab : Nat) (t : TypeId) (x : SV) : Option DrawR :=
 match x, P.underlying t with
 | .ref (.map l), some (.map _ _) => match look l hp with
   | .mp ka kt va vt es => some (.range fun g => ⟨none, .sv (.ref (.cell lab [] 0)), [(l, .mpi ka kt va vt es g), (lab, .it ka kt va vt es none g)]⟩)
   | _ => none
 | _, _ => none
def nextO (hp : List (Nat × SObj)) (x : SV) : Option DrawR :=
 match x, ghostOf hp with
 | .ref (.cell l [] 0), some g => match look l hp with
   | .it ka kt va vt left _ g' => some (.next (eqP g g') ⟨none, .tup [.dv (.cst (.bool false))], []⟩ kt vt left
       fun x y rest => ⟨none, .tup [.dv (.cst (.bool true)), datS ka kt x, datS va vt y], [(l, .it ka kt va vt rest (some (x, y)) g')]⟩)
   | _ => none
 | _, _ => none
def entryO (hp : List (Nat × SObj)) (x : SV) : Option DrawR :=
 match x, ghostOf hp with
 | .ref (.cell l [] 0), some g => match look l hp with
   | .it ka kt va vt _ (some (x, y)) g' => some (.entry ⟨some (eqP g g'), .tup [datS ka kt x, datS va vt y], []⟩)
   | _ => none
 | _, _ => none
def drawT (P : Program) (S : SState) (o : Oper) (lab : Nat) : Option DrawR :=
 match o.guard, o.op with
 | none, .range t x => (ev S x).bind (rangeO P S.hp lab t)
 | none, .next x false => (ev S x).bind (nextO S.hp)
 | none, .entry x => (ev S x).bind (entryO S.hp)
 | _, _ => none
def boolR (q : Bool) : Res := ⟨none, .sv (.dv (.bool q)), []⟩

def assignedOps : List Oper → List Nat
 | [] => []
 | o :: r => match o.dst with
   | some d => d :: assignedOps r
   | none => assignedOps r
def besideO (o : Oper) : Option Nat :=
 match o.op, o.dst with
 | .assign (.tmp t), some d => bif Nat.beq d t then none else some t
 | .move (.tmp t), some d => bif Nat.beq d t then none else some d
 | _, _ => none
def forgetL (all : List Oper) : List Oper → List Sl → List Sl
 | [], l => l
 | o :: r, l => match besideO o with
   | some t => match nth .un l t with
     | .sv (.own _ c xs) => bif memN t (assignedOps all) then forgetL all r (setN l t (.sv (.dv (.imm c xs)))) else forgetL all r l
     | _ => forgetL all r l
   | none => forgetL all r l
structure DC where
 ptr : Bool
 val : Value
 ct : List SV → Option Prop
structure Dy where
 dc : FuncId → Option DC
 kp : Value → SState → Prop
 kpd : Value → Prop
 yh : Option (SState → Nat → List SV → (Bool → SState → Prop) → Prop) := none
 rf : Option (Operand → Array Tmp → Code → Code → SState → (Exit → SState → Prop) → Prop) := none
def noDy : Dy := { dc := fun _ => none, kp := fun _ _ => False, kpd := fun _ => False }
structure DieR where
 vc : Option Prop
 at_ : Prop
 val : Value
 upd : List (Nat × SObj)
def dieCall (P : Program) (c : DC) (hp : List (Nat × SObj)) (ts : List TypeId) (vs : List SV) : Option DieR :=
 match c.ptr, argsOf P ts vs with
 | false, as => match asDatas hp as with
   | some d => match c.ct d.vs with
     | some p => some ⟨d.vc, p, c.val, d.upd⟩
     | none => none
   | none => none
 | true, .ref (.cell l [] 0) :: as => match asDatas hp as with
   | some d => match look l (putAll hp d.upd) with
     | .cells cs false => match toRuns cs with
       | some rs => match c.ct (.agg (ofRuns rs) :: d.vs) with
         | some p => some ⟨d.vc, p, c.val, app d.upd [(l, .gone)]⟩
         | none => none
       | none => none
     | _ => none
   | none => none
 | _, _ => none
def dieO (P : Program) (Y : Dy) (S : SState) (o : Oper) : Option DieR :=
 match o.guard, o.op with
 | none, .call c => match c.callee with
   | .value (.func f) => match Y.dc f with
     | some d => match evs S c.args.toList with
       | some vs => dieCall P d S.hp c.argTypes.toList vs
       | none => none
     | none => none
   | _ => none
 | none, .panic x => match ev S x with
   | some (.dv (.cst (.iface t v))) => some ⟨none, True, .iface t v, []⟩
   | _ => none
 | _, _ => none
def kpOps (Y : Dy) (S : SState) (d : DieR) : Prop := Y.kp d.val { S with hp := putAll S.hp d.upd }
def kpDraw (Y : Dy) (d : DieR) : Prop := Y.kpd d.val
def oweD (kp : DieR → Prop) (d : Option DieR) (vc : Option Prop) (q : Prop) : Prop :=
 match d with
 | none => owe vc q
 | some d => ((d.at_ → owe d.vc (kp d)) ∧ ((d.at_ → False) → owe vc True)) ∧ q
def thenD (kp : DieR → Prop) (d : Option DieR) (q : Prop) : Prop :=
 match d with
 | none => q
 | some d => (d.at_ → owe d.vc (kp d)) ∧ ((d.at_ → False) → q)
def SState.know (S : SState) (c : Operand) (q : Bool) : SState :=
 match c with
 | .tmp t => { S with tmps := setN S.tmps t (.sv (.dv (.cst (.bool q)))) }
 | _ => S
def skipG (all : List Oper) (S : SState) (o : Oper) : Option (Nat × Bool) :=
 match guardG all o with
 | some (g, w) => match bif memN (STRIDE * 3) S.rows then S.get g else .un with
   | .sv (.dv (.bool q)) => bif q == w then none else some (g, w)
   | _ => match nth .un S.tmps g with
     | .sv (.dv (.cst (.bool q))) => bif q == w then none else some (g, w)
     | _ => none
 | none => none
def splitG (all : List Oper) (S : SState) (o : Oper) (lab : Nat) : Option (Nat × Bool × Bool) :=
 bif memN (lab + STRIDE * 2) S.rows then (match guardG all o with
  | some (g, w) => match S.get g with
    | .sv (.dv (.bool b)) => some (g, w, b)
    | _ => none
  | none => none) else none
def yieldT (S : SState) (o : Oper) : Option (Nat × List SV) :=
 match o.guard, o.op with
 | none, .call c => match c.callee with
   | .value (.tmp t) => match S.get t with
     | .sv (.yld k) => match evs S c.args.toList with
       | some vs => some (k, vs)
       | none => none
     | _ => none
   | _ => none
 | _, _ => none
def runOps (P : Program) (Γ : FuncId → Option PC) (Y : Dy) (all : List Oper) : List Oper → Nat → SState → (SState → Prop) → Prop
 | [], lab, S, K => K { S with next := lab, tmps := forgetL all all (mapL uncond S.tmps) }
 | o :: rest, lab, S, K => bif Nat.blt lab STRIDE then (match yieldT S o with
   | some (k, vs) => match Y.yh with
     | some h => h { S with next := lab + 1 } k vs fun q S' => bif S'.free o.dst then runOps P Γ Y all rest S'.next (S'.apply o.dst (boolR q)) K else False
     | none => False
   | none => match drawT P S o lab with
   | some (.range f) => bif S.free o.dst then ∀ g : Gh, runOps P Γ Y all rest (lab + 1) (S.apply o.dst (f g)) K else False
   | some (.next vc r _ _ left f) => bif S.free o.dst then vc ∧ (eqP left [] → runOps P Γ Y all rest (lab + 1) (S.apply o.dst r) K) ∧ ∀ x y more, List.Perm left ((x, y) :: more) → runOps P Γ Y all rest (lab + 1) (S.apply o.dst (f x y more)) K else False
   | some (.entry r) => bif S.free o.dst && okOut o.dst r.out then owe r.vc (runOps P Γ Y all rest (lab + 1) (S.apply o.dst r) K) else False
   | none => match nilTest P S o with
   | some (same, p) => bif S.free o.dst then ∀ q : Bool, (eqP q true → p) → runOps P Γ Y all rest (lab + 1) (S.apply o.dst (boolR (q == same))) K else False
   | none => match skipG all S o with
     | some (g, w) => bif S.free o.dst && okOut o.dst (skipped g w) then runOps P Γ Y all rest (lab + 1) (S.set o.dst (skipped g w)) K else False
     | none => match splitG all S o lab with
       | some (g, w, b) =>
         (eqP b w → match resOp P Γ ((S.know (.tmp g) w).bare [(g, w)]) o lab with
          | some r => bif (S.know (.tmp g) w).free o.dst && okOut o.dst r.out then owe r.vc (runOps P Γ Y all rest (lab + 1) ((S.know (.tmp g) w).apply o.dst r) K) else False
          | none => False) ∧
         (eqP b (!w) → bif (S.know (.tmp g) (!w)).free o.dst && okOut o.dst (skipped g w) then runOps P Γ Y all rest (lab + 1) ((S.know (.tmp g) (!w)).set o.dst (skipped g w)) K else False)
       | none => thenD (kpOps Y S) (dieO P Y S o) (match stepR P Γ all S o lab with
         | some r => bif S.free o.dst && okOut o.dst r.out then owe r.vc (match splitI S lab r with
           | none => runOps P Γ Y all rest (lab + 1) (S.apply o.dst r) K
           | some v => (leP 0 v ∧ leP v 1) ∧ (eqP v 0 → runOps P Γ Y all rest (lab + 1) ((S.apply o.dst (r.int 0)).lit 0) K) ∧ (eqP v 1 → runOps P Γ Y all rest (lab + 1) ((S.apply o.dst (r.int 1)).lit 1) K)) else False
         | none => False)) else False

end Go.Vse
