/- The executor on code: conditions, loops, calls' ends. -/
import Derived.Test.YtdddnamfecgkeaaDoorWVseDefs
namespace Go.Vse

structure LoopAnn where
 X : Type
 slots : X → List (Nat × Sl)
 objs : X → List (Nat × SObj)
 inv : X → Prop
 meas : X → Nat

structure Ann where
 at_ : Nat → SState → Option LoopAnn
 prune : Nat := 0
 rows : List Nat := []
 unroll : List Nat := []
 pins : List Nat := [1]
 drops : List Nat := []
instance : Coe (Nat → SState → Option LoopAnn) Ann := ⟨fun f => { at_ := f }⟩

def assigned : Code → List Nat
 | .region _ ops _ => assignedOps ops.toList
 | .seq a b => app (assigned a) (assigned b)
 | .cond _ a b => app (assigned a) (assigned b)
 | .block _ c => assigned c
 | .scope c => assigned c
 | .loop c => assigned c
 | _ => []
def keyOf : Code → Nat
 | .region id _ _ => id
 | .seq a _ => keyOf a
 | .cond _ a _ => keyOf a
 | .block _ c => keyOf c
 | .scope c => keyOf c
 | .loop c => keyOf c
 | _ => 0

def clear : List Sl → List Nat → List Sl
 | l, [] => l
 | l, i :: r => clear (setN l i .un) r
def setAll : List Sl → List (Nat × Sl) → List Sl
 | l, [] => l
 | l, (i, v) :: r => setAll (setN l i v) r
def keysL {α : Type} : List (Nat × α) → List Nat
 | [] => []
 | (i, _) :: r => i :: keysL r
def isPlain : Ref → Bool
 | .cell _ [] _ => true
 | .map _ => true
 | .row _ => true
 | .cwin _ _ => true
 | _ => false
def plainR : Ref → Ref → Bool
 | .cell _ [] o, .cell _ [] o' => Nat.beq o o'
 | .map _, .map _ => true
 | .row _, .row _ => true
 | .cwin _ n, .cwin _ m => Nat.beq n m
 | _, _ => false
def refsC : List SC → List Nat
 | [] => []
 | .ref x :: r => bif isPlain x then refsC r else labR x :: refsC r
 | _ :: r => refsC r
def refsV : SV → List Nat
 | .ref r => bif isPlain r then [] else [labR r]
 | .agg cs => refsC cs
 | .clr _ cs => refsC cs
 | _ => []
def refsVs : List SV → List Nat
 | [] => []
 | v :: r => app (refsV v) (refsVs r)
def refsS : Sl → List Nat
 | .sv v => refsV v
 | .tup vs => refsVs vs
 | .cond _ _ v => labsV v
 | .un => []

def inL (as : List Nat) : List (Nat × Sl) → List (Nat × Sl)
 | [] => []
 | (t, v) :: r => bif memN t as then (t, v) :: inL as r else inL as r
def wholeB : List (Nat × SObj) → Bool
 | (l, o) :: _ => Nat.beq l 0 && isGone o
 | [] => false
def headHp (hp L : List (Nat × SObj)) : List (Nat × SObj) := bif wholeB L then putAll [] L else putAll hp L
def asg (ann : Ann) (c : Code) : List Nat := app (assigned c) ann.drops
def headOf (S : SState) (as : List Nat) (A : LoopAnn) (x : A.X) : SState :=
 { S with tmps := setAll (clear (mapL uncond S.tmps) as) (inL as (A.slots x)), hp := headHp S.hp (A.objs x), wr := [] }
def headWr (S : SState) (A : LoopAnn) (x : A.X) : List Nat := bif wholeB (A.objs x) then app (labelsOf (A.objs x)) (labelsOf S.hp) else labelsOf (A.objs x)

structure Fit where
 vc : Option Prop
 ren : List (Nat × Option Nat)
def fitP (p : Option (Option Prop)) : Option Fit :=
 match p with
 | some v => some ⟨v, []⟩
 | none => none
def Fit.and (f g : Option Fit) : Option Fit :=
 match f, g with
 | some f, some g => some ⟨andVC f.vc g.vc, app f.ren g.ren⟩
 | _, _ => none
def fitRow (t u : T) (xs : List t.den) (ys : List u.den) : Option (Option Prop) := if h : t = u then some (some (eqP (castL h xs) ys)) else none
def fitDV : DV → DV → Option (Option Prop)
 | .u8 x, .u8 y => some (some (eqP x y))
 | .u16 x, .u16 y => some (some (eqP x y))
 | .u32 x, .u32 y => some (some (eqP x y))
 | .u64 x, .u64 y => some (some (eqP x y))
 | .i64 x, .i64 y => some (some (eqP x y))
 | .bool x, .bool y => some (some (eqP x y))
 | .str x, .str y => some (some (eqP x y))
 | .nils _, .nils _ => some none
 | .nils _, .imm _ ys => some (some (eqP ys []))
 | .imm t xs, .imm u ys => fitRow t u xs ys
 | .cst u, .cst v => bif eqV u v && isNilV u then some none else none
 | _, _ => none
def fitRun : Run → Run → Option (Option Prop)
 | .one a, .one b => fitDV a b
 | .many t n xs, .many u m ys => bif Nat.beq n m then fitRow t u xs ys else none
 | _, _ => none
def fitOwn (k k0 : Nat) (t u : T) (xs : List t.den) (ys : List u.den) : Option Fit :=
 match fitRow t u xs ys with
 | some v => some ⟨v, [(k0, some k)]⟩
 | none => none
def fitRef (r s : Ref) : Option Fit :=
 bif isPlain s then (bif plainR r s then some ⟨none, [(labR s, some (labR r))]⟩ else none) else bif Nat.beq (labR r) (labR s) then some ⟨some (eqP r s), []⟩ else none
def fitSC : SC → SC → Option Fit
 | .run a, .run b => fitP (fitRun a b)
 | .ref r, .ref s => fitRef r s
 | .run (.one (.nils _)), .ref (.row k0) => some ⟨none, [(k0, none)]⟩
 | .own k t xs, .own k0 u ys => fitOwn k k0 t u xs ys
 | .own _ t xs, .run (.one (.imm u ys)) => fitP (fitRow t u xs ys)
 | .run (.one (.nils _)), .own k0 _ ys => some ⟨some (eqP ys []), [(k0, none)]⟩
 | _, _ => none
def fitSCs : List SC → List SC → Option Fit
 | [], [] => some ⟨none, []⟩
 | a :: r, b :: s => Fit.and (fitSC a b) (fitSCs r s)
 | _, _ => none
def fitSV : SV → SV → Option Fit
 | _, .top => some ⟨none, []⟩
 | .dv (.nils _), .own k0 _ ys => some ⟨some (eqP ys []), [(k0, none)]⟩
 | .dv a, .dv b => fitP (fitDV a b)
 | .own k t xs, .own k0 u ys => fitOwn k k0 t u xs ys
 | .own _ t xs, .dv (.imm u ys) => fitP (fitRow t u xs ys)
 | .full t xs, .dv (.imm u ys) => fitP (fitRow t u xs ys)
 | .ref r, .ref s => fitRef r s
 | .dv (.nils _), .ref (.row k0) => some ⟨none, [(k0, none)]⟩
 | .agg cs, .agg ds => fitSCs cs ds
 | .clr f cs, .clr g ds => bif Nat.beq f g then fitSCs cs ds else none
 | .clo f [], .clo g [] => bif Nat.beq f g then some ⟨none, []⟩ else none
 | _, _ => none
def fitSVs : List SV → List SV → Option Fit
 | [], [] => some ⟨none, []⟩
 | a :: r, b :: s => Fit.and (fitSV a b) (fitSVs r s)
 | _, _ => none
def fitSl : Sl → Sl → Option Fit
 | _, .un => some ⟨none, []⟩
 | .sv a, .sv b => fitSV a b
 | .tup a, .tup b => fitSVs a b
 | _, _ => none
def castE {k k' v v' : T} (h : k = k') (h' : v = v') (es : List (k.den × v.den)) : List (k'.den × v'.den) := h ▸ h' ▸ es
def fitMap (k v k' v' : T) (es : List (k.den × v.den)) (fs : List (k'.den × v'.den)) : Option Fit :=
 if h : k = k' then (if h' : v = v' then some ⟨some (List.Perm (castE h h' es) fs), []⟩ else none) else none
def fitIt (k v k' v' : T) (es : List (k.den × v.den)) (fs : List (k'.den × v'.den)) (g g' : Gh) : Option Fit :=
 if h : k = k' then (if h' : v = v' then some ⟨some (List.Perm (castE h h' es) fs ∧ eqP g g'), []⟩ else none) else none
def fitObj : SObj → SObj → Option Fit
 | _, .tok _ _ => some ⟨none, []⟩
 | _, .gone => some ⟨none, []⟩
 | .cells cs ro, .cells ds ro' => bif !ro || ro' then fitSCs cs ds else none
 | .row e s t xs ro, .row e' s' u ys ro' => bif Nat.beq e e' && Nat.beq s s' && (!ro || ro') then fitP (fitRow t u xs ys) else none
 | .mp ka kt va vt es, .mp ka' kt' va' vt' fs => bif (ka == ka') && (va == va') then fitMap kt vt kt' vt' es fs else none
 | .mpi ka kt va vt es _, .mp ka' kt' va' vt' fs => bif (ka == ka') && (va == va') then fitMap kt vt kt' vt' es fs else none
 | .mpi ka kt va vt es g, .mpi ka' kt' va' vt' fs g' => bif (ka == ka') && (va == va') then fitIt kt vt kt' vt' es fs g g' else none
 | .it ka kt va vt es _ g, .it ka' kt' va' vt' fs none g' => bif (ka == ka') && (va == va') then fitIt kt vt kt' vt' es fs g g' else none
 | _, _ => none
def fitNone : SObj → Option Fit
 | .tok _ _ => some ⟨none, []⟩
 | .gone => some ⟨none, []⟩
 | .row _ s t ys _ => bif Nat.beq s t.size then some ⟨some (eqP ys []), []⟩ else none
 | _ => none
def fitSlots (S : SState) : List (Nat × Sl) → Option Fit
 | [] => some ⟨none, []⟩
 | (i, v) :: r => Fit.and (fitSl (S.get i) v) (fitSlots S r)
def renOf (ren : List (Nat × Option Nat)) (l : Nat) : Option (Option Nat) :=
 match ren with
 | [] => none
 | (k, v) :: r => bif Nat.beq k l then some v else renOf r l
def fitFor (hp : List (Nat × SObj)) (F : List (Nat × Option Nat)) (l : Nat) (o : SObj) : Option Fit :=
 match renOf F l with
 | some (some k) => fitObj (look k hp) o
 | some none => fitNone o
 | none => fitObj (look l hp) o
def fitObjsR (hp : List (Nat × SObj)) : List (Nat × Option Nat) → List (Nat × SObj) → List (Nat × Option Nat)
 | F, [] => F
 | F, (l, o) :: r => match fitFor hp F l o with
   | some f => fitObjsR hp (app F f.ren) r
   | none => fitObjsR hp F r
def fitObjs (hp : List (Nat × SObj)) (F : List (Nat × Option Nat)) : List (Nat × SObj) → Option Fit
 | [] => some ⟨none, []⟩
 | (l, o) :: r => Fit.and (fitFor hp F l o) (fitObjs hp F r)
def eqON : Option Nat → Option Nat → Bool
 | some a, some b => Nat.beq a b
 | none, none => true
 | _, _ => false
def memF (k : Nat) (v : Option Nat) : List (Nat × Option Nat) → Bool
 | [] => false
 | (k', v') :: r => (Nat.beq k k' && eqON v v') || memF k v r
def dedupF : List (Nat × Option Nat) → List (Nat × Option Nat)
 | [] => []
 | (k, v) :: r => bif memF k v r then dedupF r else (k, v) :: dedupF r
def subF (F : List (Nat × Option Nat)) : List (Nat × Option Nat) → Bool
 | [] => true
 | (k, v) :: r => memF k v F && subF F r
def killed : List (Nat × Option Nat) → List Nat
 | [] => []
 | (k0, some k) :: r => bif Nat.beq k0 k then killed r else k :: killed r
 | (_, none) :: r => killed r
def turned : List (Nat × Option Nat) → List Nat
 | [] => []
 | (k0, some k) :: r => bif Nat.beq k0 k then turned r else k0 :: turned r
 | (k0, none) :: r => k0 :: turned r
def okLab (n : Nat) (ren : List (Nat × Option Nat)) (l : Nat) : Bool := Nat.blt (l % STRIDE) n && !memN l (turned ren) && !memN l (killed ren)
def valsR : List (Nat × Option Nat) → List Nat
 | [] => []
 | (_, some k) :: r => k :: valsR r
 | (_, none) :: r => valsR r
def distinct : List Nat → Bool
 | [] => true
 | k :: r => !memN k r && distinct r
def tokIs (e s : Nat) : SObj → Bool
 | .tok e' s' => Nat.beq e e' && Nat.beq s s'
 | _ => false
def rensOk (hp hp' : List (Nat × SObj)) : List (Nat × Option Nat) → Bool
 | [] => true
 | (k0, some k) :: r => (match look k0 hp with
   | .tok e s => tokIs e s (look k hp')
   | _ => true) && rensOk hp hp' r
 | (_, none) :: r => rensOk hp hp' r
def listedOk (n : Nat) (ren : List (Nat × Option Nat)) : List (Nat × SObj) → Bool
 | [] => true
 | (l, .cells cs _) :: r => (memN l (keysL ren) || okLab n ren l) && allN (okLab n ren) (refsC cs) && listedOk n ren r
 | (l, .tok _ _) :: r => memN l (keysL ren) && listedOk n ren r
 | (l, .row _ _ _ _ _) :: r => (memN l (keysL ren) || okLab n ren l) && listedOk n ren r
 | (l, .mp _ _ _ _ _) :: r => (memN l (keysL ren) || okLab n ren l) && listedOk n ren r
 | (l, .mpi _ _ _ _ _ _) :: r => (memN l (keysL ren) || okLab n ren l) && listedOk n ren r
 | (l, .it _ _ _ _ _ _ _) :: r => (memN l (keysL ren) || okLab n ren l) && listedOk n ren r
 | (_, .gone) :: r => listedOk n ren r
def slotsOk (n : Nat) (ren : List (Nat × Option Nat)) : List (Nat × Sl) → Bool
 | [] => true
 | (_, v) :: r => allN (okLab n ren) (refsS v) && slotsOk n ren r
def keptOk (n : Nat) (ren : List (Nat × Option Nat)) : List Sl → Bool
 | [] => true
 | v :: r => allN (okLab n ren) (labsS v) && keptOk n ren r
def restOk (n : Nat) (ren : List (Nat × Option Nat)) (listed : List Nat) : List (Nat × SObj) → Bool
 | [] => true
 | (l, o) :: r => (memN l listed || (match o with
   | .gone => true
   | .cells cs _ => okLab n ren l && allN (okLab n ren) (labsC cs)
   | _ => okLab n ren l)) && restOk n ren listed r
def headOk (pins : List Nat) (S : SState) (as : List Nat) (A : LoopAnn) (x : A.X) (S' : SState) (wr : List Nat) (ren : List (Nat × Option Nat)) : Bool :=
 (wholeB (A.objs x) || allN (fun l => memN l (labelsOf (A.objs x)) || Nat.ble S.next (l % STRIDE)) wr) &&
 allN (okLab S.next ren) pins && distinct (keysL ren) && distinct (valsR ren) && allN (fun l => Nat.blt (l % STRIDE) S.next) (keysL ren) &&
 rensOk (headHp S.hp (A.objs x)) S'.hp ren &&
 listedOk S.next ren (A.objs x) && slotsOk S.next ren (A.slots x) &&
 keptOk S.next ren (clear (clear (mapL uncond S.tmps) as) (keysL (inL as (A.slots x)))) &&
 (wholeB (A.objs x) || restOk S.next ren (labelsOf (A.objs x)) S.hp)
def vcP : Option Prop → Prop
 | some p => p
 | none => True
def namesF (hp : List (Nat × SObj)) (r : List (Nat × Option Nat)) (L : List (Nat × SObj)) : List (Nat × Option Nat) := dedupF (fitObjsR hp r L)
def noJump (S : SState) : Bool := match S.jump with
 | none => true
 | some _ => false
def fitHead (pins : List Nat) (S : SState) (as : List Nat) (A : LoopAnn) (x : A.X) (S' : SState) (wr : List Nat) : Prop :=
 match fitSlots S' (A.slots x) with
 | some f => match fitObjs S'.hp (namesF S'.hp f.ren (A.objs x)) (A.objs x) with
   | some g => bif noJump S && noJump S' then (bif subF (namesF S'.hp f.ren (A.objs x)) (app f.ren g.ren) && headOk pins S as A x S' wr (namesF S'.hp f.ren (A.objs x)) then vcP (andVC f.vc g.vc) else False) else False
   | none => False
 | none => False

def calleeOps : Callee → List Operand
 | .value (.tmp t) => [.tmp t]
 | _ => []
def opsOf : Op → List Operand
 | .move x => [x]
 | .assign x => [x]
 | .pick c a b => [c, a, b]
 | .box _ x => [x]
 | .build _ ps => mapL (fun p => p.2) ps.toList
 | .buildSlice _ _ ps => mapL (fun p => p.2) ps.toList
 | .load _ x => [x]
 | .store _ x v => [x, v]
 | .nilCheck x => [x]
 | .binOp _ _ x y _ => [x, y]
 | .unOp _ _ x => [x]
 | .convert _ _ x => [x]
 | .sliceToArrayPointer _ x => [x]
 | .makeSlice _ l c => [l, c]
 | .slice _ x lo hi mx => x :: app lo.toList (app hi.toList mx.toList)
 | .fieldAddr _ x _ => [x]
 | .field _ x _ => [x]
 | .indexAddr _ x i => [x, i]
 | .index _ x i => [x, i]
 | .extract x _ => [x]
 | .call c => app c.args.toList (calleeOps c.callee)
 | .makeFunc _ first captured => app first.toList captured.toList
 | .makeInterface _ x => [x]
 | .makeMap _ r => r.toList
 | .lookup _ x i _ => [x, i]
 | .mapUpdate _ m k v => [m, k, v]
 | .panic x => [x]
 | _ => []
def usesO : Op → List Operand
 | .move _ => []
 | .assign _ => []
 | .nilCheck _ => []
 | .fieldAddr _ _ _ => []
 | x => opsOf x
def tmpsOf : List Operand → List Nat
 | [] => []
 | .tmp t :: r => t :: tmpsOf r
 | _ :: r => tmpsOf r
def firstsL : List (Nat × Bool) → List Nat
 | [] => []
 | (g, _) :: r => g :: firstsL r
def readsO (all : List Oper) (o : Oper) : List Nat :=
 match o.guard with
 | some (j, want) => app (firstsL (chainO all deep j want)) (tmpsOf (opsOf o.op))
 | none => tmpsOf (opsOf o.op)
def labsOps (S : SState) : List Operand → List Nat
 | [] => []
 | x :: r => app (labsS (evalO S x)) (labsOps S r)
structure Ent where
 dst : Option Nat
 reads : List Nat
 labs : List Nat
 wr : List Nat
 anc : List Nat
def uniN : List Nat → List Nat → List Nat
 | [], m => m
 | k :: r, m => bif memN k m then uniN r m else k :: uniN r m
def ancO (tab : List Ent) : List Edge → Option (List Nat)
 | [] => some []
 | e :: r => bif Region.binds .any e then
     (match nthO tab e.on, ancO tab r with
      | some x, some l => some (uniN (e.on :: x.anc) l)
      | _, _ => none) else ancO tab r
def disjointN (l m : List Nat) : Bool := allN (fun k => !memN k m) l
def notRead (d : Option Nat) (l : List Nat) : Bool :=
 match d with
 | some d => !memN d l
 | none => true
def sameDst : Option Nat → Option Nat → Bool
 | some d, some e => Nat.beq d e
 | _, _ => false
def apartE (x y : Ent) : Bool := notRead x.dst y.reads && notRead y.dst x.reads && disjointN x.wr y.labs && disjointN y.wr x.labs
def entOk (x : Ent) : Nat → List Ent → Bool
 | _, [] => true
 | j, y :: r => (memN j x.anc || apartE y x) && !sameDst y.dst x.dst && entOk x (j + 1) r
def leanOk (anc : List Nat) (out : Sl) : Nat → List Ent → Bool
 | j, y :: r => (match out with
   | .cond g _ _ => (memN j anc && sameDst y.dst (some g)) || leanOk anc out (j + 1) r
   | _ => true)
 | _, [] => (match out with
   | .cond _ _ _ => false
   | _ => true)
def readsC (P : Program) (Γ : FuncId → Option PC) (all : List Oper) (S : SState) (o : Oper) (lab : Nat) : List Nat :=
 match o.guard with
 | none => readsAt P Γ S o lab
 | some (j, want) => readsAt P Γ (S.bare (chainO all deep j want)) o lab
def mkEnt (P : Program) (Γ : FuncId → Option PC) (all : List Oper) (S : SState) (o : Oper) (lab : Nat) (r : Res) (anc : List Nat) : Ent :=
 ⟨o.dst, readsO all o, app (labelsOf r.upd) (app (readsC P Γ all S o lab) (labsOps S (usesO o.op))), labelsOf r.upd, anc⟩
def guardK (d : Option DieR) (K : SState → Prop) : SState → Prop :=
 match d with
 | none => K
 | some d => fun S => (d.at_ → False) → K S
def runDraw (P : Program) (Γ : FuncId → Option PC) (Y : Dy) (all : List Oper) : List Oper → Nat → SState → List Ent → (SState → Prop) → Prop
 | [], lab, S, _, K => K { S with next := lab, tmps := mapL uncond S.tmps }
 | o :: rest, lab, S, tab, K => bif Nat.blt lab STRIDE then (match stepO P Γ all S o lab, ancO tab o.after.toList with
   | some r, some anc => bif okOut o.dst r.out && entOk (mkEnt P Γ all S o lab r anc) 0 tab && leanOk anc r.out 0 tab then
       oweD (kpDraw Y) (dieO P Y S o) r.vc (runDraw P Γ Y all rest (lab + 1) (S.apply o.dst r) (app tab [mkEnt P Γ all S o lab r anc]) (guardK (dieO P Y S o) K)) else False
   | _, _ => False) else False
def SState.plain (S : SState) : SState := { S with tmps := mapL uncond S.tmps }

def SState.wrap (S : SState) (l : List Nat) : SState := { S with wr := app S.wr l }

def knownB (S : SState) : Operand → Option Bool
 | .tmp t => match nth .un S.tmps t with
   | .sv (.dv (.cst (.bool q))) => some q
   | _ => none
 | _ => none
def rounds : Nat := 8

def exec (P : Program) (Γ : FuncId → Option PC) (Y : Dy) (ann : Ann) : Code → SState → (Exit → SState → Prop) → Prop
 | .skip, S, K => K .normal S
 | .region _ ops draw, S, K => bif draw then (bif P.follows .mixedOrders then runDraw P Γ Y ops.toList ops.toList S.next S.plain [] (K .normal) else False) else runOps P Γ Y ops.toList ops.toList S.next S (K .normal)
 | .seq a b, S, K => exec P Γ Y ann a S fun
   | .normal, S' => exec P Γ Y ann b S' K
   | e, S' => K e S'
 | .cond c a b, S, K => match ev S c with
   | some (.dv (.bool v)) => match ann.prune with
     | 0 => (eqP v true → exec P Γ Y ann a S K) ∧ (eqP v false → exec P Γ Y ann b S K)
     | 1 => (match knownB S c with
       | some true => exec P Γ Y ann a S K
       | some false => exec P Γ Y ann b S K
       | none => (eqP v true → exec P Γ Y ann a (S.know c true) K) ∧ (eqP v false → exec P Γ Y ann b (S.know c false) K))
     | _ => bif v then exec P Γ Y ann a S K else exec P Γ Y ann b S K
   | _ => False
 | .block id c, S, K => exec P Γ Y ann c S fun
   | .exit j, S' => bif Nat.beq j id then K .normal S' else K (.exit j) S'
   | e, S' => K e S'
 | .loop c, S, K => match ann.at_ (keyOf c) S with
   | some A => (∃ x, A.inv x ∧ fitHead ann.pins S (asg ann c) A x S []) ∧
       ∀ x, A.inv x → exec P Γ Y ann c (headOf S (asg ann c) A x) fun
        | .normal, S' => ∃ x', A.inv x' ∧ A.meas x' < A.meas x ∧ fitHead ann.pins S (asg ann c) A x' S' (app (headWr S A x) S'.wr)
        | e, S' => K e (S'.wrap (app (headWr S A x) S.wr))
   | none => bif memN (keyOf c) ann.unroll then
       (Nat.rec (motive := fun _ => SState → Prop) (fun _ => False) (fun _ ih S => exec P Γ Y ann c S fun
        | .normal, S' => ih S'
        | e, S' => K e S') rounds) S else False
 | .exit id, S, K => K (.exit id) S
 | .ret, S, K => K .ret S
 | .label _, S, K => K .normal S
 | .scope c, S, K => exec P Γ Y ann c S fun
   | .goto _, _ => False
   | e, S' => K e S'
 | .rangeFunc g ps assign body, S, K => match Y.rf with
   | some h => h g ps assign body S K
   | none => False
 | _, _, _ => False

def resultsOf (P : Program) (S : SState) : List ResultVar → Option (List SV)
 | [] => some []
 | .tmp t :: r => match svOf (S.get t), resultsOf P S r with
   | some v, some vs => some (v :: vs)
   | _, _ => none
 | .cell a t :: r => match (svOf (S.get a)).bind (loadO P S.hp t), resultsOf P S r with
   | some ⟨none, .sv v, _⟩, some vs => some (v :: vs)
   | _, _ => none
def outOf : List SV → Sl
 | [v] => .sv v
 | vs => .tup vs

structure EndR where
 upd : List (Nat × SObj)
 vc : Option Prop
 ren : List (Nat × Option Nat)
def endData (hp : List (Nat × SObj)) (r u : SV) : Option EndR :=
 match asData hp r with
 | some d => match fitSV d.v u with
   | some f => bif nilL f.ren then some ⟨d.upd, andVC d.vc f.vc, []⟩ else none
   | none => none
 | none => none
def endSV (hp : List (Nat × SObj)) (r u : SV) : Option EndR :=
 match u, r with
 | .own k0 u ys, .own k t xs => match fitOwn k k0 t u xs ys with
   | some f => some ⟨[], f.vc, f.ren⟩
   | none => none
 | .own k0 _ ys, .dv (.nils _) => some ⟨[], some (eqP ys []), [(k0, none)]⟩
 | .ref s, .ref q => bif isPlain s && plainR q s then some ⟨[], none, [(labR s, some (labR q))]⟩ else none
 | .ref (.row k0), .dv (.nils _) => some ⟨[], none, [(k0, none)]⟩
 | .clr g ds, .clr f cs => bif nilL (refsC ds) then (match fitSV (.clr f cs) (.clr g ds) with
   | some f => some ⟨[], f.vc, f.ren⟩
   | none => none) else none
 | u, r => endData hp r u
def endSVs (hp : List (Nat × SObj)) : List SV → List SV → Option EndR
 | [], [] => some ⟨[], none, []⟩
 | r :: rs, u :: us => match endSV hp r u, endSVs hp rs us with
   | some e, some f => some ⟨app e.upd f.upd, andVC e.vc f.vc, app e.ren f.ren⟩
   | _, _ => none
 | _, _ => none
def endSl (hp : List (Nat × SObj)) (rs : List SV) : Sl → Option EndR
 | .sv u => match rs with
   | [r] => endSVs hp [r] [u]
   | _ => none
 | .tup us => match us with
   | [_] => none
   | us => endSVs hp rs us
 | _ => none
def dataFit (cs new : List SC) : Option (Option Prop) :=
 match toRuns cs with
 | some rs => match fitSCs (ofRuns rs) new with
   | some f => bif nilL f.ren then some f.vc else none
   | none => none
 | none => none
def rcvF (hp : List (Nat × SObj)) : Option (List SC) → Option (Option Prop)
 | none => some none
 | some new => match look 1 hp with
   | .cells cs false => dataFit cs new
   | _ => none
def freshF (hp : List (Nat × SObj)) : List (Nat × Option Nat) → Option SObj → Option (Option Prop)
 | [], none => some none
 | [(0, none)], some (.tok _ _) => some none
 | [(0, some k)], some (.tok e s) => bif tokIs e s (look k hp) && !Nat.beq k 1 then some none else none
 | [(0, some k)], some (.cells new false) => bif Nat.beq k 1 then none else (match look k hp with
   | .cells cs false => dataFit cs new
   | _ => none)
 | _, _ => none
def endVC (P : Program) (fn : Func) (r : CRes) (S : SState) : Prop :=
 match resultsOf P S fn.results.toList with
 | some vs => match endSl S.hp (argsOf P fn.resultTypes.toList vs) r.out with
   | some e => match rcvF (putAll S.hp e.upd) r.rcv, freshF (putAll S.hp e.upd) e.ren r.fresh with
     | some p, some q => vcP (andVC e.vc (andVC p q))
     | _, _ => False
   | none => False
 | none => False
def startOf : Bool → List SV → Option (List SV × List (Nat × SObj))
 | false, ins => some (ins, [])
 | true, .agg cs :: r => some (.ref (.cell 1 [] 0) :: r, [(1, .cells cs false)])
 | _, _ => none
def bodyK (P : Program) (Γ : FuncId → Option PC) (Y : Dy) (ann : Ann) (fn : Func) (ptr : Bool) (ins : List SV) (K : Exit → SState → Prop) : Prop :=
 match fn.body, startOf ptr ins with
 | some c, some (vs, hp) => bif memN 1 ann.pins then exec P Γ Y ann c { tmps := app (mapL Sl.sv vs) (rep Sl.un (fn.ntmps - lenL vs)), hp := hp, next := 1000, wr := [], rows := ann.rows } K else False
 | _, _ => False
def endK (P : Program) (fn : Func) (r : CRes) : Exit → SState → Prop
 | .normal, S => endVC P fn r S
 | .ret, S => endVC P fn r S
 | _, _ => False
def givenOk (n : Nat) (pins : List Nat) (F : List (Nat × Option Nat)) (post : List (Nat × SObj)) : List (Nat × SObj) → Bool
 | [] => true
 | (i, _) :: r => (isGone (look i post) || (memN i pins && okLab n F i)) && givenOk n pins F post r
def endVG (P : Program) (fn : Func) (pins : List Nat) (heap : List (Nat × SObj)) (r : GRes) (S : SState) : Prop :=
 match resultsOf P S fn.results.toList with
 | some vs => match endSl S.hp (argsOf P fn.resultTypes.toList vs) r.out with
   | some e => match fitObjs (putAll S.hp e.upd) (namesF (putAll S.hp e.upd) e.ren r.post) r.post with
     | some g => bif subF (namesF (putAll S.hp e.upd) e.ren r.post) (app e.ren g.ren) && distinct (keysL (namesF (putAll S.hp e.upd) e.ren r.post)) && distinct (valsR (namesF (putAll S.hp e.upd) e.ren r.post)) &&
         rensOk r.post (putAll S.hp e.upd) (namesF (putAll S.hp e.upd) e.ren r.post) && listedOk S.next (namesF (putAll S.hp e.upd) e.ren r.post) r.post &&
         givenOk S.next pins (namesF (putAll S.hp e.upd) e.ren r.post) r.post heap then vcP (andVC e.vc g.vc) else False
     | none => False
   | none => False
 | none => False
def endG (P : Program) (fn : Func) (pins : List Nat) (heap : List (Nat × SObj)) (r : GRes) : Exit → SState → Prop
 | .normal, S => endVG P fn pins heap r S
 | .ret, S => endVG P fn pins heap r S
 | _, _ => False
def bodyGK (P : Program) (Γ : FuncId → Option PC) (Y : Dy) (ann : Ann) (fn : Func) (heap : List (Nat × SObj)) (ins : List SV) (K : Exit → SState → Prop) : Prop :=
 match fn.body with
 | some c => bif allN (fun i => Nat.blt i 1000) (labelsOf heap) then exec P Γ Y ann c { tmps := app (mapL Sl.sv ins) (rep Sl.un (fn.ntmps - lenL ins)), hp := heap, next := 1000, wr := [], rows := ann.rows } K else False
 | none => False
def bodyG (P : Program) (Γ : FuncId → Option PC) (ann : Ann) (fn : Func) (heap : List (Nat × SObj)) (ins : List SV) (r : GRes) : Prop :=
 bodyGK P Γ noDy ann fn heap ins (endG P fn ann.pins heap r)
def bodyVC (P : Program) (Γ : FuncId → Option PC) (ann : Ann) (fn : Func) (ptr : Bool) (ins : List SV) (r : CRes) : Prop :=
 bodyK P Γ noDy ann fn ptr ins (endK P fn r)
end Go.Vse
