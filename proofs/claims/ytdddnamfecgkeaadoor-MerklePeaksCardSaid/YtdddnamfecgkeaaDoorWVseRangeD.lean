/- Ranges over functions: the iterator is walked in its place; where it calls yield, the loop's body is. No proof here. -/
import Derived.Test.YtdddnamfecgkeaaDoorWVseExec
import Derived.OrdersIn
namespace Go.Vse

def takeL {α : Type} : Nat → List α → List α
 | 0, _ => []
 | _ + 1, [] => []
 | n + 1, x :: r => x :: takeL n r
def dropL {α : Type} : Nat → List α → List α
 | 0, l => l
 | _ + 1, [] => []
 | n + 1, _ :: r => dropL n r
def opdOk (n : Nat) : Operand → Bool
 | .tmp t => Nat.blt t n
 | _ => true
def opdsOk (n : Nat) : List Operand → Bool
 | [] => true
 | x :: r => opdOk n x && opdsOk n r
def dstOk (n : Nat) : Option Nat → Bool
 | some d => Nat.blt d n
 | none => true
def kindOk : Op → Bool
 | .defer _ => false
 | .select _ _ => false
 | _ => true
def operOk (n : Nat) (o : Oper) : Bool := kindOk o.op && dstOk n o.dst && opdsOk n o.op.operands.toList
def opersOk (n : Nat) : List Oper → Bool
 | [] => true
 | o :: r => operOk n o && opersOk n r
def codeOk (n : Nat) : Code → Bool
 | .skip => true
 | .exit _ => true
 | .ret => true
 | .label _ => true
 | .region _ ops _ => opersOk n ops.toList
 | .seq a b => codeOk n a && codeOk n b
 | .cond c a b => opdOk n c && codeOk n a && codeOk n b
 | .block _ c => codeOk n c
 | .loop c => codeOk n c
 | _ => false

def setPs : List Nat → List SV → List Sl → Option (List Sl)
 | [], [], l => some l
 | t :: ps, v :: vs, l => setPs ps vs (setN l t (.sv v))
 | _, _, _ => none
def subL : List Nat → List Nat
 | [] => []
 | k :: r => bif Nat.ble STRIDE k then (k - STRIDE) :: subL r else subL r
def iterAnn (ann : Ann) (k : Nat) : Ann := { at_ := fun i S => ann.at_ (i + STRIDE) S, prune := ann.prune, rows := ann.rows, unroll := subL ann.unroll, pins := k :: ann.pins, drops := [] }
def roundAnn (ann : Ann) (k : Nat) : Ann := { at_ := ann.at_, prune := ann.prune, rows := ann.rows, unroll := ann.unroll, pins := k :: ann.pins, drops := [] }

def roundEnd (n0 : Nat) (K : Bool → SState → Prop) : Exit → SState → Prop
 | .normal, S => K true { S with tmps := dropL n0 (mapL uncond S.tmps) }
 | .ret, S => K false { S with tmps := dropL n0 (mapL uncond S.tmps), jump := some .ret }
 | .exit i, S => K false { S with tmps := dropL n0 (mapL uncond S.tmps), jump := some (.exit i) }
 | .goto l, S => K false { S with tmps := dropL n0 (mapL uncond S.tmps), jump := some (.goto l) }
 | _, _ => False
def roundY (P : Program) (Γ : FuncId → Option PC) (ann : Ann) (k n0 nit : Nat) (ps : Array Tmp) (assign body : Code) : SState → Nat → List SV → (Bool → SState → Prop) → Prop :=
 fun S k' vs K => bif Nat.beq k' k && noJump S && Nat.beq (lenL S.tmps) (nit + n0) then
  (match setPs ps.toList vs (takeL n0 (dropL nit (mapL uncond S.tmps))) with
  | some tm => exec P Γ noDy (roundAnn ann k) assign { S with tmps := app tm (mapL uncond S.tmps) } fun
      | .normal, S2 => exec P Γ noDy (roundAnn ann k) body S2 (roundEnd n0 K)
      | _, _ => False
  | none => False) else False
def iterEnd (nit : Nat) (K : Exit → SState → Prop) (S : SState) : Prop :=
 match S.jump with
 | none => K .normal { S with tmps := dropL nit (mapL uncond S.tmps) }
 | some e => K e { S with tmps := dropL nit (mapL uncond S.tmps), jump := none }
def iterK (nit : Nat) (K : Exit → SState → Prop) : Exit → SState → Prop
 | .normal, S => iterEnd nit K S
 | .ret, S => iterEnd nit K S
 | _, _ => False
def lookF : List (FuncId × Func) → FuncId → Option Func
 | [], _ => none
 | (g, fn) :: r, f => bif Nat.beq g f then some fn else lookF r f
def iterOf (v : SV) : Option (FuncId × List SV) :=
 match v with
 | .clr f cs => match refArgs cs with
   | some rs => some (f, rs)
   | none => none
 | .clo f caps => some (f, mapL SV.ipt caps)
 | _ => none
def rangeIn (P : Program) (Γ : FuncId → Option PC) (ann : Ann) (fn : Func) (rs : List SV) (ps : Array Tmp) (assign body : Code) (S : SState) (K : Exit → SState → Prop) : Prop :=
 match fn.body with
 | some c => bif noJump S && Nat.blt S.next STRIDE && Nat.ble (1 + lenL rs) fn.ntmps && nilL fn.results.toList && codeOk fn.ntmps c && codeOk (lenL S.tmps) assign && codeOk (lenL S.tmps) body then
     exec P Γ { noDy with yh := some (roundY P Γ ann S.next (lenL S.tmps) fn.ntmps ps assign body) } (iterAnn ann S.next) c
      { S with tmps := app (app (mapL Sl.sv (.yld S.next :: rs)) (rep Sl.un (fn.ntmps - (1 + lenL rs)))) (mapL uncond S.tmps), next := S.next + 1 } (iterK fn.ntmps K) else False
 | none => False
def rangeR (P : Program) (Γ : FuncId → Option PC) (its : List (FuncId × Func)) (ann : Ann) : Operand → Array Tmp → Code → Code → SState → (Exit → SState → Prop) → Prop :=
 fun g ps assign body S K => match (ev S g).bind iterOf with
  | some (f, rs) => match lookF its f with
    | some fn => rangeIn P Γ ann fn rs ps assign body S K
    | none => False
  | none => False
def rangeDy (P : Program) (Γ : FuncId → Option PC) (its : List (FuncId × Func)) (ann : Ann) : Dy := { noDy with rf := some (rangeR P Γ its ann) }
def bodyGR (P : Program) (Γ : FuncId → Option PC) (its : List (FuncId × Func)) (ann : Ann) (fn : Func) (heap : List (Nat × SObj)) (ins : List SV) (r : GRes) : Prop :=
 bodyGK P Γ (rangeDy P Γ its ann) ann fn heap ins (endG P fn ann.pins heap r)
end Go.Vse
