/- Contracts over graphs of any shape: what is asked is read by a function of one's own. -/
import Derived.Test.YtdddnamfecgkeaaDoorWVseObj
namespace Go.Vse
variable {P : Program}
def gX {X : Type} (fl : List Bool) (rd : List SV → List (Nat × SObj) → Option X) (F : X → GRes) : PC := { ptr := false, ct := fun _ => none, gr := some (fl, fun ins heap => match rd ins heap with
 | some x => some (F x)
 | none => none) }
theorem spec_gx {l : List (FuncId × PC)} (hl : Specs P l) {f : FuncId} {fn : Func} (hf : P.funcs[f]? = some fn) (hb : fn.body.isSome = true)
 (hn : (fn.name == "runtime.NumGoroutine") = false) {X : Type} {fl : List Bool} {rd : List SV → List (Nat × SObj) → Option X} {F : X → GRes} {I : X → List SV} {Hp : X → List (Nat × SObj)}
 (hrd : ∀ ins heap x, rd ins heap = some x → ins = I x ∧ heap = Hp x ∧ (labelsOf heap).Nodup)
 (h : ∀ x, vcT (F x).vc → okSVs (I x) → okHp (Hp x) → ∃ ann, bodyG P (gam l) ann fn (Hp x) (I x) (F x)) : Spec P f (gX fl rd F) := by
 refine specG_of_body (gam_ok hl) hf hb hn fun ins heap r hr hvc hok hhp => ?_
 split at hr
 · rename_i x hx
   simp only [Option.some.injEq] at hr; subst hr
   obtain ⟨e1, e2, e3⟩ := hrd ins heap x hx
   have hh := hhp e3
   rw [e2] at hh
   rw [e1] at hok
   rw [e1, e2]
   exact h x hvc hok hh
 · cases hr
end Go.Vse
