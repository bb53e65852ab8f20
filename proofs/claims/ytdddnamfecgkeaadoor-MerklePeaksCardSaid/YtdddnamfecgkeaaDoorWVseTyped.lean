/- Contracts over typed data: what is asked and answered, as plain Lean values. -/
import Derived.Test.YtdddnamfecgkeaaDoorWVseWalk
namespace Go.Vse

@[reducible] def dens : List T → Type
 | [] => Unit
 | t :: ts => t.den × dens ts

def svOfT : (t : T) → t.den → SV
 | .u8, x => .dv (.u8 x)
 | .u16, x => .dv (.u16 x)
 | .u32, x => .dv (.u32 x)
 | .u64, x => .dv (.u64 x)
 | .i64, x => .dv (.i64 x)
 | .bool, x => .dv (.bool x)
 | .str, x => .dv (.str x)
 | .slc t, xs => .dv (.imm t xs)
 | .unit, _ => .agg []
 | .arr n t, xs => .agg (ofRuns (enc (.arr n t) xs))
 | .pair a b, p => .agg (ofRuns (enc (.pair a b) p))
def svsOf : (ts : List T) → dens ts → List SV
 | [], _ => []
 | t :: ts, x => svOfT t x.1 :: svsOf ts x.2

def dec1 : (t : T) → List Run → Option (t.den × List Run)
 | .u8, .one (.u8 x) :: r => some (x, r)
 | .u16, .one (.u16 x) :: r => some (x, r)
 | .u32, .one (.u32 x) :: r => some (x, r)
 | .u64, .one (.u64 x) :: r => some (x, r)
 | .i64, .one (.i64 x) :: r => some (x, r)
 | .bool, .one (.bool x) :: r => some (x, r)
 | .str, .one (.str x) :: r => some (x, r)
 | .unit, r => some ((), r)
 | .arr n t, .many t' n' xs :: r => if h : t' = t then bif Nat.beq n' n then some (castL h xs, r) else none else none
 | .slc t, .one (.imm t' xs) :: r => if h : t' = t then some (castL h xs, r) else none
 | .pair a b, rs => match dec1 a rs with
   | some (x, rs') => match dec1 b rs' with
     | some (y, rs'') => some ((x, y), rs'')
     | none => none
   | none => none
 | _, _ => none

theorem dec1_enc : ∀ (t : T) (rs : List Run) (x : t.den) (r : List Run), dec1 t rs = some (x, r) → rs = enc t x ++ r := by
 intro t
 induction t with
 | u8 | u16 | u32 | u64 | i64 | bool | str =>
   intro rs x r h
   cases rs with
   | nil => simp [dec1] at h
   | cons q rs =>
     cases q with
     | many t n xs => simp [dec1] at h
     | one d => cases d <;> simp [dec1] at h <;> (obtain ⟨rfl, rfl⟩ := h; rfl)
 | unit =>
   intro rs x r h
   simp [dec1] at h
   simp [enc, h]
 | arr n t ih =>
   intro rs x r h
   cases rs with
   | nil => simp [dec1] at h
   | cons q rs =>
     cases q with
     | one d => simp [dec1] at h
     | many t' m ys =>
       simp only [dec1] at h
       split at h
       · rename_i e
         subst e
         cases hb : Nat.beq m n with
         | false => rw [hb] at h; simp at h
         | true =>
           rw [hb] at h
           have := Nat.eq_of_beq_eq_true hb
           subst this
           simp [castL] at h
           obtain ⟨rfl, rfl⟩ := h
           rfl
       · cases h
 | slc t ih =>
   intro rs x r h
   cases rs with
   | nil => simp [dec1] at h
   | cons q rs =>
     cases q with
     | many t n xs => simp [dec1] at h
     | one d =>
       cases d with
       | imm t' ys =>
         simp only [dec1] at h
         split at h
         · rename_i e
           subst e
           simp [castL] at h
           obtain ⟨rfl, rfl⟩ := h
           rfl
         · cases h
       | _ => simp [dec1] at h
 | pair a b iha ihb =>
   intro rs x r h
   simp only [dec1] at h
   split at h
   · rename_i x1 rs' h1
     split at h
     · rename_i y rs'' h2
       simp at h
       obtain ⟨rfl, rfl⟩ := h
       have e1 := iha _ _ _ h1
       have e2 := ihb _ _ _ h2
       simp [enc, app0_eq, e1, e2]
     · cases h
   · cases h

def runsOf : List SC → Option (List Run)
 | [] => some []
 | .run r :: cs => match runsOf cs with
   | some rs => some (r :: rs)
   | none => none
 | _ :: _ => none
theorem runsOf_eq : ∀ {cs : List SC} {rs : List Run}, runsOf cs = some rs → cs = ofRuns rs
 | [], rs, h => by simp [runsOf] at h; subst h; rfl
 | .run r :: cs, rs, h => by
   simp only [runsOf] at h
   split at h
   · rename_i rs' h'
     simp at h; subst h
     simp [ofRuns, mapL, runsOf_eq h']
   · cases h
 | .ref _ :: _, _, h => by simp [runsOf] at h
 | .own _ _ _ :: _, _, h => by simp [runsOf] at h
def decCs (t : T) (cs : List SC) : Option t.den :=
 match runsOf cs with
 | some rs => match dec1 t rs with
   | some (x, []) => some x
   | _ => none
 | none => none
theorem decCs_eq {t : T} {cs : List SC} {x : t.den} (h : decCs t cs = some x) : cs = ofRuns (enc t x) := by
 unfold decCs at h
 split at h
 · rename_i rs hr
   split at h
   · rename_i y hy
     simp at h; subst h
     rw [runsOf_eq hr, dec1_enc _ _ _ _ hy]; simp
   · cases h
 · cases h
def decArg : (t : T) → SV → Option t.den
 | .u8, .dv (.u8 x) => some x
 | .u16, .dv (.u16 x) => some x
 | .u32, .dv (.u32 x) => some x
 | .u64, .dv (.u64 x) => some x
 | .i64, .dv (.i64 x) => some x
 | .bool, .dv (.bool x) => some x
 | .str, .dv (.str x) => some x
 | .slc t, .dv (.imm t' xs) => if h : t' = t then some (castL h xs) else none
 | .arr n t, .agg cs => decCs (.arr n t) cs
 | .pair a b, .agg cs => decCs (.pair a b) cs
 | _, _ => none
theorem decArg_eq : ∀ {t : T} {v : SV} {x : t.den}, decArg t v = some x → v = svOfT t x := by
 intro t v x h
 cases t with
 | u8 | u16 | u32 | u64 | i64 | bool | str =>
   cases v with
   | dv d => cases d <;> simp [decArg] at h <;> (subst h; rfl)
   | _ => simp [decArg] at h
 | unit => simp [decArg] at h
 | slc t =>
   cases v with
   | dv d =>
     cases d with
     | imm t' ys =>
       simp only [decArg] at h
       split at h
       · rename_i e; subst e; simp [castL] at h; subst h; rfl
       · cases h
     | _ => simp [decArg] at h
   | _ => simp [decArg] at h
 | arr n t =>
   cases v with
   | agg cs => simp only [decArg] at h; rw [decCs_eq h]; rfl
   | _ => simp [decArg] at h
 | pair a b =>
   cases v with
   | agg cs => simp only [decArg] at h; rw [decCs_eq h]; rfl
   | _ => simp [decArg] at h
def decs : (ts : List T) → List SV → Option (dens ts)
 | [], [] => some ()
 | t :: ts, v :: vs => match decArg t v, decs ts vs with
   | some x, some y => some (x, y)
   | _, _ => none
 | _, _ => none
theorem decs_eq : ∀ {ts : List T} {vs : List SV} {x : dens ts}, decs ts vs = some x → vs = svsOf ts x
 | [], [], _, _ => rfl
 | [], _ :: _, _, h => by simp [decs] at h
 | _ :: _, [], _, h => by simp [decs] at h
 | t :: ts, v :: vs, x, h => by
   simp only [decs] at h
   split at h
   · rename_i a b h1 h2
     simp at h; subst h
     rw [decArg_eq h1, decs_eq h2]; rfl
   · cases h

theorem okSCs_append {a b : List SC} : okSCs (a ++ b) ↔ okSCs a ∧ okSCs b := by
 induction a with
 | nil => simp [okSCs]
 | cons c r ih => cases c <;> simp [okSCs, ih, and_assoc]
theorem okT_enc : ∀ (t : T) (x : t.den), okSCs (ofRuns (enc t x)) → okT t x := by
 intro t
 induction t with
 | u8 | u16 | u32 | u64 | bool | unit => intro x h; trivial
 | i64 | str => intro x h; exact h.1
 | arr n t ih => intro x h; exact h.1
 | slc t ih => intro x h; exact h.1
 | pair a b iha ihb =>
   intro x h
   have : ofRuns (enc (.pair a b) x) = ofRuns (enc a x.1) ++ ofRuns (enc b x.2) := by simp [enc, ofRuns, mapL_eq, app0_eq]
   rw [this, okSCs_append] at h
   exact ⟨iha _ h.1, ihb _ h.2⟩
theorem okT_sv (t : T) (x : t.den) (h : okSV (svOfT t x)) : okT t x := by
 cases t <;> first | trivial | exact h | exact okT_enc _ _ h
def okD : (ts : List T) → dens ts → Prop
 | [], _ => True
 | t :: ts, x => okT t x.1 ∧ okD ts x.2
theorem okD_svs : ∀ (ts : List T) (x : dens ts), okSVs (svsOf ts x) → okD ts x
 | [], _, _ => trivial
 | t :: ts, x, h => ⟨okT_sv t x.1 h.1, okD_svs ts x.2 h.2⟩

structure Ans where
 vc : Option Prop
 out : Sl
 fresh : Option SObj
structure AnsM (rt : T) where
 vc : Option Prop
 out : Sl
 rcv : rt.den
 fresh : Option SObj
def cFn (ts : List T) (f : dens ts → Ans) : PC := ⟨false, fun ins => match decs ts ins with
 | some x => some ⟨(f x).vc, (f x).out, none, (f x).fresh⟩
 | none => none, none, none, []⟩
def cMt (rt : T) (ts : List T) (f : rt.den → dens ts → AnsM rt) : PC := ⟨true, fun ins => match ins with
 | .agg cs :: r => match decCs rt cs, decs ts r with
   | some s, some x => some ⟨(f s x).vc, (f s x).out, some (ofRuns (enc rt (f s x).rcv)), (f s x).fresh⟩
   | _, _ => none
 | _ => none, none, none, []⟩

def gam : List (FuncId × PC) → FuncId → Option PC
 | [], _ => none
 | (k, c) :: r, f => bif Nat.beq k f then some c else gam r f
def Specs (P : Program) : List (FuncId × PC) → Prop
 | [] => True
 | (k, c) :: r => Spec P k c ∧ Specs P r
theorem gam_ok {P : Program} : ∀ {l : List (FuncId × PC)}, Specs P l → ∀ f c, gam l f = some c → Spec P f c
 | [], _, _, _, h => by simp [gam] at h
 | (k, d) :: r, ⟨h1, h2⟩, f, c, h => by
   simp only [gam] at h
   cases hb : Nat.beq k f with
   | true =>
     rw [hb] at h
     have := Nat.eq_of_beq_eq_true hb
     subst this
     simp at h; subst h
     exact h1
   | false => rw [hb] at h; exact gam_ok h2 f c h

variable {P : Program}
theorem spec_fn {l : List (FuncId × PC)} (hl : Specs P l) {f : FuncId} {fn : Func} (hf : P.funcs[f]? = some fn) (hb : fn.body.isSome = true)
 (hn : (fn.name == "runtime.NumGoroutine") = false) {ts : List T} {F : dens ts → Ans}
 (h : ∀ x : dens ts, vcT (F x).vc → okD ts x → ∃ ann, bodyVC P (gam l) ann fn false (svsOf ts x) ⟨none, (F x).out, none, (F x).fresh⟩) : Spec P f (cFn ts F) := by
 refine spec_of_body (gam_ok hl) hf hb hn ⟨rfl, rfl⟩ (fun ins r hr => ?_) (fun ins r hr hvc hok => ?_)
 · simp only [cFn] at hr
   split at hr
   · simp at hr; subst hr; rfl
   · cases hr
 · simp only [cFn] at hr
   split at hr
   · rename_i x hx
     simp at hr; subst hr
     have := decs_eq hx
     subst this
     exact h x hvc (okD_svs _ _ hok)
   · cases hr
theorem spec_mt {l : List (FuncId × PC)} (hl : Specs P l) {f : FuncId} {fn : Func} (hf : P.funcs[f]? = some fn) (hb : fn.body.isSome = true)
 (hn : (fn.name == "runtime.NumGoroutine") = false) {rt : T} {ts : List T} {F : rt.den → dens ts → AnsM rt}
 (h : ∀ (s : rt.den) (x : dens ts), vcT (F s x).vc → okT rt s → okD ts x →
  ∃ ann, bodyVC P (gam l) ann fn true (.agg (ofRuns (enc rt s)) :: svsOf ts x) ⟨none, (F s x).out, some (ofRuns (enc rt (F s x).rcv)), (F s x).fresh⟩) : Spec P f (cMt rt ts F) := by
 refine spec_of_body (gam_ok hl) hf hb hn ⟨rfl, rfl⟩ (fun ins r hr => ?_) (fun ins r hr hvc hok => ?_)
 · simp only [cMt] at hr
   split at hr
   · split at hr
     · simp at hr; subst hr; rfl
     · cases hr
   · cases hr
 · simp only [cMt] at hr
   split at hr
   · rename_i ins' cs r'
     split at hr
     · rename_i s x hs hx
       simp at hr; subst hr
       have e1 := decCs_eq hs
       have e2 := decs_eq hx
       subst e1; subst e2
       exact h s x hvc (okT_enc _ _ hok.1) (okD_svs _ _ hok.2)
     · cases hr
   · cases hr

theorem spec_parts {f : FuncId} {ι : Type} (i0 : ι) {ts : List T} {F : ι → dens ts → Ans} {G : dens ts → Ans} (h : ∀ i, Spec P f (cFn ts (F i)))
 (hG : ∀ x, vcT (G x).vc → ∃ i, vcT (F i x).vc ∧ (F i x).out = (G x).out ∧ (F i x).fresh = (G x).fresh) : Spec P f (cFn ts G) := by
 refine ⟨(h i0).fn, fun H w ins vs g r hr hvc hrel hmem => ?_, fun _ _ h => (by rcases h with h | h <;> cases h)⟩
 simp only [cFn] at hr
 split at hr
 · rename_i x hx
   simp at hr; subst hr
   obtain ⟨i, h1, h2, h3⟩ := hG x hvc
   have := (h i).does H w ins vs g ⟨(F i x).vc, (F i x).out, none, (F i x).fresh⟩ (by simp [cFn, hx]) h1 hrel hmem
   unfold Answers at this ⊢
   simp only [h2, h3] at this
   exact this
 · cases hr

theorem body_ok {A : Prop} {Γ : FuncId → Option PC} {fn : Func} {ptr : Bool} {ins : List SV} {r : CRes} (ann : Ann) (h : A) (e : A = bodyVC P Γ ann fn ptr ins r) : ∃ ann, bodyVC P Γ ann fn ptr ins r := ⟨ann, e ▸ h⟩
theorem got {p : Prop} (h : vcT (some p)) : p := h

def D (ts rs : List T) (vc : dens ts → Option Prop) (f : dens ts → dens rs) : PC := cFn ts fun x => ⟨vc x, outOf (svsOf rs (f x)), none⟩
def O (ts : List T) (t : T) (e s : Nat) (rs : List T) (vc : dens ts → Option Prop) (f : dens ts → List t.den × dens rs) : PC :=
 cFn ts fun x => ⟨vc x, outOf (.own 0 t (f x).1 :: svsOf rs (f x).2), some (.tok e s)⟩
def M (rt : T) (ts rs : List T) (vc : rt.den → dens ts → Option Prop) (f : rt.den → dens ts → rt.den × dens rs) : PC :=
 cMt rt ts fun s x => ⟨vc s x, outOf (svsOf rs (f s x).2), (f s x).1, none⟩
end Go.Vse
