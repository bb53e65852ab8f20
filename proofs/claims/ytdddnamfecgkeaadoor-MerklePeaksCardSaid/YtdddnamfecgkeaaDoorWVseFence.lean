/- The walk within rounds and iterators: fences; temporaries that stand behind one's own. -/
import Derived.Test.YtdddnamfecgkeaaDoorWVseOpsK
import Derived.Test.YtdddnamfecgkeaaDoorWVseRangeD
import Derived.OrdersIn
import Derived.RangeFuncLeaves
import Derived.RangeFuncRecord
namespace Go.Vse
variable {P : Program} {R : Option Nat} {m : Nat}

def RF (R : Option Nat) : Fence := { Fence.wide with round := R }
theorem callsIn_rf {f : FuncId} {args : Array Value} {w : World} {Q : Ending → World → Prop} (h : Calls P f args w Q) : CallsIn (RF R) m P f args w Q := (callsIn_wide (n := m)).2 h
theorem calls_rf {f : FuncId} {args : Array Value} {w : World} {Q : Ending → World → Prop} (h : CallsIn (RF none) m P f args w Q) : Calls P f args w Q := (callsIn_wide (n := m)).1 h
theorem rowsIn_rf {row : String} {args : Array Value} {w : World} {Q : Value → World → Prop} (h : Rows P row args w Q) : RowsIn (RF R) m P row args w Q :=
 fun c cs _ => let ⟨v, w', r, s⟩ := h c cs; ⟨v, w', r, stepsIn_wide.2 s⟩

def undefer (o : Oper) : Prop := ∀ c, o.op ≠ .defer c
theorem wpIn_of {o : Oper} {a : Act} {w : World} {K : Act → World → Prop} {Q : Exit → Act → World → Prop} (h : o.wp P a w K Q) (hq : ¬ LetsOut Q) (hd : R = none ∨ undefer o) : o.wpIn (RF R) 0 P a w K Q := by
 have e : Oper.semAt (RF R).round a.eval o = execOp a.eval o := by
  rcases hd with rfl | hd
  · exact Oper.semAt_none _ _
  · exact Oper.semAt_eq _ _ _ hd
 unfold Oper.wp at h
 refine ⟨fun _ _ => trivial, ?_⟩
 rw [e]
 have hdep : (RF R).depth.isSome = true → 1 ≤ 0 := fun h => by simp [RF, Fence.wide] at h
 generalize (execOp a.eval o).run P w = r at *
 cases r with
 | ok x w' =>
   cases x <;> simp only [Oper.upon] at h <;> simp only [Oper.uponIn]
   case enter f args =>
    refine ⟨hdep, callsIn_rf (h.mono fun e w'' he => ?_)⟩
    cases e <;> exact he
   case row row args => exact ⟨hdep, rowsIn_rf h⟩
   all_goals exact h
 | halt x w' => cases x <;> simp only [Oper.upon] at h <;> simp only [Oper.uponIn] <;> exact h
theorem wpOpIn_of {ops : Array Oper} {i : Nat} {a : Act} {w : World} {K : Act → World → Prop} {Q : Exit → Act → World → Prop} (h : wpOp P ops Q i K a w) (hq : ¬ LetsOut Q) (hd : R = none ∨ ∀ (i : Nat) (o : Oper), ops[i]? = some o → undefer o) : wpOpIn (RF R) 0 P ops Q i K a w := by
 unfold wpOp at h
 unfold wpOpIn
 split
 · rename_i ho; rw [ho] at h; exact h
 · rename_i o ho
   rw [ho] at h
   simp only at h
   split
   · rename_i hw
     rw [if_pos hw] at h
     rcases h with h | h
     · exact wpIn_of h hq (hd.imp id fun hd => hd i o ho)
     · exact absurd h.2 hq
   · rename_i hw
     rw [if_neg hw] at h
     exact ⟨fun _ _ => trivial, h⟩
theorem wpAnyIn_of {md : Region.Mode} {ops : Array Oper} {Q : Exit → Act → World → Prop} (hq : ¬ LetsOut Q) (hd : R = none ∨ ∀ (i : Nat) (o : Oper), ops[i]? = some o → undefer o) : ∀ (fuel : Nat) (listed : Array Bool) (a : Act) (w : World), wpAny P md ops Q fuel listed a w → wpAnyIn (RF R) 0 P md ops Q fuel listed a w
 | 0, _, _, _, h => h
 | fuel + 1, listed, a, w, h => ⟨h.1, fun i hi => wpOpIn_mono (fun a w h => wpAnyIn_of hq hd fuel _ a w h) (wpOpIn_of (h.2 i hi) hq hd)⟩

def ext (a : Act) (b : Array Value) : Act := { a with tmps := a.tmps ++ b }
theorem ext_nil (a : Act) : ext a #[] = a := by unfold ext; simp
theorem blt_iff {a b : Nat} (h : Nat.blt a b = true) : a < b := Nat.le_of_ble_eq_true h
theorem opdsOk_mem {n : Nat} : ∀ {l : List Operand}, opdsOk n l = true → ∀ x ∈ l, opdOk n x = true
 | [], _, _, h => by cases h
 | y :: r, h, x, hx => by
   simp only [opdsOk, Bool.and_eq_true] at h
   rcases List.mem_cons.1 hx with rfl | hx
   · exact h.1
   · exact opdsOk_mem h.2 x hx
theorem opersOk_get {n : Nat} : ∀ {l : List Oper}, opersOk n l = true → ∀ (i : Nat) (o : Oper), l[i]? = some o → operOk n o = true
 | [], _, _, _, h => by simp at h
 | y :: r, h, i, o, ho => by
   simp only [opersOk, Bool.and_eq_true] at h
   cases i with
   | zero => simp at ho; subst ho; exact h.1
   | succ i => exact opersOk_get h.2 i o (by simpa using ho)
theorem opersOk_at {n : Nat} {ops : Array Oper} (h : opersOk n ops.toList = true) (i : Nat) (o : Oper) (ho : ops[i]? = some o) : operOk n o = true := opersOk_get h i o (by simpa using ho)
theorem undefer_of {n : Nat} {o : Oper} (h : operOk n o = true) : undefer o := fun c e => by
 simp only [operOk, Bool.and_eq_true, e, kindOk] at h
 exact absurd h.1.1 (by simp)
theorem ext_at {a : Act} {b : Array Value} {t : Nat} (h : t < a.tmps.size) : (ext a b).tmps[t]? = a.tmps[t]? := Array.getElem?_append_left h
theorem ext_eval {a : Act} {b : Array Value} {x : Operand} (h : opdOk a.tmps.size x = true) : (ext a b).eval x = a.eval x := by
 cases x with
 | tmp t =>
   show (ext a b).tmps.getD t undef = a.tmps.getD t undef
   rw [Array.getD_eq_getD_getElem?, Array.getD_eq_getD_getElem?, ext_at (blt_iff h)]
 | _ => rfl
theorem ext_put {a : Act} {b : Array Value} {d : Option Nat} (h : dstOk a.tmps.size d = true) (v : Value) : (ext a b).put d v = ext (a.put d v) b := by
 cases d with
 | none => rfl
 | some d =>
   have h := blt_iff h
   unfold Act.put ext
   simp only
   congr 1
   apply Array.ext_getElem?
   intro i
   rw [Array.getElem?_setIfInBounds, Array.getElem?_append, Array.getElem?_append, Array.getElem?_setIfInBounds, Array.size_setIfInBounds, Array.size_append]
   by_cases hi : d = i
   · subst hi
     simp [h, Nat.lt_add_right _ h]
   · simp [hi]
theorem put_size (a : Act) (d : Option Nat) (v : Value) : (a.put d v).tmps.size = a.tmps.size := by
 unfold Act.put; split <;> simp
theorem ext_yielded {ops : Array Oper} {a : Act} {b : Array Value} (h : opersOk a.tmps.size ops.toList = true) (j : Nat) : yielded ops (ext a b).tmps j = yielded ops a.tmps j := by
 unfold yielded
 cases ho : ops[j]? with
 | none => rfl
 | some o =>
   have hok := opersOk_at h j o ho
   cases hd : o.dst with
   | none => simp [hd]
   | some d =>
     simp only [operOk, Bool.and_eq_true, hd] at hok
     have : (ext a b).tmps[d]? = a.tmps[d]? := ext_at (blt_iff hok.1.2)
     simp [hd, this]
theorem ext_sem {n : Nat} {o : Oper} {a : Act} {b : Array Value} (hn : a.tmps.size = n) (h : operOk n o = true) (ro : Option Nat) : Oper.semAt ro (ext a b).eval o = Oper.semAt ro a.eval o := by
 rw [Oper.semAt_eq _ _ _ (undefer_of h), Oper.semAt_eq _ _ _ (undefer_of h)]
 simp only [operOk, Bool.and_eq_true] at h
 refine execOp_congr o (fun cs b e => ?_) fun x hx => ext_eval (by rw [hn]; exact opdsOk_mem h.2 x (by simpa using hx))
 rw [e] at h
 exact absurd h.1.1 (by simp [kindOk])

theorem wpIn_ext {F : Fence} {n k : Nat} {o : Oper} {a : Act} {b : Array Value} {w : World} {Kh K : Act → World → Prop} {Qh Q : Exit → Act → World → Prop} (hn : a.tmps.size = n) (hok : operOk n o = true)
 (hF : ∀ f, F.fn f) (hK : ∀ a0 w', a0.tmps.size = n → Kh (ext a0 b) w' → K a0 w') (hQ : ∀ e a0 w', a0.tmps.size = n → Qh e (ext a0 b) w' → Q e a0 w') (hl : ¬ LetsOut Qh) (h : o.wpIn F k P (ext a b) w Kh Qh) : o.wpIn F k P a w K Q := by
 have hd : dstOk a.tmps.size o.dst = true := by
  rw [hn]
  simp only [operOk, Bool.and_eq_true] at hok
  exact hok.1.2
 unfold Oper.wpIn at *
 refine ⟨fun _ _ => hF _, ?_⟩
 have h := h.2
 rw [ext_sem hn hok] at h
 generalize (Oper.semAt F.round a.eval o).run P w = r at *
 have hput : ∀ v w', Kh ((ext a b).put o.dst v) w' → K (a.put o.dst v) w' := fun v w' hk => hK _ _ (by rw [put_size]; exact hn) (by rw [ext_put hd] at hk; exact hk)
 have hend : ∀ e w', (match e, w' with
  | Ending.returned v, w'' => Kh ((ext a b).put o.dst v) w''
  | .panicked chain, w'' => Qh (.panic chain) (ext a b) w''
  | .outgrown, _ => LetsOut Qh) → (match e, w' with
  | Ending.returned v, w'' => K (a.put o.dst v) w''
  | .panicked chain, w'' => Q (.panic chain) a w''
  | .outgrown, _ => LetsOut Q) := fun e w' he => by
  cases e with
  | returned v => exact hput v w' he
  | panicked chain => exact hQ _ a w' hn he
  | outgrown => exact absurd he hl
 cases r with
 | ok x w' =>
   cases x <;> simp only [Oper.uponIn] at h ⊢
   case value v => exact hput v w' h
   case skip => exact hput undef w' h
   case defer d =>
    have : ({ ext a b with defers := d :: (ext a b).defers } : Act).put o.dst undef = ext (({ a with defers := d :: a.defers } : Act).put o.dst undef) b := ext_put (a := { a with defers := d :: a.defers }) hd undef
    rw [this] at h
    exact hK _ _ (by rw [put_size]; exact hn) h
   case enter f args => exact ⟨h.1, h.2.mono hend⟩
   case row row args => exact ⟨h.1, h.2.mono fun v w'' hv => hput v w'' hv⟩
   case round l f tmps assign body => exact ⟨h.1, h.2.mono hend⟩
   all_goals exact h
 | halt x w' =>
   cases x <;> simp only [Oper.uponIn] at h ⊢
   case panic v => exact hQ _ a w' hn h
   all_goals exact h
theorem wpOpsIn_ext {F : Fence} {n k : Nat} {ops : Array Oper} {b : Array Value} {Qh Q : Exit → Act → World → Prop} (hok : opersOk n ops.toList = true)
 (hF : ∀ f, F.fn f) (hQ : ∀ e a0 w', a0.tmps.size = n → Qh e (ext a0 b) w' → Q e a0 w') (hl : ¬ LetsOut Qh) : ∀ (l : List Nat) (a : Act) (w : World), a.tmps.size = n → wpOpsIn F k P ops Qh l (ext a b) w → wpOpsIn F k P ops Q l a w
 | [], a, w, hn, h => hQ _ a w hn h
 | i :: l, a, w, hn, h => by
   rw [wpOpsIn_cons] at h ⊢
   unfold wpOpIn at *
   cases ho : ops[i]? with
   | none => rw [ho] at h; exact wpOpsIn_ext hok hF hQ hl l a w hn h
   | some o =>
     rw [ho] at h
     simp only at h ⊢
     have ey : yielded ops (ext a b).tmps = yielded ops a.tmps := funext fun j => ext_yielded (by rw [hn]; exact hok) j
     rw [ey] at h
     have hoo := opersOk_at hok i o ho
     have hd : dstOk a.tmps.size o.dst = true := by
      rw [hn]
      simp only [operOk, Bool.and_eq_true] at hoo
      exact hoo.1.2
     split
     · rename_i hw
       rw [if_pos hw] at h
       exact wpIn_ext hn hoo hF (fun a0 w' hs hk => wpOpsIn_ext hok hF hQ hl l a0 w' hs hk) hQ hl h
     · rename_i hw
       rw [if_neg hw] at h
       refine ⟨fun _ _ => hF _, wpOpsIn_ext hok hF hQ hl l _ w (by rw [put_size]; exact hn) ?_⟩
       rw [← ext_put hd]
       exact h.2
end Go.Vse
