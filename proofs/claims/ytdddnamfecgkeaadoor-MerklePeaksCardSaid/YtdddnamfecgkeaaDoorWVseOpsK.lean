/- Contracts of functions; each operation's symbolic step is what it does. -/
import Derived.Test.YtdddnamfecgkeaaDoorWVseCallG
import Derived.Test.YtdddnamfecgkeaaDoorWVseOpsM
namespace Go.Vse
variable {P : Program} {E : Env} {H : Mem} {ρ : Lab} {hp : List (Nat × SObj)} {lab : Nat} {N : Nat → Prop} {w : World} {S : SState} {a : Act}

structure SameBut (g : Option Nat) (w w' : World) : Prop where
 heap : ∀ b, b < w.heap.size → g ≠ some b → w'.heap[b]? = w.heap[b]?
 size : w.heap.size ≤ w'.heap.size
 os : w'.os = w.os
 tape : w'.tape = w.tape
 output : outOk w w'
def rcvRel (g : Option Nat) (H' : Mem) (w' : World) : Option (List SC) → Prop
 | none => g = none
 | some cs => ∃ b c ty, g = some b ∧ w'.heap[b]? = some (.cells c ty (0, 0)) ∧ ∀ ρ, scsRel H' ρ cs c.toList
def freshRel (H' : Mem) (w w' : World) (u : Option Value) : Option SObj → Prop
 | none => u = none
 | some ob => (∀ b, u.bind blk = some b → w.heap.size ≤ b) ∧ ∀ ρ, ρ 0 = u → objRel H' ρ w' 0 ob
def Answers (P : Program) (f : FuncId) (H : Mem) (w : World) (vs : List Value) (g : Option Nat) (r : CRes) : Prop :=
 Calls P f vs.toArray w fun e w' => ∃ v H' u, e = .returned v ∧ H.le H' ∧ SameBut g w w' ∧ memOk H' w' ∧ (∀ b, b < w.heap.size → ∀ o, H' b o = H b o) ∧
  rcvRel g H' w' r.rcv ∧ freshRel H' w w' u r.fresh ∧ ∀ ρ a, ρ 0 = u → slRel H' ρ a r.out v
def tab64L : List Nat := [0, 1, 56, 2, 57, 49, 28, 3, 61, 58, 42, 50, 38, 29, 17, 4, 62, 47, 59, 36, 45, 43, 51, 22, 53, 39, 33, 30, 24, 18, 12, 5, 63, 55, 48, 27, 60, 41, 37, 16, 46, 35, 44, 21, 52, 32, 23, 11, 54, 26, 40, 15, 34, 20, 31, 10, 25, 14, 19, 9, 13, 8, 7, 6]
def findG (name : String) : List Global → Nat → Option Nat
 | [], _ => none
 | g :: r, k => bif g.name == name then some k else findG name r (k + 1)
def gtab (P : Program) : Option Nat := findG "math/bits.deBruijn64tab" P.globals.toList 0
def gmem (P : Program) : Mem := fun b o => match gtab P with
 | some g => if b = g then (tab64L[o]?).map (fun n => .int .u8 (n : Int)) else none
 | none => none
def HasG (P : Program) (H : Mem) : Prop := (gmem P).le H
def argsRel (H : Mem) (w : World) (ins : List SV) (vs : List Value) (g : Option Nat) : Bool → Prop
 | false => g = none ∧ datsRel H ins vs
 | true => ∃ b c ty rs ins' vs', g = some b ∧ ins = .agg (ofRuns rs) :: ins' ∧ vs = .pointer (some ⟨b, 0, none⟩) :: vs' ∧ w.heap[b]? = some (.cells c ty (0, 0)) ∧ runsRel H rs c.toList ∧ (∀ o, H b o = none) ∧ datsRel H ins' vs'
structure Spec (P : Program) (f : FuncId) (c : PC) : Prop where
 fn : ∃ fn b, P.funcs[f]? = some fn ∧ fn.body = some b ∧ (fn.name == "runtime.NumGoroutine") = false
 does : ∀ (H : Mem) (w : World) (ins : List SV) (vs : List Value) (g : Option Nat) (r : CRes), c.ct ins = some r → vcT r.vc → argsRel H w ins vs g c.ptr → memOk H w → HasG P H → Answers P f H w vs g r
 gdoes : ∀ fl g, c.gr = some (fl, g) ∨ c.alt = some (fl, g) → ∀ (H : Mem) (w : World) (ρ : Lab) (heap : List (Nat × SObj)) (ins : List SV) (vs : List Value) (r : GRes), g ins heap = some r → vcT r.vc → svsRel H ρ ins vs → GraphOk H ρ heap w → (∀ i, look i heap = .gone → ρ i = none) → memOk H w → HasG P H → GAnswers P f H w ρ heap vs r

theorem Spec.flip {f : FuncId} {c : PC} (h : Spec P f c) : Spec P f c.flip := ⟨h.fn, h.does, fun fl g e => h.gdoes fl g (e.elim .inr .inr)⟩
structure GamOk (P : Program) (H0 : Mem) (Γ : FuncId → Option PC) : Prop where
 ok : ∀ f c, Γ f = some c → Spec P f c
 glob : HasG P H0
theorem altG_ok0 {Γ : FuncId → Option PC} (hΓ : ∀ f c, Γ f = some c → Spec P f c) (b : Bool) : ∀ f c, altG b Γ f = some c → Spec P f c := by
 cases b with
 | false => exact hΓ
 | true =>
   intro f c h
   unfold altG at h
   simp only at h
   split at h
   · rename_i c' hc
     simp only [Option.some.injEq] at h; subst h
     exact (hΓ f c' hc).flip
   · cases h

theorem altG_ok {H0 : Mem} {Γ : FuncId → Option PC} (hΓ : GamOk P H0 Γ) (b : Bool) : GamOk P H0 (altG b Γ) := ⟨altG_ok0 hΓ.ok b, hΓ.glob⟩

structure DSpec (P : Program) (f : FuncId) (c : DC) : Prop where
 fn : ∃ fn b, P.funcs[f]? = some fn ∧ fn.body = some b ∧ (fn.name == "runtime.NumGoroutine") = false
 dies : ∀ (H : Mem) (w : World) (ins : List SV) (vs : List Value) (g : Option Nat) (p : Prop), c.ct ins = some p → p → argsRel H w ins vs g c.ptr → memOk H w → HasG P H →
  Calls P f vs.toArray w fun e w' => ∃ H', e = .panicked [{ v := c.val, recovered := false }] ∧ H.le H' ∧ SameBut g w w' ∧ memOk H' w' ∧ (∀ b, b < w.heap.size → ∀ o, H' b o = H b o)

def OpGo (P : Program) (E : Env) (H : Mem) (ρ : Lab) (hp : List (Nat × SObj)) (N : Nat → Prop) (lab : Nat) (w : World) (a : Act) (o : Oper) (r : Res) : Prop :=
 ∀ (next : Act → World → Prop) (Q : Exit → Act → World → Prop),
  (∀ v w' H' ρ', H.le H' → ρ.le ρ' → MInv E H' ρ' (putAll hp r.upd) (but N lab) w' → slRel H' ρ' a.tmps r.out v → next (a.put o.dst v) w') → o.wp P a w next Q

theorem OpGo.of_ok {o : Oper} {r : Res} (h : OpOk P E H ρ hp N lab w a.tmps (execOp a.eval o) r) : OpGo P E H ρ hp N lab w a o r := by
 obtain ⟨v, w', H', ρ', hr, h1, h2, h3, h4⟩ := h
 intro next Q hk
 unfold Oper.wp
 rcases hr with hr | ⟨hr, rfl⟩
 · rw [hr]; exact hk v w' H' ρ' h1 h2 h3 h4
 · rw [hr]; exact hk undef w' H' ρ' h1 h2 h3 h4

theorem relabV_rel {ρ' : Lab} {lab : Nat} {s : SV} {v : Value} (h : svRel H (fun k => ρ' (relN lab k)) s v) : svRel H ρ' (relabV lab s) v := by
 cases s with
 | own k t xs => exact h
 | ref r =>
   cases r with
   | cell k p o => exact h
   | _ => trivial
 | agg cs =>
   simp only [relabV]
   split
   · rename_i rs hr
     obtain ⟨vs, e, h⟩ := h
     exact ⟨vs, e, scsRel_ofRuns.2 (toRuns_sound hr h)⟩
   · trivial
 | clr f cs => trivial
 | yld k => trivial
 | clo f caps => cases caps <;> exact h
 | dv d => exact h
 | full t xs => exact h
 | ipt rs => exact h
 | top => trivial
theorem relabVs_rel {ρ' : Lab} {lab : Nat} : ∀ {ss : List SV} {vs : List Value}, svsRel H (fun k => ρ' (relN lab k)) ss vs → svsRel H ρ' (mapL (relabV lab) ss) vs
 | [], _, h => h
 | s :: r, _, ⟨v, x, e, h1, h2⟩ => ⟨v, x, e, relabV_rel h1, relabVs_rel h2⟩
theorem relabS_rel {ρ' : Lab} {lab : Nat} {s : Sl} {a : Array Value} {v : Value} (h : slRel H (fun k => ρ' (relN lab k)) a s v) : slRel H ρ' a (relabS lab s) v := by
 cases s with
 | sv s => exact relabV_rel h
 | tup ss =>
   obtain ⟨vs, e, h⟩ := h
   exact ⟨vs, e, relabVs_rel h⟩
 | cond g want s => trivial
 | un => trivial

theorem MInv.called (I : MInv E H ρ hp N w) {l b : Nat} {cs cs' : List SC} (hl : look l hp = .cells cs false) (hρ : ρ l = some (.pointer (some ⟨b, 0, none⟩))) {w' : World} (hs : SameBut (some b) w w') {H' : Mem} (hH : H.le H')
 (hmem : memOk H' w') (hnew : ∀ b, b < w.heap.size → ∀ o, H' b o = H b o) (hc : ∃ c ty, w'.heap[b]? = some (.cells c ty (0, 0)) ∧ scsRel H' ρ cs' c.toList) : MInv E H' ρ (put l (.cells cs' false) hp) N w' := by
 have hbase : baseOf ρ l = some b := by simp [baseOf, hρ, blk]
 have hne : look l hp ≠ .gone := by rw [hl]; simp
 have hng : ∀ k, look k (put l (.cells cs' false) hp) ≠ .gone → look k hp ≠ .gone := by
  intro k hk
  rw [look_put] at hk
  split at hk
  · rename_i e; rw [e]; exact hne
  · exact hk
 have hb : b < w.heap.size := base_lt I hne hbase
 have hHb : ∀ o, H b o = none := by
  have := I.objs l
  rw [hl] at this
  obtain ⟨b', _, _, h1, _, _, h4⟩ := this
  rw [hρ] at h1
  simp at h1; subst h1
  exact h4 rfl
 exact {
  mem := hmem
  objs := fun k => by
   rw [look_put]
   by_cases hk : k = l
   · subst hk
     rw [if_pos rfl]
     obtain ⟨c, ty, h1, h2⟩ := hc
     exact ⟨b, c, ty, hρ, h1, h2, fun _ o => by rw [hnew b hb, hHb]⟩
   · rw [if_neg hk]
     by_cases hg : look k hp = .gone
     · rw [hg]; trivial
     · refine objRel_mono hH (Lab.le_refl ρ) (I.objs k) (fun b' hb' => hs.heap b' (base_lt I hg hb') fun e => ?_) (fun b' hb' => hnew b' (base_lt I hg hb'))
       simp at e; subst e
       exact I.sep k l b hg hne hk hb' hbase
  sep := fun k k' b' h1 h2 => I.sep k k' b' (hng k h1) (hng k' h2)
  fresh := fun k b' h1 => I.fresh k b' (hng k h1)
  bound := I.bound
  keepH := Mem.le_trans I.keepH hH
  newH := fun b' o h => by
   by_cases hb' : b' < w.heap.size
   · rw [hnew b' hb'] at h; exact I.newH b' o h
   · exact .inr (.inl (by have := I.grow; omega))
  frame := fun b' h1 h2 => by
   refine (hs.heap b' (Nat.lt_of_lt_of_le h1 I.grow) fun e => ?_).trans (I.frame b' h1 h2)
   simp at e; subst e
   rcases I.fresh l b hne hbase with h | h
   · omega
   · exact h2 h
  grow := Nat.le_trans I.grow hs.size
  os := hs.os.trans I.os
  tape := hs.tape.trans I.tape
  output := hs.output.trans I.output
  root := I.root }

theorem MInv.lost (I : MInv E H ρ hp N w) {l b : Nat} {cs : List SC} (hl : look l hp = .cells cs false) (hρ : ρ l = some (.pointer (some ⟨b, 0, none⟩))) {w' : World} (hs : SameBut (some b) w w') {H' : Mem} (hH : H.le H')
 (hmem : memOk H' w') (hnew : ∀ b, b < w.heap.size → ∀ o, H' b o = H b o) : MInv E H' ρ (put l .gone hp) N w' := by
 have hbase : baseOf ρ l = some b := by simp [baseOf, hρ, blk]
 have hne : look l hp ≠ .gone := by rw [hl]; simp
 have hng : ∀ k, look k (put l .gone hp) ≠ .gone → k ≠ l ∧ look k hp ≠ .gone := by
  intro k hk
  rw [look_put] at hk
  split at hk
  · exact absurd rfl hk
  · rename_i e; exact ⟨e, hk⟩
 exact {
  mem := hmem
  objs := fun k => by
   rw [look_put]
   by_cases hk : k = l
   · rw [if_pos hk]; trivial
   · rw [if_neg hk]
     by_cases hg : look k hp = .gone
     · rw [hg]; trivial
     · refine objRel_mono hH (Lab.le_refl ρ) (I.objs k) (fun b' hb' => hs.heap b' (base_lt I hg hb') fun e => ?_) (fun b' hb' => hnew b' (base_lt I hg hb'))
       simp at e; subst e
       exact I.sep k l b hg hne hk hb' hbase
  sep := fun k k' b' h1 h2 => I.sep k k' b' (hng k h1).2 (hng k' h2).2
  fresh := fun k b' h1 => I.fresh k b' (hng k h1).2
  bound := I.bound
  keepH := Mem.le_trans I.keepH hH
  newH := fun b' o h => by
   by_cases hb' : b' < w.heap.size
   · rw [hnew b' hb'] at h; exact I.newH b' o h
   · exact .inr (.inl (by have := I.grow; omega))
  frame := fun b' h1 h2 => by
   refine (hs.heap b' (Nat.lt_of_lt_of_le h1 I.grow) fun e => ?_).trans (I.frame b' h1 h2)
   simp at e; subst e
   rcases I.fresh l b hne hbase with h | h
   · omega
   · exact h2 h
  grow := Nat.le_trans I.grow hs.size
  os := hs.os.trans I.os
  tape := hs.tape.trans I.tape
  output := hs.output.trans I.output
  root := I.root }

theorem fresh_label (I : MInv E H ρ hp N w) (hN : N lab) {w0 : World} (hle : w0.heap.size ≤ w.heap.size) (hold : ∀ l b, look l hp ≠ .gone → baseOf ρ l = some b → b < w0.heap.size) (hgrow : E.w0.heap.size ≤ w0.heap.size)
 {fr : Option SObj} {u : List (Nat × SObj)} (hu : freshU lab fr = some u) {x : Option Value} (hf : freshRel H w0 w x fr) :
 ∃ ρ', ρ.le ρ' ∧ MInv E H ρ' (putAll hp u) (but N lab) w ∧ ρ' lab = x := by
 have hb := I.bound lab hN
 unfold freshU at hu
 split at hu
 · simp at hu; subst hu
   simp only [freshRel] at hf
   exact ⟨ρ, Lab.le_refl ρ, I.later but_le, by rw [hb, hf]⟩
 · rename_i cs
   split at hu
   · rename_i rs hrs
     simp at hu; subst hu
     obtain ⟨h1, h2⟩ := hf
     obtain ⟨b, c, ty, h3, h4, h5, h6⟩ := h2 (fun _ => x) rfl
     simp only at h3
     subst h3
     refine ⟨setLab ρ lab (.pointer (some ⟨b, 0, none⟩)), setLab_le hb, I.label hN ⟨b, c, ty, by simp [setLab], h4, scsRel_ofRuns.2 (toRuns_sound hrs h5), h6⟩ ?_, by simp [setLab]⟩
     intro b' hb'
     simp [blk] at hb'
     subst hb'
     have := h1 b (by simp [blk])
     exact ⟨.inl (by omega), fun l hl e => by have := hold l b hl e; omega⟩
   · simp at hu
 · rename_i e s
   simp at hu; subst hu
   obtain ⟨h1, h2⟩ := hf
   obtain ⟨v, n, xs, h3, h4, h5⟩ := h2 (fun _ => x) rfl
   simp only at h3
   subst h3
   refine ⟨setLab ρ lab v, setLab_le hb, I.label hN ⟨v, n, xs, by simp [setLab], h4, h5⟩ ?_, by simp [setLab]⟩
   intro b' hb'
   have := h1 b' (by simpa using hb')
   exact ⟨.inl (by omega), fun l hl e => by have := hold l b' hl e; omega⟩
 · simp at hu

theorem enter_run {o : Oper} {f : FuncId} {args : Array Operand} {tys : Array TypeId} (ho : o.op = .call { callee := .value (.func f), args, argTypes := tys }) {fn : Func} {b : Code} (hf : P.funcs[f]? = some fn) (hb : fn.body = some b)
 (hn : (fn.name == "runtime.NumGoroutine") = false) : (execOp a.eval o).run P w = .ok (.enter f (args.toList.map a.eval).toArray) w := by
 have e : (args.toList.map a.eval).toArray = args.map a.eval := by
  apply Array.ext'; simp
 rw [e]
 simp only [execOp, ho, resolve, Act.eval, Deferred.ofValue, Sem.run_bind, Sem.run_pure, Result.andThen_ok, invoke, callFunc, run_program, hf]
 simp [hn, hb]

theorem svsRel_append {ρ : Lab} : ∀ {l m : List SV} {xs ys : List Value}, svsRel H ρ l xs → svsRel H ρ m ys → svsRel H ρ (l ++ m) (xs ++ ys)
 | [], _, _, _, h, h' => by simp only [svsRel] at h; subst h; exact h'
 | _ :: _, _, _, _, ⟨v, x, e, h1, h2⟩, h' => by subst e; exact ⟨v, _, rfl, h1, svsRel_append h2 h'⟩
theorem refArgs_rel {ρ : Lab} : ∀ {cs : List SC} {rs : List SV} {xs : List Value}, refArgs cs = some rs → scsRel H ρ cs xs → svsRel H ρ rs xs
 | [], rs, xs, h, hr => by simp only [refArgs, Option.some.injEq] at h; subst h; exact hr
 | .ref r :: l, rs, xs, h, ⟨x, y, e, ⟨v, e2, h1⟩, h2⟩ => by
   simp only [refArgs] at h
   split at h
   · rename_i vs hv
     simp only [Option.some.injEq] at h; subst h
     subst e2; subst e
     exact ⟨v, y, rfl, h1, refArgs_rel hv h2⟩
   · cases h
 | .run _ :: _, _, _, h, _ => by cases h
 | .own _ _ _ :: _, _, _, h, _ => by cases h
theorem refCaps_rel {ρ : Lab} : ∀ {vs : List SV} {cs : List SC} {xs : List Value}, refCaps vs = some cs → svsRel H ρ vs xs → scsRel H ρ cs xs
 | [], cs, xs, h, hr => by simp only [refCaps, Option.some.injEq] at h; subst h; exact hr
 | .ref r :: l, cs, xs, h, ⟨v, y, e, h1, h2⟩ => by
   simp only [refCaps] at h
   split at h
   · rename_i ds hd
     simp only [Option.some.injEq] at h; subst h
     subst e
     exact ⟨[v], y, rfl, ⟨v, rfl, h1⟩, refCaps_rel hd h2⟩
   · cases h
 | .dv _ :: _, _, _, h, _ => by cases h
 | .own _ _ _ :: _, _, _, h, _ => by cases h
 | .full _ _ :: _, _, _, h, _ => by cases h
 | .ipt _ :: _, _, _, h, _ => by cases h
 | .agg _ :: _, _, _, h, _ => by cases h
 | .clo _ _ :: _, _, _, h, _ => by cases h
 | .clr _ _ :: _, _, _, h, _ => by cases h
 | .yld _ :: _, _, _, h, _ => by cases h
 | .top :: _, _, _, h, _ => by cases h
theorem enter_clo {o : Oper} {t : Nat} {f : FuncId} {args : Array Operand} {tys : Array TypeId} {cs : List Value} (ho : o.op = .call { callee := .value (.tmp t), args, argTypes := tys }) (ht : a.eval (.tmp t) = .func (.func f) #[] cs.toArray) {fn : Func} {b : Code} (hf : P.funcs[f]? = some fn) (hb : fn.body = some b)
 (hn : (fn.name == "runtime.NumGoroutine") = false) : (execOp a.eval o).run P w = .ok (.enter f (args.toList.map a.eval ++ cs).toArray) w := by
 have e : (args.toList.map a.eval ++ cs).toArray = args.map a.eval ++ cs.toArray := by
  apply Array.ext'; simp
 rw [e]
 simp only [execOp, ho, resolve, ht, Deferred.ofValue, Sem.run_bind, Sem.run_pure, Result.andThen_ok, invoke, callFunc, run_program, hf]
 simp [hn, hb]

theorem callO_go (I : MInv E H ρ hp N w) (hN : Fr N lab) {Γ : FuncId → Option PC} (hΓ : GamOk P E.H0 Γ) {o : Oper} {f : FuncId} {tys : Array TypeId} {xs : List Value}
 (hrun : ∀ (fn : Func) (b : Code), P.funcs[f]? = some fn → fn.body = some b → (fn.name == "runtime.NumGoroutine") = false → (execOp a.eval o).run P w = .ok (.enter f xs.toArray) w)
 {vs : List SV} {r : Res} (h : callO P Γ hp f tys.toList lab vs = some r) (hvc : vcT r.vc) (hv : svsRel H ρ vs xs) : OpGo P E H ρ hp N lab w a o r := by
 have hv := argsOf_sound (P := P) (ts := tys.toList) hv
 unfold callO at h
 split at h
 · simp at h
 · rename_i c hc
   have sp := hΓ.ok f c hc
   obtain ⟨fn, bd, hf, hb, hn⟩ := sp.fn
   intro next Q hk
   unfold Oper.wp
   rw [hrun fn bd hf hb hn, Oper.upon_enter]
   split at h
   · rename_i flags g hgr
     unfold callG at h
     split at h
     case h_2 => cases h
     rename_i d hd
     generalize hord : orderG hp d = order at h
     cases hc1 : (closedB (putAll hp d.upd) order && allN (fun m => memN m order) (labsVs d.vs) && distinctN order) with
     | false => rw [hc1] at h; cases h
     | true =>
     rw [hc1] at h
     simp only [cond_true, Bool.and_eq_true] at h hc1
     obtain ⟨⟨k1, k2⟩, k3⟩ := hc1
     split at h
     case h_2 => cases h
     rename_i q hq
     cases hc2 : (postOk q.post q.post && distinctN (labelsOf q.post) && allN (fun m => !isGone (look m q.post)) (labsS q.out)) with
     | false => rw [hc2] at h; cases h
     | true =>
     rw [hc2] at h
     simp only [cond_true, Bool.and_eq_true, Option.some.injEq] at h hc2
     obtain ⟨⟨k4, k5⟩, k6⟩ := hc2
     subst h
     obtain ⟨v1, v2⟩ := vcT_and hvc
     obtain ⟨v2, v3⟩ := vcT_and v2
     obtain ⟨H1, le1, I1, _, rel1⟩ := gArgs_sound I hd v1 hv
     have hnd := distinctN_nodup k3
     have hal : ∀ l ∈ order, look l (putAll hp d.upd) ≠ .gone ∧ ∀ m ∈ labsO (look l (putAll hp d.upd)), m ∈ order := fun l hl => by
      have := allN_iff'.1 k1 l hl
      simp only [Bool.and_eq_true] at this
      exact ⟨notGone this.1, fun m hm => memN_iff'.1 (allN_iff'.1 this.2 m hm)⟩
     have hins : svsRel H1 (canonL ρ order) (mapL (renV (numOf order)) d.vs) xs := renVs_rel rel1 fun l hl => canonL_num (memN_iff'.1 (allN_iff'.1 k2 l hl))
     refine Calls.mono (sp.gdoes flags g (.inl hgr) H1 w (canonL ρ order) _ _ xs q hq v2 hins (gHeap_ok I1 hal) (fun i hi => gHeap_none hnd (fun l hl => (hal l hl).1) hi) I1.mem (Mem.le_trans hΓ.glob I1.keepH)) ?_
     rintro e w' ⟨v, H', ρ1, rfl, le2, mem, same, hnew, hkeep, hG, hfr, rel⟩
     obtain ⟨ρ2, g1, g2, g3, g4⟩ := I1.calledG hnd hal hN.small hN.all k4 (by rw [← labelsOf_map]; exact distinctN_nodup k5) le2 mem same hnew hkeep hG hfr
     refine hk v w' H' ρ2 (Mem.le_trans le1 le2) g1 (by rw [putAll_app']; exact g2.alike (kept_alike hal k4 (by rw [← labelsOf_map]; exact distinctN_nodup k5) g4 v3)) (renS_rel (rel a.tmps) fun l hl => g3 l (notGone (allN_iff'.1 k6 l hl)))
   rename_i hgr
   split at h
   · rename_i hptr
     split at h
     · rename_i d hd
       split at h
       · rename_i vc out fr hct
         split at h
         · rename_i u hu
           simp at h; subst h
           obtain ⟨v1, v2⟩ := vcT_and hvc
           obtain ⟨H1, le1, I1, _, rel1⟩ := asDatas_sound I hd v1 hv
           refine Calls.mono (sp.does H1 w d.vs _ none _ hct v2 (by rw [hptr]; exact ⟨rfl, rel1⟩) I1.mem (Mem.le_trans hΓ.glob I1.keepH)) ?_
           rintro e w' ⟨v, H', x, rfl, le2, same, mem, hnew, _, hfr, rel⟩
           have I2 := I1.grown ⟨fun b hb => same.heap b hb (by simp), same.size, same.os, same.tape, same.output⟩ le2 mem hnew
           obtain ⟨ρ', h1, h2, h3⟩ := fresh_label I2 hN.one same.size (fun l b hl hb => base_lt I1 hl hb) I1.grow hu hfr
           refine hk v w' H' ρ' (Mem.le_trans le1 le2) h1 (by rw [putAll_app]; exact h2) (relabS_rel (rel _ a.tmps ?_))
           simpa [relN] using h3
         · simp at h
       · simp at h
     · simp at h
   · rename_i l as hptr has
     rw [has] at hv
     obtain ⟨v0, vs', evs, hv0, hv'⟩ := hv
     split at h
     · rename_i d hd
       split at h
       · rename_i cs hl
         split at h
         · rename_i rs hrs
           split at h
           · rename_i vc out new fr hct
             split at h
             · rename_i u rs' hu hrs'
               simp at h; subst h
               obtain ⟨v1, v2⟩ := vcT_and hvc
               obtain ⟨H1, le1, I1, _, rel1⟩ := asDatas_sound I hd v1 hv'
               obtain ⟨b, hρ, rfl, _⟩ := hv0
               obtain ⟨b', cc, ty, hρ', hblk, hcs, hro⟩ := I1.cells hl
               rw [hρ] at hρ'; simp at hρ'; subst hρ'
               simp only [pathOff, Nat.add_zero] at evs
               refine Calls.mono (sp.does H1 w _ _ (some b) _ hct v2 (by rw [hptr]; exact ⟨b, cc, ty, rs, d.vs, vs', rfl, rfl, evs, hblk, toRuns_sound hrs hcs, hro rfl, rel1⟩) I1.mem (Mem.le_trans hΓ.glob I1.keepH)) ?_
               rintro e w' ⟨v, H', x, rfl, le2, same, mem, hnew, hrc, hfr, rel⟩
               obtain ⟨b2, c2, ty2, e2, hb2, hsc⟩ := hrc
               simp at e2; subst e2
               have I2 := I1.called hl hρ same le2 mem hnew (cs' := ofRuns rs') ⟨c2, ty2, hb2, scsRel_ofRuns.2 (toRuns_sound hrs' (hsc ρ))⟩
               obtain ⟨ρ', h1, h2, h3⟩ := fresh_label I2 hN.one same.size (fun k bk hk hbk => by
                refine base_lt I1 (l := k) (fun hg => ?_) hbk
                rw [look_put] at hk
                split at hk
                · rename_i e; rw [e, hl] at hg; cases hg
                · exact hk hg) I1.grow hu hfr
               refine hk v w' H' ρ' (Mem.le_trans le1 le2) h1 (by rw [putAll_app]; exact h2) (relabS_rel (rel _ a.tmps ?_))
               simpa [relN] using h3
             · simp at h
           · simp at h
         · simp at h
       · simp at h
     · simp at h
   · simp at h

theorem resOp_go (I : MInv E H ρ S.hp N w) (hN' : Fr N lab) (hs : slotsRel H ρ S.tmps a.tmps) {Γ : FuncId → Option PC} (hΓ : GamOk P E.H0 Γ) {o : Oper} {r : Res} (h : resOp P Γ S o lab = some r) (hvc : vcT r.vc) :
 OpGo P E H ρ S.hp N lab w a o r := by
 have hN := hN'.one
 unfold resOp at h
 split at h
 · -- move
   rename_i x ho
   refine OpGo.of_ok ?_
   simp only [execOp, ho]
   have he := evalO_sound hs x
   split at h
   · rename_i v hv
     rw [hv] at he
     simp [val] at h; subst h
     exact ⟨_, w, H, ρ, .inl rfl, Mem.le_refl H, Lab.le_refl ρ, I.later but_le, nilFor_sound he⟩
   · simp at h; subst h
     exact ⟨_, w, H, ρ, .inl rfl, Mem.le_refl H, Lab.le_refl ρ, I.later but_le, he⟩
 · -- assign
   rename_i x ho
   refine OpGo.of_ok ?_
   simp only [execOp, ho]
   split at h
   · rename_i v hv
     simp [val] at h; subst h
     exact ⟨_, w, H, ρ, .inl rfl, Mem.le_refl H, Lab.le_refl ρ, I.later but_le, nilFor_sound (ev_sound hs hv)⟩
   · simp at h
 · -- pick
   rename_i c x y ho
   refine OpGo.of_ok ?_
   simp only [execOp, ho]
   have := OpOk.pure (P := P) (lab := lab) I (pickO_sound hs h)
   simpa using this
 · -- alloc
   rename_i t ho
   refine OpGo.of_ok ?_
   simp only [execOp, ho]
   cases hx : memN (lab + hAlloc) S.rows with
   | true => rw [hx] at h; exact allocXO_ok I hN h
   | false =>
     rw [hx] at h
     simp only [cond_false] at h
     split at h
     · rename_i cs hz
       simp at h; subst h
       exact alloc_ok I hN hz
     · simp at h
 · -- box
   rename_i t x ho
   refine OpGo.of_ok ?_
   simp only [execOp, ho]
   split at h
   · rename_i cs hz
     simp only [Option.bind_eq_some_iff] at hz
     obtain ⟨s, hx, hc⟩ := hz
     cases hb : Nat.beq (sizeL cs) (sizeT P t) with
     | false => rw [hb] at h; simp at h
     | true =>
       rw [hb] at h; simp at h; subst h
       exact box_ok I hN (toCells_sound hc (nilFor_sound (ev_sound hs hx)))
   · simp at h
 · -- build
   rename_i t parts ho
   refine OpGo.of_ok ?_
   simp only [execOp, ho]
   simp only [Option.bind_eq_some_iff] at h
   obtain ⟨l, hl, h⟩ := h
   exact buildO_ok I h hvc (by simpa using evP_sound hs hl)
 · -- buildSlice
   rename_i t n parts ho
   refine OpGo.of_ok ?_
   simp only [execOp, ho]
   simp only [Option.bind_eq_some_iff] at h
   obtain ⟨l, hl, h⟩ := h
   exact buildSl_ok I hN h hvc (by simpa using evP_sound hs hl)
 · -- load
   rename_i t x ho
   refine OpGo.of_ok ?_
   simp only [execOp, ho]
   simp only [Option.bind_eq_some_iff] at h
   obtain ⟨s, hx, h⟩ := h
   obtain ⟨h1, ad, u, h2, h3, s', h4, h5⟩ := loadO_sound I h hvc (ev_sound hs hx)
   exact OpOk.pure I ⟨h1, u, by rw [h2]; simpa [Instr.loadAt, Instr.sureAddr] using h3, by rw [h4]; exact h5⟩
 · -- store
   rename_i t x v ho
   refine OpGo.of_ok ?_
   simp only [execOp, ho]
   split at h
   · rename_i sx sv d hx hv hd
     exact storeO_ok I h hvc (ev_sound hs hx) (nilFor_sound (ev_sound hs hv)) ⟨d, hd⟩
   · simp at h
 · -- nilCheck
   rename_i x ho
   refine OpGo.of_ok ?_
   simp only [execOp, ho]
   split at h
   · rename_i l p off hx
     simp [val] at h; subst h
     have hv := ev_sound hs hx
     obtain ⟨b, h1, h2, h3⟩ := hv
     rw [h2]
     exact ⟨_, w, H, ρ, .inl rfl, Mem.le_refl H, Lab.le_refl ρ, I.later but_le, b, h1, rfl, h3⟩
   · rename_i l p off hx
     simp [val] at h; subst h
     have hv := ev_sound hs hx
     obtain ⟨b, n, c, h1, h2, h3⟩ := hv
     rw [h2]
     exact ⟨_, w, H, ρ, .inl rfl, Mem.le_refl H, Lab.le_refl ρ, I.later but_le, b, n, c, h1, rfl, h3⟩
   · simp at h
 · -- binOp
   rename_i op t x y ty ho
   refine OpGo.of_ok ?_
   simp only [execOp, ho]
   split at h
   · rename_i sx sy hx hy
     cases hr : isRowV sx with
     | true => rw [hr] at h; exact rowNilO_ok I h hvc (ev_sound hs hx) (ev_sound hs hy)
     | false =>
       rw [hr] at h
       simp only [cond_false] at h
       split at h
       · rename_i q hq
         simp only [dval, Option.some.injEq] at h; subst h
         exact nilNil_ok I hq (ev_sound hs hx) (ev_sound hs hy)
       · exact binO_ok I h hvc (ev_sound hs hx) (ev_sound hs hy)
   · simp at h
 · -- unOp
   rename_i op t x ho
   refine OpGo.of_ok ?_
   simp only [execOp, ho]
   simp only [Option.bind_eq_some_iff] at h
   obtain ⟨s, hx, h⟩ := h
   exact OpOk.pure I (unO_sound h hvc (ev_sound hs hx))
 · -- convert
   rename_i src dst x ho
   refine OpGo.of_ok ?_
   simp only [execOp, ho]
   simp only [Option.bind_eq_some_iff] at h
   obtain ⟨s, hx, h⟩ := h
   exact convO_ok I hN h hvc (ev_sound hs hx)
 · -- sliceToArrayPointer
   rename_i t x ho
   refine OpGo.of_ok ?_
   simp only [execOp, ho]
   simp only [Option.bind_eq_some_iff] at h
   obtain ⟨s, hx, h⟩ := h
   exact arrAtO_ok I h hvc (ev_sound hs hx)
 · -- makeSlice
   rename_i t l c ho
   refine OpGo.of_ok ?_
   simp only [execOp, ho]
   split at h
   · rename_i sl sc hl hc
     cases hrows : memN lab S.rows with
     | true => rw [hrows] at h; exact makeRowO_ok I hN h hvc (ev_sound hs hl) (ev_sound hs hc)
     | false =>
       rw [hrows] at h
       simp only [cond_false] at h
       cases hro2 : memN (lab + STRIDE) S.rows with
       | true => rw [hro2] at h; exact makeOwnO_ok I hN h hvc (ev_sound hs hl) (ev_sound hs hc)
       | false => rw [hro2] at h; exact makeSliceO_ok I hN h hvc (ev_sound hs hl) (ev_sound hs hc)
   · simp at h
 · -- slice
   rename_i t x lo hi mx ho
   refine OpGo.of_ok ?_
   simp only [execOp, ho]
   split at h
   · rename_i sx slo shi smx hx hlo hhi hmx
     cases hrow : memN (lab + hRow) S.rows with
     | true => rw [hrow] at h; exact sliceRowO_ok I hN h hvc (ev_sound hs hx) (evO_sound hs hlo) (evO_sound hs hhi) (evO_sound hs hmx)
     | false =>
     rw [hrow] at h
     simp only [cond_false] at h
     split at h
     · rename_i r' hr
       simp only [Option.some.injEq] at h; subst h
       exact OpOk.pure I (sliceO_sound hr hvc (ev_sound hs hx) (evO_sound hs hlo) (evO_sound hs hhi) (evO_sound hs hmx))
     · unfold sliceStillO at h
       split at h
       · rename_i c xs l vc hsl
         split at h
         · rename_i r' hr
           simp only [Option.some.injEq] at h; subst h
           obtain ⟨v1, v2⟩ := vcT_and hvc
           obtain ⟨H', hH, I', _, hrel⟩ := still_sound I hsl v1 (ev_sound hs hx)
           have hs' : slotsRel H' ρ S.tmps a.tmps := ⟨hs.1, fun t => slRel_mono hH (Lab.le_refl ρ) (hs.2 t)⟩
           obtain ⟨_, v, hrun, hv⟩ := sliceO_sound (P := P) (w := w) (a := a.tmps) hr v2 (H := H') (ρ := ρ) (show svRel H' ρ (.dv (.imm c xs)) _ from hrel) (evO_sound hs' hlo) (evO_sound hs' hhi) (evO_sound hs' hmx)
           exact ⟨v, w, H', ρ, .inl (by rw [Sem.run_bind, hrun]; rfl), hH, Lab.le_refl ρ, I'.later but_le, hv⟩
         · simp at h
       · simp at h
   · simp at h
 · -- fieldAddr
   rename_i t x f ho
   refine OpGo.of_ok ?_
   simp only [execOp, ho]
   simp only [Option.bind_eq_some_iff] at h
   obtain ⟨s, hx, h⟩ := h
   exact OpOk.pure I (fieldAddrO_sound h (ev_sound hs hx))
 · -- field
   rename_i t x f ho
   refine OpGo.of_ok ?_
   simp only [execOp, ho]
   simp only [Option.bind_eq_some_iff] at h
   obtain ⟨s, hx, h⟩ := h
   exact OpOk.pure I (fieldO_sound h (ev_sound hs hx))
 · -- indexAddr
   rename_i t x i ho
   refine OpGo.of_ok ?_
   simp only [execOp, ho]
   split at h
   · rename_i sx si hx hi
     cases hlit : memN (lab + hLit) S.rows with
     | true => rw [hlit] at h; exact OpOk.pure I (indexLitO_sound h hvc (ev_sound hs hx) (ev_sound hs hi))
     | false => rw [hlit] at h; exact OpOk.pure I (indexAddrO_sound I h hvc (ev_sound hs hx) (ev_sound hs hi))
   · simp at h
 · -- index
   rename_i t x i ho
   refine OpGo.of_ok ?_
   simp only [execOp, ho]
   split at h
   · rename_i sx si hx hi
     exact OpOk.pure I (indexO_sound h hvc (ev_sound hs hx) (ev_sound hs hi))
   · simp at h
 · -- extract
   rename_i x i ho
   refine OpGo.of_ok ?_
   simp only [execOp, ho]
   have he := evalO_sound hs x
   split at h
   · rename_i vs hv
     rw [hv] at he
     obtain ⟨us, hu, hus⟩ := he
     simp only [Option.bind_eq_some_iff] at h
     obtain ⟨s, h1, h2⟩ := h
     simp [val] at h2; subst h2
     obtain ⟨u, h3, h4⟩ := nthO_sound h1 hus
     exact OpOk.pure I ⟨rfl, u, by rw [hu]; simp [Instr.extract, h3], h4⟩
   · simp at h
 · -- call
   rename_i c ho
   split at h
   · -- builtin
     rename_i b vs hcal hvs
     have hv := argsOf_sound (P := P) (ts := c.argTypes.toList) (evs_sound hs hvs)
     have hex : execOp a.eval o = builtin b c.argTypes o.type (c.args.map fun | .const _ => true | _ => false) (c.args.map a.eval) := by
      simp only [execOp, ho, resolve, hcal]
      rfl
     refine OpGo.of_ok ?_
     rw [hex]
     have hargs : ∀ {l : List Value}, c.args.toList.map a.eval = l → c.args.map a.eval = l.toArray := by
      rintro _ rfl; apply Array.ext'; simp
     split at h
     · rename_i t x ht hx
       rw [hx] at hv
       obtain ⟨v, l, e, h1, h2⟩ := hv
       simp only [svsRel] at h2; subst h2
       rw [hargs e]
       exact OpOk.pure I (lenO_sound I h hvc h1 c.argTypes (by apply Array.ext'; simpa using ht) o.type)
     · rename_i ts tx s x ht hx
       rw [hx] at hv
       obtain ⟨v, l, e, h1, v', l', e', h1', h2⟩ := hv
       simp only [svsRel] at h2; subst h2; subst e'
       rw [hargs e]
       revert h
       generalize (memN lab S.rows || isRowV _) = q
       intro h
       cases q with
       | true => exact appendRowO_ok I hN h hvc h1 h1' c.argTypes (by apply Array.ext'; simpa using ht) o.type
       | false => exact appendO_ok I hN h hvc h1 h1' c.argTypes (by apply Array.ext'; simpa using ht) o.type
     · rename_i td tx d x ht hx
       rw [hx] at hv
       obtain ⟨v, l, e, h1, v', l', e', h1', h2⟩ := hv
       simp only [svsRel] at h2; subst h2; subst e'
       rw [hargs e]
       exact copyO_ok I h hvc h1 h1' c.argTypes (by apply Array.ext'; simpa using ht) o.type
     · rename_i tm tx d x ht hx
       rw [hx] at hv
       obtain ⟨v, l, e, h1, v', l', e', h1', h2⟩ := hv
       simp only [svsRel] at h2; subst h2; subst e'
       rw [hargs e]
       exact deleteO_ok I h h1 h1' c.argTypes (by apply Array.ext'; simpa using ht) o.type
     · rename_i tx x ht hx
       rw [hx] at hv
       obtain ⟨v, l, e, h1, h2⟩ := hv
       simp only [svsRel] at h2; subst h2
       rw [hargs e]
       exact clearO_ok I h hvc h1 c.argTypes (by apply Array.ext'; simpa using ht)
     · rw [hargs rfl]
       exact OpOk.pure I (minmaxO_sound (mx := false) h hv c.argTypes o.type)
     · rw [hargs rfl]
       exact OpOk.pure I (minmaxO_sound (mx := true) h hv c.argTypes o.type)
     · simp at h
   · rename_i f vs hcal hvs
     obtain ⟨callee, args, tys⟩ := c
     simp only at hcal hvs
     subst hcal
     exact callO_go I hN' (altG_ok hΓ (memN lab S.rows)) (fun fn b hf hb hn => enter_run ho hf hb hn) h hvc (evs_sound hs hvs)
   · rename_i t vs hcal hvs
     obtain ⟨callee, args, tys⟩ := c
     simp only at hcal hvs h
     subst hcal
     split at h
     · rename_i f caps hg
       have ht : svRel H ρ (.clo f caps) (a.eval (.tmp t)) := by
        have := evalO_sound hs (.tmp t)
        rw [show evalO S (.tmp t) = S.get t from rfl, hg] at this
        exact this
       obtain ⟨cs, e, hcs⟩ : ∃ cs : List Value, a.eval (.tmp t) = .func (.func f) #[] cs.toArray ∧ capsRel H caps cs := by
        cases caps with
        | nil => exact ⟨[], ht, rfl⟩
        | cons c r => exact ht
       exact callO_go I hN' (altG_ok hΓ (memN lab S.rows)) (fun fn b hf hb hn => enter_clo ho e hf hb hn) h hvc (by rw [app_eq]; exact svsRel_append (evs_sound hs hvs) (capsRel_ipt hcs))
     · rename_i f cs hg
       split at h
       · rename_i rs hra
         have ht : svRel H ρ (.clr f cs) (a.eval (.tmp t)) := by
          have := evalO_sound hs (.tmp t)
          rw [show evalO S (.tmp t) = S.get t from rfl, hg] at this
          exact this
         obtain ⟨xs, e, hcs⟩ := ht
         exact callO_go I hN' (altG_ok hΓ (memN lab S.rows)) (fun fn b hf hb hn => enter_clo ho e hf hb hn) h hvc (by rw [app_eq]; exact svsRel_append (evs_sound hs hvs) (refArgs_rel hra hcs))
       · cases h
     · simp at h
   · simp at h
 · -- a function value
   rename_i f first captured ho
   refine OpGo.of_ok ?_
   simp only [execOp, ho]
   split at h
   · rename_i vs hf hvs
     have e1 : first = #[] := by apply Array.ext'; simpa using hf
     subst e1
     cases hm : memN (lab + STRIDE * 11) S.rows with
     | true =>
       rw [hm, cond_true] at h
       split at h
       case h_2 => cases h
       rename_i cs hc
       simp only [Option.some.injEq] at h; subst h
       refine ⟨.func (.func f) #[] (captured.map a.eval), w, H, ρ, .inl (by simp [Instr.makeFunc]), Mem.le_refl H, Lab.le_refl ρ, I.later but_le, ?_⟩
       have e2 : captured.map a.eval = (captured.toList.map a.eval).toArray := by apply Array.ext'; simp
       rw [e2]
       exact ⟨_, rfl, refCaps_rel hc (evs_sound hs hvs)⟩
     | false =>
     rw [hm, cond_false] at h
     split at h
     · rename_i c hc
       simp at h; subst h
       obtain ⟨H', le, I', rel⟩ := capsO_sound I hc (evs_sound hs hvs)
       refine ⟨.func (.func f) #[] (captured.map a.eval), w, H', ρ, .inl (by simp [Instr.makeFunc]), le, Lab.le_refl ρ, I'.later but_le, ?_⟩
       have e2 : captured.map a.eval = (captured.toList.map a.eval).toArray := by apply Array.ext'; simp
       rw [e2]
       generalize captured.toList.map a.eval = xs at rel
       obtain ⟨rss, upd⟩ := c
       cases rss with
       | nil => simp only [capsRel] at rel; subst rel; rfl
       | cons q r => exact ⟨xs, rfl, rel⟩
     · simp at h
   · simp at h
 · -- an interface value
   rename_i t x ho
   refine OpGo.of_ok ?_
   simp only [execOp, ho]
   split at h
   · rename_i fs hx hu
     simp [val] at h; subst h
     obtain ⟨vs, e, h0⟩ := ev_sound hs hx
     simp only [scsRel] at h0; subst h0
     refine OpOk.pure I ⟨rfl, .iface t (.agg #[]), ?_, rfl, rfl⟩
     rw [e]
     simp only [Instr.makeInterface, Sem.run_bind, run_underlying hu, Result.andThen_ok]
     rfl
   · simp at h
 · -- a map
   rename_i t r ho
   refine OpGo.of_ok ?_
   simp only [execOp, ho]
   split at h
   · exact makeMapO_ok I hN h
   · simp at h
 · -- lookup
   rename_i t x i ok ho
   refine OpGo.of_ok ?_
   simp only [execOp, ho]
   split at h
   · rename_i sx si hx hi
     exact OpOk.pure I (lookupO_sound I h (ev_sound hs hx) (ev_sound hs hi))
   · simp at h
 · -- a map's update
   rename_i t m k v ho
   refine OpGo.of_ok ?_
   simp only [execOp, ho]
   split at h
   · rename_i sm sk sv hm hk hv
     exact mapUpdateO_ok I h hvc (ev_sound hs hm) (ev_sound hs hk) (ev_sound hs hv)
   · simp at h
 · simp at h

theorem dieCall_go (I : MInv E H ρ hp N w) {o : Oper} {f : FuncId} {c : DC} (hG : HasG P E.H0) (sp : DSpec P f c) {tys : Array TypeId} {xs : List Value}
 (hrun : ∀ (fn : Func) (b : Code), P.funcs[f]? = some fn → fn.body = some b → (fn.name == "runtime.NumGoroutine") = false → (execOp a.eval o).run P w = .ok (.enter f xs.toArray) w)
 {vs : List SV} {d : DieR} (h : dieCall P c hp tys.toList vs = some d) (hat : d.at_) (hvc : vcT d.vc) (hv : svsRel H ρ vs xs) {next : Act → World → Prop} {Q : Exit → Act → World → Prop}
 (hk : ∀ w' H', H.le H' → MInv E H' ρ (putAll hp d.upd) N w' → Q (.panic [{ v := d.val, recovered := false }]) a w') : o.wp P a w next Q := by
 have hv := argsOf_sound (P := P) (ts := tys.toList) hv
 obtain ⟨fn, bd, hf, hb, hn⟩ := sp.fn
 unfold Oper.wp
 rw [hrun fn bd hf hb hn, Oper.upon_enter]
 unfold dieCall at h
 split at h
 · rename_i hptr
   split at h
   · rename_i q hd
     split at h
     · rename_i p hct
       simp at h; subst h
       obtain ⟨H1, le1, I1, _, rel1⟩ := asDatas_sound I hd hvc hv
       refine Calls.mono (sp.dies H1 w q.vs _ none p hct hat (by rw [hptr]; exact ⟨rfl, rel1⟩) I1.mem (Mem.le_trans hG I1.keepH)) ?_
       rintro e w' ⟨H', rfl, le2, same, mem, hnew⟩
       exact hk w' H' (Mem.le_trans le1 le2) (I1.grown ⟨fun b hb => same.heap b hb (by simp), same.size, same.os, same.tape, same.output⟩ le2 mem hnew)
     · simp at h
   · simp at h
 · rename_i l as hptr has
   rw [has] at hv
   obtain ⟨v0, vs', evs, hv0, hv'⟩ := hv
   split at h
   · rename_i q hd
     split at h
     · rename_i cs hl
       split at h
       · rename_i rs hrs
         split at h
         · rename_i p hct
           simp at h; subst h
           obtain ⟨H1, le1, I1, _, rel1⟩ := asDatas_sound I hd hvc hv'
           obtain ⟨b, hρ, rfl, _⟩ := hv0
           obtain ⟨b', cc, ty, hρ', hblk, hcs, hro⟩ := I1.cells hl
           rw [hρ] at hρ'; simp at hρ'; subst hρ'
           simp only [pathOff, Nat.add_zero] at evs
           refine Calls.mono (sp.dies H1 w _ _ (some b) p hct hat (by rw [hptr]; exact ⟨b, cc, ty, rs, q.vs, vs', rfl, rfl, evs, hblk, toRuns_sound hrs hcs, hro rfl, rel1⟩) I1.mem (Mem.le_trans hG I1.keepH)) ?_
           rintro e w' ⟨H', rfl, le2, same, mem, hnew⟩
           exact hk w' H' (Mem.le_trans le1 le2) (by rw [putAll_app]; exact I1.lost hl hρ same le2 mem hnew)
         · simp at h
       · simp at h
     · simp at h
   · simp at h
 · simp at h
theorem dieO_go (I : MInv E H ρ S.hp N w) (hs : slotsRel H ρ S.tmps a.tmps) {Y : Dy} (hG : HasG P E.H0) (hY : ∀ f c, Y.dc f = some c → DSpec P f c) {o : Oper} {d : DieR} (h : dieO P Y S o = some d) (hat : d.at_) (hvc : vcT d.vc)
 {next : Act → World → Prop} {Q : Exit → Act → World → Prop} (hk : ∀ w' H', H.le H' → MInv E H' ρ (putAll S.hp d.upd) N w' → Q (.panic [{ v := d.val, recovered := false }]) a w') : o.guard = none ∧ o.wp P a w next Q := by
 unfold dieO at h
 split at h
 · rename_i c hg ho
   refine ⟨hg, ?_⟩
   split at h
   · rename_i f hcal
     split at h
     · rename_i q hq
       split at h
       · rename_i vs hvs
         obtain ⟨callee, args, tys⟩ := c
         simp only at hcal hvs
         subst hcal
         exact dieCall_go I hG (hY f q hq) (fun fn b hf hb hn => enter_run ho hf hb hn) h hat hvc (evs_sound hs hvs) hk
       · simp at h
     · simp at h
   · simp at h
 · rename_i x hg ho
   refine ⟨hg, ?_⟩
   split at h
   · rename_i t v hx
     simp at h; subst h
     have hv : a.eval x = .iface t v := (ev_sound hs hx).1
     unfold Oper.wp
     have e : (execOp a.eval o).run P w = .halt (.panic (.iface t v)) w := by
      simp only [execOp, ho, hv]
      rfl
     rw [e]
     exact hk w H (Mem.le_refl H) I
   · simp at h
 · simp at h

end Go.Vse
