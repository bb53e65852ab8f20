/- Ranges over functions: what the executor says of them holds. -/
import Derived.Test.YtdddnamfecgkeaaDoorWVseGx
import Derived.RangeFuncIn
namespace Go.Vse
variable {P : Program} {E : Env} {H : Mem} {ρ : Lab} {hp : List (Nat × SObj)} {lab : Nat} {N : Nat → Prop} {w : World} {S : SState} {a : Act}

def noCond (l : List Sl) : Prop := ∀ t, uncond (nth .un l t) = nth .un l t
theorem noCond_un (l : List Sl) : noCond (mapL uncond l) := fun t => by rw [nth_mapL uncond .un rfl, uncond_uncond]
theorem slRel_arr {a b : Array Value} {s : Sl} {v : Value} (hs : uncond s = s) (h : slRel H ρ a s v) : slRel H ρ b s v := by
 cases s with
 | cond g w u => simp [uncond] at hs
 | sv u => exact h
 | tup us => exact h
 | un => trivial
theorem nth_app {α : Type} (d : α) : ∀ (l m : List α) (t : Nat), nth d (app l m) t = if t < l.length then nth d l t else nth d m (t - l.length)
 | [], m, t => by simp [app]
 | x :: l, m, 0 => by simp [app, nth]
 | x :: l, m, t + 1 => by
   simp only [app, nth, List.length_cons]
   rw [nth_app d l m t]
   by_cases h : t < l.length
   · rw [if_pos h, if_pos (by omega)]
   · rw [if_neg h, if_neg (by omega)]
     congr 1; omega
theorem nth_dropL {α : Type} (d : α) : ∀ (n : Nat) (l : List α) (t : Nat), nth d (dropL n l) t = nth d l (n + t)
 | 0, l, t => by simp [dropL]
 | n + 1, [], t => by
   rw [show n + 1 + t = (n + t) + 1 by omega]
   cases t <;> rfl
 | n + 1, x :: r, t => by
   rw [show n + 1 + t = (n + t) + 1 by omega]
   simp only [dropL, nth]
   exact nth_dropL d n r t
theorem dropL_len {α : Type} : ∀ (n : Nat) (l : List α), (dropL n l).length = l.length - n
 | 0, l => rfl
 | n + 1, [] => by simp [dropL]
 | n + 1, x :: r => by simp only [dropL, List.length_cons]; rw [dropL_len n r]; omega
theorem nth_takeL {α : Type} (d : α) : ∀ (n : Nat) (l : List α) (t : Nat), nth d (takeL n l) t = if t < n then nth d l t else d
 | 0, l, t => by cases t <;> simp [takeL, nth]
 | n + 1, [], t => by cases t <;> simp [takeL, nth]
 | n + 1, x :: r, 0 => by simp [takeL, nth]
 | n + 1, x :: r, t + 1 => by
   simp only [takeL, nth]
   rw [nth_takeL d n r t]
   by_cases h : t < n
   · rw [if_pos h, if_pos (by omega)]
   · rw [if_neg h, if_neg (by omega)]
theorem takeL_len {α : Type} : ∀ (n : Nat) (l : List α), (takeL n l).length = min n l.length
 | 0, l => by simp [takeL]
 | n + 1, [] => by simp [takeL]
 | n + 1, x :: r => by simp only [takeL, List.length_cons]; rw [takeL_len n r]; omega
theorem getD_app {a b : Array Value} {t : Nat} : (a ++ b).getD t undef = if t < a.size then a.getD t undef else b.getD (t - a.size) undef := by
 simp only [Array.getD_eq_getD_getElem?, Array.getElem?_append]
 split <;> rfl
theorem slots_app {l m : List Sl} {a b : Array Value} (h1 : slotsRel H ρ l a) (h2 : slotsRel H ρ m b) (n1 : noCond l) (n2 : noCond m) : slotsRel H ρ (app l m) (a ++ b) := by
 refine ⟨by simp [app_eq, h1.1, h2.1], fun t => ?_⟩
 rw [nth_app, getD_app, h1.1]
 by_cases h : t < a.size
 · rw [if_pos h, if_pos h]; exact slRel_arr (n1 t) (h1.2 t)
 · rw [if_neg h, if_neg h]; exact slRel_arr (n2 _) (h2.2 _)
theorem slots_drop {l : List Sl} {a b : Array Value} {n : Nat} (h : slotsRel H ρ l (a ++ b)) (hn : noCond l) (hs : a.size = n) : slotsRel H ρ (dropL n l) b := by
 refine ⟨by rw [dropL_len, h.1, Array.size_append]; omega, fun t => ?_⟩
 have := h.2 (n + t)
 rw [getD_app, if_neg (by omega), show n + t - a.size = t by omega] at this
 rw [nth_dropL]
 exact slRel_arr (hn _) this
theorem slots_take {l : List Sl} {a b : Array Value} {n : Nat} (h : slotsRel H ρ l (a ++ b)) (hn : noCond l) (hs : a.size = n) : slotsRel H ρ (takeL n l) a := by
 refine ⟨by rw [takeL_len, h.1, Array.size_append]; omega, fun t => ?_⟩
 have := h.2 t
 rw [getD_app] at this
 rw [nth_takeL]
 by_cases ht : t < n
 · rw [if_pos (by omega)] at this
   rw [if_pos ht]
   exact slRel_arr (hn _) this
 · rw [if_neg ht]; trivial
theorem noCond_drop {n : Nat} {l : List Sl} (h : noCond l) : noCond (dropL n l) := fun t => by rw [nth_dropL]; exact h _
theorem noCond_take {n : Nat} {l : List Sl} (h : noCond l) : noCond (takeL n l) := fun t => by
 rw [nth_takeL]
 split
 · exact h _
 · rfl
theorem noCond_ins (vs : List SV) (n : Nat) : noCond (app (mapL Sl.sv vs) (rep Sl.un n)) := fun t => by
 rw [nth_app]
 split
 · rename_i h
   have : ∀ (vs : List SV) (t : Nat), uncond (nth .un (mapL Sl.sv vs) t) = nth .un (mapL Sl.sv vs) t := by
    intro vs
    induction vs with
    | nil => intro t; cases t <;> rfl
    | cons v r ih => intro t; cases t with
      | zero => rfl
      | succ t => exact ih t
   exact this vs t
 · rw [nth_rep]; rfl
theorem set_slot {l : List Sl} {a : Array Value} {t : Nat} {v : SV} {x : Value} (hs : slotsRel H ρ l a) (hn : noCond l) (hv : svRel H ρ v x) : slotsRel H ρ (setN l t (.sv v)) (a.setIfInBounds t x) ∧ noCond (setN l t (.sv v)) := by
 refine ⟨⟨by rw [setN_length, Array.size_setIfInBounds]; exact hs.1, fun u => ?_⟩, fun u => ?_⟩
 · rw [nth_setN, Array.getD_eq_getD_getElem?, Array.getElem?_setIfInBounds]
   by_cases hu : u = t ∧ t < l.length
   · rw [if_pos hu, if_pos hu.1.symm]
     have : t < a.size := by rw [← hs.1]; exact hu.2
     simp [this]
     exact hv
   · rw [if_neg hu]
     have := hs.2 u
     rw [Array.getD_eq_getD_getElem?] at this
     by_cases e : t = u
     · subst e
       have hl : ¬ t < l.length := fun h => hu ⟨rfl, h⟩
       have : ¬ t < a.size := by rw [← hs.1]; exact hl
       rw [if_pos rfl, nth_out l t (by omega)]
       trivial
     · rw [if_neg e]
       exact slRel_arr (hn u) this
 · rw [nth_setN]
   split
   · rfl
   · exact hn u
theorem setPs_rel : ∀ {ps : List Nat} {vs : List SV} {l tm : List Sl} {xs : List Value} {a : Array Value}, setPs ps vs l = some tm → svsRel H ρ vs xs → slotsRel H ρ l a → noCond l →
 slotsRel H ρ tm ((ps.zip xs).foldl (fun t p => t.setIfInBounds p.1 p.2) a) ∧ noCond tm ∧ ps.length = xs.length
 | [], [], l, tm, xs, a, h, hv, hs, hn => by
   simp only [setPs, Option.some.injEq] at h; subst h
   simp only [svsRel] at hv; subst hv
   exact ⟨hs, hn, rfl⟩
 | t :: ps, v :: vs, l, tm, xs, a, h, ⟨x, ys, e, h1, h2⟩, hs, hn => by
   subst e
   obtain ⟨g1, g2⟩ := set_slot (t := t) hs hn h1
   obtain ⟨k1, k2, k3⟩ := setPs_rel (show setPs ps vs (setN l t (.sv v)) = some tm from h) h2 g1 g2
   exact ⟨k1, k2, by simp [k3]⟩
 | [], _ :: _, _, _, _, _, h, _, _, _ => by cases h
 | _ :: _, [], _, _, _, _, h, _, _, _ => by cases h

structure Ext (A B : Env) : Prop where
 fresh : ∀ b, (B.w0.heap.size ≤ b ∨ b ∈ B.own0) → (A.w0.heap.size ≤ b ∨ b ∈ A.own0)
 keepH : A.H0.le B.H0
 newH : ∀ b o, B.H0 b o ≠ none → A.H0 b o ≠ none ∨ A.w0.heap.size ≤ b ∨ b ∈ A.own0
 frame : ∀ b, b < A.w0.heap.size → b ∉ A.own0 → b < B.w0.heap.size ∧ b ∉ B.own0 ∧ B.w0.heap[b]? = A.w0.heap[b]?
 grow : A.w0.heap.size ≤ B.w0.heap.size
 os : B.w0.os = A.w0.os
 tape : B.w0.tape = A.w0.tape
 output : outOk A.w0 B.w0
theorem Ext.refl (A : Env) : Ext A A := ⟨fun _ h => h, Mem.le_refl _, fun _ _ h => .inl h, fun _ h1 h2 => ⟨h1, h2, rfl⟩, Nat.le_refl _, rfl, rfl, outOk.refl _⟩
theorem Ext.trans {A B C : Env} (h : Ext A B) (k : Ext B C) : Ext A C where
 fresh b hb := h.fresh b (k.fresh b hb)
 keepH := Mem.le_trans h.keepH k.keepH
 newH b o hb := by
  rcases k.newH b o hb with h1 | h1 | h1
  · exact h.newH b o h1
  · exact .inr (h.fresh b (.inl h1))
  · exact .inr (h.fresh b (.inr h1))
 frame b h1 h2 := by
  obtain ⟨a1, a2, a3⟩ := h.frame b h1 h2
  obtain ⟨b1, b2, b3⟩ := k.frame b a1 a2
  exact ⟨b1, b2, b3.trans a3⟩
 grow := Nat.le_trans h.grow k.grow
 os := k.os.trans h.os
 tape := k.tape.trans h.tape
 output := k.output.trans h.output
theorem MInv.of_ext {A B : Env} (h : Ext A B) (hr : ∀ l v, A.pin l = some v → ρ l = some v) (I : MInv B H ρ hp N w) : MInv A H ρ hp N w where
 mem := I.mem
 objs := I.objs
 sep := I.sep
 fresh l b h1 h2 := h.fresh b (I.fresh l b h1 h2)
 bound := I.bound
 keepH := Mem.le_trans h.keepH I.keepH
 newH b o hb := by
  rcases I.newH b o hb with h1 | h1 | h1
  · exact h.newH b o h1
  · exact .inr (h.fresh b (.inl h1))
  · exact .inr (h.fresh b (.inr h1))
 frame b h1 h2 := by
  obtain ⟨a1, a2, a3⟩ := h.frame b h1 h2
  exact (I.frame b a1 a2).trans a3
 grow := Nat.le_trans h.grow I.grow
 os := I.os.trans h.os
 tape := I.tape.trans h.tape
 output := I.output.trans h.output
 root := hr

structure Held (B : Env) (l : Nat) (o : Obj) : Prop where
 lt : l < B.w0.heap.size
 own : l ∉ B.own0
 at_ : B.w0.heap[l]? = some o
theorem Held.there {B : Env} {l : Nat} {o : Obj} (h : Held B l o) (I : MInv B H ρ hp N w) : w.heap[l]? = some o := (I.frame l h.lt h.own).trans h.at_
theorem Held.ext {A B : Env} {l : Nat} {o : Obj} (h : Held A l o) (e : Ext A B) : Held B l o := by
 obtain ⟨h1, h2, h3⟩ := e.frame l h.lt h.own
 exact ⟨h1, h2, h3.trans h.at_⟩
def Env.putB (B : Env) (l : Nat) (o : Obj) : Env := { B with w0 := B.w0.putObj l o }
theorem Held.same {B : Env} {l : Nat} {o o' : Obj} (h : Held B l o) : Held (B.putB l o') l o' := ⟨by simpa [Env.putB] using h.lt, h.own, World.putObj_heap_same h.lt⟩
theorem Held.other {B : Env} {l k : Nat} {o o' : Obj} (h : Held B k o) (hne : k ≠ l) : Held (B.putB l o') k o := ⟨by simpa [Env.putB] using h.lt, h.own, (World.putObj_heap_other hne).trans h.at_⟩
theorem Ext.put {A B : Env} {l : Nat} {o' : Obj} (h : Ext A B) (hl : A.w0.heap.size ≤ l) : Ext A (B.putB l o') where
 fresh b hb := h.fresh b (by simpa [Env.putB] using hb)
 keepH := h.keepH
 newH := h.newH
 frame b h1 h2 := by
  obtain ⟨a1, a2, a3⟩ := h.frame b h1 h2
  refine ⟨by simpa [Env.putB] using a1, a2, (World.putObj_heap_other (by omega)).trans a3⟩
 grow := by simpa [Env.putB] using h.grow
 os := h.os
 tape := h.tape
 output := h.output
def isCellsO : Obj → Bool
 | .cells .. => true
 | _ => false
theorem MInv.putB {l : Nat} {o o' : Obj} (I : MInv E H ρ hp N w) (hl : Held E l o) (hc : isCellsO o = false) : MInv (E.putB l o') H ρ hp N (w.putObj l o') := by
 have hw : w.heap[l]? = some o := hl.there I
 have hlt : l < w.heap.size := (Array.getElem?_eq_some_iff.1 hw).1
 have hmem : ∀ b o1 v, H b o1 = some v → b ≠ l := by
  rintro b o1 v hv rfl
  have := I.mem b o1 v hv
  unfold World.cell? at this
  simp only [hw] at this
  cases o <;> simp_all [isCellsO]
 have hbase : ∀ k, look k hp ≠ .gone → ∀ b, baseOf ρ k = some b → b ≠ l := by
  rintro k hk b hb rfl
  rcases I.fresh k b hk hb with h | h
  · exact absurd hl.lt (by omega)
  · exact hl.own h
 exact {
  mem := fun b o1 v hv => by
   have := I.mem b o1 v hv
   have hne := hmem b o1 v hv
   unfold World.cell? at this ⊢
   simp only at this ⊢
   rw [World.putObj_heap_other hne]; exact this
  objs := fun k => by
   by_cases hk : look k hp = .gone
   · rw [hk]; trivial
   · exact objRel_mono (Mem.le_refl H) (Lab.le_refl ρ) (I.objs k) (fun b hb => World.putObj_heap_other (hbase k hk b hb)) (fun _ _ _ => rfl)
  sep := I.sep
  fresh := fun k b h1 h2 => by simpa [Env.putB] using I.fresh k b h1 h2
  bound := I.bound
  keepH := I.keepH
  newH := fun b o1 h => by simpa [Env.putB] using I.newH b o1 h
  frame := fun b h1 h2 => by
   have h1 : b < E.w0.heap.size := by simpa [Env.putB] using h1
   show (w.putObj l o').heap[b]? = (E.w0.putObj l o').heap[b]?
   by_cases e : b = l
   · subst e; rw [World.putObj_heap_same hlt, World.putObj_heap_same hl.lt]
   · rw [World.putObj_heap_other e, World.putObj_heap_other e]; exact I.frame b h1 h2
  grow := by simpa [Env.putB] using I.grow
  os := I.os
  tape := I.tape
  output := I.output
  root := I.root }

def Env.enter (E : Env) (H : Mem) (w w1 : World) (lab : Nat) (y : Value) : Env :=
 ⟨w1, H, E.own0 ++ (List.range w.heap.size).filter (fun b => decide (E.w0.heap.size ≤ b)), fun l => if l = lab then some y else E.pin l, []⟩
theorem lab_some (I : MInv E H ρ hp N w) {l : Nat} (h : look l hp ≠ .gone) : ∃ v, ρ l = some v := by
 have := I.objs l
 cases ho : look l hp with
 | gone => exact absurd ho h
 | cells cs ro => rw [ho] at this; obtain ⟨b, c, ty, q, _⟩ := this; exact ⟨_, q⟩
 | tok e s => rw [ho] at this; obtain ⟨v, n, xs, q, _⟩ := this; exact ⟨_, q⟩
 | row e s t xs ro => rw [ho] at this; obtain ⟨v, q, _⟩ := this; exact ⟨_, q⟩
 | mp ka kt va vt es => rw [ho] at this; obtain ⟨r, en, clock, q, _⟩ := this; exact ⟨_, q⟩
 | mpi ka kt va vt es g => rw [ho] at this; obtain ⟨q, _⟩ := this; exact ⟨_, q⟩
 | it ka kt va vt es c g => rw [ho] at this; obtain ⟨b, s, q, _⟩ := this; exact ⟨_, q⟩
theorem MInv.enter (I : MInv E H ρ hp N w) (hN : ρ lab = none) {y : Value} {w1 : World} (hs : Same w w1) {N' : Nat → Prop} (hN' : ∀ l, N' l → N l ∧ l ≠ lab) : MInv (E.enter H w w1 lab y) H (setLab ρ lab y) hp N' w1 := by
 have hne : ∀ l, look l hp ≠ .gone → l ≠ lab := fun l hl e => by
  obtain ⟨v, hv⟩ := lab_some I hl
  rw [e, hN] at hv; cases hv
 have hb : ∀ l, look l hp ≠ .gone → baseOf (setLab ρ lab y) l = baseOf ρ l := fun l hl => by rw [baseOf_setLab, if_neg (hne l hl)]
 have I' := I.same hs
 exact {
  mem := I'.mem
  objs := fun l => objRel_mono (Mem.le_refl H) (setLab_le hN) (I'.objs l) (fun _ _ => rfl) (fun _ _ _ => rfl)
  sep := fun l l' b h1 h2 hn e => by
   rw [hb l h1] at e
   rw [hb l' h2]
   exact I.sep l l' b h1 h2 hn e
  fresh := fun l b h1 h2 => by
   rw [hb l h1] at h2
   refine .inr ?_
   simp only [Env.enter, List.mem_append, List.mem_filter, List.mem_range, decide_eq_true_eq]
   have hlt := base_lt I h1 h2
   rcases I.fresh l b h1 h2 with h | h
   · exact .inr ⟨hlt, h⟩
   · exact .inl h
  bound := fun l hl => by
   unfold setLab
   rw [if_neg (hN' l hl).2]
   exact I.bound l (hN' l hl).1
  keepH := Mem.le_refl H
  newH := fun b o h => .inl h
  frame := fun b _ _ => rfl
  grow := Nat.le_refl _
  os := rfl
  tape := rfl
  output := outOk.refl _
  root := fun l v hv => by
   simp only [Env.enter] at hv
   unfold setLab
   split at hv
   · rename_i e; rw [if_pos e]; exact hv
   · rename_i e; rw [if_neg e]; exact I.root l v hv }
theorem Ext.enter (I : MInv E H ρ hp N w) {w1 : World} (hs : Same w w1) {y : Value} : Ext E (E.enter H w w1 lab y) where
 fresh b hb := by
  rcases hb with h | h
  · have := hs.size; have := I.grow
    exact .inl (by have h : w1.heap.size ≤ b := h; omega)
  · simp only [Env.enter, List.mem_append, List.mem_filter, List.mem_range, decide_eq_true_eq] at h
    rcases h with h | h
    · exact .inr h
    · exact .inl h.2
 keepH := I.keepH
 newH := I.newH
 frame b h1 h2 := by
  have h3 := I.grow
  have h4 := hs.size
  refine ⟨by show b < w1.heap.size; omega, fun h => ?_, (hs.heap b (by omega)).trans (I.frame b h1 h2)⟩
  simp only [Env.enter, List.mem_append, List.mem_filter, List.mem_range, decide_eq_true_eq] at h
  rcases h with h | h
  · exact h2 h
  · omega
 grow := Nat.le_trans I.grow hs.size
 os := hs.os.trans I.os
 tape := hs.tape.trans I.tape
 output := hs.output.trans I.output

theorem codeOk_assigned {n : Nat} : ∀ {c : Code}, codeOk n c = true → ∀ t ∈ assigned c, t < n := by
 have hops : ∀ (l : List Oper), opersOk n l = true → ∀ t ∈ assignedOps l, t < n := by
  intro l
  induction l with
  | nil => intro _ t ht; simp [assignedOps] at ht
  | cons o r ih =>
    intro h t ht
    simp only [opersOk, Bool.and_eq_true] at h
    have ho := h.1
    simp only [operOk, Bool.and_eq_true] at ho
    unfold assignedOps at ht
    split at ht
    · rename_i d hd
      rcases List.mem_cons.1 ht with rfl | ht
      · have := ho.1.2
        rw [hd] at this
        exact blt_iff this
      · exact ih h.2 t ht
    · exact ih h.2 t ht
 intro c
 induction c with
 | region id ops d => intro h t ht; exact hops _ h t ht
 | seq x y ihx ihy =>
   intro h t ht
   simp only [codeOk, Bool.and_eq_true] at h
   simp only [assigned, mem_app] at ht
   exact ht.elim (ihx h.1 t) (ihy h.2 t)
 | cond q x y ihx ihy =>
   intro h t ht
   simp only [codeOk, Bool.and_eq_true] at h
   simp only [assigned, mem_app] at ht
   exact ht.elim (ihx h.1.2 t) (ihy h.2 t)
 | block id x ih => intro h t ht; exact ih h t ht
 | loop x ih => intro h t ht; exact ih h t ht
 | scope x ih => intro h; simp [codeOk] at h
 | _ => intro _ t ht; simp [assigned] at ht
theorem keep_drop {n : Nat} {A B C : SState} {as : List Nat} (hk : Keep as B C) (has : ∀ t ∈ as, t < n) {l : List Sl} (hl : l.length = n) (hB : B.tmps = app l (mapL uncond A.tmps)) (hp : B.hp = A.hp) (hw : B.wr = A.wr) {D : SState}
 (hD : D.tmps = dropL n (mapL uncond C.tmps)) (hDp : D.hp = C.hp) (hDw : D.wr = C.wr) : Keep [] A D where
 len := by
  rw [hD, dropL_len, mapL_length, hk.len, hB, app_eq, List.length_append, mapL_length]; omega
 slot t _ := by
  have h := hk.slot (n + t) (fun hm => by have := has _ hm; omega)
  rw [hD, nth_dropL, nth_mapL uncond .un rfl, uncond_uncond]
  have e : uncond (nth .un B.tmps (n + t)) = uncond (nth .un A.tmps t) := by
   rw [hB, nth_app, if_neg (by omega), show n + t - l.length = t by omega, nth_mapL uncond .un rfl, uncond_uncond]
  rw [e] at h
  exact h
 obj l hl' := by
  rw [hDw] at hl'
  rw [hDp, hk.obj l hl', hp]
 wr l hl' := by
  rw [hDw]
  exact hk.wr l (by rw [hw]; exact hl')
theorem setPs_len : ∀ {ps : List Nat} {vs : List SV} {l tm : List Sl}, setPs ps vs l = some tm → tm.length = l.length
 | [], [], l, tm, h => by simp only [setPs, Option.some.injEq] at h; subst h; rfl
 | t :: ps, v :: vs, l, tm, h => by
   have := setPs_len (show setPs ps vs (setN l t (.sv v)) = some tm from h)
   rw [this, setN_length]
 | [], _ :: _, _, _, h => by cases h
 | _ :: _, [], _, _, h => by cases h
theorem asg_lt {ann : Ann} (hd : ann.drops = []) {n : Nat} {c : Code} (h : codeOk n c = true) : ∀ t ∈ asg ann c, t < n := fun t ht => by
 unfold asg at ht
 rw [hd] at ht
 rcases mem_app.1 ht with ht | ht
 · exact codeOk_assigned h t ht
 · cases ht
theorem roundY_keep {Γ : FuncId → Option PC} {ann : Ann} {k n0 nit : Nat} {ps : Array Tmp} {x y : Code} (hx : codeOk n0 x = true) (hy : codeOk n0 y = true) : YhKeep (roundY P Γ ann k n0 nit ps x y) := by
 intro S k' vs K K' h hk
 unfold roundY at h ⊢
 cases hc : (Nat.beq k' k && noJump S && Nat.beq (lenL S.tmps) (nit + n0)) with
 | false => rw [hc] at h; exact h.elim
 | true =>
   rw [hc] at h
   simp only [cond_true] at h ⊢
   simp only [Bool.and_eq_true] at hc
   have hlen := Nat.eq_of_beq_eq_true hc.2
   rw [lenL_eq] at hlen
   split at h
   case h_2 => exact h.elim
   rename_i tm htm
   have htl : tm.length = n0 := by rw [setPs_len htm, takeL_len, dropL_len, mapL_length]; omega
   refine exec_keep (noDy_keep ⟨rfl, rfl⟩) h fun e S2 h1 k1 => ?_
   cases e with
   | normal =>
     refine exec_keep (noDy_keep ⟨rfl, rfl⟩) h1 fun e S3 h2 k2 => ?_
     have kk : Keep (app (asg (roundAnn ann k) x) (asg (roundAnn ann k) y)) { S with tmps := app tm (mapL uncond S.tmps) } S3 := (k1.more fun t ht => mem_app.2 (.inl ht)).trans (k2.more fun t ht => mem_app.2 (.inr ht))
     have hlt : ∀ t ∈ app (asg (roundAnn ann k) x) (asg (roundAnn ann k) y), t < n0 := fun t ht => (mem_app.1 ht).elim (asg_lt rfl hx t) (asg_lt rfl hy t)
     have fin : ∀ j, Keep [] S { S3 with tmps := dropL n0 (mapL uncond S3.tmps), jump := j } := fun j => keep_drop kk hlt htl rfl rfl rfl rfl rfl rfl
     cases e with
     | normal => exact hk _ _ h2 (fin S3.jump)
     | ret => exact hk _ _ h2 (fin _)
     | exit i => exact hk _ _ h2 (fin _)
     | goto l => exact hk _ _ h2 (fin _)
     | _ => exact h2.elim
   | _ => exact h1.elim
theorem rangeR_keep {Γ : FuncId → Option PC} {its : List (FuncId × Func)} {ann : Ann} : RfKeep (rangeR P Γ its ann) := by
 intro g ps x y S K K' h hk
 unfold rangeR at h ⊢
 split at h
 case h_2 => exact h.elim
 rename_i f rs hv
 split at h
 case h_2 => exact h.elim
 rename_i fn hfn
 unfold rangeIn at h ⊢
 split at h
 case h_2 => exact h.elim
 rename_i c hb
 cases hc : (noJump S && Nat.blt S.next STRIDE && Nat.ble (1 + lenL rs) fn.ntmps && nilL fn.results.toList && codeOk fn.ntmps c && codeOk (lenL S.tmps) x && codeOk (lenL S.tmps) y) with
 | false => rw [hc] at h; exact h.elim
 | true =>
   rw [hc] at h
   simp only [cond_true] at h ⊢
   simp only [Bool.and_eq_true] at hc
   obtain ⟨⟨⟨⟨⟨⟨_, _⟩, hle⟩, _⟩, hcc⟩, hx⟩, hy⟩ := hc
   have hle := Nat.le_of_ble_eq_true hle
   refine exec_keep ⟨fun h e => ?_, fun h e => (by cases e)⟩ h fun e S' h1 k1 => ?_
   · simp only [Option.some.injEq] at e; subst e
     exact roundY_keep hx hy
   · have hl : (app (mapL Sl.sv (.yld S.next :: rs)) (rep Sl.un (fn.ntmps - (1 + lenL rs)))).length = fn.ntmps := by
       rw [app_eq, List.length_append, mapL_length, rep_length, List.length_cons, lenL_eq]
       rw [lenL_eq] at hle
       omega
     have fin : ∀ j, Keep [] S { S' with tmps := dropL fn.ntmps (mapL uncond S'.tmps), jump := j } := fun j => keep_drop k1 (asg_lt rfl hcc) hl rfl rfl rfl rfl rfl rfl
     have fin2 : iterEnd fn.ntmps K S' → iterEnd fn.ntmps K' S' := fun h2 => by
      unfold iterEnd at h2 ⊢
      split at h2
      · rename_i hj
        exact hk _ _ h2 (fin S'.jump)
      · exact hk _ _ h2 (fin none)
     cases e with
     | normal => exact fin2 h1
     | ret => exact fin2 h1
     | _ => exact h1.elim

theorem GamOk.more {H0 H1 : Mem} {Γ : FuncId → Option PC} (h : GamOk P H0 Γ) (hH : H0.le H1) : GamOk P H1 Γ := ⟨h.ok, Mem.le_trans h.glob hH⟩
def mark (D : Nat) : Deferred := { target := .collected D, args := #[] }
def OwnLt (E : Env) : Prop := ∀ b ∈ E.own0, b < E.w0.heap.size
def jumpC : Exit → Option Code
 | .ret => some .ret
 | .exit i => some (.exit i)
 | .goto l => some (.goto l)
 | _ => none
structure LoopV (E1 : Env) (pin : Nat → Option Value) (l D : Nat) (rec : LoopState → Option Code → Loop) (st : LoopState) (pend : Option Code) (E : Env) : Prop where
 ext : Ext E1 E
 pin : E.pin = pin
 defs : E.defs = []
 own : OwnLt E
 loop : Held E l (.loop (rec st pend))
 def_ : Held E D (.deferred (some []))
theorem LoopV.put {E1 : Env} {pin : Nat → Option Value} {l D : Nat} {rec : LoopState → Option Code → Loop} {st st' : LoopState} {pend pend' : Option Code} {E : Env} (h : LoopV E1 pin l D rec st pend E) (hl : E1.w0.heap.size ≤ l) (hD : D ≠ l) : LoopV E1 pin l D rec st' pend' (E.putB l (.loop (rec st' pend'))) :=
 ⟨h.ext.put hl, h.pin, h.defs, fun b hb => by simpa [Env.putB] using h.own b hb, h.loop.same, h.def_.other hD⟩
def IterV (E1 : Env) (pin : Nat → Option Value) (l D : Nat) (rec : LoopState → Option Code → Loop) : Fam := fun j E => match j with
 | none => LoopV E1 pin l D rec .ready none E
 | some e => ∃ c, jumpC e = some c ∧ LoopV E1 pin l D rec .done (some c) E
def RoundV (E1 : Env) (pin : Nat → Option Value) (l D : Nat) (rec : LoopState → Option Code → Loop) (st : LoopState) : Fam := fun j E => j = none ∧ LoopV E1 pin l D rec st none E
theorem noJump_eq {S : SState} (h : noJump S = true) : S.jump = none := by
 unfold noJump at h
 split at h
 · assumption
 · cases h
theorem noDy_all (P : Program) {R : Option Nat} {V : Fam} {back : Array Value} {n : Nat} : DyOk P R V back n noDy := ⟨noDy_ok P, fun h e => (by cases e), fun h e => (by cases e), noDy_keep ⟨rfl, rfl⟩⟩
theorem fold_list (ps : Array Tmp) (xs : List Value) (a : Array Value) : (ps.zip xs.toArray).foldl (fun tmps (p : Tmp × Value) => tmps.setIfInBounds p.1 p.2) a = (ps.toList.zip xs).foldl (fun t p => t.setIfInBounds p.1 p.2) a := by
 rw [← Array.foldl_toList, Array.toList_zip]
theorem fold_size : ∀ (l : List (Nat × Value)) (a : Array Value), (l.foldl (fun t p => t.setIfInBounds p.1 p.2) a).size = a.size
 | [], a => rfl
 | p :: l, a => by rw [List.foldl_cons, fold_size l, Array.size_setIfInBounds]

theorem round_ok {Γ : FuncId → Option PC} {ann : Ann} {E1 : Env} (hΓ : GamOk P E1.H0 Γ) {pin : Nat → Option Value} {l D : Nat} {rec : LoopState → Option Code → Loop} {fn0 : FuncId} {a0 : Array Value} {ps : Array Tmp} {x y : Code}
 (hrec : ∀ st pe, rec st pe = { state := st, pending := pe, fn := fn0, tmps := a0, params := ps, assign := x, body := y, defers := D }) {k n0 nit : Nat} (hn0 : a0.size = n0) (hx : codeOk n0 x = true) (hy : codeOk n0 y = true)
 (hpk : pin k = some (.func (.yield l) #[] #[])) (hpins : ∀ i v, pin i = some v → i ∈ k :: ann.pins) (hl : E1.w0.heap.size ≤ l) (hDl : D ≠ l) : YhOk P none (IterV E1 pin l D rec) (Sfx a0 nit) (roundY P Γ ann k n0 nit ps x y) := by
 intro S k' vs K E H ρ a w xs yv h hA hE hd I hs hvs hyv
 obtain ⟨a1, rfl, hsz⟩ := hA
 unfold roundY at h
 cases hc : (Nat.beq k' k && noJump S && Nat.beq (lenL S.tmps) (nit + n0)) with
 | false => rw [hc] at h; exact h.elim
 | true =>
   rw [hc, cond_true] at h
   simp only [Bool.and_eq_true] at hc
   have hk := Nat.eq_of_beq_eq_true hc.1.1
   subst hk
   have hj := noJump_eq hc.1.2
   rw [hj] at hE
   have hE : LoopV E1 pin l D rec .ready none E := hE
   split at h
   case h_2 => exact h.elim
   rename_i tm htm
   have hun : slotsRel H ρ (mapL uncond S.tmps) (a1.tmps ++ a0) := slots_uncond hs
   have hsnap : slotsRel H ρ (takeL n0 (dropL nit (mapL uncond S.tmps))) a0 := by
    have h1 := slots_drop hun (noCond_un _) hsz
    exact slots_take (b := #[]) (by simpa using h1) (noCond_drop (noCond_un _)) hn0
   obtain ⟨g1, g2, g3⟩ := setPs_rel htm hvs hsnap (noCond_take (noCond_drop (noCond_un _)))
   have hyl : yv = .func (.yield l) #[] #[] := by
    have := I.root k' _ (by rw [hE.pin]; exact hpk)
    rw [hyv] at this
    exact Option.some.inj this
   have hL := hE.loop.there I
   have hrun := run_yield (P := P) (args := xs.toArray) hL (by rw [hrec]; simpa using g3.symm)
   refine ⟨l, _, _, _, _, hyl, hrun, ?_⟩
   rw [hrec]
   simp only
   refine roundIn_of_wpIn (F := RF none) trivial ?_
   have efold := fold_list ps xs a0
   have hszf : ((ps.zip xs.toArray).foldl (fun tmps (p : Tmp × Value) => tmps.setIfInBounds p.1 p.2) a0).size = n0 := by rw [efold, fold_size]; exact hn0
   have hpin' : ∀ st (j : Option Exit) (E' : Env), RoundV E1 pin l D rec st j E' → ∀ i v, E'.pin i = some v → i ∈ (roundAnn ann k').pins := fun st j E' h' i v hv => hpins i v (by rw [h'.2.pin] at hv; exact hv)
   have nof : ∀ {m : Nat} {b : Act}, fits (some l) (a1.tmps ++ a0) noDy m b → b.tmps.size = m := fun h => h.resolve_left fun h => by cases h.1
   show Code.wpIn (RF (some l)) 0 P x _ _ _
   refine exec_soundF (R := some l) (V := RoundV E1 pin l D rec .ready) (back := a1.tmps ++ a0) (n := n0) (fun j E' hE' => hΓ.more hE'.2.ext.keepH) (Y := noDy) (noDy_all P) h (fun E2 e S2 a2 w2 hE2 h2 hst2 hf2 => ?_) (fun j E v S' a' w' _ h1 _ => (h1.elim id id).elim) (.inr (hpin' _)) (.inr hx) (.inr hszf)
    ⟨E, ⟨hj, hE⟩, hE.defs.symm, H, ρ, I, slots_app (by rw [efold]; exact g1) hun g2 (noCond_un _)⟩
   cases e with
   | normal =>
     obtain ⟨hj2, L2⟩ := hE2
     obtain ⟨hd2, H2, ρ2, I2, hs2⟩ := hst2
     have hL2 := L2.loop.there I2
     have eb : ({ rec .ready none with state := .busy } : Loop) = rec .busy none := by rw [hrec, hrec]
     refine ⟨_, run_beginRound hL2 (by rw [hrec]), ?_⟩
     rw [eb]
     show Code.wpIn (RF (some l)) 0 P y _ _ _
     refine exec_soundF (R := some l) (V := RoundV E1 pin l D rec .busy) (back := a1.tmps ++ a0) (n := n0) (fun j E' hE' => hΓ.more hE'.2.ext.keepH) (Y := noDy) (noDy_all P) h2 (fun E3 e S3 a3 w3 hE3 h3 hst3 hf3 => ?_) (fun j E v S' a' w' _ h1 _ => (h1.elim id id).elim) (.inr (hpin' _)) (.inr hy) hf2
      ⟨E2.putB l (.loop (rec .busy none)), ⟨hj2, L2.put hl hDl⟩, hd2, H2, ρ2, I2.putB L2.loop rfl, hs2⟩
     obtain ⟨hj3, L3⟩ := hE3
     obtain ⟨hd3, H3, ρ3, I3, hs3⟩ := hst3
     have hL3 := L3.loop.there I3
     have hdef : (ext a1 a0).defers = [] := by rw [hd]; exact hE.defs
     have hsl : slotsRel H3 ρ3 (dropL n0 (mapL uncond S3.tmps)) (ext a1 a0).tmps := slots_drop (slots_uncond hs3) (noCond_un _) (nof hf3)
     have fin : ∀ (st : LoopState) (pe : Option Code) (S4 : SState), S4.tmps = dropL n0 (mapL uncond S3.tmps) → S4.hp = S3.hp → S4.next = S3.next → IterV E1 pin l D rec S4.jump (E3.putB l (.loop (rec st pe))) → StF (IterV E1 pin l D rec) S4 (ext a1 a0) (w3.putObj l (.loop (rec st pe))) :=
      fun st pe S4 e1 e2 e3 hV => ⟨_, hV, hdef.trans L3.defs.symm, H3, ρ3, by rw [e2, e3]; exact I3.putB L3.loop rfl, by rw [e1]; exact hsl⟩
     cases e with
     | normal =>
       have h3 : K true { S3 with tmps := dropL n0 (mapL uncond S3.tmps) } := h3
       have hr := run_endRound (P := P) none hL3
       have er : ({ rec .busy none with state := if (none : Option Code).isNone then .ready else .done, pending := none } : Loop) = rec .ready none := by rw [hrec, hrec]; rfl
       rw [er] at hr
       exact ⟨_, _, hr, true, _, rfl, h3, fin .ready none _ rfl rfl rfl (by rw [show ({ S3 with tmps := dropL n0 (mapL uncond S3.tmps) } : SState).jump = S3.jump from rfl, hj3]; exact L3.put hl hDl)⟩
     | ret =>
       have h3 : K false { S3 with tmps := dropL n0 (mapL uncond S3.tmps), jump := some .ret } := h3
       have hr := run_endRound (P := P) (some .ret) hL3
       have er : ({ rec .busy none with state := if (some Code.ret).isNone then .ready else .done, pending := some .ret } : Loop) = rec .done (some .ret) := by rw [hrec, hrec]; rfl
       rw [er] at hr
       exact ⟨_, _, hr, false, _, rfl, h3, fin .done (some .ret) _ rfl rfl rfl ⟨_, rfl, L3.put hl hDl⟩⟩
     | exit i =>
       have h3 : K false { S3 with tmps := dropL n0 (mapL uncond S3.tmps), jump := some (.exit i) } := h3
       have hr := run_endRound (P := P) (some (.exit i)) hL3
       have er : ({ rec .busy none with state := if (some (Code.exit i)).isNone then .ready else .done, pending := some (.exit i) } : Loop) = rec .done (some (.exit i)) := by rw [hrec, hrec]; rfl
       rw [er] at hr
       exact ⟨_, _, hr, false, _, rfl, h3, fin .done (some (.exit i)) _ rfl rfl rfl ⟨_, rfl, L3.put hl hDl⟩⟩
     | goto i =>
       have h3 : K false { S3 with tmps := dropL n0 (mapL uncond S3.tmps), jump := some (.goto i) } := h3
       have hr := run_endRound (P := P) (some (.goto i)) hL3
       have er : ({ rec .busy none with state := if (some (Code.goto i)).isNone then .ready else .done, pending := some (.goto i) } : Loop) = rec .done (some (.goto i)) := by rw [hrec, hrec]; rfl
       rw [er] at hr
       exact ⟨_, _, hr, false, _, rfl, h3, fin .done (some (.goto i)) _ rfl rfl rfl ⟨_, rfl, L3.put hl hDl⟩⟩
     | panic ch => exact h3.elim
     | outgrown => exact h3.elim
   | _ => exact h2.elim

structure TopV (E0 : Env) (j : Option Exit) (E : Env) : Prop where
 plain : j = none
 ext : Ext E0 E
 pin : E.pin = E0.pin
 own : OwnLt E
 marks : ∃ Ds : List Nat, E.defs = Ds.map mark ∧ Ds.Nodup ∧ ∀ D ∈ Ds, Held E D (.deferred (some [])) ∧ E0.w0.heap.size ≤ D
theorem iterOf_rel {v : SV} {f : FuncId} {rs : List SV} {x : Value} (h : iterOf v = some (f, rs)) (hv : svRel H ρ v x) : ∃ xs : List Value, x = .func (.func f) #[] xs.toArray ∧ svsRel H ρ rs xs := by
 unfold iterOf at h
 split at h
 · rename_i g cs
   split at h
   · rename_i rs' hr
     simp only [Option.some.injEq, Prod.mk.injEq] at h
     obtain ⟨rfl, rfl⟩ := h
     obtain ⟨vs, e, h1⟩ := hv
     exact ⟨vs, e, refArgs_rel hr h1⟩
   · cases h
 · rename_i g caps
   simp only [Option.some.injEq, Prod.mk.injEq] at h
   obtain ⟨rfl, rfl⟩ := h
   obtain ⟨cs, e, hcs⟩ : ∃ cs : List Value, x = .func (.func g) #[] cs.toArray ∧ capsRel H caps cs := by
    cases caps with
    | nil => exact ⟨[], hv, rfl⟩
    | cons c r => exact hv
   exact ⟨cs, e, capsRel_ipt hcs⟩
 · cases h
theorem rangeR_ok {Γ : FuncId → Option PC}  {its : List (FuncId × Func)} (hits : ∀ f fn, lookF its f = some fn → P.funcs[f]? = some fn ∧ (fn.name == "runtime.NumGoroutine") = false) {ann : Ann} {E0 : Env} (hΓ : GamOk P E0.H0 Γ) (hpin : ∀ l v, E0.pin l = some v → l ∈ ann.pins) :
 RfOk P none (TopV E0) #[] (rangeR P Γ its ann) := by
 intro g ps x y S K Q a w h hs hk
 obtain ⟨E, hE, hdef, H, ρ, I, hsl⟩ := hs
 have hΓE : GamOk P E.H0 Γ := hΓ.more hE.ext.keepH
 rw [ext_nil] at hdef hsl
 unfold rangeR at h
 split at h
 case h_2 => exact h.elim
 rename_i f rs hv
 obtain ⟨v, hev, hio⟩ := Option.bind_eq_some_iff.1 hv
 obtain ⟨xs, hg, hrs⟩ := iterOf_rel hio (ev_sound hsl hev)
 split at h
 case h_2 => exact h.elim
 rename_i fn hfn
 obtain ⟨hf, hnm⟩ := hits f fn hfn
 unfold rangeIn at h
 split at h
 case h_2 => exact h.elim
 rename_i c hb
 cases hc : (noJump S && Nat.blt S.next STRIDE && Nat.ble (1 + lenL rs) fn.ntmps && nilL fn.results.toList && codeOk fn.ntmps c && codeOk (lenL S.tmps) x && codeOk (lenL S.tmps) y) with
 | false => rw [hc] at h; exact h.elim
 | true =>
 rw [hc, cond_true] at h
 simp only [Bool.and_eq_true] at hc
 obtain ⟨⟨⟨⟨⟨⟨hnj, hlt⟩, hle⟩, hnil⟩, hcc⟩, hx⟩, hy⟩ := hc
 have hle := Nat.le_of_ble_eq_true hle
 have hlt : S.next < STRIDE := Nat.le_of_ble_eq_true hlt
 rw [lenL_eq] at hx hy hle
 have hn0 : a.tmps.size = S.tmps.length := hsl.1.symm
 have hlab : ρ S.next = none := I.bound S.next (by show S.next ≤ S.next % STRIDE; rw [Nat.mod_eq_of_lt hlt]; exact Nat.le_refl _)
 have hxl : xs.length = rs.length := svs_length hrs
 refine wpIn_rangeFunc (F := RF none) (n := 0) ?_
 intro fn0 _
 obtain ⟨rec, hrec⟩ : ∃ rec : LoopState → Option Code → Loop, ∀ st pe, rec st pe = { state := st, pending := pe, fn := fn0, tmps := a.tmps, params := ps, assign := x, body := y, defers := w.heap.size } := ⟨_, fun _ _ => rfl⟩
 obtain ⟨W1, hW1⟩ : ∃ W1, (w.alloc (.deferred (some []))).alloc (.loop (rec .ready none)) = W1 := ⟨_, rfl⟩
 have hsame : Same w W1 := by rw [← hW1]; exact (Same.alloc w _).trans (Same.alloc _ _)
 have hsz : W1.heap.size = w.heap.size + 2 := by rw [← hW1]; simp
 have hL1 : W1.heap[w.heap.size + 1]? = some (.loop (rec .ready none)) := by
  rw [← hW1]; have := World.alloc_heap_new (w.alloc (.deferred (some []))) (.loop (rec .ready none)); rwa [World.size_alloc] at this
 have hD1 : W1.heap[w.heap.size]? = some (.deferred (some [])) := by
  rw [← hW1, heap_alloc_old _ _ (by simp)]; exact World.alloc_heap_new w _
 let y0 : Value := .func (.yield (w.heap.size + 1)) #[] #[]
 let E1 : Env := E.enter H w W1 S.next y0
 have hext1 : Ext E E1 := Ext.enter I hsame
 have I1 : MInv E1 H (setLab ρ S.next y0) S.hp (fun l => S.next + 1 ≤ l % STRIDE) W1 := I.enter hlab hsame fun l hl => ⟨Nat.le_of_succ_le hl, fun e => by subst e; rw [Nat.mod_eq_of_lt hlt] at hl; omega⟩
 have hgrow := I.grow
 have hownlt : OwnLt E1 := fun b hb => by
  simp only [E1, Env.enter, List.mem_append, List.mem_filter, List.mem_range] at hb ⊢
  rw [hsz]
  rcases hb with hb | hb
  · have := hE.own b hb; omega
  · omega
 have hnew : ∀ b, w.heap.size ≤ b → b ∉ E1.own0 := fun b hb hm => by
  simp only [E1, Env.enter, List.mem_append, List.mem_filter, List.mem_range] at hm
  rcases hm with hm | hm
  · have := hE.own b hm; omega
  · omega
 have hLV : LoopV E E1.pin (w.heap.size + 1) w.heap.size rec .ready none E1 :=
  ⟨hext1, rfl, rfl, hownlt, ⟨by show _ < W1.heap.size; omega, hnew _ (by omega), hL1⟩, ⟨by show _ < W1.heap.size; omega, hnew _ (Nat.le_refl _), hD1⟩⟩
 have hpk : E1.pin S.next = some y0 := by simp [E1, Env.enter]
 have hpins : ∀ i v, E1.pin i = some v → i ∈ S.next :: ann.pins := fun i v hv => by
  simp only [E1, Env.enter] at hv
  split at hv
  · rename_i e; rw [e]; simp
  · rw [hE.pin] at hv; exact List.mem_cons_of_mem _ (hpin i v hv)
 have hmono : svsRel H (setLab ρ S.next y0) rs xs := svsRel_mono (Mem.le_refl H) (setLab_le hlab) hrs
 have harg : svsRel H (setLab ρ S.next y0) (.yld S.next :: rs) (y0 :: xs) := ⟨y0, xs, rfl, by show setLab ρ S.next y0 S.next = some y0; simp [setLab], hmono⟩
 have hlen1 : lenL (SV.yld S.next :: rs) = 1 + lenL rs := by simp [lenL]; omega
 have hst := start_slots harg (n := fn.ntmps)
 rw [hlen1] at hst
 have eargs : (#[y0] ++ xs.toArray : Array Value) = (y0 :: xs).toArray := by simp
 refine ⟨w.heap.size + 1, [mark w.heap.size], W1, { target := .fn (.func f) xs.toArray, args := #[y0] }, W1, f, #[y0] ++ xs.toArray, W1, ?_, ?_, fun _ _ => trivial, ?_, fun h => by simp [RF, Fence.wide] at h, ?_⟩
 · rw [← hW1, hrec]; exact run_enterLoop_outer _ _ _ _ _
 · simp only [resolve, hg]
   simp [go_sem, y0]
 · simp only [invoke, callFunc, Sem.run_bind, run_program, Result.andThen_ok, hf]
   simp [hnm, hb]
 · refine callsIn_of_wp hf hb trivial ?_ rfl
   refine exec_soundF (R := none) (V := IterV E E1.pin (w.heap.size + 1) w.heap.size rec) (back := a.tmps) (n := fn.ntmps) (fun j E' hE' => by
    refine hΓE.more ?_
    cases j with
    | none => exact hE'.ext.keepH
    | some e => obtain ⟨_, _, hL⟩ := hE'; exact hL.ext.keepH)
    (Y := { noDy with yh := some (roundY P Γ ann S.next (lenL S.tmps) fn.ntmps ps x y) })
    ⟨noDy_ok P, fun h e => ?_, fun h e => (by cases e), ⟨fun h e => ?_, fun h e => (by cases e)⟩⟩ h (fun E3 e S3 a3 w3 hE3 h3 hst3 hf3 => ?_) (fun j E v S' a' w' _ h1 _ => (h1.elim id id).elim) (.inr fun j E' hE' i v hv => ?_) (.inr hcc) (.inr ?_)
    ⟨E1, (by rw [show ({ S with tmps := app (app (mapL Sl.sv (.yld S.next :: rs)) (rep Sl.un (fn.ntmps - (1 + lenL rs)))) (mapL uncond S.tmps), next := S.next + 1 } : SState).jump = S.jump from rfl, noJump_eq hnj]; exact hLV), rfl, H, setLab ρ S.next y0, I1, ?_⟩
   · simp only [Option.some.injEq] at e; subst e
     rw [lenL_eq]
     exact round_ok hΓE hrec hn0 hx hy hpk hpins (by omega) (by omega)
   · simp only [Option.some.injEq] at e; subst e
     rw [lenL_eq]
     exact roundY_keep hx hy
   · -- the iterator's end
     have hsz3 : a3.tmps.size = fn.ntmps := hf3.resolve_left fun h => (by cases h.2.2)
     have hjl : ∃ st pe, LoopV E E1.pin (w.heap.size + 1) w.heap.size rec st pe E3 ∧ st ≠ .busy ∧ (match S3.jump with
      | none => pe = none
      | some e => ∃ c, jumpC e = some c ∧ pe = some c) := by
      cases hj : S3.jump with
      | none => rw [hj] at hE3; exact ⟨_, _, hE3, by simp, rfl⟩
      | some e0 =>
        rw [hj] at hE3
        obtain ⟨c0, h1, h2⟩ := hE3
        exact ⟨_, _, h2, by simp, c0, h1, rfl⟩
     obtain ⟨st, pe, L3, hbusy, hpe⟩ := hjl
     obtain ⟨hd3, H3, ρ3, I3, hs3⟩ := hst3
     have hdef3 : a3.defers = [] := by
      have : (ext a3 a.tmps).defers = E3.defs := hd3
      rw [L3.defs] at this; exact this
     have hL3 := L3.loop.there I3
     have hend := run_endLoop (P := P) hL3 (by rw [hrec]; exact hbusy)
     have epe : (rec st pe).pending = pe := by rw [hrec]
     generalize hro : ({ rec st pe with state := .exhausted } : Loop) = ro at hend
     rw [epe] at hend
     generalize hw4 : w3.putObj (w.heap.size + 1) (.loop ro) = w4 at hend
     let E4 : Env := { (E3.putB (w.heap.size + 1) (.loop ro)) with pin := E.pin, defs := mark w.heap.size :: E.defs }
     have hpin4 : ∀ l v, E.pin l = some v → ρ3 l = some v := fun l v hv => by
      refine I3.root l v ?_
      rw [L3.pin]
      simp only [E1, Env.enter]
      rw [if_neg]
      · exact hv
      · intro e; rw [e] at hv
        have := I.root _ _ hv
        rw [hlab] at this; cases this
     have I4 : MInv E4 H3 ρ3 S3.hp (fun l => S3.next ≤ l % STRIDE) w4 := by
      rw [← hw4]
      exact (I3.putB L3.loop rfl).redef hpin4
     have hextE4 : Ext E E4 := by
      have h1 : Ext E (E3.putB (w.heap.size + 1) (.loop ro)) := L3.ext.put (by omega)
      exact ⟨h1.fresh, h1.keepH, h1.newH, h1.frame, h1.grow, h1.os, h1.tape, h1.output⟩
     have hT : TopV E0 none E4 := by
      refine ⟨rfl, hE.ext.trans hextE4, hE.pin, fun b hb => ?_, ?_⟩
      · have := L3.own b hb
        show b < (E3.w0.putObj _ _).heap.size
        simpa using this
      · obtain ⟨Ds, hDs, hnd, hD⟩ := hE.marks
        refine ⟨w.heap.size :: Ds, by simp only [E4, hDs, List.map_cons], List.nodup_cons.2 ⟨fun hm => ?_, hnd⟩, fun D hDm => ?_⟩
        · have := (hD _ hm).1.lt; omega
        · rcases List.mem_cons.1 hDm with rfl | hDm
          · have h1 := L3.def_.other (l := w.heap.size + 1) (o' := .loop ro) (by omega)
            exact ⟨⟨h1.lt, h1.own, h1.at_⟩, by have := hE.ext.grow; omega⟩
          · obtain ⟨h0, hge0⟩ := hD D hDm
            have h1 := (h0.ext L3.ext).other (l := w.heap.size + 1) (o' := .loop ro) (by have := h0.lt; omega)
            exact ⟨⟨h1.lt, h1.own, h1.at_⟩, hge0⟩
     let a4 : Act := { a with defers := [mark w.heap.size] ++ a.defers }
     have hst4 : ∀ S4 : SState, S4.tmps = dropL fn.ntmps (mapL uncond S3.tmps) → S4.hp = S3.hp → S4.next = S3.next → St E4 S4 (ext a4 #[]) w4 := fun S4 e1 e2 e3 => by
      rw [ext_nil]
      refine ⟨by simp only [a4, E4, hdef, List.singleton_append], H3, ρ3, by rw [e2, e3]; exact I4, ?_⟩
      rw [e1]
      exact slots_drop (slots_uncond hs3) (noCond_un _) hsz3
     have hres : ∀ tm, (results fn tm).run P w3 = .ok (.tuple #[]) w3 := fun tm => by
      have hr : fn.results.toList = [] := by
       cases hl : fn.results.toList with
       | nil => rfl
       | cons q r => rw [hl] at hnil; cases hnil
      have := results_run fn tm (xs := []) (w := w3) (P := P) (by rw [hr]; simp)
      simpa using this
     have main : iterEnd fn.ntmps K S3 → rangePost (RF none) 0 P (w.heap.size + 1) Q a4 (.returned (.tuple #[])) w3 := by
      intro h4
      refine ⟨pe, w4, hend, ?_⟩
      unfold iterEnd at h4
      cases hj : S3.jump with
      | none =>
        rw [hj] at h4 hpe
        simp only at h4 hpe
        rw [hpe]
        exact hk E4 .normal _ a4 w4 hT h4 (hst4 _ rfl rfl rfl) rfl
      | some e0 =>
        rw [hj] at h4 hpe
        simp only at h4 hpe
        obtain ⟨c0, hc0, rfl⟩ := hpe
        have hq := hk E4 e0 _ a4 w4 hT h4 (hst4 _ rfl rfl rfl) rfl
        cases e0 with
        | ret => simp only [jumpC, Option.some.injEq] at hc0; subst hc0; exact wpIn_ret hq
        | exit i => simp only [jumpC, Option.some.injEq] at hc0; subst hc0; exact wpIn_exit hq
        | goto i => simp only [jumpC, Option.some.injEq] at hc0; subst hc0; exact wpIn_goto hq
        | _ => cases hc0
     cases e with
     | normal => exact ⟨hdef3, _, hres _, main h3⟩
     | ret => exact ⟨hdef3, _, hres _, main h3⟩
     | _ => exact h3.elim
   · have : E'.pin = E1.pin := by
       cases j with
       | none => exact hE'.pin
       | some e => obtain ⟨_, _, hL⟩ := hE'; exact hL.pin
     rw [this] at hv
     exact hpins i v hv
   · simp only [Array.size_append, Array.size_replicate, List.size_toArray, List.length_cons, List.length_nil]
     rw [hxl]; omega
   · rw [eargs]
     exact slots_app hst (slots_uncond (slots_mono (Mem.le_refl H) (setLab_le hlab) hsl)) (noCond_ins _ _) (noCond_un _)

theorem leaves_marks {fn : Func} {tmps : Array Value} {R : Ending → World → Prop} {E0 : Env} (fin : ∀ E5 w5, Ext E0 E5 → MInv E5 H ρ hp N w5 → ∃ v, (results fn tmps).run P w5 = .ok v w5 ∧ R (.returned v) w5) :
 ∀ (Ds : List Nat) (B : Env) (w : World), Ext E0 B → (∀ D ∈ Ds, E0.w0.heap.size ≤ D) → Ds.Nodup → (∀ D ∈ Ds, Held B D (.deferred (some []))) → MInv B H ρ hp N w → LeavesInM (RF none) 0 P fn tmps R (Ds.map mark) .returning w
 | [], B, w, h1, _, _, _, I => fin B w h1 I
 | D :: Ds, B, w, h1, h2, h3, h4, I => by
   obtain ⟨n1, n2⟩ := List.nodup_cons.1 h3
   have hD := h4 D (by simp)
   refine ⟨by simp, .inl ⟨D, _, rfl, run_takeDeferred (hD.there I), ?_⟩⟩
   exact leaves_marks fin Ds (B.putB D (.deferred none)) _ (h1.put (h2 D (by simp))) (fun D' h => h2 D' (by simp [h])) n2 (fun D' h => (h4 D' (by simp [h])).other fun e => n1 (e ▸ h)) (I.putB hD rfl)

theorem specGR_of_body {Γ : FuncId → Option PC} (hΓ : ∀ f c, Γ f = some c → Spec P f c) {its : List (FuncId × Func)} (hits : ∀ f fn, lookF its f = some fn → P.funcs[f]? = some fn ∧ (fn.name == "runtime.NumGoroutine") = false) {f : FuncId} {fn : Func} (hf : P.funcs[f]? = some fn) (hb : fn.body.isSome = true)
 (hn : (fn.name == "runtime.NumGoroutine") = false) {fl : List Bool} {g : List SV → List (Nat × SObj) → Option GRes}
 (h : ∀ ins heap r, g ins heap = some r → vcT r.vc → okSVs ins → ((labelsOf heap).Nodup → okHp heap) → ∃ ann, bodyGR P Γ its ann fn heap ins r) : Spec P f { ptr := false, ct := fun _ => none, gr := some (fl, g) } := by
 obtain ⟨b, hb⟩ := Option.isSome_iff_exists.1 hb
 refine ⟨⟨fn, b, hf, hb, hn⟩, fun H w ins vs g r hct => (by cases hct), fun fl' g' hg H w ρ0 heap ins vs r hgr hvc hrel hok hfree hmem hglob => ?_⟩
 replace hg : some (fl, g) = some (fl', g') := by rcases hg with hg | hg
                                                  · exact hg
                                                  · cases hg
 simp only [Option.some.injEq, Prod.mk.injEq] at hg
 obtain ⟨rfl, rfl⟩ := hg
 obtain ⟨ann, hbody⟩ := h ins heap r hgr hvc (okSVs_all hrel) fun hnd => okHp_of hnd hok.objs
 unfold bodyGR bodyGK at hbody
 rw [hb] at hbody
 simp only at hbody
 unfold GAnswers
 refine calls_rf (m := 0) (callsIn_of_wp_marks hf hb trivial ?_ rfl)
 cases hsm : allN (fun i => Nat.blt i 1000) (labelsOf heap) with
 | false => rw [hsm] at hbody; exact hbody.elim
 | true =>
   rw [hsm, cond_true] at hbody
   let E : Env := ⟨w, H, basesL ρ0 heap (labelsOf heap), fun l => if memN l ann.pins = true then ρ0 l else none, []⟩
   have I0 : MInv E H ρ0 heap (fun l => 1000 ≤ l % STRIDE) w := {
    mem := hmem
    objs := hok.objs
    sep := hok.sep
    fresh := fun l b' hl hb' => .inr (basesL_iff.2 ⟨l, hl, hb'⟩)
    bound := fun l hl => by
     have hl : 1000 ≤ l % STRIDE := hl
     refine hfree l ?_
     cases hg : isGone (look l heap) with
     | true => exact isGone_iff.1 hg
     | false =>
       have hne : look l heap ≠ .gone := fun e => by rw [e] at hg; cases hg
       have hlt := allN_iff.1 hsm l (labels_mem.2 ⟨_, look_mem hne⟩)
       have hlt : l < 1000 := Nat.le_of_ble_eq_true hlt
       rw [Nat.mod_eq_of_lt (by unfold STRIDE; omega)] at hl
       omega
    keepH := Mem.le_refl H
    newH := fun b o h => .inl h
    frame := fun b _ _ => rfl
    grow := Nat.le_refl _
    os := rfl
    tape := rfl
    output := outOk.refl _
    root := fun l v hv => by
     simp only [E] at hv
     split at hv
     · exact hv
     · cases hv }
   have hpinA : ∀ l v, E.pin l = some v → l ∈ ann.pins := fun l v hv => by
    simp only [E] at hv
    split at hv
    · rename_i e; exact memN_iff.1 e
    · cases hv
   have hown : OwnLt E := fun b hb => by
    obtain ⟨l, hl, hb⟩ := basesL_iff.1 hb
    exact base_lt I0 hl hb
   have finish : ∀ (E4 : Env) (S' : SState) (a' : Act) (w' : World), TopV E S'.jump E4 → endVG P fn ann.pins heap r S' → St E4 S' (ext a' #[]) w' →
    LeavesInM (RF none) 0 P fn a'.tmps (fun e w' => ∃ v H' ρ', e = .returned v ∧ H.le H' ∧ memOk H' w' ∧ SameBs (basesOf ρ0 heap) w w' ∧ (∀ b, b < w.heap.size → ¬ basesOf ρ0 heap b → ∀ o, H' b o = H b o) ∧
     (∀ i, look i heap ≠ .gone → look i r.post ≠ .gone → ρ' i = ρ0 i) ∧ GraphOk H' ρ' r.post w' ∧ (∀ i b, look i r.post ≠ .gone → baseOf ρ' i = some b → w.heap.size ≤ b ∨ basesOf ρ0 heap b) ∧ ∀ a, slRel H' ρ' a r.out v) a'.defers .returning w' := by
    rintro E4 S' a' w' hT he ⟨hd, H1, ρ1, I1, hs1⟩
    rw [ext_nil] at hd hs1
    obtain ⟨Ds, hDs, hnd, hD⟩ := hT.marks
    rw [hd, hDs]
    refine leaves_marks (H := H1) (ρ := ρ1) (hp := S'.hp) (N := fun l => S'.next ≤ l % STRIDE) (E0 := E) (fun E5 w5 he5 I5 => ?_) Ds E4 w' hT.ext (fun D hm => (hD D hm).2) hnd (fun D hm => (hD D hm).1) I1
    have hr : ∀ l v, E.pin l = some v → ρ1 l = some v := fun l v hv => I1.root l v (by rw [hT.pin]; exact hv)
    exact finG hok he (I5.of_ext he5 hr) hs1
   refine exec_soundF (R := none) (V := TopV E) (back := #[]) (n := 0) (fun j E' hE' => GamOk.more (H0 := E.H0) ⟨hΓ, hglob⟩ hE'.ext.keepH) (Y := rangeDy P Γ its ann) ⟨noDy_ok P, fun h e => (by cases e), fun h e => ?_, ⟨fun h e => (by cases e), fun h e => ?_⟩⟩ hbody
    (fun E4 e S' a' w' hT hk hst _ => ?_) (fun j E v S' a' w' _ h1 _ => (h1.elim id id).elim) (.inr fun j E' hE' l v hv => hpinA l v (by rw [hE'.pin] at hv; exact hv)) (.inl ⟨rfl, rfl, rfl⟩) (.inl ⟨rfl, rfl, rfl⟩)
    ⟨E, ⟨rfl, Ext.refl E, rfl, hown, [], rfl, List.nodup_nil, fun D h => by cases h⟩, rfl, H, ρ0, I0, ?_⟩
   · simp only [rangeDy, Option.some.injEq] at e; subst e
     exact rangeR_ok hits ⟨hΓ, hglob⟩ hpinA
   · simp only [rangeDy, Option.some.injEq] at e; subst e
     exact rangeR_keep
   · cases e with
     | normal => exact finish E4 S' a' w' hT hk hst
     | ret => exact finish E4 S' a' w' hT hk hst
     | _ => exact hk.elim
   · rw [ext_nil]
     exact start_slots hrel
theorem spec_gxr {l : List (FuncId × PC)} (hl : Specs P l) {its : List (FuncId × Func)} (hits : ∀ f fn, lookF its f = some fn → P.funcs[f]? = some fn ∧ (fn.name == "runtime.NumGoroutine") = false) {f : FuncId} {fn : Func} (hf : P.funcs[f]? = some fn) (hb : fn.body.isSome = true)
 (hn : (fn.name == "runtime.NumGoroutine") = false) {X : Type} {fl : List Bool} {rd : List SV → List (Nat × SObj) → Option X} {F : X → GRes} {I : X → List SV} {Hp : X → List (Nat × SObj)}
 (hrd : ∀ ins heap x, rd ins heap = some x → ins = I x ∧ heap = Hp x ∧ (labelsOf heap).Nodup)
 (h : ∀ x, vcT (F x).vc → okSVs (I x) → okHp (Hp x) → ∃ ann, bodyGR P (gam l) its ann fn (Hp x) (I x) (F x)) : Spec P f (gX fl rd F) := by
 refine specGR_of_body (gam_ok hl) hits hf hb hn fun ins heap r hr hvc hok hhp => ?_
 split at hr
 · rename_i x hx
   simp only [Option.some.injEq] at hr; subst hr
   obtain ⟨e1, e2, e3⟩ := hrd ins heap x hx
   have hh := hhp e3
   rw [e2] at hh
   rw [e1] at hok
   rw [e1, e2]
   exact h x hvc hok hh
 · cases hr
theorem bodyGR_ok {A : Prop} {Γ : FuncId → Option PC} {its : List (FuncId × Func)} {fn : Func} {heap : List (Nat × SObj)} {ins : List SV} {r : GRes} (ann : Ann) (h : A) (e : A = bodyGR P Γ its ann fn heap ins r) : ∃ ann, bodyGR P Γ its ann fn heap ins r := ⟨ann, e ▸ h⟩
end Go.Vse
