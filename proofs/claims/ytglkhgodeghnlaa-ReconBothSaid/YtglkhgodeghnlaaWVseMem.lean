/- Memory beneath a symbolic state. -/
import Derived.Test.YtglkhgodeghnlaaWVseRuns
import Derived.Laws.AppendOwn
import Derived.Laws.CopyRow
import Derived.Laws.MakeOwn
import Derived.Laws.Entries
import Derived.Maps.RangeRun
namespace Go.Vse

def blk : Value → Option Nat
 | .pointer (some a) => some a.block
 | .slice (some a) _ _ => some a.block
 | .map (some r) => some r
 | _ => none
def baseOf (ρ : Lab) (l : Nat) : Option Nat := (ρ l).bind blk

def farF (f : Nat × Nat) (n : Nat) : Prop := ∀ o, o < n → ¬ (f.1 ≤ o ∧ o < f.2)
theorem farF_zero (n : Nat) : farF (0, 0) n := fun o _ h => by have := h.2; simp at this
theorem farF_size (n : Nat) : farF (n, n + 1) n := fun o ho h => by have := h.1; simp at this; omega
def ownsR (w : World) (e : TypeId) (size : Nat) (v : Value) (n : Nat) (xs : List Value) : Prop :=
 xs.length = n * size ∧ ((v = .slice none 0 0 ∧ n = 0) ∨
  ∃ g cap cur f, v = .slice (some ⟨g, 0, none⟩) n cap ∧ farF f cur.size ∧ w.heap[g]? = some (.cells cur e f) ∧ n ≤ cap ∧ cap ≤ maxLen ∧ cur.size = cap * size ∧ cur.toList.take (n * size) = xs)
theorem ownsR_nil (w : World) (e : TypeId) (size : Nat) : ownsR w e size (.slice none 0 0) 0 [] := ⟨by simp, .inl ⟨rfl, rfl⟩⟩

def rowOwn (H : Mem) (w : World) (e : TypeId) (s : Nat) (t : T) (xs : List t.den) (v : Value) (ro : Bool) : Prop :=
 s = t.size ∧ ((v = .slice none 0 0 ∧ xs = []) ∨ ∃ g cap cur f, v = .slice (some ⟨g, 0, none⟩) xs.length cap ∧ farF f cur.size ∧ w.heap[g]? = some (.cells cur e f) ∧ xs.length ≤ cap ∧ cap ≤ maxLen ∧ cur.size = cap * s ∧
  rowRel (eltRel H t) xs (cur.toList.take (xs.length * s)) ∧ (ro = false → ∀ o, H g o = none))
def entsRel (H : Mem) (ka : Bool) (kt : T) (va : Bool) (vt : T) (es : List (kt.den × vt.den)) (en : List MapEntry) : Prop := (es.map (·.1)).Nodup ∧ ∃ fs, fs.Perm es ∧ entRel H ka kt va vt fs en
def curRel (H : Mem) (ka : Bool) (kt : T) (va : Bool) (vt : T) (cur : Option (kt.den × vt.den)) (g : Gh) (seen : Array Nat) : Prop :=
 match cur with
 | none => True
 | some c => ∃ (e : MapEntry) (s : Array Nat), e ∈ g.en.toList ∧ seen = s.push e.born ∧ datV H ka kt c.1 e.key ∧ datV H va vt c.2 e.val
theorem entsRel_mono {H H' : Mem} (hH : H.le H') {ka : Bool} {kt : T} {va : Bool} {vt : T} {es : List (kt.den × vt.den)} {en : List MapEntry} (h : entsRel H ka kt va vt es en) : entsRel H' ka kt va vt es en :=
 ⟨h.1, h.2.imp fun _ h => ⟨h.1, entRel_mono hH h.2⟩⟩
theorem curRel_mono {H H' : Mem} (hH : H.le H') {ka : Bool} {kt : T} {va : Bool} {vt : T} {cur : Option (kt.den × vt.den)} {g : Gh} {seen : Array Nat} (h : curRel H ka kt va vt cur g seen) : curRel H' ka kt va vt cur g seen := by
 unfold curRel at *
 split at h
 · trivial
 · obtain ⟨e, s, h1, h2, h3, h4⟩ := h
   exact ⟨e, s, h1, h2, datV_mono hH h3, datV_mono hH h4⟩
def objRel (H : Mem) (ρ : Lab) (w : World) (l : Nat) : SObj → Prop
 | .gone => True
 | .cells cs ro => ∃ b c ty, ρ l = some (.pointer (some ⟨b, 0, none⟩)) ∧ w.heap[b]? = some (.cells c ty (0, 0)) ∧ scsRel H ρ cs c.toList ∧ (ro = false → ∀ o, H b o = none)
 | .tok e s => ∃ v n xs, ρ l = some v ∧ ownsR w e s v n xs ∧ ∀ g, v.ownBlock = some g → ∀ o, n * s ≤ o → H g o = none
 | .row e s t xs ro => ∃ v, ρ l = some v ∧ rowOwn H w e s t xs v ro
 | .mp ka kt va vt es => ∃ r en clock, ρ l = some (.map (some r)) ∧ w.heap[r]? = some (.map en clock) ∧ entsRel H ka kt va vt es en.toList ∧ (en.toList.map (·.born)).Nodup ∧ (∀ e ∈ en.toList, e.born < clock) ∧ ∀ o, H r o = none
 | .mpi ka kt va vt es g => ρ l = some (.map (some g.r)) ∧ w.heap[g.r]? = some (.map g.en g.clock) ∧ entsRel H ka kt va vt es g.en.toList ∧ (g.en.toList.map (·.born)).Nodup ∧ (∀ e ∈ g.en.toList, e.born < g.clock) ∧ ∀ o, H g.r o = none
 | .it ka kt va vt left cur g => ∃ b seen, ρ l = some (.pointer (some ⟨b, 0, none⟩)) ∧ w.heap[b]? = some (.mapIter (some g.r) g.clock seen g.clock) ∧ (∃ es, es.Perm left ∧ entRel H ka kt va vt es (leftOf g.en seen).toList) ∧ curRel H ka kt va vt cur g seen ∧ ∀ o, H b o = none

def outOk (w w' : World) : Prop := w'.output = w.output ∧ w.drawn ≤ w'.drawn
theorem outOk.trans {a b c : World} (h : outOk b c) (h' : outOk a b) : outOk a c := ⟨h.1.trans h'.1, Nat.le_trans h'.2 h.2⟩
theorem outOk.refl (w : World) : outOk w w := ⟨rfl, Nat.le_refl _⟩
structure Env where
 w0 : World
 H0 : Mem
 own0 : List Nat
 pin : Nat → Option Value
 defs : List Deferred

structure MInv (E : Env) (H : Mem) (ρ : Lab) (hp : List (Nat × SObj)) (N : Nat → Prop) (w : World) : Prop where
 mem : ∀ b o v, H b o = some v → w.cell? ⟨b, o, none⟩ = some v
 objs : ∀ l, objRel H ρ w l (look l hp)
 sep : ∀ l l' b, look l hp ≠ .gone → look l' hp ≠ .gone → l ≠ l' → baseOf ρ l = some b → baseOf ρ l' ≠ some b
 fresh : ∀ l b, look l hp ≠ .gone → baseOf ρ l = some b → E.w0.heap.size ≤ b ∨ b ∈ E.own0
 bound : ∀ l, N l → ρ l = none
 keepH : E.H0.le H
 newH : ∀ b o, H b o ≠ none → E.H0 b o ≠ none ∨ E.w0.heap.size ≤ b ∨ b ∈ E.own0
 frame : ∀ b, b < E.w0.heap.size → b ∉ E.own0 → w.heap[b]? = E.w0.heap[b]?
 grow : E.w0.heap.size ≤ w.heap.size
 os : w.os = E.w0.os
 tape : w.tape = E.w0.tape
 output : outOk E.w0 w
 root : ∀ l v, E.pin l = some v → ρ l = some v

theorem look_put (l k : Nat) (o : SObj) (hp : List (Nat × SObj)) : look k (put l o hp) = if k = l then o else look k hp := by
 induction hp with
 | nil =>
   simp only [put, look]
   by_cases h : k = l
   · subst h; simp
   · have : Nat.beq l k = false := by cases hb : Nat.beq l k with | false => rfl | true => exact absurd (Nat.eq_of_beq_eq_true hb).symm h
     simp [h, this]
 | cons x r ih =>
   obtain ⟨m, p⟩ := x
   simp only [put]
   cases hb : Nat.beq m l with
   | true =>
     have hm := Nat.eq_of_beq_eq_true hb
     subst hm
     simp only [cond_true, look]
     by_cases h : k = m
     · subst h; simp
     · have : Nat.beq m k = false := by cases hb : Nat.beq m k with | false => rfl | true => exact absurd (Nat.eq_of_beq_eq_true hb).symm h
       simp [h, this]
   | false =>
     simp only [cond_false, look]
     cases hk : Nat.beq m k with
     | true =>
       have := Nat.eq_of_beq_eq_true hk
       subst this
       have : m ≠ l := fun e => by subst e; simp at hb
       simp [this]
     | false => simpa using ih

variable {E : Env} {H : Mem} {ρ : Lab} {hp : List (Nat × SObj)} {lab : Nat} {N : Nat → Prop} {w : World}

theorem lt_of_cell {b o : Nat} {v : Value} (h : w.cell? ⟨b, o, none⟩ = some v) : b < w.heap.size := by
 rcases Nat.lt_or_ge b w.heap.size with hl | hl
 · exact hl
 · simp [World.cell?, Array.getElem?_eq_none hl] at h

theorem MInv.memLt (I : MInv E H ρ hp N w) {b o : Nat} (h : w.heap.size ≤ b) : H b o = none := by
 cases hv : H b o with
 | none => rfl
 | some v => exact absurd (lt_of_cell (I.mem b o v hv)) (by omega)

theorem MInv.later (I : MInv E H ρ hp N w) {N' : Nat → Prop} (h : ∀ l, N' l → N l) : MInv E H ρ hp N' w :=
 { I with bound := fun l hl => I.bound l (h l hl) }
def but (N : Nat → Prop) (k : Nat) : Nat → Prop := fun l => N l ∧ l ≠ k ∧ l % STRIDE ≠ k

theorem but_le {N : Nat → Prop} {k : Nat} : ∀ l, but N k l → N l := fun _ h => h.1

def setLab (ρ : Lab) (l : Nat) (v : Value) : Lab := fun k => if k = l then some v else ρ k
theorem setLab_le {l : Nat} {v : Value} (h : ρ l = none) : ρ.le (setLab ρ l v) := by
 intro k u hk
 unfold setLab
 split
 · rename_i e; subst e; rw [h] at hk; cases hk
 · exact hk

theorem gone_of_none (I : MInv E H ρ hp N w) {l : Nat} (h : ρ l = none) : look l hp = .gone := by
 have := I.objs l
 cases hl : look l hp with
 | gone => rfl
 | cells cs ro => rw [hl] at this; obtain ⟨b, c, ty, h1, _⟩ := this; rw [h] at h1; cases h1
 | tok e s => rw [hl] at this; obtain ⟨v, n, xs, h1, _⟩ := this; rw [h] at h1; cases h1
 | row e s t xs ro => rw [hl] at this; obtain ⟨v, h1, _⟩ := this; rw [h] at h1; cases h1
 | mp ka kt va vt es => rw [hl] at this; obtain ⟨r, en, clock, h1, _⟩ := this; rw [h] at h1; cases h1
 | mpi ka kt va vt es g => rw [hl] at this; obtain ⟨h1, _⟩ := this; rw [h] at h1; cases h1
 | it ka kt va vt es c g => rw [hl] at this; obtain ⟨b, s, h1, _⟩ := this; rw [h] at h1; cases h1

theorem ownBlock_blk (v : Value) : ∀ g, v.ownBlock = some g → blk v = some g := by
 intro g h
 cases v <;> simp [Value.ownBlock] at h
 rename_i a n c
 cases a <;> simp at h
 simp [blk, h]

theorem objRel_mono {H' : Mem} {ρ' : Lab} (hH : H.le H') (hρ : ρ.le ρ') {w' : World} {l : Nat} {o : SObj} (h : objRel H ρ w l o)
 (hw : ∀ b, baseOf ρ l = some b → w'.heap[b]? = w.heap[b]?) (hnew : ∀ b, baseOf ρ l = some b → ∀ o, H' b o = H b o) : objRel H' ρ' w' l o := by
 cases o with
 | gone => trivial
 | cells cs ro =>
   obtain ⟨b, c, ty, h1, h2, h3, h4⟩ := h
   have hb : baseOf ρ l = some b := by simp [baseOf, h1, blk]
   exact ⟨b, c, ty, hρ _ _ h1, by rw [hw b hb]; exact h2, scsRel_mono hH hρ h3, fun hr o => by rw [hnew b hb]; exact h4 hr o⟩
 | tok e s =>
   obtain ⟨v, n, xs, h1, h2, h3⟩ := h
   refine ⟨v, n, xs, hρ _ _ h1, ⟨h2.1, ?_⟩, fun g hg o ho => ?_⟩
   · rcases h2.2 with hn | ⟨g, cap, cur, f, hv, hb0, hg, rest⟩
     · exact .inl hn
     · have hb : baseOf ρ l = some g := by subst hv; simp [baseOf, h1, blk]
       exact .inr ⟨g, cap, cur, f, hv, hb0, by rw [hw g hb]; exact hg, rest⟩
   · have hb : baseOf ρ l = some g := by simp [baseOf, h1, ownBlock_blk v g hg]
     rw [hnew g hb]; exact h3 g hg o ho
 | row e s t xs ro =>
   obtain ⟨v, h1, hs, h2⟩ := h
   refine ⟨v, hρ _ _ h1, hs, ?_⟩
   rcases h2 with hn | ⟨g, cap, cur, f, hv, hb0, hg, h4, h5, h6, h7, h8⟩
   · exact .inl hn
   · have hb : baseOf ρ l = some g := by subst hv; simp [baseOf, h1, blk]
     exact .inr ⟨g, cap, cur, f, hv, hb0, by rw [hw g hb]; exact hg, h4, h5, h6, rowRel_mono (eltRel_mono hH t) h7, fun hr o => by rw [hnew g hb]; exact h8 hr o⟩
 | mp ka kt va vt es =>
   obtain ⟨r, en, clock, h1, h2, h3, h4, h5, h6⟩ := h
   have hb : baseOf ρ l = some r := by simp [baseOf, h1, blk]
   exact ⟨r, en, clock, hρ _ _ h1, by rw [hw r hb]; exact h2, entsRel_mono hH h3, h4, h5, fun o => by rw [hnew r hb]; exact h6 o⟩
 | mpi ka kt va vt es g =>
   obtain ⟨h1, h2, h3, h4, h5, h6⟩ := h
   have hb : baseOf ρ l = some g.r := by simp [baseOf, h1, blk]
   exact ⟨hρ _ _ h1, by rw [hw _ hb]; exact h2, entsRel_mono hH h3, h4, h5, fun o => by rw [hnew _ hb]; exact h6 o⟩
 | it ka kt va vt es c g =>
   obtain ⟨b, s, h1, h2, ⟨fs, h3, h4⟩, h5, h6⟩ := h
   have hb : baseOf ρ l = some b := by simp [baseOf, h1, blk]
   exact ⟨b, s, hρ _ _ h1, by rw [hw b hb]; exact h2, ⟨fs, h3, entRel_mono hH h4⟩, curRel_mono hH h5, fun o => by rw [hnew b hb]; exact h6 o⟩

theorem base_lt (I : MInv E H ρ hp N w) {l b : Nat} (hl : look l hp ≠ .gone) (hb : baseOf ρ l = some b) : b < w.heap.size := by
 have := I.objs l
 cases ho : look l hp with
 | gone => exact absurd ho hl
 | cells cs ro =>
   rw [ho] at this; obtain ⟨b', c, ty, h1, h2, _⟩ := this
   have : b' = b := by simpa [baseOf, h1, blk] using hb
   subst this
   exact (Array.getElem?_eq_some_iff.1 h2).1
 | tok e s =>
   rw [ho] at this; obtain ⟨v, n, xs, h1, h2, _⟩ := this
   rcases h2.2 with ⟨rfl, _⟩ | ⟨g, cap, cur, f, rfl, _, hg, _⟩
   · simp [baseOf, h1, blk] at hb
   · have : g = b := by simpa [baseOf, h1, blk] using hb
     subst this
     exact (Array.getElem?_eq_some_iff.1 hg).1
 | row e s t xs ro =>
   rw [ho] at this; obtain ⟨v, h1, _, h2⟩ := this
   rcases h2 with ⟨rfl, _⟩ | ⟨g, cap, cur, f, rfl, _, hg, _⟩
   · simp [baseOf, h1, blk] at hb
   · have : g = b := by simpa [baseOf, h1, blk] using hb
     subst this
     exact (Array.getElem?_eq_some_iff.1 hg).1
 | mp ka kt va vt es =>
   rw [ho] at this; obtain ⟨r, en, clock, h1, h2, _⟩ := this
   have : r = b := by simpa [baseOf, h1, blk] using hb
   subst this
   exact (Array.getElem?_eq_some_iff.1 h2).1
 | mpi ka kt va vt es g =>
   rw [ho] at this; obtain ⟨h1, h2, _⟩ := this
   have : g.r = b := by simpa [baseOf, h1, blk] using hb
   subst this
   exact (Array.getElem?_eq_some_iff.1 h2).1
 | it ka kt va vt es c g =>
   rw [ho] at this; obtain ⟨b', s, h1, h2, _⟩ := this
   have : b' = b := by simpa [baseOf, h1, blk] using hb
   subst this
   exact (Array.getElem?_eq_some_iff.1 h2).1

theorem baseOf_setLab {l k : Nat} {v : Value} : baseOf (setLab ρ l v) k = if k = l then blk v else baseOf ρ k := by
 unfold baseOf setLab
 split <;> simp

structure Same (w w' : World) : Prop where
 heap : ∀ b, b < w.heap.size → w'.heap[b]? = w.heap[b]?
 size : w.heap.size ≤ w'.heap.size
 os : w'.os = w.os
 tape : w'.tape = w.tape
 output : outOk w w'
theorem Same.refl (w : World) : Same w w := ⟨fun _ _ => rfl, Nat.le_refl _, rfl, rfl, rfl, Nat.le_refl _⟩
theorem Same.alloc (w : World) (o : Obj) : Same w (w.alloc o) := ⟨fun b hb => heap_alloc_old w o hb, by simp, rfl, rfl, rfl, Nat.le_refl _⟩
theorem Same.drew (w : World) : Same w w.drew := ⟨fun _ _ => rfl, Nat.le_refl _, rfl, rfl, rfl, Nat.le_succ _⟩
theorem Same.trans {a b c : World} (h : Same a b) (h' : Same b c) : Same a c :=
 ⟨fun i hi => (h'.heap i (Nat.lt_of_lt_of_le hi h.size)).trans (h.heap i hi), Nat.le_trans h.size h'.size, h'.os.trans h.os, h'.tape.trans h.tape, h'.output.trans h.output⟩
theorem Same.cell {w w' : World} (h : Same w w') {b o : Nat} {v : Value} (hc : w.cell? ⟨b, o, none⟩ = some v) : w'.cell? ⟨b, o, none⟩ = some v := by
 have := h.heap b (lt_of_cell hc)
 unfold World.cell? at *
 simp only at *
 rw [this]; exact hc

theorem MInv.grown (I : MInv E H ρ hp N w) {w' : World} (hs : Same w w') {H' : Mem} (hH : H.le H') (hmem : ∀ b o v, H' b o = some v → w'.cell? ⟨b, o, none⟩ = some v)
 (hnew : ∀ b, b < w.heap.size → ∀ o, H' b o = H b o) : MInv E H' ρ hp N w' where
 mem := hmem
 objs l := by
  by_cases hl : look l hp = .gone
  · rw [hl]; trivial
  · exact objRel_mono hH (Lab.le_refl ρ) (I.objs l) (fun b hb => hs.heap b (base_lt I hl hb)) (fun b hb => hnew b (base_lt I hl hb))
 sep := I.sep
 fresh := I.fresh
 bound := I.bound
 keepH := Mem.le_trans I.keepH hH
 newH b o h := by
  by_cases hb : b < w.heap.size
  · rw [hnew b hb] at h; exact I.newH b o h
  · exact .inr (.inl (by have := I.grow; omega))
 frame b hb ho := (hs.heap b (Nat.lt_of_lt_of_le hb I.grow)).trans (I.frame b hb ho)
 grow := Nat.le_trans I.grow hs.size
 os := hs.os.trans I.os
 tape := hs.tape.trans I.tape
 output := hs.output.trans I.output
 root := I.root

theorem MInv.same (I : MInv E H ρ hp N w) {w' : World} (hs : Same w w') : MInv E H ρ hp N w' :=
 I.grown hs (Mem.le_refl H) (fun b o v h => hs.cell (I.mem b o v h)) (fun _ _ _ => rfl)

theorem MInv.label (I : MInv E H ρ hp N w) (hN : N lab) {v : Value} {o : SObj} (ho : objRel H (setLab ρ lab v) w lab o)
 (hb : ∀ b, blk v = some b → (E.w0.heap.size ≤ b ∨ b ∈ E.own0) ∧ ∀ l, look l hp ≠ .gone → baseOf ρ l ≠ some b) :
 MInv E H (setLab ρ lab v) (put lab o hp) (but N lab) w where
 mem := I.mem
 objs l := by
  rw [look_put]
  split
  · rename_i e; subst e; exact ho
  · exact objRel_mono (Mem.le_refl H) (setLab_le (I.bound lab hN)) (I.objs l) (fun _ _ => rfl) (fun _ _ _ => rfl)
 sep l l' b h1 h2 hne e1 := by
  rw [look_put] at h1 h2
  rw [baseOf_setLab] at e1 ⊢
  by_cases a1 : l = lab
  · rw [if_pos a1] at e1
    have a2 : l' ≠ lab := fun e => hne (a1.trans e.symm)
    rw [if_neg a2] at h2 ⊢
    exact (hb b e1).2 l' h2
  · rw [if_neg a1] at h1 e1
    by_cases a2 : l' = lab
    · rw [if_pos a2]
      intro e
      exact (hb b e).2 l h1 e1
    · rw [if_neg a2] at h2 ⊢
      exact I.sep l l' b h1 h2 hne e1
 fresh l b h1 e1 := by
  rw [look_put] at h1
  rw [baseOf_setLab] at e1
  by_cases a1 : l = lab
  · rw [if_pos a1] at e1; exact (hb b e1).1
  · rw [if_neg a1] at h1 e1; exact I.fresh l b h1 e1
 bound l hl := by
  unfold setLab
  rw [if_neg hl.2.1]
  exact I.bound l hl.1
 keepH := I.keepH
 newH := I.newH
 frame := I.frame
 grow := I.grow
 os := I.os
 tape := I.tape
 output := I.output
 root := fun l v hv => setLab_le (I.bound lab hN) l v (I.root l v hv)

theorem MInv.alloc (I : MInv E H ρ hp N w) (hN : N lab) {cs : List SC} {c : Array Value} (ty : TypeId) (h : scsRel H ρ cs c.toList) :
 MInv E H (setLab ρ lab (.pointer (some ⟨w.heap.size, 0, none⟩))) (put lab (.cells cs false) hp) (but N lab) (w.alloc (.cells c ty)) ∧
 ρ.le (setLab ρ lab (.pointer (some ⟨w.heap.size, 0, none⟩))) := by
 have hle := setLab_le (v := .pointer (some ⟨w.heap.size, 0, none⟩)) (I.bound lab hN)
 refine ⟨(I.same (Same.alloc w _)).label hN ?_ ?_, hle⟩
 · exact ⟨w.heap.size, c, ty, by simp [setLab], heap_alloc_new w _, scsRel_mono (Mem.le_refl H) hle h, fun _ o => I.memLt (Nat.le_refl _)⟩
 · intro b hb
   simp [blk] at hb
   subst hb
   exact ⟨.inl I.grow, fun l hl e => Nat.lt_irrefl _ (base_lt I hl e)⟩

def extH (H : Mem) (b n : Nat) (c : List Value) : Mem := fun b' o => if b' = b ∧ o < n then c[o]? else H b' o

theorem MInv.store (I : MInv E H ρ hp N w) {l b : Nat} {cs cs' : List SC} {c c' : Array Value} {ty : TypeId} (hl : look l hp = .cells cs false)
 (hρ : ρ l = some (.pointer (some ⟨b, 0, none⟩))) (hb : w.heap[b]? = some (.cells c ty (0, 0))) (hc : scsRel H ρ cs' c'.toList) :
 MInv E H ρ (put l (.cells cs' false) hp) N (w.setRow b c') := by
 have hbase : baseOf ρ l = some b := by simp [baseOf, hρ, blk]
 have hne : look l hp ≠ .gone := by rw [hl]; simp
 have hH : ∀ o, H b o = none := by
  have := I.objs l
  rw [hl] at this
  obtain ⟨b', _, _, h1, _, _, h4⟩ := this
  rw [hρ] at h1
  simp at h1; subst h1
  exact h4 rfl
 have hoth : ∀ k, k ≠ b → (w.setRow b c').heap[k]? = w.heap[k]? := fun k hk => setRow_other w b k c' hk
 have alive : ∀ k, look k (put l (.cells cs' false) hp) ≠ .gone → look k hp ≠ .gone := by
  intro k hk
  rw [look_put] at hk
  split at hk
  · rename_i e; subst e; exact hne
  · exact hk
 exact {
  mem := fun b' o v hv => by
   have hne : b' ≠ b := fun e => by subst e; rw [hH] at hv; cases hv
   have := I.mem b' o v hv
   unfold World.cell? at *
   simp only at *
   rw [hoth b' hne]; exact this
  objs := fun k => by
   rw [look_put]
   split
   · rename_i e; subst e
     exact ⟨b, c', ty, hρ, setRow_heap w b c _ ty _ hb, hc, fun _ => hH⟩
   · rename_i hk
     by_cases hg : look k hp = .gone
     · rw [hg]; trivial
     · exact objRel_mono (Mem.le_refl H) (Lab.le_refl ρ) (I.objs k) (fun b' e => hoth b' (fun eb => by subst eb; exact I.sep k l b' hg hne hk e hbase)) (fun _ _ _ => rfl)
  sep := fun k k' b' h1 h2 => I.sep k k' b' (alive k h1) (alive k' h2)
  fresh := fun k b' h1 => I.fresh k b' (alive k h1)
  bound := I.bound
  keepH := I.keepH
  newH := I.newH
  frame := fun b' hb' ho => by
   have hne : b' ≠ b := fun e => by
    subst e
    rcases I.fresh l b' hne hbase with h | h
    · omega
    · exact ho h
   rw [hoth b' hne]; exact I.frame b' hb' ho
  grow := by simpa using I.grow
  os := I.os
  tape := I.tape
  output := I.output
  root := I.root }

theorem MInv.rewrite (I : MInv E H ρ hp N w) {l b : Nat} {o' : SObj} {c c' : Array Value} {ty : TypeId} {f : Nat × Nat} (hne : look l hp ≠ .gone)
 (hbase : baseOf ρ l = some b) (_hb : w.heap[b]? = some (.cells c ty f)) (hH : ∀ o, H b o = none) (ho : objRel H ρ (w.setRow b c') l o') :
 MInv E H ρ (put l o' hp) N (w.setRow b c') := by
 have hoth : ∀ k, k ≠ b → (w.setRow b c').heap[k]? = w.heap[k]? := fun k hk => setRow_other w b k c' hk
 have alive : ∀ k, look k (put l o' hp) ≠ .gone → look k hp ≠ .gone := by
  intro k hk
  rw [look_put] at hk
  split at hk
  · rename_i e; subst e; exact hne
  · exact hk
 exact {
  mem := fun b' o v hv => by
   have hne : b' ≠ b := fun e => by subst e; rw [hH] at hv; cases hv
   have := I.mem b' o v hv
   unfold World.cell? at *
   simp only at *
   rw [hoth b' hne]; exact this
  objs := fun k => by
   rw [look_put]
   split
   · rename_i e; subst e
     exact ho
   · rename_i hk
     by_cases hg : look k hp = .gone
     · rw [hg]; trivial
     · exact objRel_mono (Mem.le_refl H) (Lab.le_refl ρ) (I.objs k) (fun b' e => hoth b' (fun eb => by subst eb; exact I.sep k l b' hg hne hk e hbase)) (fun _ _ _ => rfl)
  sep := fun k k' b' h1 h2 => I.sep k k' b' (alive k h1) (alive k' h2)
  fresh := fun k b' h1 => I.fresh k b' (alive k h1)
  bound := I.bound
  keepH := I.keepH
  newH := I.newH
  frame := fun b' hb' hno => by
   have hne : b' ≠ b := fun e => by
    subst e
    rcases I.fresh l b' hne hbase with h | h
    · omega
    · exact hno h
   rw [hoth b' hne]; exact I.frame b' hb' hno
  grow := by simpa using I.grow
  os := I.os
  tape := I.tape
  output := I.output
  root := I.root }

theorem MInv.still (I : MInv E H ρ hp N w) {l b : Nat} {cs : List SC} {ro : Bool} {c : Array Value} {ty : TypeId} (hl : look l hp = .cells cs ro)
 (hρ : ρ l = some (.pointer (some ⟨b, 0, none⟩))) (hb : w.heap[b]? = some (.cells c ty (0, 0))) :
 H.le (extH H b c.size c.toList) ∧ MInv E (extH H b c.size c.toList) ρ (put l (.cells cs true) hp) N w := by
 have hbase : baseOf ρ l = some b := by simp [baseOf, hρ, blk]
 have hne : look l hp ≠ .gone := by rw [hl]; simp
 have hle : H.le (extH H b c.size c.toList) := by
  intro b' o v hv
  unfold extH
  split
  · rename_i e
    obtain ⟨rfl, ho⟩ := e
    have := I.mem _ _ _ hv
    simpa [World.cell?, hb] using this
  · exact hv
 have alive : ∀ k, look k (put l (.cells cs true) hp) ≠ .gone → look k hp ≠ .gone := by
  intro k hk
  rw [look_put] at hk
  split at hk
  · rename_i e; subst e; exact hne
  · exact hk
 refine ⟨hle, ?_⟩
 exact {
  mem := fun b' o v hv => by
   unfold extH at hv
   split at hv
   · rename_i e
     obtain ⟨rfl, ho⟩ := e
     simpa [World.cell?, hb] using hv
   · exact I.mem _ _ _ hv
  objs := fun k => by
   rw [look_put]
   split
   · rename_i e; subst e
     have := I.objs k
     rw [hl] at this
     obtain ⟨b', c', ty', h1, h2, h3, _⟩ := this
     exact ⟨b', c', ty', h1, h2, scsRel_mono hle (Lab.le_refl ρ) h3, fun h => by cases h⟩
   · rename_i hk
     by_cases hg : look k hp = .gone
     · rw [hg]; trivial
     · refine objRel_mono hle (Lab.le_refl ρ) (I.objs k) (fun _ _ => rfl) (fun b' e o => ?_)
       have : b' ≠ b := fun eb => by subst eb; exact I.sep k l b' hg hne hk e hbase
       simp [extH, this]
  sep := fun k k' b' h1 h2 => I.sep k k' b' (alive k h1) (alive k' h2)
  fresh := fun k b' h1 => I.fresh k b' (alive k h1)
  bound := I.bound
  keepH := Mem.le_trans I.keepH hle
  newH := fun b' o h => by
   by_cases e : b' = b
   · subst e
     rcases I.fresh l b' hne hbase with h | h
     · exact .inr (.inl h)
     · exact .inr (.inr h)
   · have : extH H b c.size c.toList b' o = H b' o := by simp [extH, e]
     rw [this] at h; exact I.newH b' o h
  frame := I.frame
  grow := I.grow
  os := I.os
  tape := I.tape
  output := I.output
  root := I.root }

theorem MInv.change (I : MInv E H ρ hp N w) {l b : Nat} {o' : SObj} {w' : World} (hne : look l hp ≠ .gone) (hbase : baseOf ρ l = some b) (hH : ∀ o, H b o = none)
 (hoth : ∀ k, k ≠ b → w'.heap[k]? = w.heap[k]?) (hsz : w'.heap.size = w.heap.size) (hos : w'.os = w.os) (htape : w'.tape = w.tape) (hout : w'.output = w.output) (ho : objRel H ρ w' l o') (hdr : w'.drawn = w.drawn := by rfl) :
 MInv E H ρ (put l o' hp) N w' := by
 have alive : ∀ k, look k (put l o' hp) ≠ .gone → look k hp ≠ .gone := by
  intro k hk
  rw [look_put] at hk
  split at hk
  · rename_i e; subst e; exact hne
  · exact hk
 exact {
  mem := fun b' o v hv => by
   have hne : b' ≠ b := fun e => by subst e; rw [hH] at hv; cases hv
   have := I.mem b' o v hv
   unfold World.cell? at *
   simp only at *
   rw [hoth b' hne]; exact this
  objs := fun k => by
   rw [look_put]
   split
   · rename_i e; subst e
     exact ho
   · rename_i hk
     by_cases hg : look k hp = .gone
     · rw [hg]; trivial
     · exact objRel_mono (Mem.le_refl H) (Lab.le_refl ρ) (I.objs k) (fun b' e => hoth b' (fun eb => by subst eb; exact I.sep k l b' hg hne hk e hbase)) (fun _ _ _ => rfl)
  sep := fun k k' b' h1 h2 => I.sep k k' b' (alive k h1) (alive k' h2)
  fresh := fun k b' h1 => I.fresh k b' (alive k h1)
  bound := I.bound
  keepH := I.keepH
  newH := I.newH
  frame := fun b' hb' hno => by
   have hne : b' ≠ b := fun e => by
    subst e
    rcases I.fresh l b' hne hbase with h | h
    · omega
    · exact hno h
   rw [hoth b' hne]; exact I.frame b' hb' hno
  grow := by rw [hsz]; exact I.grow
  os := hos.trans I.os
  tape := htape.trans I.tape
  output := ⟨hout.trans I.output.1, hdr ▸ I.output.2⟩
  root := I.root }

theorem MInv.ext_le (I : MInv E H ρ hp N w) {b n : Nat} {c : Array Value} {ty : TypeId} {f : Nat × Nat} (hb : w.heap[b]? = some (.cells c ty f)) : H.le (extH H b n c.toList) := by
 intro b' o v hv
 unfold extH
 split
 · rename_i e
   obtain ⟨rfl, ho⟩ := e
   have := I.mem _ _ _ hv
   simpa [World.cell?, hb] using this
 · exact hv
theorem MInv.hold (I : MInv E H ρ hp N w) {l b n : Nat} {o' : SObj} {c : Array Value} {ty : TypeId} {f : Nat × Nat} (hne : look l hp ≠ .gone)
 (hbase : baseOf ρ l = some b) (hb : w.heap[b]? = some (.cells c ty f)) (ho : objRel (extH H b n c.toList) ρ w l o') : MInv E (extH H b n c.toList) ρ (put l o' hp) N w := by
 have hle := I.ext_le (n := n) hb
 have alive : ∀ k, look k (put l o' hp) ≠ .gone → look k hp ≠ .gone := by
  intro k hk
  rw [look_put] at hk
  split at hk
  · rename_i e; subst e; exact hne
  · exact hk
 exact {
  mem := fun b' o v hv => by
   unfold extH at hv
   split at hv
   · rename_i e
     obtain ⟨rfl, ho⟩ := e
     simpa [World.cell?, hb] using hv
   · exact I.mem _ _ _ hv
  objs := fun k => by
   rw [look_put]
   split
   · rename_i e; subst e
     exact ho
   · rename_i hk
     by_cases hg : look k hp = .gone
     · rw [hg]; trivial
     · refine objRel_mono hle (Lab.le_refl ρ) (I.objs k) (fun _ _ => rfl) (fun b' e o => ?_)
       have : b' ≠ b := fun eb => by subst eb; exact I.sep k l b' hg hne hk e hbase
       simp [extH, this]
  sep := fun k k' b' h1 h2 => I.sep k k' b' (alive k h1) (alive k' h2)
  fresh := fun k b' h1 => I.fresh k b' (alive k h1)
  bound := I.bound
  keepH := Mem.le_trans I.keepH hle
  newH := fun b' o h => by
   by_cases e : b' = b
   · subst e
     rcases I.fresh l b' hne hbase with h | h
     · exact .inr (.inl h)
     · exact .inr (.inr h)
   · have : extH H b n c.toList b' o = H b' o := by simp [extH, e]
     rw [this] at h; exact I.newH b' o h
  frame := I.frame
  grow := I.grow
  os := I.os
  tape := I.tape
  output := I.output
  root := I.root }

theorem MInv.kill (I : MInv E H ρ hp N w) (k : Nat) : MInv E H ρ (put k .gone hp) N w := by
 have alive : ∀ l, look l (put k .gone hp) ≠ .gone → look l hp ≠ .gone := by
  intro l hl
  rw [look_put] at hl
  split at hl
  · exact absurd rfl hl
  · exact hl
 exact { I with
  objs := fun l => by
   rw [look_put]
   split
   · trivial
   · exact I.objs l
  sep := fun l l' b h1 h2 => I.sep l l' b (alive l h1) (alive l' h2)
  fresh := fun l b h1 => I.fresh l b (alive l h1) }

theorem MInv.alike (I : MInv E H ρ hp N w) {hp' : List (Nat × SObj)} (h : ∀ l, look l hp' = look l hp) : MInv E H ρ hp' N w :=
 { I with
  objs := fun l => by rw [h l]; exact I.objs l
  sep := fun l l' b h1 h2 => I.sep l l' b (by rw [← h l]; exact h1) (by rw [← h l']; exact h2)
  fresh := fun l b h1 => I.fresh l b (by rw [← h l]; exact h1) }

theorem freeze_heap (w : World) (g n : Nat) {cur : Array Value} {ty : TypeId} {f : Nat × Nat} (hb : w.heap[g]? = some (.cells cur ty f)) :
 (∃ f', (w.freeze ⟨g, n, none⟩ 1).heap[g]? = some (.cells cur ty f')) ∧ (∀ k, k ≠ g → (w.freeze ⟨g, n, none⟩ 1).heap[k]? = w.heap[k]?) ∧ (w.freeze ⟨g, n, none⟩ 1).heap.size = w.heap.size := by
 unfold World.freeze
 rw [if_neg (by decide)]
 refine ⟨?_, fun k hk => ?_, by simp⟩
 · simp only [Array.getElem?_modify, hb]
   obtain ⟨lo, hi⟩ := f
   exact ⟨_, rfl⟩
 · simp only [Array.getElem?_modify]
   rw [if_neg (fun e => hk e.symm)]
theorem MInv.mark (I : MInv E H ρ hp N w) {g n : Nat} {cur : Array Value} {ty : TypeId} {f : Nat × Nat} (hb : w.heap[g]? = some (.cells cur ty f))
 (hfree : ∀ l, look l hp ≠ .gone → baseOf ρ l ≠ some g) (hfresh : E.w0.heap.size ≤ g ∨ g ∈ E.own0) : MInv E H ρ hp N (w.freeze ⟨g, n, none⟩ 1) := by
 obtain ⟨⟨f', hself⟩, hoth, hsize⟩ := freeze_heap w g n hb
 have hos : (w.freeze ⟨g, n, none⟩ 1).os = w.os ∧ (w.freeze ⟨g, n, none⟩ 1).tape = w.tape ∧ outOk w (w.freeze ⟨g, n, none⟩ 1) := by
  unfold World.freeze
  rw [if_neg (by decide)]
  exact ⟨rfl, rfl, rfl, Nat.le_refl _⟩
 exact {
  mem := fun b' o v hv => by
   have h := I.mem b' o v hv
   by_cases e : b' = g
   · subst e
     unfold World.cell? at h ⊢
     simp only [hb] at h
     simp only [hself]
     exact h
   · unfold World.cell? at *
     simp only at *
     rw [hoth b' e]; exact h
  objs := fun k => by
   by_cases hg : look k hp = .gone
   · rw [hg]; trivial
   · exact objRel_mono (Mem.le_refl H) (Lab.le_refl ρ) (I.objs k) (fun b' e => hoth b' (fun eb => by subst eb; exact hfree k hg e)) (fun b' e o => rfl)
  sep := I.sep
  fresh := I.fresh
  bound := I.bound
  keepH := I.keepH
  newH := I.newH
  frame := fun b' hb' ho => by
   have hne : b' ≠ g := fun e => by
    subst e
    rcases hfresh with h | h
    · omega
    · exact ho h
   rw [hoth b' hne]; exact I.frame b' hb' ho
  grow := by rw [hsize]; exact I.grow
  os := hos.1.trans I.os
  tape := hos.2.1.trans I.tape
  output := hos.2.2.trans I.output
  root := I.root }

theorem MInv.write (I : MInv E H ρ hp N w) {g m : Nat} {cur cur' : Array Value} {ty : TypeId} {f : Nat × Nat} (hb : w.heap[g]? = some (.cells cur ty f))
 (hfree : ∀ l, look l hp ≠ .gone → baseOf ρ l ≠ some g) (hfresh : E.w0.heap.size ≤ g ∨ g ∈ E.own0)
 (hkeep : ∀ o v, H g o = some v → cur'[o]? = some v) :
 H.le (extH H g m cur'.toList) ∧ MInv E (extH H g m cur'.toList) ρ hp N (w.setRow g cur') := by
 have hle : H.le (extH H g m cur'.toList) := by
  intro b' o v hv
  unfold extH
  split
  · rename_i e
    obtain ⟨rfl, ho⟩ := e
    simpa using hkeep o v hv
  · exact hv
 have hoth : ∀ k, k ≠ g → (w.setRow g cur').heap[k]? = w.heap[k]? := fun k hk => setRow_other w g k cur' hk
 have hself := setRow_heap w g cur cur' ty f hb
 refine ⟨hle, ?_⟩
 exact {
  mem := fun b' o v hv => by
   unfold extH at hv
   split at hv
   · rename_i e
     obtain ⟨rfl, ho⟩ := e
     simpa [World.cell?, hself] using hv
   · by_cases e : b' = g
     · subst e
       simpa [World.cell?, hself] using hkeep o v hv
     · have := I.mem b' o v hv
       unfold World.cell? at *
       simp only at *
       rw [hoth b' e]; exact this
  objs := fun k => by
   by_cases hg : look k hp = .gone
   · rw [hg]; trivial
   · refine objRel_mono hle (Lab.le_refl ρ) (I.objs k) (fun b' e => hoth b' (fun eb => by subst eb; exact hfree k hg e)) (fun b' e o => ?_)
     have : b' ≠ g := fun eb => by subst eb; exact hfree k hg e
     simp [extH, this]
  sep := I.sep
  fresh := I.fresh
  bound := I.bound
  keepH := Mem.le_trans I.keepH hle
  newH := fun b' o h => by
   by_cases e : b' = g
   · subst e; exact .inr hfresh
   · have : extH H g m cur'.toList b' o = H b' o := by simp [extH, e]
     rw [this] at h; exact I.newH b' o h
  frame := fun b' hb' ho => by
   have hne : b' ≠ g := fun e => by
    subst e
    rcases hfresh with h | h
    · omega
    · exact ho h
   rw [hoth b' hne]; exact I.frame b' hb' ho
  grow := by simpa using I.grow
  os := I.os
  tape := I.tape
  output := I.output
  root := I.root }

theorem cellsIn_ext {g m : Nat} {c xs : List Value} (hm : xs.length ≤ m) (h : ∀ i, i < xs.length → c[i]? = xs[i]?) : cellsIn (extH H g m c) g 0 xs := by
 intro i hi
 unfold extH
 rw [if_pos ⟨rfl, by omega⟩, Nat.zero_add]
 exact h i hi

theorem MInv.own (I : MInv E H ρ hp N w) (hN : N lab) {n cap s : Nat} {e : TypeId} {c : Array Value} {f : Nat × Nat} (hn : n ≤ cap) (hcap : cap ≤ maxLen) (hc : c.size = cap * s) (hfar : farF f c.size) :
 H.le (extH H w.heap.size (n * s) c.toList) ∧ ρ.le (setLab ρ lab (.slice (some ⟨w.heap.size, 0, none⟩) n cap)) ∧
 MInv E (extH H w.heap.size (n * s) c.toList) (setLab ρ lab (.slice (some ⟨w.heap.size, 0, none⟩) n cap)) (put lab (.tok e s) hp) (but N lab) (w.alloc (.cells c e f)) ∧
 cellsIn (extH H w.heap.size (n * s) c.toList) w.heap.size 0 (c.toList.take (n * s)) := by
 have hle : H.le (extH H w.heap.size (n * s) c.toList) := by
  intro b' o v hv
  unfold extH
  split
  · rename_i e
    obtain ⟨rfl, ho⟩ := e
    rw [I.memLt (Nat.le_refl _)] at hv; cases hv
  · exact hv
 have hnew := heap_alloc_new w (.cells c e f)
 have I1 : MInv E (extH H w.heap.size (n * s) c.toList) ρ hp N (w.alloc (.cells c e f)) := by
  refine I.grown (Same.alloc w _) hle (fun b o v hv => ?_) (fun b hb o => ?_)
  · unfold extH at hv
    split at hv
    · rename_i e
      obtain ⟨rfl, ho⟩ := e
      show (match (w.alloc (.cells c e f)).heap[w.heap.size]? with | some (.cells c _ _) => _ | _ => _) = _
      rw [hnew]; simpa using hv
    · exact (Same.alloc w _).cell (I.mem b o v hv)
  · have : b ≠ w.heap.size := by omega
    simp [extH, this]
 refine ⟨hle, setLab_le (I.bound lab hN), I1.label hN ?_ ?_, ?_⟩
 · refine ⟨_, n, c.toList.take (n * s), by simp [setLab], ⟨?_, .inr ⟨w.heap.size, cap, c, f, rfl, hfar, hnew, hn, hcap, hc, rfl⟩⟩, ?_⟩
   · rw [List.length_take, Array.length_toList, hc, Nat.min_eq_left (Nat.mul_le_mul_right _ hn)]
   · intro g hg o ho
     simp [Value.ownBlock] at hg
     subst hg
     unfold extH
     rw [if_neg (by omega)]
     exact I.memLt (Nat.le_refl _)
 · intro b hb
   simp [blk] at hb
   subst hb
   exact ⟨.inl I.grow, fun l hl e => Nat.lt_irrefl _ (base_lt I hl e)⟩
 · refine cellsIn_ext (by simp; omega) (fun i hi => ?_)
   simp at hi
   rw [List.getElem?_take, if_pos (by omega)]

theorem MInv.sub (I : MInv E H ρ hp N w) {hp' : List (Nat × SObj)} (h : ∀ l, look l hp' = look l hp ∨ look l hp' = .gone) : MInv E H ρ hp' N w := by
 have alive : ∀ l, look l hp' ≠ .gone → look l hp ≠ .gone := fun l hl => by
  rcases h l with e | e
  · rw [← e]; exact hl
  · exact absurd e hl
 exact { I with
  objs := fun l => by
   rcases h l with e | e
   · rw [e]; exact I.objs l
   · rw [e]; trivial
  sep := fun l l' b h1 h2 => I.sep l l' b (alive l h1) (alive l' h2)
  fresh := fun l b h1 => I.fresh l b (alive l h1) }
end Go.Vse
