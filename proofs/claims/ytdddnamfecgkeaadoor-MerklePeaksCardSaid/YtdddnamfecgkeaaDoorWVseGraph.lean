/- A function's contract over a graph of blocks, out of its body. -/
import Derived.Test.YtdddnamfecgkeaaDoorWVseWalk
namespace Go.Vse
variable {P : Program} {E : Env} {H : Mem} {ρ ρ' : Lab} {hp : List (Nat × SObj)} {lab : Nat} {N : Nat → Prop} {w : World} {S : SState} {a : Act}

def okObj : SObj → Prop
 | .cells cs _ => okSCs cs
 | .row _ _ t xs _ => xs.length ≤ maxLen ∧ ∀ x ∈ xs, okT t x
 | .mp _ _ _ _ es => (es.map (·.1)).Nodup
 | _ => True
def okHp : List (Nat × SObj) → Prop
 | [] => True
 | (_, o) :: r => okObj o ∧ okHp r
theorem okObj_of {l : Nat} {o : SObj} (h : objRel H ρ w l o) : okObj o := by
 cases o with
 | cells cs ro =>
   obtain ⟨b, c, ty, _, _, h, _⟩ := h
   exact okSCs_of h
 | row e s t xs ro =>
   obtain ⟨v, _, _, h⟩ := h
   rcases h with ⟨_, rfl⟩ | ⟨g, cap, cur, f, _, _, _, h1, h2, _, h3, _⟩
   · exact ⟨Nat.zero_le _, fun x hx => by cases hx⟩
   · exact ⟨Nat.le_trans h1 h2, row_all (okT_of t) h3⟩
 | mp ka kt va vt es =>
   obtain ⟨_, _, _, _, _, h, _⟩ := h
   exact h.1
 | _ => trivial
theorem okHp_of : ∀ {hp : List (Nat × SObj)}, (labelsOf hp).Nodup → (∀ i, objRel H ρ w i (look i hp)) → okHp hp
 | [], _, _ => trivial
 | (l, o) :: r, hn, h => by
   have hn' := List.nodup_cons.1 hn
   refine ⟨?_, okHp_of hn'.2 fun i => ?_⟩
   · have := h l
     simp only [look, Nat.beq_refl, cond_true] at this
     exact okObj_of this
   · by_cases hi : look i r = .gone
     · rw [hi]; trivial
     · have hm : i ∈ labelsOf r := labels_mem.2 ⟨_, look_mem hi⟩
       have hne : l ≠ i := fun e => hn'.1 (e ▸ hm)
       have := h i
       simp only [look, beq_false hne, cond_false] at this
       exact this
theorem okSVs_all : ∀ {l : List SV} {vs : List Value}, svsRel H ρ l vs → okSVs l
 | [], _, _ => trivial
 | _ :: _, _, ⟨_, _, _, h1, h2⟩ => ⟨okSV_of h1, okSVs_all h2⟩

def basesL (ρ : Lab) (hp : List (Nat × SObj)) : List Nat → List Nat
 | [] => []
 | i :: r => bif isGone (look i hp) then basesL ρ hp r else (match baseOf ρ i with
   | some b => b :: basesL ρ hp r
   | none => basesL ρ hp r)
theorem basesL_mem {b : Nat} : ∀ {l : List Nat}, b ∈ basesL ρ hp l ↔ ∃ i ∈ l, look i hp ≠ .gone ∧ baseOf ρ i = some b
 | [] => by simp [basesL]
 | i :: r => by
   have ih := basesL_mem (b := b) (l := r)
   simp only [basesL]
   cases hg : isGone (look i hp) with
   | true =>
     have hg := isGone_iff.1 hg
     rw [cond_true, ih]
     constructor
     · rintro ⟨j, h1, h2⟩; exact ⟨j, List.mem_cons_of_mem _ h1, h2⟩
     · rintro ⟨j, h1, h2, h3⟩
       rcases List.mem_cons.1 h1 with rfl | h1
       · exact absurd hg h2
       · exact ⟨j, h1, h2, h3⟩
   | false =>
     have hg : look i hp ≠ .gone := fun e => by rw [e] at hg; cases hg
     rw [cond_false]
     cases hb : baseOf ρ i with
     | none =>
       simp only
       rw [ih]
       constructor
       · rintro ⟨j, h1, h2⟩; exact ⟨j, List.mem_cons_of_mem _ h1, h2⟩
       · rintro ⟨j, h1, h2, h3⟩
         rcases List.mem_cons.1 h1 with rfl | h1
         · rw [hb] at h3; cases h3
         · exact ⟨j, h1, h2, h3⟩
     | some c =>
       simp only [List.mem_cons, ih]
       constructor
       · rintro (rfl | ⟨j, h1, h2⟩)
         · exact ⟨i, .inl rfl, hg, hb⟩
         · exact ⟨j, .inr h1, h2⟩
       · rintro ⟨j, h1, h2, h3⟩
         rcases h1 with rfl | h1
         · rw [hb] at h3; exact .inl (Option.some.inj h3).symm
         · exact .inr ⟨j, h1, h2, h3⟩
theorem basesL_iff {b : Nat} : b ∈ basesL ρ hp (labelsOf hp) ↔ basesOf ρ hp b := by
 rw [basesL_mem]
 constructor
 · rintro ⟨i, _, h1, h2⟩; exact ⟨i, h1, h2⟩
 · rintro ⟨i, h1, h2⟩; exact ⟨i, labels_mem.2 ⟨_, look_mem h1⟩, h1, h2⟩

theorem givenOk_spec {n : Nat} {pins : List Nat} {F : List (Nat × Option Nat)} {post : List (Nat × SObj)} : ∀ {heap : List (Nat × SObj)}, givenOk n pins F post heap = true → ∀ i, i ∈ labelsOf heap → look i post ≠ .gone → i ∈ pins ∧ okLab n F i = true
 | (k, o) :: r, h, i, hi, hp => by
   simp only [givenOk, Bool.and_eq_true, Bool.or_eq_true] at h
   simp only [labelsOf, List.mem_cons] at hi
   rcases hi with rfl | hi
   · rcases h.1 with h1 | h1
     · exact absurd (isGone_iff.1 h1) hp
     · exact ⟨memN_iff.1 h1.1, h1.2⟩
   · exact givenOk_spec h.2 i hi hp

theorem finG {fn : Func} {pins : List Nat} {heap : List (Nat × SObj)} {r : GRes} {ρ0 : Lab} {w : World} {H : Mem} (hok : GraphOk H ρ0 heap w) {ds : List Deferred} {S' : SState} {a' : Act} {w' : World} (he : endVG P fn pins heap r S') {H1 : Mem} {ρ1 : Lab}
 (I1 : MInv ⟨w, H, basesL ρ0 heap (labelsOf heap), fun l => if memN l pins = true then ρ0 l else none, ds⟩ H1 ρ1 S'.hp (fun l => S'.next ≤ l % STRIDE) w') (hs1 : slotsRel H1 ρ1 S'.tmps a'.tmps) :
 ∃ v, (results fn a'.tmps).run P w' = .ok v w' ∧
  ∃ v' H' ρ', Ending.returned v = .returned v' ∧ H.le H' ∧ memOk H' w' ∧ SameBs (basesOf ρ0 heap) w w' ∧ (∀ b, b < w.heap.size → ¬ basesOf ρ0 heap b → ∀ o, H' b o = H b o) ∧
   (∀ i, look i heap ≠ .gone → look i r.post ≠ .gone → ρ' i = ρ0 i) ∧ GraphOk H' ρ' r.post w' ∧ (∀ i b, look i r.post ≠ .gone → baseOf ρ' i = some b → w.heap.size ≤ b ∨ basesOf ρ0 heap b) ∧ ∀ a, slRel H' ρ' a r.out v' := by
 unfold endVG at he
 split at he
 case h_2 => exact he.elim
 rename_i vs' hvs
 split at he
 case h_2 => exact he.elim
 rename_i e hend
 split at he
 case h_2 => exact he.elim
 rename_i f2 hfit
 generalize hF : namesF (putAll S'.hp e.upd) e.ren r.post = F at *
 cases hck : (subF F (app e.ren f2.ren) && distinct (keysL F) && distinct (valsR F) && rensOk r.post (putAll S'.hp e.upd) F && listedOk S'.next F r.post && givenOk S'.next pins F r.post heap) with
 | false => rw [hck] at he; exact he.elim
 | true =>
   rw [hck, cond_true] at he
   simp only [Bool.and_eq_true] at hck
   obtain ⟨⟨⟨⟨⟨hsub, hdk⟩, hdv⟩, hrens⟩, hlis⟩, hgiv⟩ := hck
   obtain ⟨v1, v2⟩ := vcT_and (vcT_of_vcP he)
   obtain ⟨xs, h1, h2⟩ := resultsOf_sound I1 hs1 hvs
   obtain ⟨H', le, I', rel⟩ := endSl_sound I1 hend v1 (argsOf_sound (ts := fn.resultTypes.toList) h2)
   have hren : Renamed ρ1 (newLab ρ1 S'.next F) F := newLab_ren hdk
   have hlab : ∀ {l}, okLab S'.next F l = true → newLab ρ1 S'.next F l = ρ1 l := fun h => newLab_ok h
   have hs1' : ∀ p ∈ e.ren, p ∈ F := fun p hp => subF_mem hsub p (mem_app.2 (.inl hp))
   have hs2' : ∀ p ∈ f2.ren, p ∈ F := fun p hp => subF_mem hsub p (mem_app.2 (.inr hp))
   let E' : Env := { (⟨w, H, basesL ρ0 heap (labelsOf heap), fun l => if memN l pins = true then ρ0 l else none, ds⟩ : Env) with pin := fun _ => none }
   have I2 : MInv E' H' ρ1 (putAll S'.hp e.upd) (fun l => S'.next ≤ l % STRIDE) w' := { mem := I'.mem, objs := I'.objs, sep := I'.sep, fresh := I'.fresh, bound := I'.bound, keepH := I'.keepH, newH := I'.newH, frame := I'.frame, grow := I'.grow, os := I'.os, tape := I'.tape, output := I'.output, root := fun l v hv => by cases hv }
   have hall : ∀ l, look l r.post ≠ .gone → objRel H' (newLab ρ1 S'.next F) w' l (look l r.post) ∧ ((∃ k, look k (putAll S'.hp e.upd) ≠ .gone ∧ FromL ρ1 (newLab ρ1 S'.next F) F l k) ∨ (l, none) ∈ F) := fun l hne =>
    listed_rel I2 hdk hren hlab hfit v2 hs2' hlis hrens (look_mem hne) rfl hne
   have I3 : MInv E' H' (newLab ρ1 S'.next F) r.post (fun _ => False) w' :=
    regraph I2 hdk hdv hren (fun l hl => (hall l hl).1) (fun l hl => (hall l hl).2) (fun l hl => hl.elim) (fun l v hv => by cases hv)
   refine ⟨_, results_run fn a'.tmps h1, _, H', newLab ρ1 S'.next F, rfl, Mem.le_trans (Mem.le_refl H) I3.keepH, I3.mem, ⟨fun b hb hne => I3.frame b hb fun hm => hne (basesL_iff.1 hm), I3.grow, I3.os, I3.tape, I3.output⟩, fun b hb hne o => ?_, fun i hi hp => ?_, ⟨I3.objs, I3.sep⟩, fun i b hi hb => ?_, fun a'' => rel (newLab ρ1 S'.next F) a'' (hren.sub hs1')⟩
   · cases hH : H b o with
     | some u => exact I3.keepH b o u hH
     | none =>
       cases hH2 : H' b o with
       | none => rfl
       | some u =>
         exfalso
         rcases I3.newH b o (by rw [hH2]; simp) with h | h | h
         · exact h hH
         · have : w.heap.size ≤ b := h
           omega
         · exact hne (basesL_iff.1 h)
   · obtain ⟨g1, g2⟩ := givenOk_spec hgiv i (labels_mem.2 ⟨_, look_mem hi⟩) hp
     rw [hlab g2]
     cases hv : ρ0 i with
     | some v => exact I1.root i v (by simp only; rw [if_pos (memN_iff.2 g1), hv])
     | none =>
       have hobj := hok.objs i
       cases ho : look i heap with
       | gone => exact absurd ho hi
       | cells cs ro => rw [ho] at hobj; obtain ⟨b, c, ty, q, _⟩ := hobj; rw [hv] at q; cases q
       | tok e s => rw [ho] at hobj; obtain ⟨v, n, xs, q, _⟩ := hobj; rw [hv] at q; cases q
       | row e s t xs ro => rw [ho] at hobj; obtain ⟨v, q, _⟩ := hobj; rw [hv] at q; cases q
       | mp ka kt va vt es => rw [ho] at hobj; obtain ⟨r, en, clock, q, _⟩ := hobj; rw [hv] at q; cases q
       | mpi ka kt va vt es g => rw [ho] at hobj; obtain ⟨q, _⟩ := hobj; rw [hv] at q; cases q
       | it ka kt va vt es c g => rw [ho] at hobj; obtain ⟨b, s, q, _⟩ := hobj; rw [hv] at q; cases q
   · rcases I3.fresh i b hi hb with h | h
     · exact .inl h
     · exact .inr (basesL_iff.1 h)

theorem specG_of_bodyK {Γ : FuncId → Option PC} (hΓ : ∀ f c, Γ f = some c → Spec P f c) {Y : Dy} (hyn : Y.yh = none ∧ Y.rf = none) (hY : ∀ f c, Y.dc f = some c → DSpec P f c) (hno : ∀ v S, ¬ (Y.kp v S ∨ Y.kpd v)) {f : FuncId} {fn : Func} (hf : P.funcs[f]? = some fn) (hb : fn.body.isSome = true)
 (hn : (fn.name == "runtime.NumGoroutine") = false) {fl : List Bool} {g : List SV → List (Nat × SObj) → Option GRes}
 (h : ∀ ins heap r, g ins heap = some r → vcT r.vc → okSVs ins → ((labelsOf heap).Nodup → okHp heap) → ∃ ann, bodyGK P Γ Y ann fn heap ins (endG P fn ann.pins heap r)) : Spec P f { ptr := false, ct := fun _ => none, gr := some (fl, g) } := by
 obtain ⟨b, hb⟩ := Option.isSome_iff_exists.1 hb
 refine ⟨⟨fn, b, hf, hb, hn⟩, fun H w ins vs g r hct => (by cases hct), fun fl' g' hg H w ρ0 heap ins vs r hgr hvc hrel hok hfree hmem hglob => ?_⟩
 replace hg : some (fl, g) = some (fl', g') := by rcases hg with hg | hg
                                                  · exact hg
                                                  · cases hg
 simp only [Option.some.injEq, Prod.mk.injEq] at hg
 obtain ⟨rfl, rfl⟩ := hg
 obtain ⟨ann, hbody⟩ := h ins heap r hgr hvc (okSVs_all hrel) fun hnd => okHp_of hnd hok.objs
 unfold bodyGK at hbody
 rw [hb] at hbody
 simp only at hbody
 unfold GAnswers
 refine calls_of_wp hf hb ?_
 cases hsm : allN (fun i => Nat.blt i 1000) (labelsOf heap) with
 | false => rw [hsm] at hbody; exact hbody.elim
 | true =>
   rw [hsm, cond_true] at hbody
   let E : Env := ⟨w, H, basesL ρ0 heap (labelsOf heap), fun l => if memN l ann.pins = true then ρ0 l else none, []⟩
   have I0 : MInv E H ρ0 heap (fun l => 1000 ≤ l % STRIDE) w := {
    mem := hmem
    objs := hok.objs
    sep := hok.sep
    fresh := fun l b' hl hb' => .inr (basesL_iff.2 ⟨l, hl, hb'⟩)
    bound := fun l hl => by
     have hl : 1000 ≤ l % STRIDE := hl
     refine hfree l ?_
     cases hg : isGone (look l heap) with
     | true => exact isGone_iff.1 hg
     | false =>
       have hne : look l heap ≠ .gone := fun e => by rw [e] at hg; cases hg
       have hlt := allN_iff.1 hsm l (labels_mem.2 ⟨_, look_mem hne⟩)
       have hlt : l < 1000 := Nat.le_of_ble_eq_true hlt
       rw [Nat.mod_eq_of_lt (by unfold STRIDE; omega)] at hl
       omega
    keepH := Mem.le_refl H
    newH := fun b o h => .inl h
    frame := fun b _ _ => rfl
    grow := Nat.le_refl _
    os := rfl
    tape := rfl
    output := outOk.refl _
    root := fun l v hv => by
     simp only [E] at hv
     split at hv
     · exact hv
     · cases hv }
   have finish : ∀ (S' : SState) (a' : Act) (w' : World), endVG P fn ann.pins heap r S' → St E S' a' w' → a'.defers = [] ∧ ∃ v, (results fn a'.tmps).run P w' = .ok v w' ∧
    ∃ v' H' ρ', Ending.returned v = .returned v' ∧ H.le H' ∧ memOk H' w' ∧ SameBs (basesOf ρ0 heap) w w' ∧ (∀ b, b < w.heap.size → ¬ basesOf ρ0 heap b → ∀ o, H' b o = H b o) ∧
     (∀ i, look i heap ≠ .gone → look i r.post ≠ .gone → ρ' i = ρ0 i) ∧ GraphOk H' ρ' r.post w' ∧ (∀ i b, look i r.post ≠ .gone → baseOf ρ' i = some b → w.heap.size ≤ b ∨ basesOf ρ0 heap b) ∧ ∀ a, slRel H' ρ' a r.out v' := by
    rintro S' a' w' he ⟨hd, H1, ρ1, I1, hs1⟩
    exact ⟨hd, finG hok he I1 hs1⟩
   refine exec_sound (E := E) (hn := hyn) ⟨hΓ, hglob⟩ hY hbody (fun e S' a' w' hk hst => ?_) (fun v hp a' w' h1 _ => absurd h1 (hno v hp)) (.inr fun l v hv => by
    simp only [E] at hv
    split at hv
    · rename_i e; exact memN_iff.1 e
    · cases hv) ⟨rfl, H, ρ0, I0, ?_, fun t => ?_⟩
   · cases e with
     | normal => exact finish S' a' w' hk hst
     | ret => exact finish S' a' w' hk hst
     | _ => exact hk.elim
   · simp [app_eq, mapL_length, rep_length, lenL_eq, svs_length hrel]
   · have := nth_svs hrel (rep Sl.un (fn.ntmps - lenL ins)) (List.replicate (fn.ntmps - vs.length) undef) (vs.toArray ++ Array.replicate (fn.ntmps - vs.toArray.size) undef) (nth_rep _ _) t
     rw [Array.getD_eq_getD_getElem?]
     have e : (vs.toArray ++ Array.replicate (fn.ntmps - vs.toArray.size) undef)[t]? = (vs ++ List.replicate (fn.ntmps - vs.length) undef)[t]? := by
      rw [← Array.getElem?_toList]; simp
     rw [e]
     exact this
theorem specG_of_body {Γ : FuncId → Option PC} (hΓ : ∀ f c, Γ f = some c → Spec P f c) {f : FuncId} {fn : Func} (hf : P.funcs[f]? = some fn) (hb : fn.body.isSome = true)
 (hn : (fn.name == "runtime.NumGoroutine") = false) {fl : List Bool} {g : List SV → List (Nat × SObj) → Option GRes}
 (h : ∀ ins heap r, g ins heap = some r → vcT r.vc → okSVs ins → ((labelsOf heap).Nodup → okHp heap) → ∃ ann, bodyG P Γ ann fn heap ins r) : Spec P f { ptr := false, ct := fun _ => none, gr := some (fl, g) } :=
 specG_of_bodyK hΓ ⟨rfl, rfl⟩ (noDy_ok P) (fun _ _ h => h.elim id id) hf hb hn h

end Go.Vse
