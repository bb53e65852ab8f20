/- Regions that draw their order: every order comes to the text's end. -/
import Derived.Test.YtdddnamfecgkeaaDoorWVseLocal
namespace Go.Vse
variable {P : Program} {E : Env} {H : Mem} {ρ ρ' : Lab} {w : World} {a : Act}

def stD (D : Nat → Bool) : Nat → List (Oper × Res) → SState → SState
 | _, [], S => S
 | k, (o, r) :: l, S => stD D (k + 1) l (bif D k then S.apply o.dst r else S)

theorem apply_len (S : SState) (d : Option Nat) (r : Res) : (S.apply d r).tmps.length = S.tmps.length := by
 cases d <;> simp [SState.apply, SState.set, setN_length]
theorem stD_len (D : Nat → Bool) : ∀ (l : List (Oper × Res)) (k : Nat) (S : SState), (stD D k l S).tmps.length = S.tmps.length
 | [], _, _ => rfl
 | (o, r) :: l, k, S => by
   simp only [stD, stD_len D l]
   cases D k <;> simp [apply_len]
theorem apply_slot (S : SState) (d : Option Nat) (r : Res) (t : Nat) : nth .un (S.apply d r).tmps t = if d = some t ∧ t < S.tmps.length then r.out else nth .un S.tmps t := by
 cases d with
 | none => simp [SState.apply, SState.set]
 | some d =>
   simp only [SState.apply, SState.set, nth_setN, Option.some.injEq]
   by_cases h : d = t
   · subst h; simp
   · have : ¬ t = d := fun e => h e.symm
     simp [h, this]
theorem apply_hp (S : SState) (d : Option Nat) (r : Res) : (S.apply d r).hp = putAll S.hp r.upd := rfl

theorem stD_slot {D D' : Nat → Bool} {t : Nat} : ∀ {l : List (Oper × Res)} {k : Nat} {S S' : SState}, (∀ j o r, l[j]? = some (o, r) → o.dst = some t → D (k + j) = D' (k + j)) →
 S.tmps.length = S'.tmps.length → nth .un S.tmps t = nth .un S'.tmps t → nth .un (stD D k l S).tmps t = nth .un (stD D' k l S').tmps t
 | [], _, _, _, _, _, h => h
 | (o, r) :: l, k, S, S', hw, hl, h => by
   simp only [stD]
   refine stD_slot (fun j o' r' hj hd => ?_) ?_ ?_
   · have := hw (j + 1) o' r' (by simpa using hj) hd
     rwa [show k + 1 + j = k + (j + 1) by omega]
   · cases D k <;> cases D' k <;> simp [apply_len, hl]
   · by_cases hd : o.dst = some t
     · have := hw 0 o r rfl hd
       rw [Nat.add_zero] at this
       rw [this]
       cases D' k
       · exact h
       · simp only [cond_true, apply_slot, hd, true_and, hl]
         split
         · rfl
         · exact h
     · have h1 : nth .un (bif D k then S.apply o.dst r else S).tmps t = nth .un S.tmps t := by
         cases D k
         · rfl
         · simp [apply_slot, hd]
       have h2 : nth .un (bif D' k then S'.apply o.dst r else S').tmps t = nth .un S'.tmps t := by
        cases D' k
        · rfl
        · simp [apply_slot, hd]
       rw [h1, h2, h]
theorem stD_last {D : Nat → Bool} {t : Nat} {o : Oper} {r : Res} (hd : o.dst = some t) : ∀ {l : List (Oper × Res)} {k j : Nat} {S : SState}, l[j]? = some (o, r) → D (k + j) = true →
 (∀ j' o' r', l[j']? = some (o', r') → j < j' → o'.dst ≠ some t) → nth .un (stD D k l S).tmps t = if t < S.tmps.length then r.out else nth .un S.tmps t
 | [], _, _, _, h, _, _ => by simp at h
 | (o', r') :: l, k, 0, S, h, hD, hw => by
   simp at h
   obtain ⟨rfl, rfl⟩ := h
   simp only [stD]
   rw [Nat.add_zero] at hD
   rw [hD]
   have : nth .un (stD D (k + 1) l (S.apply o'.dst r')).tmps t = nth .un (stD (fun _ => false) (k + 1) l (S.apply o'.dst r')).tmps t := by
    refine stD_slot (fun j o'' r'' hj hd' => absurd hd' (hw (j + 1) o'' r'' (by simpa using hj) (by omega))) rfl rfl
   rw [show (bif true then S.apply o'.dst r' else S) = S.apply o'.dst r' from rfl, this]
   have hno : ∀ (l : List (Oper × Res)) k S, stD (fun _ => false) k l S = S := by
    intro l
    induction l with
    | nil => intro k S; rfl
    | cons x l ih => intro k S; obtain ⟨x1, x2⟩ := x; simp only [stD, cond_false]; exact ih _ _
   rw [hno, apply_slot]
   simp [hd]
 | (o', r') :: l, k, j + 1, S, h, hD, hw => by
   simp only [stD]
   have hne : o'.dst ≠ some t ∨ o'.dst = some t := by
    by_cases hh : o'.dst = some t
    · exact .inr hh
    · exact .inl hh
   rw [stD_last hd (l := l) (k := k + 1) (j := j) (by simpa using h) (by rwa [show k + 1 + j = k + (j + 1) by omega]) (fun j' o'' r'' hj hlt => hw (j' + 1) o'' r'' (by simpa using hj) (by omega))]
   cases D k
   · rfl
   · simp only [cond_true, apply_len]
     split
     · rfl
     · rename_i hlt
       rw [apply_slot, if_neg (fun h => hlt h.2)]
theorem stD_from {D : Nat → Bool} {t : Nat} : ∀ {l : List (Oper × Res)} {k : Nat} {S : SState}, nth .un (stD D k l S).tmps t = nth .un S.tmps t ∨ ∃ j o r, l[j]? = some (o, r) ∧ D (k + j) = true ∧ o.dst = some t ∧ nth .un (stD D k l S).tmps t = r.out
 | [], _, _ => .inl rfl
 | (o, r) :: l, k, S => by
   simp only [stD]
   rcases stD_from (D := D) (t := t) (l := l) (k := k + 1) (S := bif D k then S.apply o.dst r else S) with h | ⟨j, o', r', h1, h2, h3, h4⟩
   · rw [h]
     cases hD : D k with
     | false => exact .inl rfl
     | true =>
       simp only [cond_true, apply_slot]
       split
       · rename_i hc; exact .inr ⟨0, o, r, rfl, by simpa using hD, hc.1, rfl⟩
       · exact .inl rfl
   · exact .inr ⟨j + 1, o', r', by simpa using h1, by rwa [show k + (j + 1) = k + 1 + j by omega], h3, h4⟩

theorem stD_look {D D' : Nat → Bool} {b : Nat} : ∀ {l : List (Oper × Res)} {k : Nat} {S S' : SState}, (∀ j o r, l[j]? = some (o, r) → b ∈ labelsOf r.upd → D (k + j) = D' (k + j)) →
 look b S.hp = look b S'.hp → look b (stD D k l S).hp = look b (stD D' k l S').hp
 | [], _, _, _, _, h => h
 | (o, r) :: l, k, S, S', hw, h => by
   simp only [stD]
   refine stD_look (fun j o' r' hj hd => ?_) ?_
   · have := hw (j + 1) o' r' (by simpa using hj) hd
     rwa [show k + 1 + j = k + (j + 1) by omega]
   · by_cases hd : b ∈ labelsOf r.upd
     · have := hw 0 o r rfl hd
       rw [Nat.add_zero] at this
       rw [this]
       cases D' k
       · exact h
       · exact look_put_same hd
     · have h1 : ∀ (x : Bool) (S : SState), look b (bif x then S.apply o.dst r else S).hp = look b S.hp := by
         intro x S
         cases x
         · rfl
         · simp only [cond_true, apply_hp]
           rcases look_putAll (L := r.upd) (hp := S.hp) b with ⟨o, ho, _⟩ | ⟨_, h1⟩
           · exact absurd (labels_mem.2 ⟨o, ho⟩) hd
           · exact h1
       rw [h1, h1, h]
theorem stD_lastLook {D : Nat → Bool} {b : Nat} {o : Oper} {r : Res} (hb : b ∈ labelsOf r.upd) {X : List (Nat × SObj)} : ∀ {l : List (Oper × Res)} {k j : Nat} {S : SState}, l[j]? = some (o, r) → D (k + j) = true →
 (∀ j' o' r', l[j']? = some (o', r') → j < j' → b ∈ labelsOf r'.upd → D (k + j') = false) → look b (stD D k l S).hp = look b (putAll X r.upd)
 | [], _, _, _, h, _, _ => by simp at h
 | (o', r') :: l, k, 0, S, h, hD, hw => by
   simp at h
   obtain ⟨rfl, rfl⟩ := h
   simp only [stD]
   rw [Nat.add_zero] at hD
   rw [hD]
   have hno : ∀ (l : List (Oper × Res)) k S, stD (fun _ => false) k l S = S := by
    intro l
    induction l with
    | nil => intro k S; rfl
    | cons x l ih => intro k S; obtain ⟨x1, x2⟩ := x; simp only [stD, cond_false]; exact ih _ _
   have : look b (stD D (k + 1) l (S.apply o'.dst r')).hp = look b (stD (fun _ => false) (k + 1) l (S.apply o'.dst r')).hp := by
    refine stD_look (fun j o'' r'' hj hd' => ?_) rfl
    rw [show k + 1 + j = k + (j + 1) by omega]
    exact hw (j + 1) o'' r'' (by simpa using hj) (by omega) hd'
   rw [show (bif true then S.apply o'.dst r' else S) = S.apply o'.dst r' from rfl, this, hno, apply_hp]
   exact look_put_same hb
 | (o', r') :: l, k, j + 1, S, h, hD, hw => by
   simp only [stD]
   exact stD_lastLook hb (l := l) (k := k + 1) (j := j) (by simpa using h) (by rwa [show k + 1 + j = k + (j + 1) by omega]) (fun j' o'' r'' hj hlt hm => by
    rw [show k + 1 + j' = k + (j' + 1) by omega]
    exact hw (j' + 1) o'' r'' (by simpa using hj) (by omega) hm)

theorem MInv.congr {hp hp' : List (Nat × SObj)} {N : Nat → Prop} (I : MInv E H ρ hp N w) (h : ∀ l, look l hp' = look l hp) : MInv E H ρ hp' N w where
 mem := I.mem
 objs l := by rw [h]; exact I.objs l
 sep l l' b h1 h2 := by rw [h] at h1 h2; exact I.sep l l' b h1 h2
 fresh l b h1 := by rw [h] at h1; exact I.fresh l b h1
 bound := I.bound
 keepH := I.keepH
 newH := I.newH
 frame := I.frame
 grow := I.grow
 os := I.os
 tape := I.tape
 output := I.output
 root := I.root

variable {S S' : SState}
theorem mem_tmpsOf {t : Nat} : ∀ {l : List Operand}, .tmp t ∈ l → t ∈ tmpsOf l
 | x :: r, h => by
   simp only [List.mem_cons] at h
   rcases h with rfl | h
   · simp [tmpsOf]
   · cases x <;> simp [tmpsOf, mem_tmpsOf h]
theorem mem_labsOps {x : Operand} {k : Nat} : ∀ {l : List Operand}, x ∈ l → k ∈ labsS (evalO S x) → k ∈ labsOps S l
 | y :: r, h, hk => by
   simp only [List.mem_cons] at h
   simp only [labsOps, mem_app]
   rcases h with rfl | h
   · exact .inl hk
   · exact .inr (mem_labsOps h hk)
theorem evalO_eq {x : Operand} (h : ∀ t, x = .tmp t → nth .un S.tmps t = nth .un S'.tmps t) : evalO S x = evalO S' x := by
 cases x with
 | tmp t => simp only [evalO, SState.get, h t rfl]
 | _ => rfl
theorem labs_norm (s : Sl) : labsS (normB s) = labsS s := by
 rcases normB_eq s with e | ⟨q, e, e2⟩
 · rw [e]
 · rw [e2, e]; rfl
theorem labs_bare (l : List (Nat × Bool)) (s : Sl) : labsS (bare l s) = labsS s := by
 cases s with
 | cond g' want' v =>
   simp only [bare]
   cases memB g' want' l <;> rfl
 | _ => rfl
theorem evalO_bare (l : List (Nat × Bool)) (x : Operand) : evalO (S.bare l) x = (match x with | .tmp t => normB (bare l (nth .un S.tmps t)) | x => evalO S x) := by
 cases x with
 | tmp t => simp only [evalO, SState.get, SState.bare]; rw [nth_mapL (bare l) .un rfl]
 | _ => rfl
theorem metO_local : ∀ {l : List (Nat × Bool)}, (∀ t ∈ firstsL l, nth .un S.tmps t = nth .un S'.tmps t) → metO S l = metO S' l
 | [], _ => rfl
 | (g, want) :: r, h => by
   have e : S.get g = S'.get g := by simp only [SState.get, h g (by simp [firstsL])]
   have e2 := metO_local (l := r) fun t ht => h t (by simp [firstsL, ht])
   simp only [metO]
   rw [e, e2]
theorem stepO0_local {Γ : FuncId → Option PC} {all : List Oper} {o : Oper} {lab : Nat} (h1 : ∀ t ∈ readsO all o, nth .un S.tmps t = nth .un S'.tmps t) (h2 : agree S.hp S'.hp (labsOps S (usesO o.op))) {r : Res} (hr : stepO0 P Γ all S o lab = some r) (h3 : agree S.hp S'.hp (labelsOf r.upd)) (h4 : agree S.hp S'.hp (readsC P Γ all S o lab)) (hrw : S.rows = S'.rows) :
 stepO0 P Γ all S' o lab = some r := by
 have hsub : ∀ t ∈ tmpsOf (opsOf o.op), t ∈ readsO all o := by
  intro t ht
  unfold readsO
  split
  · exact mem_app.2 (.inr ht)
  · exact ht
 have hop : ∀ x ∈ opsOf o.op, ∀ t, x = .tmp t → nth .un S.tmps t = nth .un S'.tmps t := fun x hx t e => by
  subst e
  exact h1 t (hsub t (mem_tmpsOf hx))
 unfold stepO0 at hr ⊢
 split
 · rename_i hg
   rw [hg] at hr
   have h4 : agree S.hp S'.hp (readsAt P Γ S o lab) := by unfold readsC at h4; rw [hg] at h4; exact h4
   unfold litO at hr ⊢
   rw [← resOp_local' (fun x hx => evalO_eq (hop x hx)) (fun x hx k hk => h2 k (mem_labsOps hx hk)) (callSame_of h4) hrw, ← hrw]
   exact hr
 · rename_i j want hg
   rw [hg] at hr
   simp only at hr
   split
   · rename_i g w0 r0 hch
     rw [hch] at hr
     simp only at hr
     have hcs : CallSame P Γ (S.bare ((g, w0) :: r0)) (S'.bare ((g, w0) :: r0)) o lab := callSame_of (by
      unfold readsC at h4; rw [hg] at h4; simp only at h4; rw [hch] at h4; exact h4)
     have e1 : metO S ((g, w0) :: r0) = metO S' ((g, w0) :: r0) := by
      refine metO_local fun t ht => h1 t ?_
      unfold readsO
      rw [hg]
      simp only
      rw [hch]
      exact mem_app.2 (.inl ht)
     have e2 : resG P Γ (S.bare ((g, w0) :: r0)) o lab = resG P Γ (S'.bare ((g, w0) :: r0)) o lab := by
      refine resG_local' (fun x hx => ?_) (fun x hx k hk => ?_) hcs hrw
      · rw [evalO_bare, evalO_bare]
        cases x with
        | tmp t => simp only [hop _ hx t rfl]
        | _ => rfl
      · refine h2 k (mem_labsOps hx ?_)
        rw [evalO_bare] at hk
        cases x with
        | tmp t =>
          simp only [labs_norm, labs_bare] at hk
          show k ∈ labsS (normB (nth .un S.tmps t))
          rw [labs_norm]; exact hk
        | _ => exact hk
     rw [← e1, ← e2]
     split at hr
     · exact hr
     · rename_i ps vc v l ob rest hm hG
       cases hc : (isSliceOp o.op && isRowO (look l S.hp)) with
       | false => rw [hc] at hr; cases hr
       | true =>
         have hr0 := hr
         rw [hc] at hr
         simp only [cond_true, Option.some.injEq] at hr
         simp only [Bool.and_eq_true] at hc
         have hl : look l S.hp = look l S'.hp := by
          refine h3 l ?_
          rw [← hr]
          have := hc.2
          unfold isRowO at this
          split at this
          · rename_i heq
            simp [stills, heq, labelsOf]
          · cases this
         rw [← stills_local (hp := S.hp) (hp' := S'.hp) (s := some l) (fun l' hl' => by simp only [Option.some.injEq] at hl'; subst hl'; exact hl), ← hl]
         exact hr0
     · simp at hr
   · rename_i hch
     rw [hch] at hr
     simp at hr

theorem stepOwed_local {Γ : FuncId → Option PC} {all : List Oper} {o : Oper} {lab : Nat} (h1 : ∀ t ∈ readsO all o, nth .un S.tmps t = nth .un S'.tmps t) (h2 : agree S.hp S'.hp (labsOps S (usesO o.op))) {r : Res} (hr : stepOwed P Γ all S o lab = some r) (h4 : agree S.hp S'.hp (readsC P Γ all S o lab)) (hrw : S.rows = S'.rows) :
 stepOwed P Γ all S' o lab = some r := by
 have hsub : ∀ t ∈ tmpsOf (opsOf o.op), t ∈ readsO all o := by
  intro t ht
  unfold readsO
  split
  · exact mem_app.2 (.inr ht)
  · exact ht
 have hop : ∀ x ∈ opsOf o.op, ∀ t, x = .tmp t → nth .un S.tmps t = nth .un S'.tmps t := fun x hx t e => by
  subst e
  exact h1 t (hsub t (mem_tmpsOf hx))
 unfold stepOwed at hr ⊢
 split
 · rename_i hg; rw [hg] at hr; cases hr
 · rename_i j want hg
   rw [hg] at hr
   simp only at hr
   split
   · rename_i g w0 r0 hch
     rw [hch] at hr
     simp only at hr
     have hcs : CallSame P Γ (S.bare ((g, w0) :: r0)) (S'.bare ((g, w0) :: r0)) o lab := callSame_of (by
      unfold readsC at h4; rw [hg] at h4; simp only at h4; rw [hch] at h4; exact h4)
     have e1 : metO S ((g, w0) :: r0) = metO S' ((g, w0) :: r0) := by
      refine metO_local fun t ht => h1 t ?_
      unfold readsO
      rw [hg]
      simp only
      rw [hch]
      exact mem_app.2 (.inl ht)
     have e2 : resOp P Γ (S.bare ((g, w0) :: r0)) o lab = resOp P Γ (S'.bare ((g, w0) :: r0)) o lab := by
      refine resOp_local' (fun x hx => ?_) (fun x hx k hk => ?_) hcs hrw
      · rw [evalO_bare, evalO_bare]
        cases x with
        | tmp t => simp only [hop _ hx t rfl]
        | _ => rfl
      · refine h2 k (mem_labsOps hx ?_)
        rw [evalO_bare] at hk
        cases x with
        | tmp t =>
          simp only [labs_norm, labs_bare] at hk
          show k ∈ labsS (normB (nth .un S.tmps t))
          rw [labs_norm]; exact hk
        | _ => exact hk
     rw [← e1, ← e2]
     exact hr
   · rename_i hch
     rw [hch] at hr
     simp at hr
theorem stepO_local {Γ : FuncId → Option PC} {all : List Oper} {o : Oper} {lab : Nat} (h1 : ∀ t ∈ readsO all o, nth .un S.tmps t = nth .un S'.tmps t) (h2 : agree S.hp S'.hp (labsOps S (usesO o.op))) {r : Res} (hr : stepO P Γ all S o lab = some r) (h3 : agree S.hp S'.hp (labelsOf r.upd)) (h4 : agree S.hp S'.hp (readsC P Γ all S o lab)) (hrw : S.rows = S'.rows) :
 stepO P Γ all S' o lab = some r := by
 unfold stepO at hr ⊢
 rw [← hrw]
 cases hm : memN (lab + STRIDE * 5) S.rows with
 | false =>
   rw [hm, cond_false] at hr
   rw [cond_false]
   cases hm2 : (memN (lab + STRIDE * 12) S.rows && o.guard.isSome) with
   | false => rw [hm2] at hr; exact stepO0_local h1 h2 hr h3 h4 hrw
   | true => rw [hm2] at hr; exact stepOwed_local h1 h2 hr h4 hrw
 | true =>
   rw [hm, cond_true] at hr
   rw [cond_true]
   have hsub : ∀ t ∈ tmpsOf (opsOf o.op), t ∈ readsO all o := by
    intro t ht
    unfold readsO
    split
    · exact mem_app.2 (.inr ht)
    · exact ht
   have hop : ∀ x ∈ opsOf o.op, ∀ t, x = .tmp t → nth .un S.tmps t = nth .un S'.tmps t := fun x hx t e => by
    subst e
    exact h1 t (hsub t (mem_tmpsOf hx))
   unfold sureO at hr ⊢
   split at hr
   case h_2 => cases hr
   rename_i g w0 hgd
   have h4 : agree S.hp S'.hp (readsAt P Γ (S.bare [(g, w0)]) o lab) := by
    unfold guardG at hgd
    split at hgd
    case h_2 => cases hgd
    rename_i j want hj
    split at hgd
    case h_2 => cases hgd
    rename_i g' w' hch
    simp only [Option.some.injEq, Prod.mk.injEq] at hgd
    obtain ⟨rfl, rfl⟩ := hgd
    unfold readsC at h4
    rw [hj] at h4
    simp only at h4
    rw [hch] at h4
    exact h4
   have hg : g ∈ readsO all o := by
    unfold guardG at hgd
    split at hgd
    case h_2 => cases hgd
    rename_i j want hj
    split at hgd
    case h_2 => cases hgd
    rename_i g' w' hch
    simp only [Option.some.injEq, Prod.mk.injEq] at hgd
    obtain ⟨rfl, rfl⟩ := hgd
    unfold readsO
    rw [hj]
    simp only
    rw [hch]
    exact mem_app.2 (.inl (by simp [firstsL]))
   have hget : S.get g = S'.get g := by unfold SState.get; rw [h1 g hg]
   rw [← hget]
   split at hr
   case h_2 => cases hr
   rename_i b hb
   cases hbw : (b == w0) with
   | false => rw [hbw] at hr; exact hr
   | true =>
     rw [hbw, cond_true] at hr
     rw [cond_true, ← hr]
     refine (resOp_local' (S := S.bare [(g, w0)]) (S' := S'.bare [(g, w0)]) (fun x hx => ?_) (fun x hx k hk => ?_) (callSame_of h4) hrw).symm
     · rw [evalO_bare, evalO_bare]
       cases x with
       | tmp t => simp only [hop _ hx t rfl]
       | _ => rfl
     · refine h2 k (mem_labsOps hx ?_)
       rw [evalO_bare] at hk
       cases x with
       | tmp t =>
         simp only [labs_norm, labs_bare] at hk
         show k ∈ labsS (normB (nth .un S.tmps t))
         rw [labs_norm]; exact hk
       | _ => exact hk
theorem dieO_local' {Y : Dy} {all : List Oper} {o : Oper} (h1 : ∀ t ∈ readsO all o, nth .un S.tmps t = nth .un S'.tmps t) (h2 : agree S.hp S'.hp (labsOps S (usesO o.op))) : dieO P Y S o = dieO P Y S' o := by
 cases hg : o.guard with
 | some g => unfold dieO; rw [hg]
 | none =>
   have key : usesO o.op = opsOf o.op → dieO P Y S o = dieO P Y S' o := fun e => by
    refine dieO_local fun x hx => ⟨evalO_eq fun t et => h1 t ?_, fun k hk => h2 k (mem_labsOps (by rw [e]; exact hx) hk)⟩
    unfold readsO
    rw [hg]
    exact mem_tmpsOf (et ▸ hx)
   cases ho : o.op with
   | move x => unfold dieO; rw [hg, ho]
   | assign x => unfold dieO; rw [hg, ho]
   | nilCheck x => unfold dieO; rw [hg, ho]
   | fieldAddr t x f => unfold dieO; rw [hg, ho]
   | _ => exact key (by rw [ho]; rfl)
def OwedD (Y : Dy) (d : Option DieR) (vc : Option Prop) : Prop := (∀ q, d = some q → q.at_ → vcT q.vc ∧ kpDraw Y q) ∧ ((∀ q, d = some q → ¬ q.at_) → vcT vc)
theorem oweD_vc {Y : Dy} {d : Option DieR} {vc : Option Prop} {q : Prop} (h : oweD (kpDraw Y) d vc q) : OwedD Y d vc ∧ q := by
 cases d with
 | none =>
   obtain ⟨h1, h2⟩ := owe_vc h
   exact ⟨⟨fun q e => (by cases e), fun _ => h1⟩, h2⟩
 | some d =>
   obtain ⟨⟨h1, h2⟩, h3⟩ := h
   refine ⟨⟨fun q e hat => ?_, fun hn => (owe_vc (h2 (hn d rfl))).1⟩, h3⟩
   simp only [Option.some.injEq] at e; subst e
   exact owe_vc (h1 hat)

structure Tr (P : Program) (Γ : FuncId → Option PC) (Y : Dy) (all : List Oper) (S0 : SState) (n0 : Nat) (L : List (Oper × Res)) (T : List Ent) : Prop where
 len : L.length = T.length
 small : ∀ i, i < L.length → n0 + i < STRIDE
 each : ∀ i o r, L[i]? = some (o, r) → all[i]? = some o ∧ ∃ anc, ancO (T.take i) o.after.toList = some anc ∧ stepO P Γ all (stD (fun j => decide (j < i)) 0 L S0) o (n0 + i) = some r ∧ OwedD Y (dieO P Y (stD (fun j => decide (j < i)) 0 L S0) o) r.vc ∧
  okOut o.dst r.out = true ∧ T[i]? = some (mkEnt P Γ all (stD (fun j => decide (j < i)) 0 L S0) o (n0 + i) r anc) ∧ entOk (mkEnt P Γ all (stD (fun j => decide (j < i)) 0 L S0) o (n0 + i) r anc) 0 (T.take i) = true ∧ leanOk anc r.out 0 (T.take i) = true

theorem stD_rows {D : Nat → Bool} : ∀ {l : List (Oper × Res)} {k : Nat} {S : SState}, (stD D k l S).rows = S.rows
 | [], _, _ => rfl
 | (o, r) :: l, k, S => by
   simp only [stD]
   rw [stD_rows (l := l)]
   cases D k with
   | false => rfl
   | true => simp only [cond_true, SState.apply, SState.set]; cases o.dst <;> rfl
theorem stD_congr {D D' : Nat → Bool} : ∀ {l : List (Oper × Res)} {k : Nat} {S : SState}, (∀ j, j < l.length → D (k + j) = D' (k + j)) → stD D k l S = stD D' k l S
 | [], _, _, _ => rfl
 | (o, r) :: l, k, S, h => by
   simp only [stD]
   have := h 0 (by simp)
   rw [Nat.add_zero] at this
   rw [this]
   exact stD_congr fun j hj => by
    have := h (j + 1) (by simpa using hj)
    rwa [show k + 1 + j = k + (j + 1) by omega]
theorem stD_snoc {D : Nat → Bool} {o : Oper} {r : Res} : ∀ {l : List (Oper × Res)} {k : Nat} {S : SState}, stD D k (l ++ [(o, r)]) S = (bif D (k + l.length) then (stD D k l S).apply o.dst r else stD D k l S)
 | [], k, S => rfl
 | (o', r') :: l, k, S => by
   simp only [List.cons_append, stD, stD_snoc (l := l), List.length_cons]
   rw [show k + 1 + l.length = k + (l.length + 1) by omega]

theorem stD_append {D : Nat → Bool} : ∀ {l m : List (Oper × Res)} {k : Nat} {S : SState}, stD D k (l ++ m) S = stD D (k + l.length) m (stD D k l S)
 | [], m, k, S => rfl
 | (o, r) :: l, m, k, S => by
   simp only [List.cons_append, stD, List.length_cons]
   rw [stD_append, show k + 1 + l.length = k + (l.length + 1) by omega]
theorem stD_none {D : Nat → Bool} : ∀ {l : List (Oper × Res)} {k : Nat} {S : SState}, (∀ j, k ≤ j → D j = false) → stD D k l S = S
 | [], _, _, _ => rfl
 | (o, r) :: l, k, S, h => by
   simp only [stD, h k (Nat.le_refl k), cond_false]
   exact stD_none fun j hj => h j (by omega)
def AliveAt (P : Program) (Y : Dy) (S0 : SState) (L : List (Oper × Res)) (i : Nat) : Prop :=
 ∀ o r, L[i]? = some (o, r) → ∀ q, dieO P Y (stD (fun j => decide (j < i)) 0 L S0) o = some q → ¬ q.at_
theorem runDraw_trace {Γ : FuncId → Option PC} {Y : Dy} {all : List Oper} {S0 : SState} {n0 : Nat} {K : SState → Prop} : ∀ {l : List Oper} {lab : Nat} {S : SState} {tab : List Ent} {Ld : List (Oper × Res)},
 runDraw P Γ Y all l lab S tab K → all = Ld.map (·.1) ++ l → S = stD (fun _ => true) 0 Ld S0 → lab = n0 + Ld.length → Tr P Γ Y all S0 n0 Ld tab →
 ∃ L T, Tr P Γ Y all S0 n0 L T ∧ L.map (·.1) = all ∧ (∃ M, L = Ld ++ M) ∧ ((∀ j, Ld.length ≤ j → AliveAt P Y S0 L j) → K { stD (fun _ => true) 0 L S0 with next := n0 + L.length, tmps := mapL uncond (stD (fun _ => true) 0 L S0).tmps })
 | [], lab, S, tab, Ld, h, ha, hS, hl, ht => by
   simp only [runDraw] at h
   subst hS; subst hl
   exact ⟨Ld, tab, ht, by simpa using ha.symm, ⟨[], by simp⟩, fun _ => h⟩
 | o :: rest, lab, S, tab, Ld, h, ha, hS, hl, ht => by
   simp only [runDraw] at h
   cases hlab : Nat.blt lab STRIDE with
   | false => rw [hlab] at h; exact h.elim
   | true =>
   rw [hlab] at h
   simp only [cond_true] at h
   have hsm : lab < STRIDE := Nat.le_of_ble_eq_true hlab
   split at h
   · rename_i r anc hr hanc
     cases hc : (okOut o.dst r.out && entOk (mkEnt P Γ all S o lab r anc) 0 tab && leanOk anc r.out 0 tab) with
     | false => rw [hc] at h; exact h.elim
     | true =>
       rw [hc] at h; simp only [cond_true] at h
       simp only [Bool.and_eq_true] at hc
       obtain ⟨hvc, h⟩ := oweD_vc h
       have hSi : ∀ i, i ≤ Ld.length → stD (fun j => decide (j < i)) 0 (Ld ++ [(o, r)]) S0 = stD (fun j => decide (j < i)) 0 Ld S0 := by
        intro i hi
        rw [stD_snoc]
        have : decide (0 + Ld.length < i) = false := by simp; omega
        rw [this]; rfl
       have hSn : stD (fun j => decide (j < Ld.length)) 0 Ld S0 = S := by
        rw [hS]
        exact stD_congr fun j hj => by simpa using hj
       suffices key : ∃ L T, Tr P Γ Y all S0 n0 L T ∧ L.map (·.1) = all ∧ (∃ M, L = (Ld ++ [(o, r)]) ++ M) ∧ ((∀ j, (Ld ++ [(o, r)]).length ≤ j → AliveAt P Y S0 L j) → guardK (dieO P Y S o) K { stD (fun _ => true) 0 L S0 with next := n0 + L.length, tmps := mapL uncond (stD (fun _ => true) 0 L S0).tmps }) by
        obtain ⟨L, T, k1, k2, ⟨M, k3⟩, k4⟩ := key
        refine ⟨L, T, k1, k2, ⟨(o, r) :: M, by rw [k3]; simp⟩, fun hal => ?_⟩
        have h4 := k4 fun j hj => hal j (by simp at hj; omega)
        cases hd : dieO P Y S o with
        | none => rw [hd] at h4; exact h4
        | some d =>
          rw [hd] at h4
          refine h4 fun hat => ?_
          have hLi : L[Ld.length]? = some (o, r) := by rw [k3]; simp
          refine hal Ld.length (Nat.le_refl _) o r hLi d ?_ hat
          have e : stD (fun j => decide (j < Ld.length)) 0 L S0 = S := by
           rw [k3, List.append_assoc, stD_append, hSn]
           exact stD_none fun j hj => by simp; omega
          rw [e]; exact hd
       refine runDraw_trace (Ld := Ld ++ [(o, r)]) h (by rw [ha]; simp) ?_ (by rw [hl]; simp; omega) ⟨by simp [app_eq, ht.len], fun i hi => by
        by_cases hlt : i < Ld.length
        · exact ht.small i hlt
        · have : i = Ld.length := by simp at hi; omega
          subst this; omega, fun i o' r' hi => ?_⟩
       · rw [stD_snoc, hS]; rfl
       · rw [app_eq]
         by_cases hlt : i < Ld.length
         · rw [List.getElem?_append_left hlt] at hi
           obtain ⟨h1, anc', h2, h3, h4, h5, h6, h7, h8⟩ := ht.each i o' r' hi
           have htk : (tab ++ [mkEnt P Γ all S o lab r anc]).take i = tab.take i := by rw [List.take_append_of_le_length (by rw [← ht.len]; omega)]
           refine ⟨h1, anc', ?_⟩
           rw [htk, hSi i (by omega), List.getElem?_append_left (by rw [← ht.len]; exact hlt)]
           exact ⟨h2, h3, h4, h5, h6, h7, h8⟩
         · have hieq : i = Ld.length := by
             have := (List.getElem?_eq_some_iff.1 hi).1
             simp at this; omega
           subst hieq
           rw [List.getElem?_append_right (Nat.le_refl _)] at hi
           simp at hi
           obtain ⟨rfl, rfl⟩ := hi
           have htk : (tab ++ [mkEnt P Γ all S o lab r anc]).take Ld.length = tab := by rw [ht.len]; simp
           refine ⟨by rw [ha]; simp, anc, ?_⟩
           rw [htk, hSi _ (Nat.le_refl _), hSn, ht.len]
           rw [ht.len] at hl
           rw [← hl]
           exact ⟨hanc, hr, hvc, hc.1.1, by simp, hc.1.2, hc.2⟩
   · exact h.elim

theorem nthO_eq {α : Type} : ∀ (l : List α) (i : Nat), nthO l i = l[i]?
 | [], i => by cases i <;> rfl
 | _ :: _, 0 => rfl
 | _ :: r, i + 1 => by simp [nthO, nthO_eq r i]
theorem mem_uniN {k : Nat} : ∀ {l m : List Nat}, k ∈ uniN l m → k ∈ l ∨ k ∈ m
 | [], _, h => .inr h
 | a :: r, m, h => by
   simp only [uniN] at h
   cases hb : memN a m with
   | true =>
     rw [hb] at h
     exact (mem_uniN h).imp (List.mem_cons_of_mem _) id
   | false =>
     rw [hb] at h
     simp only [cond_false, List.mem_cons] at h
     rcases h with rfl | h
     · exact .inl (by simp)
     · exact (mem_uniN h).imp (List.mem_cons_of_mem _) id
theorem ancO_spec {tab : List Ent} : ∀ {es : List Edge} {anc : List Nat}, ancO tab es = some anc →
 (∀ k ∈ anc, ∃ e ∈ es, Region.binds .any e = true ∧ (k = e.on ∨ ∃ x, tab[e.on]? = some x ∧ k ∈ x.anc)) ∧ ∀ e ∈ es, Region.binds .any e = true → e.on < tab.length
 | [], anc, h => by simp [ancO] at h; subst h; simp
 | e :: r, anc, h => by
   simp only [ancO] at h
   cases hb : Region.binds .any e with
   | false =>
     rw [hb] at h; simp only [cond_false] at h
     obtain ⟨h1, h2⟩ := ancO_spec h
     refine ⟨fun k hk => ?_, fun e' he hb' => ?_⟩
     · obtain ⟨e', he, h3⟩ := h1 k hk
       exact ⟨e', List.mem_cons_of_mem _ he, h3⟩
     · simp only [List.mem_cons] at he
       rcases he with rfl | he
       · rw [hb] at hb'; cases hb'
       · exact h2 e' he hb'
   | true =>
     rw [hb] at h; simp only [cond_true] at h
     split at h
     · rename_i x l hx hl
       simp at h; subst h
       obtain ⟨h1, h2⟩ := ancO_spec hl
       rw [nthO_eq] at hx
       refine ⟨fun k hk => ?_, fun e' he hb' => ?_⟩
       · have hk := mem_uniN hk
         simp only [List.mem_cons] at hk
         rcases hk with (rfl | hk) | hk
         · exact ⟨e, by simp, hb, .inl rfl⟩
         · exact ⟨e, by simp, hb, .inr ⟨x, hx, hk⟩⟩
         · obtain ⟨e', he, h3⟩ := h1 k hk
           exact ⟨e', List.mem_cons_of_mem _ he, h3⟩
       · simp only [List.mem_cons] at he
         rcases he with rfl | he
         · exact (List.getElem?_eq_some_iff.1 hx).1
         · exact h2 e' he hb'
     · simp at h
theorem entOk_spec {x : Ent} : ∀ {l : List Ent} {k : Nat}, entOk x k l = true → ∀ m y, l[m]? = some y → (k + m ∈ x.anc ∨ apartE y x = true) ∧ ∀ d, x.dst = some d → y.dst ≠ some d
 | z :: r, k, h, 0, y, hm => by
   simp at hm; subst hm
   simp only [entOk, Bool.and_eq_true, Bool.or_eq_true, Bool.not_eq_true'] at h
   refine ⟨h.1.1.imp (fun h => memN_iff.1 h) id, fun d h1 h2 => ?_⟩
   rw [h1, h2] at h
   simp [sameDst] at h
 | z :: r, k, h, m + 1, y, hm => by
   simp only [entOk, Bool.and_eq_true] at h
   have := entOk_spec h.2 m y (by simpa using hm)
   rwa [show k + 1 + m = k + (m + 1) by omega] at this
theorem leanOk_spec {anc : List Nat} {g : Nat} {want : Bool} {v : SV} : ∀ {l : List Ent} {k : Nat}, leanOk anc (.cond g want v) k l = true → ∃ m y, l[m]? = some y ∧ k + m ∈ anc ∧ y.dst = some g
 | z :: r, k, h => by
   simp only [leanOk, Bool.or_eq_true, Bool.and_eq_true] at h
   rcases h with ⟨h1, h2⟩ | h
   · refine ⟨0, z, rfl, memN_iff.1 h1, ?_⟩
     unfold sameDst at h2
     split at h2
     · rename_i d e hd he
       simp at he; subst he
       rw [hd, Nat.eq_of_beq_eq_true h2]
     · simp at h2
   · obtain ⟨m, y, h1, h2, h3⟩ := leanOk_spec h
     exact ⟨m + 1, y, by simpa using h1, by rwa [show k + (m + 1) = k + 1 + m by omega], h3⟩
 | [], k, h => by simp [leanOk] at h
theorem apart_spec {x y : Ent} (h : apartE x y = true) : (∀ d, x.dst = some d → d ∉ y.reads) ∧ (∀ d, y.dst = some d → d ∉ x.reads) ∧ (∀ l ∈ x.wr, l ∉ y.labs) ∧ (∀ l ∈ y.wr, l ∉ x.labs) := by
 simp only [apartE, Bool.and_eq_true] at h
 obtain ⟨⟨⟨h1, h2⟩, h3⟩, h4⟩ := h
 refine ⟨fun d e hm => ?_, fun d e hm => ?_, fun l hl hm => ?_, fun l hl hm => ?_⟩
 · rw [e] at h1; simp [notRead, memN_iff.2 hm] at h1
 · rw [e] at h2; simp [notRead, memN_iff.2 hm] at h2
 · have := allN_iff.1 h3 l hl; simp [memN_iff.2 hm] at this
 · have := allN_iff.1 h4 l hl; simp [memN_iff.2 hm] at this

def Closed (T : List Ent) (D : Nat → Bool) : Prop := ∀ j x, T[j]? = some x → D j = true → ∀ k ∈ x.anc, D k = true

theorem freeOf_of {d : Nat} : ∀ {l : List Sl}, (∀ t g want v, nth .un l t = .cond g want v → g ≠ d) → freeOf d l = true
 | [], _ => rfl
 | s :: r, h => by
   have hr : freeOf d r = true := freeOf_of fun t g want v e => h (t + 1) g want v e
   cases s with
   | cond g want v =>
     have : g ≠ d := h 0 g want v rfl
     have hb : Nat.beq g d = false := by cases hb : Nat.beq g d with | false => rfl | true => exact absurd (Nat.eq_of_beq_eq_true hb) this
     simp [freeOf, hb, hr]
   | _ => exact hr

def StD (E : Env) (S0 : SState) (n0 : Nat) (L : List (Oper × Res)) (D : Nat → Bool) (a : Act) (w : World) : Prop :=
 a.defers = E.defs ∧ ∃ H ρ, MInv E H ρ (stD D 0 L S0).hp (fun l => n0 ≤ l % STRIDE ∧ ∀ j, D j = true → l % STRIDE ≠ n0 + j) w ∧ slotsRel H ρ (stD D 0 L S0).tmps a.tmps

def more (D : Nat → Bool) (i : Nat) : Nat → Bool := fun j => D j || decide (j = i)

theorem draw_step {Γ : FuncId → Option PC} (hΓ : GamOk P E.H0 Γ) {Y : Dy} (hY : ∀ f c, Y.dc f = some c → DSpec P f c) {ops : Array Oper} {S0 : SState} {n0 : Nat} {L : List (Oper × Res)} {T : List Ent} (hT : Tr P Γ Y ops.toList S0 n0 L T)
 (hS0 : ∀ t g want v, nth .un S0.tmps t ≠ .cond g want v) {D : Nat → Bool} (hD : Closed T D) {i : Nat} {x : Ent} (hx : T[i]? = some x) (hi : D i = false) (hanc : ∀ k ∈ x.anc, D k = true)
 (hst : StD E S0 n0 L D a w) {K : Act → World → Prop} {Q : Exit → Act → World → Prop} (hP : ∀ v S' a' w', Y.kpd v → Dst E S' a' w' → Q (.panic [{ v := v, recovered := false }]) a' w') (hK : ∀ a' w', AliveAt P Y S0 L i → StD E S0 n0 L (more D i) a' w' → K a' w') : wpOp P ops Q i K a w := by
 obtain ⟨hdef, H, ρ, I, hs⟩ := hst
 have hlt : i < L.length := by rw [hT.len]; exact (List.getElem?_eq_some_iff.1 hx).1
 obtain ⟨⟨o, r⟩, hor⟩ : ∃ p, L[i]? = some p := ⟨_, List.getElem?_eq_getElem hlt⟩
 obtain ⟨ho, anc, hanc', hstep, hvc, hok, hTi, hent, hlean⟩ := hT.each i o r hor
 rw [hx] at hTi
 simp only [Option.some.injEq] at hTi
 have hdst : ∀ (j : Nat) (o' : Oper) (r' : Res) (y : Ent), L[j]? = some (o', r') → T[j]? = some y → y.dst = o'.dst ∧ y.wr = labelsOf r'.upd ∧ (∀ l ∈ y.wr, l ∈ y.labs) := by
  intro j o' r' y h1 h2
  obtain ⟨_, anc', _, _, _, _, h3, _⟩ := hT.each j o' r' h1
  rw [h2] at h3
  simp only [Option.some.injEq] at h3
  subst h3
  exact ⟨rfl, rfl, fun l hl => mem_app.2 (.inl hl)⟩
 have hentry : ∀ (j : Nat) (o' : Oper) (r' : Res), L[j]? = some (o', r') → ∃ y, T[j]? = some y := by
  intro j o' r' h1
  obtain ⟨_, anc', _, _, _, _, h3, _⟩ := hT.each j o' r' h1
  exact ⟨_, h3⟩
 have hpair : ∀ (j : Nat) (o' : Oper) (r' : Res) (y : Ent), L[j]? = some (o', r') → T[j]? = some y → j ≠ i →
  (∀ d, o'.dst = some d → d ∈ x.reads → D j = decide (j < i)) ∧ (∀ l ∈ labelsOf r'.upd, l ∈ x.labs → D j = decide (j < i)) ∧ (∀ d, o'.dst = some d → o.dst ≠ some d) := by
  intro j o' r' y h1 h2 hne
  obtain ⟨y1, y2, y3⟩ := hdst j o' r' y h1 h2
  obtain ⟨x1, x2, x3⟩ := hdst i o r x hor hx
  rcases Nat.lt_or_ge j i with hji | hji
  · have hx' : entOk x 0 (T.take i) = true := by rw [hTi]; exact hent
    obtain ⟨h3, h4⟩ := entOk_spec hx' j y (by rw [List.getElem?_take, if_pos hji]; exact h2)
    rw [Nat.zero_add] at h3
    have hdj : ∀ (hn : apartE y x ≠ true), D j = decide (j < i) := by
     intro hn
     have := hanc j (h3.resolve_right hn)
     rw [this]; simp [hji]
    refine ⟨fun d hd hm => hdj fun hap => (apart_spec hap).1 d (y1.trans hd) hm, fun l hl hm => hdj fun hap => (apart_spec hap).2.2.1 l (by rw [y2]; exact hl) hm, fun d hd e => ?_⟩
    exact h4 d (x1.trans e) (y1.trans hd)
  · have hij : i < j := by omega
    obtain ⟨_, anc', _, _, _, _, h5, h6, _⟩ := hT.each j o' r' h1
    rw [h2] at h5
    simp only [Option.some.injEq] at h5
    rw [← h5] at h6
    obtain ⟨h3, h4⟩ := entOk_spec h6 i x (by rw [List.getElem?_take, if_pos hij]; exact hx)
    rw [Nat.zero_add] at h3
    have hdj : ∀ (hn : apartE x y ≠ true), D j = decide (j < i) := by
     intro hn
     have hin := h3.resolve_right hn
     have : decide (j < i) = false := by simp; omega
     rw [this]
     cases hDj : D j with
     | false => rfl
     | true =>
       have := hD j y h2 hDj i hin
       rw [hi] at this; cases this
    refine ⟨fun d hd hm => hdj fun hap => (apart_spec hap).2.1 d (y1.trans hd) hm, fun l hl hm => hdj fun hap => (apart_spec hap).2.2.2 l (by rw [y2]; exact hl) hm, fun d hd e => ?_⟩
    exact h4 d (y1.trans hd) (x1.trans e)
 have hxr : x.reads = readsO ops.toList o := by rw [hTi]; rfl
 have hxl : x.labs = app (labelsOf r.upd) (app (readsC P Γ ops.toList (stD (fun j => decide (j < i)) 0 L S0) o (n0 + i)) (labsOps (stD (fun j => decide (j < i)) 0 L S0) (usesO o.op))) := by rw [hTi]; rfl
 have hslot : ∀ t ∈ readsO ops.toList o, nth .un (stD (fun j => decide (j < i)) 0 L S0).tmps t = nth .un (stD D 0 L S0).tmps t := by
  intro t ht
  refine stD_slot (fun j o' r' hj hd => ?_) rfl rfl
  rw [Nat.zero_add]
  by_cases hne : j = i
  · subst hne; rw [hi]; simp
  · obtain ⟨y, hy⟩ := hentry j o' r' hj
    exact ((hpair j o' r' y hj hy hne).1 t hd (by rw [hxr]; exact ht)).symm
 have hlook : ∀ l ∈ x.labs, look l (stD (fun j => decide (j < i)) 0 L S0).hp = look l (stD D 0 L S0).hp := by
  intro l hl
  refine stD_look (fun j o' r' hj hd => ?_) rfl
  rw [Nat.zero_add]
  by_cases hne : j = i
  · subst hne; rw [hi]; simp
  · obtain ⟨y, hy⟩ := hentry j o' r' hj
    exact ((hpair j o' r' y hj hy hne).2.1 l hd hl).symm
 have hstep' : stepO P Γ ops.toList (stD D 0 L S0) o (n0 + i) = some r := by
  exact stepO_local hslot (fun l hl => hlook l (by rw [hxl]; exact mem_app.2 (.inr (mem_app.2 (.inr hl))))) hstep (fun l hl => hlook l (by rw [hxl]; exact mem_app.2 (.inl hl))) (fun l hl => hlook l (by rw [hxl]; exact mem_app.2 (.inr (mem_app.2 (.inl hl))))) (by rw [stD_rows, stD_rows])
 have hdistinct : ∀ (j : Nat) (o' : Oper) (r' : Res), L[j]? = some (o', r') → ∀ d, o.dst = some d → o'.dst = some d → j = i := by
  intro j o' r' hj d h1 h2
  by_cases hne : j = i
  · exact hne
  · obtain ⟨y, hy⟩ := hentry j o' r' hj
    exact absurd h1 ((hpair j o' r' y hj hy hne).2.2 d h2)
 have hfree : (stD D 0 L S0).free o.dst = true := by
  cases hd : o.dst with
  | none => rfl
  | some d =>
    refine freeOf_of fun t g want v e => ?_
    rintro rfl
    rcases stD_from (D := D) (t := t) (l := L) (k := 0) (S := S0) with h | ⟨j, o', r', h1, h2, h3, h4⟩
    · rw [h] at e; exact hS0 t _ _ _ e
    · rw [h4] at e
      rw [Nat.zero_add] at h2
      obtain ⟨_, anc', h5, _, _, _, h6, _, h7⟩ := hT.each j o' r' h1
      rw [e] at h7
      obtain ⟨m, y, h8, h9, h10⟩ := leanOk_spec h7
      rw [Nat.zero_add] at h9
      have hDm : D m = true := hD j _ h6 h2 m h9
      rw [List.getElem?_take] at h8
      split at h8
      · rename_i hmj
        have hmL : m < L.length := by rw [hT.len]; exact (List.getElem?_eq_some_iff.1 h8).1
        obtain ⟨⟨o2, r2⟩, hor2⟩ : ∃ p, L[m]? = some p := ⟨_, List.getElem?_eq_getElem hmL⟩
        have := (hdst m o2 r2 y hor2 h8).1
        have hmi := hdistinct m o2 r2 hor2 g hd (this.symm.trans h10)
        rw [hmi, hi] at hDm; cases hDm
      · cases h8
 have hoi : ops[i]? = some o := by
  rw [← Array.getElem?_toList]; exact ho
 have hdie' : dieO P Y (stD D 0 L S0) o = dieO P Y (stD (fun j => decide (j < i)) 0 L S0) o :=
  (dieO_local' hslot fun l hl => hlook l (by rw [hxl]; exact mem_app.2 (.inr (mem_app.2 (.inr hl))))).symm
 rw [← hdie'] at hvc
 by_cases hdies : ∃ q, dieO P Y (stD D 0 L S0) o = some q ∧ q.at_
 · obtain ⟨q, hq, hat⟩ := hdies
   obtain ⟨h1, h2⟩ := hvc.1 q hq hat
   exact die_go I hs hΓ.glob hY hoi hq hat h1 fun w' H' le I' => hP q.val { stD D 0 L S0 with hp := _ } a w' h2 ⟨hdef, H', ρ, _, I', slots_mono le (Lab.le_refl ρ) hs⟩
 have hvc := hvc.2 fun q hq hat => hdies ⟨q, hq, hat⟩
 have halive : AliveAt P Y S0 L i := fun o2 r2 h2 q hq hat => by
  rw [hor] at h2
  simp only [Option.some.injEq, Prod.mk.injEq] at h2
  obtain ⟨rfl, rfl⟩ := h2
  exact hdies ⟨q, hdie'.trans hq, hat⟩
 have hsm : n0 + i < STRIDE := hT.small i (List.getElem?_eq_some_iff.1 hor).1
 have hmod : (n0 + i) % STRIDE = n0 + i := Nat.mod_eq_of_lt hsm
 have hmodk : ∀ k, (n0 + i + STRIDE * k) % STRIDE = n0 + i := fun k => by rw [Nat.add_mul_mod_self_left, hmod]
 refine step_go I (lab := n0 + i) ⟨hsm, fun k => ⟨by rw [hmodk]; omega, fun j hj e => ?_⟩⟩ hs hΓ hoi hstep' hvc hfree hok fun a' w' H' ρ' h1 h2 h3 h4 h5 => hK a' w' halive ⟨(defers_of h5).trans hdef, H', ρ', ?_, ?_⟩
 · rw [hmodk] at e
   have : j = i := by omega
   subst this; rw [hi] at hj; cases hj
 · refine (h3.later fun l hl => ⟨⟨hl.1, fun j hj => hl.2 j (by simp [more, hj])⟩, ?_⟩).congr fun l => ?_
   · have := hl.2 i (by simp [more])
     exact ⟨fun e => by subst e; exact this hmod, this⟩
   · by_cases hl : l ∈ labelsOf r.upd
     · refine stD_lastLook hl (k := 0) (j := i) hor (by simp [more]) fun j' o' r' hj hlt hm => ?_
       rw [Nat.zero_add]
       obtain ⟨y, hy⟩ := hentry j' o' r' hj
       have := (hpair j' o' r' y hj hy (by omega)).2.1 l hm (by rw [hxl]; exact mem_app.2 (.inl hl))
       have hne : ¬ j' = i := by omega
       simp only [more, this, hne, decide_false, Bool.or_false]
       simp; omega
     · have e1 : look l (stD (more D i) 0 L S0).hp = look l (stD D 0 L S0).hp := by
         refine stD_look (fun j o' r' hj hm => ?_) rfl
         rw [Nat.zero_add]
         have hne : j ≠ i := by
          rintro rfl
          rw [hor] at hj
          simp at hj
          rw [← hj.2] at hm
          exact hl hm
         simp [more, hne]
       rw [e1]
       rcases look_putAll (L := r.upd) (hp := (stD D 0 L S0).hp) l with ⟨o', ho', _⟩ | ⟨_, h⟩
       · exact absurd (labels_mem.2 ⟨o', ho'⟩) hl
       · exact h.symm
 · refine ⟨?_, fun t => ?_⟩
   · have := h4.1
     rw [stD_len] 
     rw [← this]
     cases o.dst <;> simp [SState.set, setN_length, stD_len]
   · have := h4.2 t
     have e : nth .un ((stD D 0 L S0).set o.dst r.out).tmps t = nth .un (stD (more D i) 0 L S0).tmps t := by
      have e0 : ((stD D 0 L S0).set o.dst r.out).tmps = ((stD D 0 L S0).apply o.dst r).tmps := rfl
      rw [e0, apply_slot]
      by_cases hd : o.dst = some t
      · rw [stD_last (D := more D i) hd (k := 0) (j := i) hor (by simp [more]) (fun j' o' r' hj hlt hd' => by
          have := hdistinct j' o' r' hj t hd hd'
          omega)]
        simp only [hd, true_and, stD_len]
        split
        · rfl
        · rename_i hlt
          rw [nth_out _ t (by rw [stD_len]; omega), nth_out _ t (by omega)]
      · rw [if_neg (fun h => hd h.1)]
        refine stD_slot (fun j o' r' hj hd' => ?_) rfl rfl
        rw [Nat.zero_add]
        have hne : j ≠ i := by
         rintro rfl
         rw [hor] at hj
         simp at hj
         rw [← hj.1] at hd'
         exact hd hd'
        simp [more, hne]
     rw [← e]
     exact this

def doneOf (listed : Array Bool) : Nat → Bool := fun j => listed.getD j false
def todoOf (listed : Array Bool) : Nat := listed.toList.countP (fun b => !b)

theorem done_set {listed : Array Bool} {i : Nat} (hi : i < listed.size) : doneOf (listed.setIfInBounds i true) = more (doneOf listed) i := by
 funext j
 simp only [doneOf, more, Array.getD_eq_getD_getElem?, Array.getElem?_setIfInBounds]
 by_cases h : i = j
 · subst h; simp [hi]
 · have : ¬ j = i := fun e => h e.symm
   simp [h, this]
theorem todo_set {listed : Array Bool} {i : Nat} (hi : i < listed.size) (hb : doneOf listed i = false) : todoOf (listed.setIfInBounds i true) + 1 = todoOf listed := by
 unfold todoOf
 rw [Array.toList_setIfInBounds, List.countP_set (by simpa using hi)]
 have hg : listed.toList[i]'(by simpa using hi) = false := by
  unfold doneOf at hb
  rw [Array.getD_eq_getD_getElem?, Array.getElem?_eq_getElem hi] at hb
  simpa using hb
 rw [hg]
 have : 0 < listed.toList.countP (fun b => !b) := List.countP_pos_iff.2 ⟨false, by rw [← hg]; exact List.getElem_mem _, rfl⟩
 simp only [Bool.not_false, if_true, Bool.not_true, Bool.false_eq_true, if_false]
 omega
theorem todo_zero {listed : Array Bool} (h : todoOf listed = 0) : ∀ i, i < listed.size → doneOf listed i = true := by
 intro i hi
 unfold todoOf at h
 rw [List.countP_eq_zero] at h
 have := h (listed[i]) (Array.mem_toList_iff.2 (Array.getElem_mem hi))
 unfold doneOf
 rw [Array.getD_eq_getD_getElem?, Array.getElem?_eq_getElem hi]
 simpa using this

theorem draw_any {Γ : FuncId → Option PC} (hΓ : GamOk P E.H0 Γ) {Y : Dy} (hY : ∀ f c, Y.dc f = some c → DSpec P f c) {ops : Array Oper} {S0 : SState} {n0 : Nat} {L : List (Oper × Res)} {T : List Ent} (hT : Tr P Γ Y ops.toList S0 n0 L T) (hL : L.map (·.1) = ops.toList)
 (hS0 : ∀ t g want v, nth .un S0.tmps t ≠ .cond g want v) {Q : Exit → Act → World → Prop} (hP : ∀ v S' a' w', Y.kpd v → Dst E S' a' w' → Q (.panic [{ v := v, recovered := false }]) a' w') (hK : ∀ a w, (∀ j, AliveAt P Y S0 L j) → StD E S0 n0 L (fun j => decide (j < L.length)) a w → Q .normal a w) :
 ∀ (fuel : Nat) (listed : Array Bool) (a : Act) (w : World), listed.size = ops.size → todoOf listed ≤ fuel → Closed T (doneOf listed) → (∀ j, doneOf listed j = true → AliveAt P Y S0 L j) → StD E S0 n0 L (doneOf listed) a w → wpAny P .any ops Q fuel listed a w := by
 have hn : L.length = ops.size := by
  have := congrArg List.length hL
  simpa using this
 have hall : ∀ (listed : Array Bool) (a : Act) (w : World), listed.size = ops.size → (∀ i, i < listed.size → doneOf listed i = true) → (∀ j, doneOf listed j = true → AliveAt P Y S0 L j) → StD E S0 n0 L (doneOf listed) a w → Q .normal a w := by
  intro listed a w hsz hd hal hst
  have : doneOf listed = fun j => decide (j < L.length) := by
   funext j
   by_cases hj : j < L.length
   · rw [hd j (by rw [hsz, ← hn]; exact hj)]; simp [hj]
   · simp only [hj, decide_false]
     unfold doneOf
     rw [Array.getD_eq_getD_getElem?, Array.getElem?_eq_none (by rw [hsz, ← hn]; omega)]
     rfl
  rw [this] at hst
  refine hK a w (fun j => ?_) hst
  by_cases hj : j < L.length
  · exact hal j (hd j (by rw [hsz, ← hn]; exact hj))
  · intro o r h2
    rw [List.getElem?_eq_none (by omega)] at h2; cases h2
 have hstuck : ∀ (listed : Array Bool), listed.size = ops.size → Region.ready .any ops listed = [] → ∀ i, i < listed.size → doneOf listed i = true := by
  intro listed hsz hr i
  induction i using Nat.strongRecOn with
  | _ i ih =>
    intro hi
    cases hd : doneOf listed i with
    | true => rfl
    | false =>
      exfalso
      have hiL : i < L.length := by rw [hn, ← hsz]; exact hi
      obtain ⟨⟨o, r⟩, hor⟩ : ∃ p, L[i]? = some p := ⟨_, List.getElem?_eq_getElem hiL⟩
      obtain ⟨ho, anc, hanc, _⟩ := hT.each i o r hor
      have hmem : i ∈ Region.ready .any ops listed := by
       unfold Region.ready
       rw [List.mem_filter]
       refine ⟨by simp; omega, ?_⟩
       rw [Bool.and_eq_true]
       have h1 : listed.getD i true = false := by
        unfold doneOf at hd
        rw [Array.getD_eq_getD_getElem?, Array.getElem?_eq_getElem hi] at hd ⊢
        simpa using hd
       rw [h1]
       refine ⟨rfl, ?_⟩
       have : ops[i]? = some o := by rw [← Array.getElem?_toList]; exact ho
       rw [this]
       simp only [Option.map_some, Option.getD_some]
       rw [Array.all_eq_true']
       intro e he
       rw [Bool.or_eq_true]
       cases hb : Region.binds .any e with
       | false => exact .inl rfl
       | true =>
         right
         have hlt := (ancO_spec hanc).2 e (Array.mem_toList_iff.2 he) hb
         have hlt' : e.on < i := by
          rw [List.length_take] at hlt; omega
         exact ih e.on hlt' (by omega)
      rw [hr] at hmem
      cases hmem
 intro fuel
 induction fuel with
 | zero =>
   intro listed a w hsz hf hcl hal hst
   have hdone := todo_zero (Nat.le_zero.1 hf)
   refine ⟨?_, hall listed a w hsz hdone hal hst⟩
   unfold Region.ready
   rw [List.filter_eq_nil_iff]
   intro i hi
   simp only [List.mem_range] at hi
   have := hdone i (by omega)
   unfold doneOf at this
   have h1 : listed.getD i true = true := by
    rw [Array.getD_eq_getD_getElem?, Array.getElem?_eq_getElem (by omega)] at this ⊢
    simpa using this
   rw [h1]
   simp
 | succ fuel ih =>
   intro listed a w hsz hf hcl hal hst
   refine ⟨fun hr => hall listed a w hsz (hstuck listed hsz hr) hal hst, fun i hi => ?_⟩
   unfold Region.ready at hi
   rw [List.mem_filter, Bool.and_eq_true] at hi
   obtain ⟨hir, hnl, hdeps⟩ := hi
   simp only [List.mem_range] at hir
   have hd : doneOf listed i = false := by
    unfold doneOf
    rw [Array.getD_eq_getD_getElem?, Array.getElem?_eq_getElem (by omega)] at hnl ⊢
    simpa using hnl
   have hiL : i < L.length := by omega
   obtain ⟨⟨o, r⟩, hor⟩ : ∃ p, L[i]? = some p := ⟨_, List.getElem?_eq_getElem hiL⟩
   obtain ⟨ho, anc, hanc, _, _, _, hTi, _⟩ := hT.each i o r hor
   have hoi : ops[i]? = some o := by rw [← Array.getElem?_toList]; exact ho
   rw [hoi] at hdeps
   simp only [Option.map_some, Option.getD_some] at hdeps
   rw [Array.all_eq_true'] at hdeps
   have hancD : ∀ k ∈ anc, doneOf listed k = true := by
    intro k hk
    obtain ⟨e, he, hb, h3⟩ := (ancO_spec hanc).1 k hk
    have hon : doneOf listed e.on = true := by
     have := hdeps e (Array.mem_toList_iff.1 he)
     rw [Bool.or_eq_true] at this
     rcases this with h | h
     · rw [hb] at h; simp at h
     · exact h
    rcases h3 with rfl | ⟨x, hx, hkx⟩
    · exact hon
    · rw [List.getElem?_take] at hx
      split at hx
      · exact hcl e.on x hx hon k hkx
      · cases hx
   refine draw_step (D := doneOf listed) hΓ hY hT hS0 hcl hTi hd hancD hst hP fun a' w' hai h' => ?_
   have hds := done_set (listed := listed) (i := i) (by omega)
   refine ih (listed.setIfInBounds i true) a' w' (by simpa using hsz) ?_ ?_ (fun j hj => ?_) (by rw [hds]; exact h')
   · have := todo_set (listed := listed) (i := i) (by omega) hd
     omega
   · rw [hds]
     intro j x hx hj k hk
     simp only [more, Bool.or_eq_true, decide_eq_true_eq] at hj ⊢
     rcases hj with hj | rfl
     · exact .inl (hcl j x hx hj k hk)
     · rw [hTi] at hx
       simp only [Option.some.injEq] at hx
       subst hx
       exact .inl (hancD k hk)
   · rw [hds] at hj
     simp only [more, Bool.or_eq_true, decide_eq_true_eq] at hj
     rcases hj with hj | rfl
     · exact hal j hj
     · exact hai

theorem stD_jump (D : Nat → Bool) : ∀ (l : List (Oper × Res)) (k : Nat) (S : SState), (stD D k l S).jump = S.jump
 | [], _, _ => rfl
 | (o, r) :: l, k, S => by
   simp only [stD]
   rw [stD_jump D l]
   cases D k with
   | true => exact jump_apply _ _ _
   | false => rfl
theorem runDraw_any {Γ : FuncId → Option PC} (hΓ : GamOk P E.H0 Γ) {Y : Dy} (hY : ∀ f c, Y.dc f = some c → DSpec P f c) {ops : Array Oper} {S : SState} {K : SState → Prop} (h : runDraw P Γ Y ops.toList ops.toList S.next S.plain [] K)
 {Q : Exit → Act → World → Prop} (hK : ∀ S' a' w', S'.jump = S.jump → K S' → St E S' a' w' → Q .normal a' w') (hP : ∀ v S' a' w', Y.kpd v → Dst E S' a' w' → Q (.panic [{ v := v, recovered := false }]) a' w') (hst : St E S a w) : wpAny P .any ops Q ops.size (Array.replicate ops.size false) a { w with drawn := w.drawn + 1 } := by
 obtain ⟨L, T, hT, hL, _, hk⟩ := runDraw_trace (S0 := S.plain) (n0 := S.next) (Ld := []) h rfl rfl rfl ⟨rfl, fun i hi => by simp at hi, fun i o r hi => by simp at hi⟩
 have hS0 : ∀ t g want v, nth .un S.plain.tmps t ≠ .cond g want v := by
  intro t g want v e
  simp only [SState.plain] at e
  rw [nth_mapL uncond .un rfl] at e
  cases hn : nth Sl.un S.tmps t <;> rw [hn] at e <;> simp [uncond] at e
 have hsz : (Array.replicate ops.size false).size = ops.size := by simp
 have hdn : doneOf (Array.replicate ops.size false) = fun _ => false := by
  funext j
  unfold doneOf
  rw [Array.getD_eq_getD_getElem?]
  by_cases hj : j < ops.size
  · rw [Array.getElem?_eq_getElem (by simpa using hj)]; simp
  · rw [Array.getElem?_eq_none (by simpa using hj)]; rfl
 have hno : ∀ (l : List (Oper × Res)) k S, stD (fun _ => false) k l S = S := by
  intro l
  induction l with
  | nil => intro k S; rfl
  | cons x l ih => intro k S; obtain ⟨x1, x2⟩ := x; simp only [stD, cond_false]; exact ih _ _
 refine draw_any (E := E) hΓ hY hT hL hS0 hP (fun a' w' hal hd => ?_) ops.size _ a _ hsz (by simp [todoOf, List.countP_replicate]) (fun j x hx hj => by rw [hdn] at hj; cases hj) (fun j hj => by rw [hdn] at hj; cases hj) ?_
 · refine hK { stD (fun _ => true) 0 L S.plain with next := S.next + L.length, tmps := mapL uncond (stD (fun _ => true) 0 L S.plain).tmps } a' w' (stD_jump _ _ _ _) (hk fun j _ => hal j) ?_
   obtain ⟨hdef, H, ρ, I, hs⟩ := hd
   have e : stD (fun j => decide (j < L.length)) 0 L S.plain = stD (fun _ => true) 0 L S.plain := stD_congr fun j hj => by simpa using hj
   rw [e] at I hs
   refine ⟨hdef, H, ρ, I.later fun l hl => ?_, slots_uncond hs⟩
   have hl : S.next + L.length ≤ l % STRIDE := hl
   refine ⟨by omega, fun j hj => ?_⟩
   simp only [decide_eq_true_eq] at hj
   omega
 · obtain ⟨hdef, H, ρ, I, hs⟩ := hst
   rw [hdn]
   refine ⟨hdef, H, ρ, ?_, ?_⟩
   · rw [hno]
     have := I.same (Same.drew w)
     exact this.later fun l hl => hl.1
   · rw [hno]
     exact slots_uncond hs

end Go.Vse
