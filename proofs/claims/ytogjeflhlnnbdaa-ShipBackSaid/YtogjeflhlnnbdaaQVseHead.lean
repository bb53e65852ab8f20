/- Loops: from a state to the loop's head. -/
import Derived.Test.YtogjeflhlnnbdaaQVseDraw
namespace Go.Vse
variable {P : Program} {E : Env} {H : Mem} {ρ ρ' : Lab} {hp : List (Nat × SObj)} {lab : Nat} {N : Nat → Prop} {w : World} {S : SState} {a : Act}

def newLab (ρ : Lab) (n : Nat) (ren : List (Nat × Option Nat)) : Lab := fun l =>
  match renOf ren l with
  | some (some k) => ρ k
  | some none => some (.slice none 0 0)
  | none => if l < n ∧ l ∉ killed ren then ρ l else none

theorem okLab_spec {n : Nat} {ren : List (Nat × Option Nat)} {l : Nat} (h : okLab n ren l = true) : l < n ∧ l ∉ turned ren ∧ l ∉ killed ren := by
  simp only [okLab, Bool.and_eq_true, Bool.not_eq_true'] at h
  refine ⟨Nat.le_of_ble_eq_true h.1.1, fun hm => ?_, fun hm => ?_⟩
  · rw [memN_iff.2 hm] at h; simp at h
  · rw [memN_iff.2 hm] at h; simp at h
theorem newLab_ok {n : Nat} {ren : List (Nat × Option Nat)} {l : Nat} (h : okLab n ren l = true) : newLab ρ n ren l = ρ l := by
  obtain ⟨h1, h2, h3⟩ := okLab_spec h
  unfold newLab
  cases hr : renOf ren l with
  | none => simp only; rw [if_pos ⟨h1, h3⟩]
  | some v =>
    by_cases hv : v = some l
    · subst hv; rfl
    · exact absurd (turned_mem (renOf_spec hr) hv) h2
theorem newLab_ren {n : Nat} {ren : List (Nat × Option Nat)} (hd : distinct (keysL ren) = true) : Renamed ρ (newLab ρ n ren) ren := by
  intro k0 k hm
  have := renOf_of_mem hd hm
  unfold newLab
  rw [this]
  cases k <;> rfl

theorem keptOk_spec {n : Nat} {ren : List (Nat × Option Nat)} : ∀ {l : List Sl}, keptOk n ren l = true → ∀ t, ∀ k ∈ labsS (nth .un l t), okLab n ren k = true
  | [], _, t, k, hk => by cases t <;> simp [nth, labsS] at hk
  | v :: r, h, t, k, hk => by
    simp only [keptOk, Bool.and_eq_true] at h
    cases t with
    | zero => exact allN_iff.1 h.1 k hk
    | succ t => exact keptOk_spec h.2 t k hk
theorem slotsOk_spec {n : Nat} {ren : List (Nat × Option Nat)} : ∀ {l : List (Nat × Sl)}, slotsOk n ren l = true → ∀ t v, (t, v) ∈ l → ∀ k ∈ refsS v, okLab n ren k = true
  | (i, u) :: r, h, t, v, hm, k, hk => by
    simp only [slotsOk, Bool.and_eq_true] at h
    simp only [List.mem_cons, Prod.mk.injEq] at hm
    rcases hm with ⟨rfl, rfl⟩ | hm
    · exact allN_iff.1 h.1 k hk
    · exact slotsOk_spec h.2 t v hm k hk
theorem listedOk_cells {n : Nat} {ren : List (Nat × Option Nat)} : ∀ {L : List (Nat × SObj)}, listedOk n ren L = true → ∀ l cs ro, (l, .cells cs ro) ∈ L → okLab n ren l = true ∧ ∀ k ∈ refsC cs, okLab n ren k = true
  | (i, o) :: r, h, l, cs, ro, hm => by
    simp only [List.mem_cons, Prod.mk.injEq] at hm
    rcases hm with ⟨rfl, rfl⟩ | hm
    · simp only [listedOk, Bool.and_eq_true] at h
      exact ⟨h.1.1, allN_iff.1 h.1.2⟩
    · refine listedOk_cells ?_ l cs ro hm
      cases o <;> simp only [listedOk, Bool.and_eq_true] at h
      · exact h.2
      · exact h.2
      · exact h
theorem listedOk_tok {n : Nat} {ren : List (Nat × Option Nat)} : ∀ {L : List (Nat × SObj)}, listedOk n ren L = true → ∀ l e s, (l, .tok e s) ∈ L → l ∈ keysL ren
  | (i, o) :: r, h, l, e, s, hm => by
    simp only [List.mem_cons, Prod.mk.injEq] at hm
    rcases hm with ⟨rfl, rfl⟩ | hm
    · simp only [listedOk, Bool.and_eq_true] at h
      exact memN_iff.1 h.1
    · refine listedOk_tok (n := n) ?_ l e s hm
      cases o <;> simp only [listedOk, Bool.and_eq_true] at h
      · exact h.2
      · exact h.2
      · exact h
theorem restOk_spec {n : Nat} {ren : List (Nat × Option Nat)} {listed : List Nat} : ∀ {L : List (Nat × SObj)}, restOk n ren listed L = true → ∀ l o, (l, o) ∈ L → l ∉ listed → o ≠ .gone → okLab n ren l = true ∧ ∀ k ∈ labsO o, okLab n ren k = true
  | (i, u) :: r, h, l, o, hm, hl, ho => by
    simp only [restOk, Bool.and_eq_true, Bool.or_eq_true] at h
    simp only [List.mem_cons, Prod.mk.injEq] at hm
    rcases hm with ⟨rfl, rfl⟩ | hm
    · rcases h.1 with h1 | h1
      · exact absurd (memN_iff.1 h1) hl
      · cases o with
        | gone => exact absurd rfl ho
        | tok e s => exact ⟨h1, by simp [labsO]⟩
        | cells cs ro => simp only [Bool.and_eq_true] at h1; exact ⟨h1.1, allN_iff.1 h1.2⟩
    · exact restOk_spec h.2 l o hm hl ho
theorem rensOk_spec {hp hp' : List (Nat × SObj)} : ∀ {ren : List (Nat × Option Nat)}, rensOk hp hp' ren = true → ∀ k0 k, (k0, some k) ∈ ren → ∃ e s, look k0 hp = .tok e s ∧ look k hp' = .tok e s
  | (x, some u) :: r, h, k0, k, hm => by
    simp only [rensOk, Bool.and_eq_true] at h
    simp only [List.mem_cons, Prod.mk.injEq, Option.some.injEq] at hm
    rcases hm with ⟨rfl, rfl⟩ | hm
    · have h1 := h.1
      split at h1
      · rename_i e s he
        refine ⟨e, s, he, ?_⟩
        unfold tokIs at h1
        split at h1
        · rename_i e' s' he'
          simp only [Bool.and_eq_true] at h1
          rw [he', Nat.eq_of_beq_eq_true h1.1, Nat.eq_of_beq_eq_true h1.2]
        · simp at h1
      · simp at h1
    · exact rensOk_spec h.2 k0 k hm
  | (x, none) :: r, h, k0, k, hm => by
    simp only [List.mem_cons, Prod.mk.injEq, reduceCtorEq, and_false, false_or] at hm
    exact rensOk_spec (by simpa [rensOk] using h) k0 k hm

/-- what one slot says the other one says -/
def SlImp (s s' : Sl) : Prop := ∀ H ρ arr v, slRel H ρ arr s v → slRel H ρ arr s' v
theorem SlImp.refl (s : Sl) : SlImp s s := fun _ _ _ _ h => h
theorem SlImp.of_eq {s s' : Sl} (h : s = s') : SlImp s s' := h ▸ SlImp.refl s
theorem SlImp.trans {a b c : Sl} (h : SlImp a b) (h' : SlImp b c) : SlImp a c := fun _ _ _ _ x => h' _ _ _ _ (h _ _ _ _ x)

theorem fit_head {S' : SState} {c : Code} {A : LoopAnn} {x : A.X} {wr : List Nat} (hfit : fitHead S c A x S' wr) (hst : St E S' a w) (hlen : S'.tmps.length = S.tmps.length)
    (hkeep : ∀ t, t ∉ assigned c → SlImp (uncond (nth .un S'.tmps t)) (uncond (nth .un S.tmps t))) (hlook : ∀ l, l ∉ wr → look l S'.hp = look l S.hp) (hp1 : ∀ l v, E.pin l = some v → l = 1) : St E (headOf S c A x) a w := by
  obtain ⟨hdef, H, ρ, I, hs⟩ := hst
  unfold fitHead at hfit
  split at hfit
  · rename_i f hf
    cases hok : headOk S c A x S' wr f.ren with
    | false => rw [hok] at hfit; exact hfit.elim
    | true =>
      rw [hok] at hfit; simp only [cond_true] at hfit
      have hvc : vcT f.vc := by
        cases hv : f.vc with
        | none => trivial
        | some p => rw [hv] at hfit; exact hfit
      simp only [headOk, Bool.and_eq_true] at hok
      obtain ⟨⟨⟨⟨⟨⟨⟨⟨⟨hwr, hone⟩, hdk⟩, hdv⟩, hkn⟩, hrens⟩, hlis⟩, hsl⟩, hkept⟩, hrest⟩ := hok
      obtain ⟨f1, f2, e1, e2, rfl⟩ := Fit.and_spec hf
      obtain ⟨v1, v2⟩ := vcT_and hvc
      have hren : Renamed ρ (newLab ρ S.next (app f1.ren f2.ren)) (app f1.ren f2.ren) := newLab_ren hdk
      obtain ⟨r1, r2⟩ := hren.app
      simp only at hwr hone hdk hdv hkn hrens hlis hsl hkept hrest
      generalize hR : app f1.ren f2.ren = ren at *
      have hlab : ∀ {l}, okLab S.next ren l = true → newLab ρ S.next ren l = ρ l := fun h => newLab_ok h
      -- the blocks that are not listed are as they were
      have hun : ∀ l, l ∉ labelsOf (A.objs x) → look l S.hp ≠ .gone → look l S'.hp = look l S.hp ∧ okLab S.next ren l = true ∧ ∀ k ∈ labsO (look l S.hp), okLab S.next ren k = true := by
        intro l hl hne
        obtain ⟨h1, h2⟩ := restOk_spec hrest l _ (look_mem hne) hl hne
        refine ⟨hlook l fun hm => ?_, h1, h2⟩
        have := allN_iff.1 hwr l hm
        simp only [Bool.or_eq_true] at this
        rcases this with h | h
        · exact hl (memN_iff.1 h)
        · have h3 := (okLab_spec h1).1
          have h4 := Nat.le_of_ble_eq_true h
          omega
      -- where each label at the head comes from
      have hsrc : ∀ l b, look l (putAll S.hp (A.objs x)) ≠ .gone → baseOf (newLab ρ S.next ren) l = some b →
          ∃ k, look k S'.hp ≠ .gone ∧ baseOf ρ k = some b ∧ ((l, some k) ∈ ren ∨ (k = l ∧ okLab S.next ren l = true)) := by
        intro l b hne hb
        rcases look_putAll (L := A.objs x) (hp := S.hp) l with ⟨o, ho, hlo⟩ | ⟨hnl, hlo⟩
        · rw [hlo] at hne
          cases o with
          | gone => exact absurd rfl hne
          | cells cs ro =>
            obtain ⟨g1, g2⟩ := listedOk_cells hlis l cs ro ho
            obtain ⟨g, hg, _, _⟩ := fitObjs_mem e2 v2 r2 ho
            refine ⟨l, fun hgone => ?_, by rwa [baseOf, hlab g1] at hb, .inr ⟨rfl, g1⟩⟩
            rw [hgone] at hg; simp [fitObj] at hg
          | tok e s =>
            obtain ⟨v, hv⟩ := keys_mem.1 (listedOk_tok hlis l e s ho)
            cases v with
            | none =>
              have : newLab ρ S.next ren l = some (.slice none 0 0) := hren l none hv
              simp [baseOf, this, blk] at hb
            | some k =>
              obtain ⟨e', s', _, hk⟩ := rensOk_spec hrens l k hv
              have : newLab ρ S.next ren l = ρ k := hren l (some k) hv
              exact ⟨k, by rw [hk]; simp, by rwa [baseOf, this] at hb, .inl hv⟩
        · rw [hlo] at hne
          obtain ⟨g1, g2, _⟩ := hun l hnl hne
          exact ⟨l, by rw [g1]; exact hne, by rwa [baseOf, hlab g2] at hb, .inr ⟨rfl, g2⟩⟩
      refine ⟨hdef, H, newLab ρ S.next ren, ?_, ?_⟩
      · exact {
          mem := I.mem
          objs := fun l => by
            show objRel H _ w l (look l (putAll S.hp (A.objs x)))
            rcases look_putAll (L := A.objs x) (hp := S.hp) l with ⟨o, ho, hlo⟩ | ⟨hnl, hlo⟩
            · rw [hlo]
              cases o with
              | gone => trivial
              | cells cs ro =>
                obtain ⟨g1, g2⟩ := listedOk_cells hlis l cs ro ho
                obtain ⟨g, hg, gv, gr⟩ := fitObjs_mem e2 v2 r2 ho
                have hobj := I.objs l
                cases hlk : look l S'.hp with
                | cells cs' ro' =>
                  rw [hlk] at hobj hg
                  simp only [fitObj] at hg
                  cases hro : (ro' == ro) with
                  | false => rw [hro] at hg; simp at hg
                  | true =>
                    rw [hro] at hg; simp only [cond_true] at hg
                    simp only [beq_iff_eq] at hro; subst hro
                    obtain ⟨b, cc, ty, h1, h2, h3, h4⟩ := hobj
                    exact ⟨b, cc, ty, (hlab g1).trans h1, h2, fitSCs_rel hg gv gr (fun k hk => hlab (g2 k hk)) h3, h4⟩
                | tok e s => rw [hlk] at hg; simp [fitObj] at hg
                | gone => rw [hlk] at hg; simp [fitObj] at hg
              | tok e s =>
                obtain ⟨v, hv⟩ := keys_mem.1 (listedOk_tok hlis l e s ho)
                cases v with
                | none =>
                  have : newLab ρ S.next ren l = some (.slice none 0 0) := hren l none hv
                  exact ⟨_, 0, [], this, ownsR_nil w e s, by simp [Value.ownBlock]⟩
                | some k =>
                  obtain ⟨e', s', hk0, hk⟩ := rensOk_spec hrens l k hv
                  rw [hlo] at hk0
                  simp at hk0
                  obtain ⟨rfl, rfl⟩ := hk0
                  have this : newLab ρ S.next ren l = ρ k := hren l (some k) hv
                  have hobj := I.objs k
                  rw [hk] at hobj
                  obtain ⟨v, n, xs, h1, h2⟩ := hobj
                  exact ⟨v, n, xs, this.trans h1, h2⟩
            · rw [hlo]
              by_cases hne : look l S.hp = .gone
              · rw [hne]; trivial
              · obtain ⟨g1, g2, g3⟩ := hun l hnl hne
                have hobj := I.objs l
                rw [g1] at hobj
                cases hlk : look l S.hp with
                | gone => trivial
                | cells cs ro =>
                  rw [hlk] at hobj g3
                  obtain ⟨b, cc, ty, h1, h2, h3, h4⟩ := hobj
                  exact ⟨b, cc, ty, (hlab g2).trans h1, h2, scs_lab h3 (fun k hk => hlab (g3 k hk)), h4⟩
                | tok e s =>
                  rw [hlk] at hobj
                  obtain ⟨v, n, xs, h1, h2⟩ := hobj
                  exact ⟨v, n, xs, (hlab g2).trans h1, h2⟩
          sep := fun l l' b h1 h2 hne hb hb' => by
            obtain ⟨k, k1, k2, k3⟩ := hsrc l b h1 hb
            obtain ⟨k', k1', k2', k3'⟩ := hsrc l' b h2 hb'
            have hkk : k = k' := Classical.byContradiction fun hd => I.sep k k' b k1 k1' hd k2 k2'
            subst hkk
            rcases k3 with k3 | ⟨k3, k4⟩ <;> rcases k3' with k3' | ⟨k3', k4'⟩
            · exact hne (vals_inj hdv k3 k3' hdk)
            · subst k3'
              by_cases he : k = l
              · exact hne he.symm
              · exact (okLab_spec k4').2.2 (killed_mem k3 he)
            · subst k3
              by_cases he : k = l'
              · exact hne he
              · exact (okLab_spec k4).2.2 (killed_mem k3' he)
            · exact hne (k3.symm.trans k3')
          fresh := fun l b h1 hb => by
            obtain ⟨k, k1, k2, k3⟩ := hsrc l b h1 hb
            exact I.fresh k b k1 k2
          bound := fun l hl => by
            have hl : S.next ≤ l := hl
            have hnk : l ∉ keysL ren := fun hm => by
              have := Nat.le_of_ble_eq_true (allN_iff.1 hkn l hm)
              omega
            unfold newLab
            rw [renOf_none hnk]
            simp only
            rw [if_neg (by omega)]
          keepH := I.keepH
          newH := I.newH
          frame := I.frame
          grow := I.grow
          os := I.os
          tape := I.tape
          output := I.output
          root := fun l v hv => by
            have e := hp1 l v hv
            subst e
            exact (hlab hone).trans (I.root 1 v hv) }
      · refine ⟨by simp only [headOf, setAll_length, clear_length, mapL_length]; rw [← hlen]; exact hs.1, fun t => ?_⟩
        simp only [headOf]
        have hst := hs.2 t
        rcases nth_setAll (sl := inL (assigned c) (A.slots x)) (l := clear (mapL uncond S.tmps) (assigned c)) t with ⟨h, _⟩ | ⟨v, h1, h2⟩ | ⟨h1, h2⟩
        · rw [h]; trivial
        · rw [h2]
          have h1 := (inL_mem h1).1
          obtain ⟨g, hg, gv, gr⟩ := fitSlots_mem e1 v1 r1 h1
          exact fitSl_rel hg gv gr (fun k hk => hlab (slotsOk_spec hsl t v h1 k hk)) (get_rel hs t)
        · have hko := keptOk_spec hkept t
          rw [nth_clear, if_neg h1] at hko
          rw [h2]
          rw [nth_clear, nth_mapL uncond .un rfl] at hko ⊢
          by_cases ht : t ∈ assigned c
          · rw [if_pos ht]; trivial
          · rw [if_neg ht] at hko ⊢
            refine sl_lab ?_ (fun k hk => hlab (hko k hk))
            refine hkeep t ht _ _ _ _ ?_
            generalize nth Sl.un S'.tmps t = s at hst
            cases s with
            | cond g want u => trivial
            | _ => exact hst
  · exact hfit.elim

end Go.Vse
