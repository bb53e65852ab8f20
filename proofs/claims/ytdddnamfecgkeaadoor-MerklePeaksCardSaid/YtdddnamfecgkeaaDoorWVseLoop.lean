/- Loops: a state that is an instance of a loop's head. -/
import Derived.Test.YtdddnamfecgkeaaDoorWVseRun
namespace Go.Vse
variable {P : Program} {E : Env} {H : Mem} {ρ ρ' : Lab} {hp : List (Nat × SObj)} {lab : Nat} {N : Nat → Prop} {w : World} {S : SState} {a : Act}

theorem mem_app {α : Type} {x : α} : ∀ {l m : List α}, x ∈ app l m ↔ x ∈ l ∨ x ∈ m
 | [], m => by simp [app]
 | y :: r, m => by simp [app, mem_app (l := r), or_assoc]
theorem memN_iff {n : Nat} : ∀ {l : List Nat}, memN n l = true ↔ n ∈ l
 | [] => by simp [memN]
 | k :: r => by
   simp only [memN, Bool.or_eq_true, memN_iff (l := r), List.mem_cons]
   constructor
   · rintro (h | h)
     · exact .inl (Nat.eq_of_beq_eq_true h)
     · exact .inr h
   · rintro (h | h)
     · subst h; exact .inl (Nat.beq_refl _)
     · exact .inr h
theorem allN_iff {f : Nat → Bool} : ∀ {l : List Nat}, allN f l = true ↔ ∀ k ∈ l, f k = true
 | [] => by simp [allN]
 | k :: r => by simp [allN, allN_iff (l := r)]
theorem keys_mem {α : Type} : ∀ {l : List (Nat × α)} {k : Nat}, k ∈ keysL l ↔ ∃ v, (k, v) ∈ l
 | [], k => by simp [keysL]
 | (i, v) :: r, k => by
   simp only [keysL, List.mem_cons, keys_mem (l := r), Prod.mk.injEq]
   constructor
   · rintro (h | ⟨v', h⟩)
     · exact ⟨v, .inl ⟨h, rfl⟩⟩
     · exact ⟨v', .inr h⟩
   · rintro ⟨v', ⟨h, _⟩ | h⟩
     · exact .inl h
     · exact .inr ⟨v', h⟩
theorem labels_mem : ∀ {l : List (Nat × SObj)} {k : Nat}, k ∈ labelsOf l ↔ ∃ v, (k, v) ∈ l
 | [], k => by simp [labelsOf]
 | (i, v) :: r, k => by
   simp only [labelsOf, List.mem_cons, labels_mem (l := r), Prod.mk.injEq]
   constructor
   · rintro (h | ⟨v', h⟩)
     · exact ⟨v, .inl ⟨h, rfl⟩⟩
     · exact ⟨v', .inr h⟩
   · rintro ⟨v', ⟨h, _⟩ | h⟩
     · exact .inl h
     · exact .inr ⟨v', h⟩

theorem refRel_lab {r : Ref} {v : Value} (h : refRel ρ r v) (hl : ρ' (labR r) = ρ (labR r)) : refRel ρ' r v := by
 cases r <;> simp only [refRel, labR] at * <;> rw [hl] <;> exact h
theorem scs_lab : ∀ {cs : List SC} {vs : List Value}, scsRel H ρ cs vs → (∀ l ∈ labsC cs, ρ' l = ρ l) → scsRel H ρ' cs vs
 | [], _, h, _ => h
 | .run r :: cs, _, ⟨x, y, e, h1, h2⟩, hl => ⟨x, y, e, h1, scs_lab h2 (by simpa [labsC] using hl)⟩
 | .ref r :: cs, _, ⟨x, y, e, ⟨v, e2, h1⟩, h2⟩, hl => ⟨x, y, e, ⟨v, e2, refRel_lab h1 (hl _ (by simp [labsC]))⟩, scs_lab h2 (fun l h => hl l (by simp [labsC, h]))⟩
 | .own k t xs :: cs, _, ⟨x, y, e, ⟨v, e2, h1, h3⟩, h2⟩, hl => ⟨x, y, e, ⟨v, e2, (hl k (by simp [labsC])).trans h1, h3⟩, scs_lab h2 (fun l h => hl l (by simp [labsC, h]))⟩
theorem sv_lab {s : SV} {v : Value} (h : svRel H ρ s v) (hl : ∀ l ∈ labsV s, ρ' l = ρ l) : svRel H ρ' s v := by
 cases s with
 | dv d => exact h
 | own k t xs => exact ⟨(hl k (by simp [labsV])).trans h.1, h.2⟩
 | full t xs => exact h
 | ref r => exact refRel_lab h (hl _ (by simp [labsV]))
 | ipt rs => exact h
 | agg cs =>
   obtain ⟨vs, e, h⟩ := h
   exact ⟨vs, e, scs_lab h hl⟩
 | yld k => exact (hl k (by simp [labsV])).trans h
 | clr g cs =>
   obtain ⟨vs, e, h⟩ := h
   exact ⟨vs, e, scs_lab h hl⟩
 | clo f caps => cases caps <;> exact h
 | top => trivial
theorem svs_lab : ∀ {ss : List SV} {vs : List Value}, svsRel H ρ ss vs → (∀ l ∈ labsVs ss, ρ' l = ρ l) → svsRel H ρ' ss vs
 | [], _, h, _ => h
 | s :: r, _, ⟨v, x, e, h1, h2⟩, hl => ⟨v, x, e, sv_lab h1 (fun l h => hl l (by simp [labsVs, mem_app, h])), svs_lab h2 (fun l h => hl l (by simp [labsVs, mem_app, h]))⟩
theorem sl_lab {s : Sl} {a : Array Value} {v : Value} (h : slRel H ρ a s v) (hl : ∀ l ∈ labsS s, ρ' l = ρ l) : slRel H ρ' a s v := by
 cases s with
 | sv s => exact sv_lab h hl
 | tup ss =>
   obtain ⟨vs, e, h⟩ := h
   exact ⟨vs, e, svs_lab h hl⟩
 | cond g want s => exact ⟨fun hg => sv_lab (h.1 hg) hl, h.2⟩
 | un => trivial

def Renamed (ρ ρ' : Lab) (ren : List (Nat × Option Nat)) : Prop :=
 ∀ k0 k, (k0, k) ∈ ren → match k with
  | some k => ρ' k0 = ρ k
  | none => ρ' k0 = some (.slice none 0 0)
theorem Renamed.app {r s : List (Nat × Option Nat)} (h : Renamed ρ ρ' (Vse.app r s)) : Renamed ρ ρ' r ∧ Renamed ρ ρ' s :=
 ⟨fun k0 k h1 => h k0 k (mem_app.2 (.inl h1)), fun k0 k h1 => h k0 k (mem_app.2 (.inr h1))⟩
theorem Fit.and_spec {f g : Option Fit} {x : Fit} (h : Fit.and f g = some x) : ∃ y z, f = some y ∧ g = some z ∧ x = ⟨andVC y.vc z.vc, app y.ren z.ren⟩ := by
 unfold Fit.and at h
 split at h
 · simp at h; exact ⟨_, _, rfl, rfl, h.symm⟩
 · simp at h
theorem fitP_spec {p : Option (Option Prop)} {x : Fit} (h : fitP p = some x) : p = some x.vc ∧ x.ren = [] := by
 unfold fitP at h
 split at h
 · simp at h; subst h; exact ⟨rfl, rfl⟩
 · simp at h
theorem fitRow_spec {t u : T} {xs : List t.den} {ys : List u.den} {p : Option Prop} (h : fitRow t u xs ys = some p) (hv : vcT p) : ∃ e : t = u, castL e xs = ys := by
 unfold fitRow at h
 split at h
 · rename_i e; simp at h; subst h; exact ⟨e, hv⟩
 · simp at h

theorem fitDV_rel {d e : DV} {p : Option Prop} (h : fitDV d e = some p) (hv : vcT p) {v : Value} (hd : dvRel H d v) : dvRel H e v := by
 unfold fitDV at h
 split at h
 case h_1 => simp at h; subst h; rw [← show _ = _ from hv]; exact hd
 case h_2 => simp at h; subst h; rw [← show _ = _ from hv]; exact hd
 case h_3 => simp at h; subst h; rw [← show _ = _ from hv]; exact hd
 case h_4 => simp at h; subst h; rw [← show _ = _ from hv]; exact hd
 case h_5 => simp at h; subst h; rw [← show _ = _ from hv]; exact hd
 case h_6 => simp at h; subst h; rw [← show _ = _ from hv]; exact hd
 case h_7 => simp at h; subst h; rw [← show _ = _ from hv]; exact hd
 case h_8 => exact hd
 case h_9 =>
  simp at h; subst h
  have e : _ = [] := hv
  exact ⟨by rw [e]; simp, .inl ⟨e, .inl hd⟩⟩
 case h_10 =>
  obtain ⟨e, hx⟩ := fitRow_spec h hv
  subst e; subst hx; exact hd
 case h_11 =>
  rename_i u u'
  cases hb : (eqV u u' && isNilV u) with
  | false => rw [hb] at h; simp at h
  | true =>
    simp only [Bool.and_eq_true] at hb
    have := eqV_eq hb.1
    subst this; exact hd
 case h_12 => simp at h
theorem fitRun_rel {r s : Run} {p : Option Prop} (h : fitRun r s = some p) (hv : vcT p) {cs : List Value} (hr : runRel H r cs) : runRel H s cs := by
 unfold fitRun at h
 split at h
 · obtain ⟨v, e, hd⟩ := hr; exact ⟨v, e, fitDV_rel h hv hd⟩
 · rename_i t n xs u m ys
   cases hb : Nat.beq n m with
   | false => rw [hb] at h; simp at h
   | true =>
     rw [hb] at h; simp only [cond_true] at h
     have := Nat.eq_of_beq_eq_true hb; subst this
     obtain ⟨e, hx⟩ := fitRow_spec h hv
     subst e; subst hx; exact hr
 · simp at h

theorem fitOwn_rel {k k0 : Nat} {t u : T} {xs : List t.den} {ys : List u.den} {f : Fit} (h : fitOwn k k0 t u xs ys = some f) (hv : vcT f.vc) (hr : Renamed ρ ρ' f.ren) {v : Value} (ho : ownRel H ρ k t xs v) : ownRel H ρ' k0 u ys v := by
 unfold fitOwn at h
 split at h
 · rename_i p hp
   simp at h; subst h
   obtain ⟨e, hx⟩ := fitRow_spec hp hv
   subst e; subst hx
   exact ⟨(hr k0 (some k) (by simp)).trans ho.1, ho.2⟩
 · simp at h
theorem fitNil_rel {k0 : Nat} {t : T} {ys : List t.den} (hv : ys = []) (hr : Renamed ρ ρ' [(k0, none)]) {v : Value} (h : v = .slice none 0 0) : ownRel H ρ' k0 t ys v := by
 subst h; subst hv
 exact ⟨hr k0 none (by simp), ⟨by simp, .inl ⟨rfl, .inl rfl⟩⟩, by simp⟩
theorem plainR_rel {r s : Ref} (h : plainR r s = true) {v : Value} (hr : refRel ρ r v) (hl : ρ' (labR s) = ρ (labR r)) : refRel ρ' s v := by
 unfold plainR at h
 split at h
 · have := Nat.eq_of_beq_eq_true h; subst this
   obtain ⟨b, h1, h2, h3⟩ := hr
   exact ⟨b, hl.trans h1, h2, h3⟩
 · obtain ⟨b, h1, h2⟩ := hr
   exact ⟨b, hl.trans h1, h2⟩
 · obtain ⟨h1, h2⟩ := hr
   exact ⟨hl.trans h1, h2⟩
 · have := Nat.eq_of_beq_eq_true h; subst this
   obtain ⟨b, h1, h2, h3⟩ := hr
   exact ⟨b, hl.trans h1, h2, h3⟩
 · cases h
theorem fitRef_rel {r s : Ref} {f : Fit} (h : fitRef r s = some f) (hv : vcT f.vc) (hr : Renamed ρ ρ' f.ren) (hl : ∀ l ∈ refsV (.ref s), ρ' l = ρ l) {v : Value} (hs : refRel ρ r v) : refRel ρ' s v := by
 unfold fitRef at h
 simp only [refsV] at hl
 cases hp : isPlain s with
 | true =>
   rw [hp] at h
   simp only [cond_true] at h
   cases hq : plainR r s with
   | false => rw [hq] at h; cases h
   | true =>
     rw [hq] at h
     simp at h; subst h
     exact plainR_rel hq hs (hr _ (some _) (by simp))
 | false =>
   rw [hp] at h hl
   simp only [cond_false] at h hl
   cases hq : Nat.beq (labR r) (labR s) with
   | false => rw [hq] at h; cases h
   | true =>
     rw [hq] at h
     simp at h; subst h
     have e : _ = _ := hv
     subst e
     exact refRel_lab hs (hl _ (by simp))
theorem fitNilRow_rel {k0 : Nat} (hr : Renamed ρ ρ' [(k0, none)]) {v : Value} (h : v = .slice none 0 0) : refRel ρ' (.row k0) v := by
 subst h
 exact ⟨hr k0 none (by simp), _, _, _, rfl⟩
theorem fitSC_rel {c d : SC} {f : Fit} (h : fitSC c d = some f) (hv : vcT f.vc) (hr : Renamed ρ ρ' f.ren) (hl : ∀ l ∈ refsC [d], ρ' l = ρ l) {cs : List Value} (hc : scRel H ρ c cs) : scRel H ρ' d cs := by
 unfold fitSC at h
 split at h
 · obtain ⟨h1, h2⟩ := fitP_spec h
   exact fitRun_rel h1 hv hc
 · rename_i r s
   obtain ⟨v, e, h1⟩ := hc
   refine ⟨v, e, fitRef_rel h hv hr (fun l hm => hl l ?_) h1⟩
   simp only [refsV, refsC] at hm ⊢
   cases hp : isPlain s with
   | true => rw [hp] at hm; cases hm
   | false => rw [hp] at hm; exact hm
 · simp at h; subst h
   obtain ⟨v, e, h1⟩ := hc
   exact ⟨v, e, fitNilRow_rel hr h1⟩
 · obtain ⟨v, e, h1⟩ := hc
   exact ⟨v, e, fitOwn_rel h hv hr h1⟩
 · obtain ⟨h1, h2⟩ := fitP_spec h
   obtain ⟨e, hx⟩ := fitRow_spec h1 hv
   subst e; subst hx
   obtain ⟨v, e, h1⟩ := hc
   exact ⟨v, e, h1.2.1⟩
 · simp at h; subst h
   obtain ⟨v, e, h1⟩ := hc
   exact ⟨v, e, fitNil_rel hv hr h1⟩
 · simp at h
theorem fitSCs_rel : ∀ {cs ds : List SC} {f : Fit}, fitSCs cs ds = some f → vcT f.vc → Renamed ρ ρ' f.ren → (∀ l ∈ refsC ds, ρ' l = ρ l) → ∀ {vs : List Value}, scsRel H ρ cs vs → scsRel H ρ' ds vs
 | [], [], _, _, _, _, _, vs, h => h
 | c :: r, d :: s, f, h, hv, hr, hl, vs, ⟨x, y, e, h1, h2⟩ => by
   obtain ⟨y1, y2, e1, e2, rfl⟩ := Fit.and_spec h
   obtain ⟨v1, v2⟩ := vcT_and hv
   obtain ⟨r1, r2⟩ := hr.app
   refine ⟨x, y, e, fitSC_rel e1 v1 r1 (fun l hm => hl l ?_) h1, fitSCs_rel e2 v2 r2 (fun l hm => hl l ?_) h2⟩
   · cases d with
     | ref q =>
       simp only [refsC] at hm ⊢
       cases hp : isPlain q with
       | true => rw [hp] at hm; cases hm
       | false => rw [hp] at hm; simp at hm; subst hm; simp
     | _ => cases hm
   · cases d with
     | ref q =>
       simp only [refsC] at hm ⊢
       cases hp : isPlain q with
       | true => exact hm
       | false => exact List.mem_cons_of_mem _ hm
     | _ => exact hm
 | [], _ :: _, _, h, _, _, _, _, _ => by simp [fitSCs] at h
 | _ :: _, [], _, h, _, _, _, _, _ => by simp [fitSCs] at h
theorem fitSV_rel {s u : SV} {f : Fit} (h : fitSV s u = some f) (hv : vcT f.vc) (hr : Renamed ρ ρ' f.ren) (hl : ∀ l ∈ refsV u, ρ' l = ρ l) {v : Value} (hs : svRel H ρ s v) : svRel H ρ' u v := by
 unfold fitSV at h
 split at h
 · trivial
 · simp at h; subst h
   exact fitNil_rel hv hr hs
 · obtain ⟨h1, h2⟩ := fitP_spec h
   exact fitDV_rel h1 hv hs
 · exact fitOwn_rel h hv hr hs
 · obtain ⟨h1, h2⟩ := fitP_spec h
   obtain ⟨e, hx⟩ := fitRow_spec h1 hv
   subst e; subst hx
   exact hs.2.1
 · obtain ⟨h1, h2⟩ := fitP_spec h
   obtain ⟨e, hx⟩ := fitRow_spec h1 hv
   subst e; subst hx
   exact hs.1
 · exact fitRef_rel h hv hr hl hs
 · simp at h; subst h
   exact fitNilRow_rel hr hs
 · obtain ⟨vs, e, h1⟩ := hs
   exact ⟨vs, e, fitSCs_rel h hv hr hl h1⟩
 · rename_i f cs g ds
   cases hb : Nat.beq f g with
   | false => rw [hb] at h; simp at h
   | true =>
     rw [hb, cond_true] at h
     have := Nat.eq_of_beq_eq_true hb; subst this
     obtain ⟨vs, e, h1⟩ := hs
     exact ⟨vs, e, fitSCs_rel h hv hr hl h1⟩
 · rename_i f g
   cases hb : Nat.beq f g with
   | false => rw [hb] at h; simp at h
   | true => have := Nat.eq_of_beq_eq_true hb; subst this; exact hs
 · simp at h
theorem fitSVs_rel : ∀ {ss us : List SV} {f : Fit}, fitSVs ss us = some f → vcT f.vc → Renamed ρ ρ' f.ren → (∀ l ∈ refsVs us, ρ' l = ρ l) → ∀ {vs : List Value}, svsRel H ρ ss vs → svsRel H ρ' us vs
 | [], [], _, _, _, _, _, vs, h => h
 | c :: r, d :: s, f, h, hv, hr, hl, vs, ⟨x, y, e, h1, h2⟩ => by
   obtain ⟨y1, y2, e1, e2, rfl⟩ := Fit.and_spec h
   obtain ⟨v1, v2⟩ := vcT_and hv
   obtain ⟨r1, r2⟩ := hr.app
   exact ⟨x, y, e, fitSV_rel e1 v1 r1 (fun l h => hl l (by simp [refsVs, mem_app, h])) h1, fitSVs_rel e2 v2 r2 (fun l h => hl l (by simp [refsVs, mem_app, h])) h2⟩
 | [], _ :: _, _, h, _, _, _, _, _ => by simp [fitSVs] at h
 | _ :: _, [], _, h, _, _, _, _, _ => by simp [fitSVs] at h
theorem fitSl_rel {s u : Sl} {f : Fit} (h : fitSl s u = some f) (hv : vcT f.vc) (hr : Renamed ρ ρ' f.ren) (hl : ∀ l ∈ refsS u, ρ' l = ρ l) {a : Array Value} {v : Value} (hs : slRel H ρ a s v) : slRel H ρ' a u v := by
 unfold fitSl at h
 split at h
 · trivial
 · exact fitSV_rel h hv hr hl hs
 · obtain ⟨vs, e, h1⟩ := hs
   exact ⟨vs, e, fitSVs_rel h hv hr hl h1⟩
 · simp at h

theorem renOf_spec : ∀ {ren : List (Nat × Option Nat)} {l : Nat} {v : Option Nat}, renOf ren l = some v → (l, v) ∈ ren
 | [], _, _, h => by simp [renOf] at h
 | (k, u) :: r, l, v, h => by
   simp only [renOf] at h
   cases hb : Nat.beq k l with
   | true => rw [hb] at h; simp at h; have := Nat.eq_of_beq_eq_true hb; subst this; subst h; simp
   | false => rw [hb] at h; exact List.mem_cons_of_mem _ (renOf_spec h)
theorem renOf_of_mem : ∀ {ren : List (Nat × Option Nat)}, distinct (keysL ren) = true → ∀ {l : Nat} {v : Option Nat}, (l, v) ∈ ren → renOf ren l = some v
 | (k, u) :: r, hd, l, v, h => by
   simp only [keysL, distinct, Bool.and_eq_true, Bool.not_eq_true'] at hd
   simp only [List.mem_cons, Prod.mk.injEq] at h
   rcases h with ⟨rfl, rfl⟩ | h
   · simp [renOf]
   · have hne : k ≠ l := by
       rintro rfl
       have : memN k (keysL r) = true := memN_iff.2 (keys_mem.2 ⟨v, h⟩)
       rw [this] at hd; simp at hd
     have : Nat.beq k l = false := by cases hb : Nat.beq k l with | false => rfl | true => exact absurd (Nat.eq_of_beq_eq_true hb) hne
     simp only [renOf, this, cond_false]
     exact renOf_of_mem hd.2 h
theorem renOf_none {ren : List (Nat × Option Nat)} {l : Nat} (h : l ∉ keysL ren) : renOf ren l = none := by
 cases hr : renOf ren l with
 | none => rfl
 | some v => exact absurd (keys_mem.2 ⟨v, renOf_spec hr⟩) h
theorem turned_mem : ∀ {ren : List (Nat × Option Nat)} {k0 : Nat} {v : Option Nat}, (k0, v) ∈ ren → v ≠ some k0 → k0 ∈ turned ren
 | (k, some u) :: r, k0, v, h, hv => by
   simp only [List.mem_cons, Prod.mk.injEq] at h
   simp only [turned]
   cases hb : Nat.beq k u with
   | true =>
     have := Nat.eq_of_beq_eq_true hb; subst this
     rcases h with ⟨rfl, rfl⟩ | h
     · exact absurd rfl hv
     · exact turned_mem h hv
   | false =>
     rcases h with ⟨rfl, rfl⟩ | h
     · simp
     · exact List.mem_cons_of_mem _ (turned_mem h hv)
 | (k, none) :: r, k0, v, h, hv => by
   simp only [List.mem_cons, Prod.mk.injEq] at h
   simp only [turned]
   rcases h with ⟨rfl, rfl⟩ | h
   · simp
   · exact List.mem_cons_of_mem _ (turned_mem h hv)
theorem killed_mem : ∀ {ren : List (Nat × Option Nat)} {k0 k : Nat}, (k0, some k) ∈ ren → k ≠ k0 → k ∈ killed ren
 | (x, some u) :: r, k0, k, h, hv => by
   simp only [List.mem_cons, Prod.mk.injEq, Option.some.injEq] at h
   simp only [killed]
   cases hb : Nat.beq x u with
   | true =>
     have := Nat.eq_of_beq_eq_true hb; subst this
     rcases h with ⟨rfl, rfl⟩ | h
     · exact absurd rfl hv
     · exact killed_mem h hv
   | false =>
     rcases h with ⟨rfl, rfl⟩ | h
     · simp
     · exact List.mem_cons_of_mem _ (killed_mem h hv)
 | (x, none) :: r, k0, k, h, hv => by
   simp only [List.mem_cons, Prod.mk.injEq, reduceCtorEq, and_false, false_or] at h
   simp only [killed]
   exact killed_mem h hv
theorem vals_inj : ∀ {ren : List (Nat × Option Nat)}, distinct (valsR ren) = true → ∀ {a b k : Nat}, (a, some k) ∈ ren → (b, some k) ∈ ren → distinct (keysL ren) = true → a = b
 | (x, some u) :: r, hd, a, b, k, h1, h2, hk => by
   simp only [valsR, distinct, Bool.and_eq_true, Bool.not_eq_true'] at hd
   simp only [keysL, distinct, Bool.and_eq_true, Bool.not_eq_true'] at hk
   have hin : ∀ {c}, (c, some u) ∈ r → False := by
    intro c hc
    have : memN u (valsR r) = true := by
     clear hd hk h1 h2
     induction r with
     | nil => cases hc
     | cons y r ih =>
       obtain ⟨y1, y2⟩ := y
       simp only [List.mem_cons, Prod.mk.injEq] at hc
       cases y2 with
       | none =>
         simp at hc
         simpa [valsR] using ih hc
       | some y2 =>
         simp only [valsR, memN, Bool.or_eq_true]
         rcases hc with ⟨_, e⟩ | hc
         · simp at e; subst e; exact .inl (Nat.beq_refl _)
         · exact .inr (ih hc)
    rw [this] at hd; simp at hd
   simp only [List.mem_cons, Prod.mk.injEq, Option.some.injEq] at h1 h2
   rcases h1 with ⟨rfl, rfl⟩ | h1 <;> rcases h2 with ⟨rfl, e⟩ | h2
   · rfl
   · exact (hin h2).elim
   · subst e; exact (hin h1).elim
   · exact vals_inj hd.2 h1 h2 hk.2
 | (x, none) :: r, hd, a, b, k, h1, h2, hk => by
   simp only [valsR] at hd
   simp only [keysL, distinct, Bool.and_eq_true, Bool.not_eq_true'] at hk
   simp only [List.mem_cons, Prod.mk.injEq, reduceCtorEq, and_false, false_or] at h1 h2
   exact vals_inj hd h1 h2 hk.2

theorem look_putAll : ∀ {L hp : List (Nat × SObj)} (l : Nat), (∃ o, (l, o) ∈ L ∧ look l (putAll hp L) = o) ∨ (l ∉ labelsOf L ∧ look l (putAll hp L) = look l hp)
 | [], hp, l => .inr ⟨by simp [labelsOf], rfl⟩
 | (k, o) :: r, hp, l => by
   simp only [putAll]
   rcases look_putAll (L := r) (hp := put k o hp) l with ⟨o', h1, h2⟩ | ⟨h1, h2⟩
   · exact .inl ⟨o', List.mem_cons_of_mem _ h1, h2⟩
   · rw [h2, look_put]
     by_cases hl : l = k
     · subst hl; exact .inl ⟨o, by simp, by simp⟩
     · rw [if_neg hl]
       exact .inr ⟨by simp [labelsOf, hl, h1], rfl⟩
theorem look_mem : ∀ {hp : List (Nat × SObj)} {l : Nat}, look l hp ≠ .gone → (l, look l hp) ∈ hp
 | [], l, h => by simp [look] at h
 | (k, o) :: r, l, h => by
   simp only [look] at h ⊢
   cases hb : Nat.beq k l with
   | true => have := Nat.eq_of_beq_eq_true hb; subst this; simp
   | false => rw [hb] at h; exact List.mem_cons_of_mem _ (look_mem h)

theorem inL_mem {as : List Nat} {t : Nat} {v : Sl} : ∀ {l : List (Nat × Sl)}, (t, v) ∈ inL as l → (t, v) ∈ l ∧ t ∈ as
 | (i, u) :: r, h => by
   simp only [inL] at h
   cases hb : memN i as with
   | true =>
     rw [hb] at h
     simp only [cond_true, List.mem_cons, Prod.mk.injEq] at h
     rcases h with ⟨rfl, rfl⟩ | h
     · exact ⟨by simp, memN_iff.1 hb⟩
     · exact ⟨List.mem_cons_of_mem _ (inL_mem h).1, (inL_mem h).2⟩
   | false =>
     rw [hb] at h
     exact ⟨List.mem_cons_of_mem _ (inL_mem h).1, (inL_mem h).2⟩
theorem nth_setAll : ∀ {sl : List (Nat × Sl)} {l : List Sl} (t : Nat), (nth .un (setAll l sl) t = .un ∧ l.length ≤ t) ∨ (∃ v, (t, v) ∈ sl ∧ nth .un (setAll l sl) t = v) ∨ (t ∉ keysL sl ∧ nth .un (setAll l sl) t = nth .un l t)
 | [], l, t => .inr (.inr ⟨by simp [keysL], rfl⟩)
 | (i, v) :: r, l, t => by
   simp only [setAll]
   rcases nth_setAll (sl := r) (l := setN l i v) t with ⟨h, h'⟩ | ⟨v', h1, h2⟩ | ⟨h1, h2⟩
   · exact .inl ⟨h, by rwa [setN_length] at h'⟩
   · exact .inr (.inl ⟨v', List.mem_cons_of_mem _ h1, h2⟩)
   · rw [h2, nth_setN]
     by_cases hl : t = i
     · subst hl
       by_cases hlt : t < l.length
       · rw [if_pos ⟨rfl, hlt⟩]; exact .inr (.inl ⟨v, by simp, rfl⟩)
       · rw [if_neg (fun h => hlt h.2)]
         exact .inl ⟨nth_out l t (by omega), by omega⟩
     · rw [if_neg (fun h => hl h.1)]
       exact .inr (.inr ⟨by simp [keysL, hl, h1], rfl⟩)
theorem setAll_length : ∀ (sl : List (Nat × Sl)) (l : List Sl), (setAll l sl).length = l.length
 | [], _ => rfl
 | (i, v) :: r, l => by simp [setAll, setAll_length r, setN_length]
theorem clear_length : ∀ (as : List Nat) (l : List Sl), (clear l as).length = l.length
 | [], _ => rfl
 | i :: r, l => by simp [clear, clear_length r, setN_length]
theorem nth_clear : ∀ {as : List Nat} {l : List Sl} (t : Nat), nth .un (clear l as) t = if t ∈ as then .un else nth .un l t
 | [], l, t => by simp [clear]
 | i :: r, l, t => by
   simp only [clear, nth_clear (as := r), nth_setN, List.mem_cons]
   by_cases h1 : t ∈ r
   · simp [h1]
   · by_cases h2 : t = i
     · subst h2
       simp only [h1, if_false, true_and, true_or, if_true]
       by_cases hlt : t < l.length
       · rw [if_pos hlt]
       · rw [if_neg hlt]
         have : ∀ (l : List Sl) t, l.length ≤ t → nth .un l t = .un := by
          intro l
          induction l with
          | nil => intro t _; cases t <;> rfl
          | cons x l ih => intro t ht; cases t with
            | zero => simp at ht
            | succ t => exact ih t (by simpa using ht)
         exact this l t (by omega)
     · simp [h1, h2]

theorem fitSlots_mem : ∀ {S : SState} {sl : List (Nat × Sl)} {f : Fit}, fitSlots S sl = some f → vcT f.vc → Renamed ρ ρ' f.ren → ∀ {t : Nat} {v : Sl}, (t, v) ∈ sl →
 ∃ g, fitSl (S.get t) v = some g ∧ vcT g.vc ∧ Renamed ρ ρ' g.ren
 | S, (i, u) :: r, f, h, hv, hr, t, v, hm => by
   obtain ⟨y, z, e1, e2, rfl⟩ := Fit.and_spec h
   obtain ⟨v1, v2⟩ := vcT_and hv
   obtain ⟨r1, r2⟩ := hr.app
   simp only [List.mem_cons, Prod.mk.injEq] at hm
   rcases hm with ⟨rfl, rfl⟩ | hm
   · exact ⟨y, e1, v1, r1⟩
   · exact fitSlots_mem e2 v2 r2 hm
theorem fitObjs_mem {hp : List (Nat × SObj)} {F : List (Nat × Option Nat)} : ∀ {sl : List (Nat × SObj)} {f : Fit}, fitObjs hp F sl = some f → vcT f.vc → Renamed ρ ρ' f.ren → ∀ {t : Nat} {v : SObj}, (t, v) ∈ sl →
 ∃ g, fitFor hp F t v = some g ∧ vcT g.vc ∧ Renamed ρ ρ' g.ren
 | (i, u) :: r, f, h, hv, hr, t, v, hm => by
   obtain ⟨y, z, e1, e2, rfl⟩ := Fit.and_spec h
   obtain ⟨v1, v2⟩ := vcT_and hv
   obtain ⟨r1, r2⟩ := hr.app
   simp only [List.mem_cons, Prod.mk.injEq] at hm
   rcases hm with ⟨rfl, rfl⟩ | hm
   · exact ⟨y, e1, v1, r1⟩
   · exact fitObjs_mem e2 v2 r2 hm
theorem memF_mem {k : Nat} {v : Option Nat} : ∀ {F : List (Nat × Option Nat)}, memF k v F = true → (k, v) ∈ F
 | (k', v') :: r, h => by
   simp only [memF, Bool.or_eq_true, Bool.and_eq_true] at h
   rcases h with ⟨h1, h2⟩ | h
   · have e1 := Nat.eq_of_beq_eq_true h1
     have e2 : v = v' := by
      unfold eqON at h2
      split at h2
      · rw [Nat.eq_of_beq_eq_true h2]
      · rfl
      · cases h2
     rw [e1, e2]; exact List.mem_cons_self ..
   · exact List.mem_cons_of_mem _ (memF_mem h)
theorem subF_mem {F : List (Nat × Option Nat)} : ∀ {G : List (Nat × Option Nat)}, subF F G = true → ∀ p ∈ G, p ∈ F
 | (k, v) :: r, h, p, hp => by
   simp only [subF, Bool.and_eq_true] at h
   rcases List.mem_cons.1 hp with rfl | hp
   · exact memF_mem h.1
   · exact subF_mem h.2 p hp
theorem Renamed.sub {F G : List (Nat × Option Nat)} (h : Renamed ρ ρ' F) (hs : ∀ p ∈ G, p ∈ F) : Renamed ρ ρ' G := fun k0 k hk => h k0 k (hs _ hk)

end Go.Vse
