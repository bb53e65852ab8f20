/- Parts of blocks: taking them out, putting them back. -/
import Derived.Test.YtglkhgodeghnlaaWVseRel
namespace Go.Vse

def vcT : Option Prop → Prop
 | none => True
 | some p => p
theorem vcT_and {a b : Option Prop} (h : vcT (andVC a b)) : vcT a ∧ vcT b := by
 cases a <;> cases b <;> simp_all [andVC, vcT]
theorem owe_vc {v : Option Prop} {q : Prop} (h : owe v q) : vcT v ∧ q := by
 cases v <;> simp_all [owe, vcT]
theorem rowRel_at {α : Type} {R : α → List Value → Prop} {xs : List α} {cs : List Value} {s : Nat} (hs : ∀ x cs, R x cs → cs.length = s)
 (h : rowRel R xs cs) {i : Nat} (hi : i < xs.length) (d : α) :
 ∃ A M C, cs = A ++ (M ++ C) ∧ A.length = i * s ∧ R (xs.getD i d) M ∧ ∀ x M', R x M' → rowRel R (xs.set i x) (A ++ (M' ++ C)) := by
 induction xs generalizing cs i with
 | nil => simp at hi
 | cons x xs ih =>
   obtain ⟨a, b, rfl, hx, hr⟩ := h
   cases i with
   | zero => exact ⟨[], a, b, rfl, by simp, by simpa using hx, fun y M' hy => ⟨M', b, rfl, hy, hr⟩⟩
   | succ i =>
     obtain ⟨A, M, C, rfl, hA, hM, hset⟩ := ih hr (by simpa using hi)
     exact ⟨a ++ A, M, C, by simp, by simp [hs x a hx, hA, Nat.succ_mul, Nat.add_comm], by simpa using hM, fun y M' hy => ⟨a, _, by simp, hx, hset y M' hy⟩⟩

theorem dropC_sound {H : Mem} {ρ : Lab} : ∀ {cs : List SC} {n : Nat} {ds : List SC} {vs : List Value}, dropC cs n = some ds → scsRel H ρ cs vs →
 ∃ A C, vs = A ++ C ∧ A.length = n ∧ scsRel H ρ ds C := by
 intro cs
 induction cs with
 | nil =>
   intro n ds vs h hr
   cases n with
   | zero => simp [dropC] at h; subst h; exact ⟨[], vs, rfl, rfl, hr⟩
   | succ n => simp [dropC] at h
 | cons c r ih =>
   intro n ds vs h hr
   cases n with
   | zero => simp [dropC] at h; subst h; exact ⟨[], vs, rfl, rfl, hr⟩
   | succ n =>
     simp only [dropC] at h
     obtain ⟨a, b, rfl, hc, hrr⟩ := hr
     cases hb : Nat.ble c.size (n + 1) with
     | false => rw [hb] at h; simp at h
     | true =>
       rw [hb] at h; simp only [cond_true] at h
       obtain ⟨A, C, rfl, hA, hC⟩ := ih h hrr
       refine ⟨a ++ A, C, by simp, ?_, hC⟩
       have := Nat.le_of_ble_eq_true hb
       simp [scRel_length hc, hA]; omega

theorem takeC_sound {H : Mem} {ρ : Lab} : ∀ {cs : List SC} {n : Nat} {ds : List SC} {vs : List Value}, takeC cs n = some ds → scsRel H ρ cs vs →
 ∃ A C, vs = A ++ C ∧ A.length = n ∧ scsRel H ρ ds A := by
 intro cs
 induction cs with
 | nil =>
   intro n ds vs h hr
   cases n with
   | zero => simp [takeC] at h; subst h; exact ⟨[], vs, rfl, rfl, rfl⟩
   | succ n => simp [takeC] at h
 | cons c r ih =>
   intro n ds vs h hr
   cases n with
   | zero => simp [takeC] at h; subst h; exact ⟨[], vs, rfl, rfl, rfl⟩
   | succ n =>
     simp only [takeC] at h
     obtain ⟨a, b, rfl, hc, hrr⟩ := hr
     cases hb : Nat.ble c.size (n + 1) with
     | false => rw [hb] at h; simp at h
     | true =>
       rw [hb] at h; simp only [cond_true] at h
       cases ht : takeC r (n + 1 - c.size) with
       | none => rw [ht] at h; simp at h
       | some l =>
         rw [ht] at h; simp at h; subst h
         obtain ⟨A, C, rfl, hA, hC⟩ := ih ht hrr
         refine ⟨a ++ A, C, by simp, ?_, a, A, rfl, hc, hC⟩
         have := Nat.le_of_ble_eq_true hb
         simp [scRel_length hc, hA]; omega

theorem replC_sound {H : Mem} {ρ : Lab} {cs new es : List SC} {off n : Nat} {vs : List Value} (h : replC cs off n new = some es) (hr : scsRel H ρ cs vs) :
 ∃ A M C, vs = A ++ (M ++ C) ∧ A.length = off ∧ M.length = n ∧ ∀ nv, scsRel H ρ new nv → scsRel H ρ es (A ++ (nv ++ C)) := by
 unfold replC at h
 split at h
 · rename_i a b ha hb
   simp at h; subst h
   obtain ⟨A, X, rfl, hA, hra⟩ := takeC_sound ha hr
   obtain ⟨Y, C, hYC, hY, hrb⟩ := dropC_sound hb hr
   have e1 : Y = A ++ Y.drop off := by
    have := congrArg (List.take off) hYC
    rw [List.take_append_of_le_length (by omega), List.take_append_of_le_length (by omega), ← hA, List.take_length] at this
    conv => lhs; rw [← List.take_append_drop off Y]
    rw [← hA, ← this]
   refine ⟨A, Y.drop off, C, ?_, hA, by simp [hY], fun nv hn => ?_⟩
   · rw [hYC]; conv => lhs; rw [e1]
     simp
   · rw [app_eq, app_eq]
     exact scsRel_append.2 ⟨A, nv ++ C, rfl, hra, scsRel_append.2 ⟨nv, C, rfl, hn, hrb⟩⟩
 · simp at h

theorem modC_sound {H : Mem} {ρ : Lab} {f : SC → Option SC} : ∀ {cs : List SC} {off : Nat} {es : List SC} {vs : List Value}, modC f cs off = some es → scsRel H ρ cs vs →
 ∃ A M C c d rest, vs = A ++ (M ++ C) ∧ A.length = off ∧ f c = some d ∧ scRel H ρ c M ∧ dropC cs off = some (c :: rest) ∧ ∀ M', scRel H ρ d M' → scsRel H ρ es (A ++ (M' ++ C)) := by
 intro cs
 induction cs with
 | nil => intro off es vs h; simp [modC] at h
 | cons c r ih =>
   intro off es vs h hr
   obtain ⟨a, b, rfl, hc, hrr⟩ := hr
   cases off with
   | zero =>
     simp only [modC] at h
     cases hf : f c with
     | none => rw [hf] at h; simp at h
     | some d =>
       rw [hf] at h; simp at h; subst h
       exact ⟨[], a, b, c, d, r, rfl, rfl, hf, hc, rfl, fun M' hM => ⟨M', b, rfl, hM, hrr⟩⟩
   | succ n =>
     simp only [modC] at h
     cases hb : Nat.ble c.size (n + 1) with
     | false => rw [hb] at h; simp at h
     | true =>
       rw [hb] at h; simp only [cond_true] at h
       cases ht : modC f r (n + 1 - c.size) with
       | none => rw [ht] at h; simp at h
       | some l =>
         rw [ht] at h; simp at h; subst h
         obtain ⟨A, M, C, c', d, rest, rfl, hA, hf, hM, hdr, hall⟩ := ih ht hrr
         refine ⟨a ++ A, M, C, c', d, rest, by simp, ?_, hf, hM, by simp [dropC, hb, hdr], fun M' h' => ⟨a, _, by simp, hc, hall M' h'⟩⟩
         have := Nat.le_of_ble_eq_true hb
         simp [scRel_length hc, hA]; omega

theorem normRun_sound {H : Mem} {r : Run} {vs : List Value} (h : runRel H r vs) : runRel H (normRun r) vs := by
 cases r with
 | one d =>
   cases d with
   | nils t => obtain ⟨v, hv, hd⟩ := h; exact ⟨v, hv, by simp, .inl ⟨rfl, .inl hd⟩⟩
   | _ => exact h
 | many t n xs => exact h
theorem toRun_sound {H : Mem} {ρ : Lab} {c : SC} {r : Run} {vs : List Value} (h : toRun c = some r) (hr : scRel H ρ c vs) : runRel H r vs := by
 cases c with
 | run x => simp [toRun] at h; subst h; exact normRun_sound hr
 | ref x => simp [toRun] at h
 | own k t xs =>
   simp [toRun] at h; subst h
   obtain ⟨v, rfl, ho⟩ := hr
   exact ⟨v, rfl, ho.2.1⟩
theorem toRuns_sound {H : Mem} {ρ : Lab} : ∀ {cs : List SC} {rs : List Run} {vs : List Value}, toRuns cs = some rs → scsRel H ρ cs vs → runsRel H rs vs
 | [], rs, vs, h, hr => by simp [toRuns, optMap] at h; subst h; exact hr
 | c :: cs, rs, vs, h, hr => by
   obtain ⟨a, b, rfl, h1, h2⟩ := hr
   simp only [toRuns, optMap] at h
   split at h
   · simp at h
   · rename_i y hy
     split at h
     · simp at h
     · rename_i ys hys
       simp at h; subst h
       exact ⟨a, b, rfl, toRun_sound hy h1, toRuns_sound hys h2⟩

theorem castL_rel {H : Mem} {t u : T} (h : t = u) {xs : List t.den} {cs : List Value} (hr : rowRel (eltRel H t) xs cs) : rowRel (eltRel H u) (castL h xs) cs := by
 subst h; exact hr
theorem castL_length {t u : T} (h : t = u) (xs : List t.den) : (castL h xs).length = xs.length := by subst h; rfl
theorem castL_slice {H : Mem} {t u : T} (h : t = u) {xs : List t.den} {v : Value} (hr : sliceRel H (eltRel H t) xs v) : sliceRel H (eltRel H u) (castL h xs) v := by
 subst h; exact hr

theorem dec_sound {H : Mem} : ∀ (t : T) {rs rs' : List Run} {x : t.den} {vs : List Value}, dec t rs = some (x, rs') → runsRel H rs vs →
 ∃ a b, vs = a ++ b ∧ eltRel H t x a ∧ runsRel H rs' b := by
 intro t
 induction t with
 | pair a b iha ihb =>
   intro rs rs' x vs h hr
   simp only [dec] at h
   split at h
   · rename_i x1 rs1 h1
     split at h
     · rename_i y1 rs2 h2
       simp at h; obtain ⟨rfl, rfl⟩ := h
       obtain ⟨a1, b1, rfl, he1, hr1⟩ := iha h1 hr
       obtain ⟨a2, b2, rfl, he2, hr2⟩ := ihb h2 hr1
       exact ⟨a1 ++ a2, b2, by simp, ⟨a1, a2, rfl, he1, he2⟩, hr2⟩
     · simp at h
   · simp at h
 | unit =>
   intro rs rs' x vs h hr
   simp [dec] at h; subst h
   exact ⟨[], vs, rfl, rfl, hr⟩
 | arr n t ih =>
   intro rs rs' x vs h hr
   cases rs with
   | nil => simp [dec] at h
   | cons r rs =>
     cases r with
     | one d => simp [dec] at h
     | many t' n' xs =>
       simp only [dec] at h
       split at h
       · rename_i ht
         cases hb : Nat.beq n' n with
         | false => rw [hb] at h; simp at h
         | true =>
           rw [hb] at h; simp at h; obtain ⟨rfl, rfl⟩ := h
           obtain ⟨a, b, rfl, ⟨hl, hrow⟩, hr2⟩ := hr
           exact ⟨a, b, rfl, ⟨by rw [castL_length, hl]; exact Nat.eq_of_beq_eq_true hb, castL_rel ht hrow⟩, hr2⟩
       · simp at h
 | slc t ih =>
   intro rs rs' x vs h hr
   cases rs with
   | nil => simp [dec] at h
   | cons r rs =>
     cases r with
     | many t' n' xs => simp [dec] at h
     | one d =>
       cases d with
       | imm t' xs =>
         simp only [dec] at h
         split at h
         · rename_i ht
           simp at h; obtain ⟨rfl, rfl⟩ := h
           obtain ⟨a, b, rfl, ⟨v, rfl, hv⟩, hr2⟩ := hr
           exact ⟨_, b, rfl, ⟨v, rfl, castL_slice ht hv⟩, hr2⟩
         · simp at h
       | nils t' =>
         simp [dec] at h; obtain ⟨rfl, rfl⟩ := h
         obtain ⟨a, b, rfl, ⟨v, rfl, hv⟩, hr2⟩ := hr
         exact ⟨_, b, rfl, ⟨v, rfl, by simp [LIM], .inl ⟨rfl, .inl hv⟩⟩, hr2⟩
       | _ => simp [dec] at h
 | u8 | u16 | u32 | u64 | bool =>
   intro rs rs' x vs h hr
   cases rs with
   | nil => simp [dec] at h
   | cons r rs =>
     cases r with
     | many t' n' xs => simp [dec] at h
     | one d =>
       cases d <;> simp [dec] at h
       obtain ⟨rfl, rfl⟩ := h
       obtain ⟨a, b, rfl, ⟨v, rfl, hv⟩, hr2⟩ := hr
       simp only [dvRel] at hv
       exact ⟨_, b, rfl, by simp [eltRel, hv], hr2⟩
 | i64 | str =>
   intro rs rs' x vs h hr
   cases rs with
   | nil => simp [dec] at h
   | cons r rs =>
     cases r with
     | many t' n' xs => simp [dec] at h
     | one d =>
       cases d <;> simp [dec] at h
       obtain ⟨rfl, rfl⟩ := h
       obtain ⟨a, b, rfl, ⟨v, rfl, hv⟩, hr2⟩ := hr
       simp only [dvRel] at hv
       exact ⟨_, b, rfl, ⟨by simp [hv.1], hv.2⟩, hr2⟩

theorem decAll_sound {H : Mem} {ρ : Lab} {t : T} {cs : List SC} {x : t.den} {vs : List Value} (h : decAll t cs = some x) (hr : scsRel H ρ cs vs) : eltRel H t x vs := by
 unfold decAll at h
 split at h
 · rename_i rs hrs
   split at h
   · rename_i x' hd
     simp at h; subst h
     obtain ⟨a, b, rfl, h1, h2⟩ := dec_sound t hd (toRuns_sound hrs hr)
     simp only [runsRel] at h2; subst h2; simpa using h1
   · simp at h
 · simp at h

theorem hop_in {h : Hop} {t : T} {n : Nat} (hf : fitsHop h t n = true) (hl : h.lit = true → h.e < h.n) {q : Option Prop} (hv : vcT (andVC (bif h.lit then none else some (h.e < n)) q)) :
 t.size = h.s ∧ h.e < n ∧ vcT q := by
 unfold fitsHop at hf
 simp only [Bool.and_eq_true, Bool.or_eq_true, Bool.not_eq_true'] at hf
 obtain ⟨h1, h2⟩ := vcT_and hv
 refine ⟨Nat.eq_of_beq_eq_true hf.1, ?_, h2⟩
 cases hb : h.lit with
 | true =>
   have := hl hb
   rcases hf.2 with h3 | h3
   · simp [hb] at h3
   · exact Nat.lt_of_lt_of_le this (Nat.le_of_ble_eq_true h3)
 | false => rw [hb] at h1; exact h1

theorem descend_sound {H : Mem} {ρ : Lab} : ∀ {p : List Hop} {cs ds : List SC} {vs : List Value}, descend cs p = some ds → scsRel H ρ cs vs → litOk p → vcT (pathVC cs p) →
 ∃ A M C, vs = A ++ (M ++ C) ∧ A.length = pathOff p ∧ scsRel H ρ ds M := by
 intro p
 induction p with
 | nil => intro cs ds vs h hr _ _; simp [descend] at h; subst h; exact ⟨[], vs, [], by simp, rfl, hr⟩
 | cons h p ih =>
   intro cs ds vs hd hr hl hv
   simp only [descend] at hd
   simp only [pathVC] at hv
   split at hd
   · rename_i t n xs rest heq
     rw [heq] at hv
     simp only at hv
     cases hf : fitsHop h t n with
     | false => rw [hf] at hd; simp at hd
     | true =>
       rw [hf] at hd; simp only [cond_true] at hd
       obtain ⟨hs, he, hv'⟩ := hop_in hf hl.1 hv
       obtain ⟨A, C, rfl, hA, hC⟩ := dropC_sound heq hr
       obtain ⟨a, b, rfl, ⟨hn, hrow⟩, _⟩ := hC
       obtain ⟨A2, M2, C2, rfl, hA2, hM2, _⟩ := rowRel_at (eltRel_length t) hrow (i := h.e) (by omega) t.dflt
       obtain ⟨A3, M3, C3, rfl, hA3, hM3⟩ := ih hd (scsRel_ofRuns.2 ((enc_rel t _ _).2 hM2)) hl.2 hv'
       refine ⟨A ++ (A2 ++ A3), M3, C3 ++ (C2 ++ b), by simp, ?_, hM3⟩
       simp [hA, hA2, hA3, pathOff, hs]; omega
   · simp at hd

theorem modAt_sound {H : Mem} {ρ : Lab} {f : List SC → Option (List SC)} : ∀ {p : List Hop} {cs es : List SC} {vs : List Value}, modAt f p cs = some es → scsRel H ρ cs vs →
 litOk p → vcT (pathVC cs p) →
 ∃ A M C ds fs, vs = A ++ (M ++ C) ∧ A.length = pathOff p ∧ f ds = some fs ∧ scsRel H ρ ds M ∧
  ∀ M', scsRel H ρ fs M' → M'.length = M.length → scsRel H ρ es (A ++ (M' ++ C)) := by
 intro p
 induction p with
 | nil => intro cs es vs h hr _ _; exact ⟨[], vs, [], cs, es, by simp, rfl, h, hr, fun M' h' _ => by simpa using h'⟩
 | cons h p ih =>
   intro cs es vs hd hr hl hv
   simp only [modAt] at hd
   obtain ⟨A, M, C, c, d, rest, rfl, hA, hfc, hM, hdr, hall⟩ := modC_sound hd hr
   split at hfc
   · rename_i t n xs
     cases hf : fitsHop h t n with
     | false => rw [hf] at hfc; simp at hfc
     | true =>
       rw [hf] at hfc; simp only [cond_true] at hfc
       split at hfc
       · rename_i cs' hmod
         split at hfc
         · rename_i x hx
           simp at hfc; subst hfc
           simp only [pathVC, hdr] at hv
           obtain ⟨hs, he, hv'⟩ := hop_in hf hl.1 hv
           obtain ⟨hn, hrow⟩ := hM
           obtain ⟨A2, M2, C2, rfl, hA2, hM2, hset⟩ := rowRel_at (eltRel_length t) hrow (i := h.e) (by omega) t.dflt
           obtain ⟨A3, M3, C3, ds, fs, rfl, hA3, hfd, hM3, hall3⟩ := ih hmod (scsRel_ofRuns.2 ((enc_rel t _ _).2 hM2)) hl.2 hv'
           refine ⟨A ++ (A2 ++ A3), M3, C3 ++ (C2 ++ C), ds, fs, by simp, ?_, hfd, hM3, fun M' hM' hlen => ?_⟩
           · simp [hA, hA2, hA3, pathOff, hs]; omega
           · have h1 := decAll_sound hx (hall3 M' hM' hlen)
             have h2 := hset x _ h1
             have h3 := hall (A2 ++ ((A3 ++ (M' ++ C3)) ++ C2)) ⟨by simpa using hn, h2⟩
             simpa using h3
         · simp at hfc
       · simp at hfc
   · simp at hfc

end Go.Vse
