/- Loops: from a state to the loop's head. -/
import Derived.Test.YtdddnamfecgkeaaDoorWVseDraw
namespace Go.Vse
variable {P : Program} {E : Env} {H : Mem} {ρ ρ' : Lab} {hp : List (Nat × SObj)} {lab : Nat} {N : Nat → Prop} {w : World} {S : SState} {a : Act}

def newLab (ρ : Lab) (n : Nat) (ren : List (Nat × Option Nat)) : Lab := fun l =>
 match renOf ren l with
 | some (some k) => ρ k
 | some none => some (.slice none 0 0)
 | none => if l % STRIDE < n ∧ l ∉ killed ren then ρ l else none

theorem okLab_spec {n : Nat} {ren : List (Nat × Option Nat)} {l : Nat} (h : okLab n ren l = true) : l % STRIDE < n ∧ l ∉ turned ren ∧ l ∉ killed ren := by
 simp only [okLab, Bool.and_eq_true, Bool.not_eq_true'] at h
 refine ⟨Nat.le_of_ble_eq_true h.1.1, fun hm => ?_, fun hm => ?_⟩
 · rw [memN_iff.2 hm] at h; simp at h
 · rw [memN_iff.2 hm] at h; simp at h
theorem newLab_ok {n : Nat} {ren : List (Nat × Option Nat)} {l : Nat} (h : okLab n ren l = true) : newLab ρ n ren l = ρ l := by
 obtain ⟨h1, h2, h3⟩ := okLab_spec h
 unfold newLab
 cases hr : renOf ren l with
 | none => simp only; rw [if_pos ⟨h1, h3⟩]
 | some v =>
   by_cases hv : v = some l
   · subst hv; rfl
   · exact absurd (turned_mem (renOf_spec hr) hv) h2
theorem newLab_ren {n : Nat} {ren : List (Nat × Option Nat)} (hd : distinct (keysL ren) = true) : Renamed ρ (newLab ρ n ren) ren := by
 intro k0 k hm
 have := renOf_of_mem hd hm
 unfold newLab
 rw [this]
 cases k <;> rfl

theorem keptOk_spec {n : Nat} {ren : List (Nat × Option Nat)} : ∀ {l : List Sl}, keptOk n ren l = true → ∀ t, ∀ k ∈ labsS (nth .un l t), okLab n ren k = true
 | [], _, t, k, hk => by cases t <;> simp [nth, labsS] at hk
 | v :: r, h, t, k, hk => by
   simp only [keptOk, Bool.and_eq_true] at h
   cases t with
   | zero => exact allN_iff.1 h.1 k hk
   | succ t => exact keptOk_spec h.2 t k hk
theorem slotsOk_spec {n : Nat} {ren : List (Nat × Option Nat)} : ∀ {l : List (Nat × Sl)}, slotsOk n ren l = true → ∀ t v, (t, v) ∈ l → ∀ k ∈ refsS v, okLab n ren k = true
 | (i, u) :: r, h, t, v, hm, k, hk => by
   simp only [slotsOk, Bool.and_eq_true] at h
   simp only [List.mem_cons, Prod.mk.injEq] at hm
   rcases hm with ⟨rfl, rfl⟩ | hm
   · exact allN_iff.1 h.1 k hk
   · exact slotsOk_spec h.2 t v hm k hk
def refsO : SObj → List Nat
 | .cells cs _ => refsC cs
 | _ => []
theorem listedOk_spec {n : Nat} {ren : List (Nat × Option Nat)} : ∀ {L : List (Nat × SObj)}, listedOk n ren L = true → ∀ l o, (l, o) ∈ L → o ≠ .gone → (l ∈ keysL ren ∨ okLab n ren l = true) ∧ (∀ k ∈ refsO o, okLab n ren k = true) ∧ (∀ e s, o = .tok e s → l ∈ keysL ren)
 | (i, u) :: r, h, l, o, hm, ho => by
   simp only [List.mem_cons, Prod.mk.injEq] at hm
   cases u with
   | cells cs ro =>
     simp only [listedOk, Bool.and_eq_true, Bool.or_eq_true] at h
     rcases hm with ⟨rfl, rfl⟩ | hm
     · exact ⟨h.1.1.imp memN_iff.1 id, allN_iff.1 h.1.2, fun e s he => by cases he⟩
     · exact listedOk_spec h.2 l o hm ho
   | tok e s =>
     simp only [listedOk, Bool.and_eq_true] at h
     rcases hm with ⟨rfl, rfl⟩ | hm
     · exact ⟨.inl (memN_iff.1 h.1), by simp [refsO], fun _ _ _ => memN_iff.1 h.1⟩
     · exact listedOk_spec h.2 l o hm ho
   | row e s t xs ro =>
     simp only [listedOk, Bool.and_eq_true, Bool.or_eq_true] at h
     rcases hm with ⟨rfl, rfl⟩ | hm
     · exact ⟨h.1.imp memN_iff.1 id, by simp [refsO], fun e s he => by cases he⟩
     · exact listedOk_spec h.2 l o hm ho
   | mp ka kt va vt es =>
     simp only [listedOk, Bool.and_eq_true, Bool.or_eq_true] at h
     rcases hm with ⟨rfl, rfl⟩ | hm
     · exact ⟨h.1.imp memN_iff.1 id, by simp [refsO], fun e s he => by cases he⟩
     · exact listedOk_spec h.2 l o hm ho
   | mpi ka kt va vt es g =>
     simp only [listedOk, Bool.and_eq_true, Bool.or_eq_true] at h
     rcases hm with ⟨rfl, rfl⟩ | hm
     · exact ⟨h.1.imp memN_iff.1 id, by simp [refsO], fun e s he => by cases he⟩
     · exact listedOk_spec h.2 l o hm ho
   | it ka kt va vt es c g =>
     simp only [listedOk, Bool.and_eq_true, Bool.or_eq_true] at h
     rcases hm with ⟨rfl, rfl⟩ | hm
     · exact ⟨h.1.imp memN_iff.1 id, by simp [refsO], fun e s he => by cases he⟩
     · exact listedOk_spec h.2 l o hm ho
   | gone =>
     rcases hm with ⟨rfl, rfl⟩ | hm
     · exact absurd rfl ho
     · exact listedOk_spec (by simpa [listedOk] using h) l o hm ho
theorem restOk_spec {n : Nat} {ren : List (Nat × Option Nat)} {listed : List Nat} : ∀ {L : List (Nat × SObj)}, restOk n ren listed L = true → ∀ l o, (l, o) ∈ L → l ∉ listed → o ≠ .gone → okLab n ren l = true ∧ ∀ k ∈ labsO o, okLab n ren k = true
 | (i, u) :: r, h, l, o, hm, hl, ho => by
   simp only [restOk, Bool.and_eq_true, Bool.or_eq_true] at h
   simp only [List.mem_cons, Prod.mk.injEq] at hm
   rcases hm with ⟨rfl, rfl⟩ | hm
   · rcases h.1 with h1 | h1
     · exact absurd (memN_iff.1 h1) hl
     · cases o with
       | gone => exact absurd rfl ho
       | tok e s => exact ⟨h1, by simp [labsO]⟩
       | row e s t xs ro => exact ⟨h1, by simp [labsO]⟩
       | mp ka kt va vt es => exact ⟨h1, by simp [labsO]⟩
       | mpi ka kt va vt es g => exact ⟨h1, by simp [labsO]⟩
       | it ka kt va vt es c g => exact ⟨h1, by simp [labsO]⟩
       | cells cs ro => simp only [Bool.and_eq_true] at h1; exact ⟨h1.1, allN_iff.1 h1.2⟩
   · exact restOk_spec h.2 l o hm hl ho
theorem rensOk_spec {hp hp' : List (Nat × SObj)} : ∀ {ren : List (Nat × Option Nat)}, rensOk hp hp' ren = true → ∀ k0 k, (k0, some k) ∈ ren → ∀ e s, look k0 hp = .tok e s → look k hp' = .tok e s
 | (x, some u) :: r, h, k0, k, hm, e, s, he => by
   simp only [rensOk, Bool.and_eq_true] at h
   simp only [List.mem_cons, Prod.mk.injEq, Option.some.injEq] at hm
   rcases hm with ⟨rfl, rfl⟩ | hm
   · have h1 := h.1
     rw [he] at h1
     simp only [tokIs] at h1
     split at h1
     · rename_i e' s' he'
       simp only [Bool.and_eq_true] at h1
       rw [he', Nat.eq_of_beq_eq_true h1.1, Nat.eq_of_beq_eq_true h1.2]
     · simp at h1
   · exact rensOk_spec h.2 k0 k hm e s he
 | (x, none) :: r, h, k0, k, hm, e, s, he => by
   simp only [List.mem_cons, Prod.mk.injEq, reduceCtorEq, and_false, false_or] at hm
   exact rensOk_spec (by simpa [rensOk] using h) k0 k hm e s he

theorem entsRel.perm {ka : Bool} {kt : T} {va : Bool} {vt : T} {es fs : List (kt.den × vt.den)} {en : List MapEntry} (h : entsRel H ka kt va vt es en) (hp : es.Perm fs) : entsRel H ka kt va vt fs en :=
 ⟨(hp.map _).nodup_iff.1 h.1, h.2.imp fun _ h => ⟨h.1.trans hp, h.2⟩⟩
theorem fitMap_spec {k v k' v' : T} {es : List (k.den × v.den)} {fs : List (k'.den × v'.den)} {g : Fit} (h : fitMap k v k' v' es fs = some g) (gv : vcT g.vc) : ∃ (e1 : k = k') (e2 : v = v'), List.Perm (castE e1 e2 es) fs := by
 unfold fitMap at h
 split at h
 · rename_i e1
   split at h
   · rename_i e2
     simp at h; subst h
     exact ⟨e1, e2, gv⟩
   · cases h
 · cases h
theorem fitIt_spec {k v k' v' : T} {es : List (k.den × v.den)} {fs : List (k'.den × v'.den)} {g1 g2 : Gh} {g : Fit} (h : fitIt k v k' v' es fs g1 g2 = some g) (gv : vcT g.vc) : ∃ (e1 : k = k') (e2 : v = v'), List.Perm (castE e1 e2 es) fs ∧ g1 = g2 := by
 unfold fitIt at h
 split at h
 · rename_i e1
   split at h
   · rename_i e2
     simp at h; subst h
     exact ⟨e1, e2, gv⟩
   · cases h
 · cases h

theorem fitObj_rel {p o : SObj} {g : Fit} {l k : Nat} (hg : fitObj p o = some g) (gv : vcT g.vc) (gr : Renamed ρ ρ' g.ren) (hl : ρ' l = ρ k) (hrefs : ∀ m ∈ refsO o, ρ' m = ρ m) (htok : ∀ e s, o = .tok e s → p = .tok e s) (h : objRel H ρ w k p) : objRel H ρ' w l o := by
 cases o with
 | gone => trivial
 | tok e s =>
   rw [htok e s rfl] at h
   obtain ⟨v, n, xs, h1, h2⟩ := h
   exact ⟨v, n, xs, hl.trans h1, h2⟩
 | cells ds ro' =>
   cases p with
   | cells cs ro =>
     simp only [fitObj] at hg
     cases hro : (!ro || ro') with
     | false => rw [hro] at hg; simp at hg
     | true =>
       rw [hro] at hg; simp only [cond_true] at hg
       obtain ⟨b, cc, ty, h1, h2, h3, h4⟩ := h
       exact ⟨b, cc, ty, hl.trans h1, h2, fitSCs_rel hg gv gr hrefs h3, fun e => h4 (by subst e; simpa using hro)⟩
   | _ => simp [fitObj] at hg
 | row e' s' u ys ro' =>
   cases p with
   | row e s t xs ro =>
     simp only [fitObj] at hg
     cases hb : (Nat.beq e e' && Nat.beq s s' && (!ro || ro')) with
     | false => rw [hb] at hg; simp at hg
     | true =>
       rw [hb] at hg; simp only [cond_true] at hg
       rw [Bool.and_eq_true, Bool.and_eq_true] at hb
       obtain ⟨⟨b1, b2⟩, hro⟩ := hb
       have := Nat.eq_of_beq_eq_true b1; subst this
       have := Nat.eq_of_beq_eq_true b2; subst this
       obtain ⟨f1, f2⟩ := fitP_spec hg
       obtain ⟨e1, hx⟩ := fitRow_spec f1 gv
       subst e1; subst hx
       obtain ⟨v, h1, h2, h3⟩ := h
       refine ⟨v, hl.trans h1, h2, ?_⟩
       rcases h3 with h3 | ⟨g, cap, cur, f, k1, k2, k3, k4, k5, k6, k7, k8⟩
       · exact .inl h3
       · exact .inr ⟨g, cap, cur, f, k1, k2, k3, k4, k5, k6, k7, fun e => k8 (by subst e; simpa using hro)⟩
   | _ => simp [fitObj] at hg
 | mp ka' kt' va' vt' fs =>
   cases p with
   | mp ka kt va vt es =>
     simp only [fitObj] at hg
     cases hb : ((ka == ka') && (va == va')) with
     | false => rw [hb] at hg; simp at hg
     | true =>
       rw [hb] at hg; simp only [cond_true] at hg
       simp only [Bool.and_eq_true, beq_iff_eq] at hb
       obtain ⟨rfl, rfl⟩ := hb
       obtain ⟨e1, e2, gv⟩ := fitMap_spec hg gv
       subst e1; subst e2
       obtain ⟨r, en, clock, h1, h2, h3, h4⟩ := h
       exact ⟨r, en, clock, hl.trans h1, h2, h3.perm gv, h4⟩
   | mpi ka kt va vt es g =>
     simp only [fitObj] at hg
     cases hb : ((ka == ka') && (va == va')) with
     | false => rw [hb] at hg; simp at hg
     | true =>
       rw [hb] at hg; simp only [cond_true] at hg
       simp only [Bool.and_eq_true, beq_iff_eq] at hb
       obtain ⟨rfl, rfl⟩ := hb
       obtain ⟨e1, e2, gv⟩ := fitMap_spec hg gv
       subst e1; subst e2
       obtain ⟨h1, h2, h3, h4⟩ := h
       exact ⟨_, _, _, hl.trans h1, h2, h3.perm gv, h4⟩
   | _ => simp [fitObj] at hg
 | mpi ka' kt' va' vt' fs g' =>
   cases p with
   | mpi ka kt va vt es g =>
     simp only [fitObj] at hg
     cases hb : ((ka == ka') && (va == va')) with
     | false => rw [hb] at hg; simp at hg
     | true =>
       rw [hb] at hg; simp only [cond_true] at hg
       simp only [Bool.and_eq_true, beq_iff_eq] at hb
       obtain ⟨rfl, rfl⟩ := hb
       obtain ⟨e1, e2, gv, e3⟩ := fitIt_spec hg gv
       subst e1; subst e2; subst e3
       obtain ⟨h1, h2, h3, h4⟩ := h
       exact ⟨hl.trans h1, h2, h3.perm gv, h4⟩
   | _ => simp [fitObj] at hg
 | it ka' kt' va' vt' fs c' g' =>
   cases c' with
   | some c => cases p <;> simp [fitObj] at hg
   | none =>
   cases p with
   | it ka kt va vt es c g =>
     simp only [fitObj] at hg
     cases hb : ((ka == ka') && (va == va')) with
     | false => rw [hb] at hg; simp at hg
     | true =>
       rw [hb] at hg; simp only [cond_true] at hg
       simp only [Bool.and_eq_true, beq_iff_eq] at hb
       obtain ⟨rfl, rfl⟩ := hb
       obtain ⟨e1, e2, gv, e3⟩ := fitIt_spec hg gv
       subst e1; subst e2; subst e3
       obtain ⟨b, s, h1, h2, ⟨fs', h3, h4⟩, _, h5⟩ := h
       exact ⟨b, s, hl.trans h1, h2, ⟨fs', h3.trans gv, h4⟩, trivial, h5⟩
   | _ => simp [fitObj] at hg
theorem fitNone_rel {o : SObj} {g : Fit} {l : Nat} (hg : fitNone o = some g) (gv : vcT g.vc) (hl : ρ' l = some (.slice none 0 0)) : objRel H ρ' w l o := by
 cases o with
 | gone => trivial
 | tok e s => exact ⟨_, 0, [], hl, ownsR_nil w e s, by simp [Value.ownBlock]⟩
 | row e s t ys ro =>
   simp only [fitNone] at hg
   cases hb : Nat.beq s t.size with
   | false => rw [hb] at hg; cases hg
   | true =>
     rw [hb] at hg
     simp at hg; subst hg
     exact ⟨_, hl, Nat.eq_of_beq_eq_true hb, .inl ⟨rfl, gv⟩⟩
 | _ => simp [fitNone] at hg
theorem fitObj_gone {o : SObj} {g : Fit} (hg : fitObj .gone o = some g) (ho : o ≠ .gone) (htok : ∀ e s, o ≠ .tok e s) : False := by
 cases o with
 | gone => exact ho rfl
 | tok e s => exact htok e s rfl
 | _ => simp [fitObj] at hg
theorem obj_lab {o : SObj} {l : Nat} (h : objRel H ρ w l o) (hl : ρ' l = ρ l) (hm : ∀ m ∈ labsO o, ρ' m = ρ m) : objRel H ρ' w l o := by
 cases o with
 | gone => trivial
 | tok e s =>
   obtain ⟨v, n, xs, h1, h2⟩ := h
   exact ⟨v, n, xs, hl.trans h1, h2⟩
 | cells cs ro =>
   obtain ⟨b, cc, ty, h1, h2, h3, h4⟩ := h
   exact ⟨b, cc, ty, hl.trans h1, h2, scs_lab h3 hm, h4⟩
 | row e s t xs ro =>
   obtain ⟨v, h1, h2⟩ := h
   exact ⟨v, hl.trans h1, h2⟩
 | mp ka kt va vt es =>
   obtain ⟨r, en, clock, h1, h2⟩ := h
   exact ⟨r, en, clock, hl.trans h1, h2⟩
 | mpi ka kt va vt es g => exact ⟨hl.trans h.1, h.2⟩
 | it ka kt va vt es c g =>
   obtain ⟨b, s, h1, h2⟩ := h
   exact ⟨b, s, hl.trans h1, h2⟩

def FromL (ρ ρ' : Lab) (F : List (Nat × Option Nat)) (l k : Nat) : Prop := (l, some k) ∈ F ∨ (k = l ∧ l ∉ killed F ∧ ρ' l = ρ l)
theorem FromL.old {F : List (Nat × Option Nat)} {l k : Nat} (h : FromL ρ ρ' F l k) (hr : Renamed ρ ρ' F) : ρ' l = ρ k := by
 rcases h with h | ⟨rfl, _, h⟩
 · exact hr l (some k) h
 · exact h
theorem FromL.inj {F : List (Nat × Option Nat)} {l l' k : Nat} (h : FromL ρ ρ' F l k) (h' : FromL ρ ρ' F l' k) (hk : distinct (keysL F) = true) (hv : distinct (valsR F) = true) : l = l' := by
 rcases h with h | ⟨rfl, h1, _⟩ <;> rcases h' with h' | ⟨h2, h3, _⟩
 · exact vals_inj hv h h' hk
 · subst h2
   by_cases he : k = l
   · exact he.symm
   · exact absurd (killed_mem h he) h3
 · by_cases he : k = l'
   · exact he
   · exact absurd (killed_mem h' he) h1
 · exact h2
theorem regraph (I : MInv E H ρ hp N w) {F : List (Nat × Option Nat)} (hk : distinct (keysL F) = true) (hv : distinct (valsR F) = true) (hr : Renamed ρ ρ' F) {tp : List (Nat × SObj)} (hobj : ∀ l, look l tp ≠ .gone → objRel H ρ' w l (look l tp))
 (hsrc : ∀ l, look l tp ≠ .gone → (∃ k, look k hp ≠ .gone ∧ FromL ρ ρ' F l k) ∨ (l, none) ∈ F) {N' : Nat → Prop} (hb : ∀ l, N' l → ρ' l = none) (hroot : ∀ l v, E.pin l = some v → ρ' l = some v) : MInv E H ρ' tp N' w := by
 have key : ∀ l b, look l tp ≠ .gone → baseOf ρ' l = some b → ∃ k, look k hp ≠ .gone ∧ FromL ρ ρ' F l k ∧ baseOf ρ k = some b := fun l b hl hbl => by
  rcases hsrc l hl with ⟨k, h1, h2⟩ | h1
  · exact ⟨k, h1, h2, by rwa [baseOf, h2.old hr] at hbl⟩
  · have : ρ' l = some (.slice none 0 0) := hr l none h1
    simp [baseOf, this, blk] at hbl
 exact {
  mem := I.mem
  objs := fun l => by
   by_cases h : look l tp = .gone
   · rw [h]; trivial
   · exact hobj l h
  sep := fun l l' b h1 h2 hne hb hb' => by
   obtain ⟨k, k1, k2, k3⟩ := key l b h1 hb
   obtain ⟨k', k1', k2', k3'⟩ := key l' b h2 hb'
   have hkk : k = k' := Classical.byContradiction fun hd => I.sep k k' b k1 k1' hd k3 k3'
   subst hkk
   exact hne (k2.inj k2' hk hv)
  fresh := fun l b h1 hb => by
   obtain ⟨k, k1, _, k3⟩ := key l b h1 hb
   exact I.fresh k b k1 k3
  bound := hb
  keepH := I.keepH
  newH := I.newH
  frame := I.frame
  grow := I.grow
  os := I.os
  tape := I.tape
  output := I.output
  root := hroot }

theorem listed_rel (I : MInv E H ρ hp N w) {F : List (Nat × Option Nat)} {n : Nat} (hk : distinct (keysL F) = true) (hr : Renamed ρ ρ' F) (hlab : ∀ {l}, okLab n F l = true → ρ' l = ρ l) {L : List (Nat × SObj)} {g : Fit}
 (hg : fitObjs hp F L = some g) (gv : vcT g.vc) (gs : ∀ p ∈ g.ren, p ∈ F) (hlis : listedOk n F L = true) {tp : List (Nat × SObj)} (hrens : rensOk tp hp F = true) {l : Nat} {o : SObj} (hm : (l, o) ∈ L) (htp : look l tp = o) (ho : o ≠ .gone) :
 objRel H ρ' w l o ∧ ((∃ k, look k hp ≠ .gone ∧ FromL ρ ρ' F l k) ∨ (l, none) ∈ F) := by
 obtain ⟨f, hf, fv, fr⟩ := fitObjs_mem hg gv (hr.sub gs) hm
 obtain ⟨l1, l2, l3⟩ := listedOk_spec hlis l o hm ho
 unfold fitFor at hf
 cases hren : renOf F l with
 | none =>
   rw [hren] at hf
   have hnk : l ∉ keysL F := fun h => by
    obtain ⟨v, hv⟩ := keys_mem.1 h
    rw [renOf_of_mem hk hv] at hren; cases hren
   have hok : okLab n F l = true := l1.resolve_left hnk
   have hnt : ∀ e s, o ≠ .tok e s := fun e s he => hnk (l3 e s he)
   have hne : look l hp ≠ .gone := fun e => by
    simp only [e] at hf
    exact fitObj_gone hf ho hnt
   refine ⟨fitObj_rel hf fv fr (hlab hok) (fun m hm => hlab (l2 m hm)) (fun e s he => absurd he (hnt e s)) (I.objs l), .inl ⟨l, hne, .inr ⟨rfl, (okLab_spec hok).2.2, hlab hok⟩⟩⟩
 | some v =>
   rw [hren] at hf
   have hmem := renOf_spec hren
   cases v with
   | none => exact ⟨fitNone_rel hf fv (hr l none hmem), .inr hmem⟩
   | some k =>
     have htok : ∀ e s, o = .tok e s → look k hp = .tok e s := fun e s he => rensOk_spec hrens l k hmem e s (htp.trans he)
     have hne : look k hp ≠ .gone := fun e => by
      simp only [e] at hf
      exact fitObj_gone hf ho fun e' s he => by rw [htok e' s he] at e; cases e
     exact ⟨fitObj_rel hf fv fr (hr l (some k) hmem) (fun m hm => hlab (l2 m hm)) htok (I.objs k), .inl ⟨k, hne, .inl hmem⟩⟩
theorem headHp_look {hp L : List (Nat × SObj)} (l : Nat) : (∃ o, (l, o) ∈ L ∧ look l (headHp hp L) = o) ∨ (l ∉ labelsOf L ∧ look l (headHp hp L) = if wholeB L = true then .gone else look l hp) := by
 unfold headHp
 cases hw : wholeB L with
 | true =>
   simp only [cond_true, if_pos]
   rcases look_putAll (L := L) (hp := []) l with h | ⟨h1, h2⟩
   · exact .inl h
   · exact .inr ⟨h1, h2⟩
 | false =>
   simp only [cond_false]
   rcases look_putAll (L := L) (hp := hp) l with h | ⟨h1, h2⟩
   · exact .inl h
   · exact .inr ⟨h1, by simpa using h2⟩

def SlImp (s s' : Sl) : Prop := ∀ H ρ arr v, slRel H ρ arr s v → slRel H ρ arr s' v
theorem SlImp.refl (s : Sl) : SlImp s s := fun _ _ _ _ h => h
theorem SlImp.trans {a b c : Sl} (h : SlImp a b) (h' : SlImp b c) : SlImp a c := fun _ _ _ _ x => h' _ _ _ _ (h _ _ _ _ x)

theorem fit_jump {S' : SState} {pins : List Nat} {as : List Nat} {A : LoopAnn} {x : A.X} {wr : List Nat} (hfit : fitHead pins S as A x S' wr) : S.jump = none ∧ S'.jump = none := by
 unfold fitHead at hfit
 split at hfit
 case h_2 => exact hfit.elim
 split at hfit
 case h_2 => exact hfit.elim
 cases hj : (noJump S && noJump S') with
 | false => rw [hj] at hfit; exact hfit.elim
 | true =>
   simp only [Bool.and_eq_true] at hj
   unfold noJump at hj
   refine ⟨?_, ?_⟩
   · cases h : S.jump with
     | none => rfl
     | some e => rw [h] at hj; exact absurd hj.1 (by simp)
   · cases h : S'.jump with
     | none => rfl
     | some e => rw [h] at hj; exact absurd hj.2 (by simp)
theorem fit_head {S' : SState} {pins : List Nat} {as : List Nat} {A : LoopAnn} {x : A.X} {wr : List Nat} (hfit : fitHead pins S as A x S' wr) (hst : St E S' a w) (hlen : S'.tmps.length = S.tmps.length)
 (hkeep : ∀ t, t ∉ as → SlImp (uncond (nth .un S'.tmps t)) (uncond (nth .un S.tmps t))) (hlook : ∀ l, l ∉ wr → look l S'.hp = look l S.hp) (hp1 : ∀ l v, E.pin l = some v → l ∈ pins) : St E (headOf S as A x) a w := by
 obtain ⟨hdef, H, ρ, I, hs⟩ := hst
 unfold fitHead at hfit
 split at hfit
 case h_2 => exact hfit.elim
 rename_i f1 e1
 split at hfit
 case h_2 => exact hfit.elim
 rename_i f2 e2
 generalize hR : namesF S'.hp f1.ren (A.objs x) = ren at *
 cases hj : (noJump S && noJump S') with
 | false => rw [hj] at hfit; exact hfit.elim
 | true =>
 rw [hj, cond_true] at hfit
 cases hok : (subF ren (app f1.ren f2.ren) && headOk pins S as A x S' wr ren) with
 | false => rw [hok] at hfit; exact hfit.elim
 | true =>
   rw [hok] at hfit; simp only [cond_true] at hfit
   have hvc : vcT (andVC f1.vc f2.vc) := by
    cases hv : andVC f1.vc f2.vc with
    | none => trivial
    | some p => rw [hv] at hfit; exact hfit
   obtain ⟨v1, v2⟩ := vcT_and hvc
   simp only [headOk, Bool.and_eq_true] at hok
   obtain ⟨hsub, ⟨⟨⟨⟨⟨⟨⟨⟨⟨hwr, hone⟩, hdk⟩, hdv⟩, hkn⟩, hrens⟩, hlis⟩, hsl⟩, hkept⟩, hrest⟩⟩ := hok
   have hren : Renamed ρ (newLab ρ S.next ren) ren := newLab_ren hdk
   have hs1 : ∀ p ∈ f1.ren, p ∈ ren := fun p hp => subF_mem hsub p (mem_app.2 (.inl hp))
   have hs2 : ∀ p ∈ f2.ren, p ∈ ren := fun p hp => subF_mem hsub p (mem_app.2 (.inr hp))
   have r1 := hren.sub hs1
   have hlab : ∀ {l}, okLab S.next ren l = true → newLab ρ S.next ren l = ρ l := fun h => newLab_ok h
   have hun : wholeB (A.objs x) = false → ∀ l, l ∉ labelsOf (A.objs x) → look l S.hp ≠ .gone → look l S'.hp = look l S.hp ∧ okLab S.next ren l = true ∧ ∀ k ∈ labsO (look l S.hp), okLab S.next ren k = true := by
    intro hw l hl hne
    rw [hw] at hrest hwr
    obtain ⟨h1, h2⟩ := restOk_spec hrest l _ (look_mem hne) hl hne
    refine ⟨hlook l fun hm => ?_, h1, h2⟩
    have := allN_iff.1 hwr l hm
    simp only [Bool.or_eq_true] at this
    rcases this with h | h
    · exact hl (memN_iff.1 h)
    · have h3 := (okLab_spec h1).1
      have h4 := Nat.le_of_ble_eq_true h
      omega
   have hall : ∀ l, look l (headHp S.hp (A.objs x)) ≠ .gone → objRel H (newLab ρ S.next ren) w l (look l (headHp S.hp (A.objs x))) ∧ ((∃ k, look k S'.hp ≠ .gone ∧ FromL ρ (newLab ρ S.next ren) ren l k) ∨ (l, none) ∈ ren) := by
    intro l hne
    rcases headHp_look (hp := S.hp) (L := A.objs x) l with ⟨o, ho, hlo⟩ | ⟨hnl, hlo⟩
    · rw [hlo] at hne ⊢
      exact listed_rel I hdk hren hlab e2 v2 hs2 hlis hrens ho hlo hne
    · cases hw : wholeB (A.objs x) with
      | true => rw [hlo, if_pos hw] at hne; exact absurd rfl hne
      | false =>
        rw [hlo, if_neg (by rw [hw]; decide)] at hne ⊢
        obtain ⟨g1, g2, g3⟩ := hun hw l hnl hne
        have hobj := I.objs l
        rw [g1] at hobj
        exact ⟨obj_lab hobj (hlab g2) (fun m hm => hlab (g3 m hm)), .inl ⟨l, by rw [g1]; exact hne, .inr ⟨rfl, (okLab_spec g2).2.2, hlab g2⟩⟩⟩
   refine ⟨hdef, H, newLab ρ S.next ren, ?_, ?_⟩
   · refine regraph I hdk hdv hren (tp := headHp S.hp (A.objs x)) (fun l hl => (hall l hl).1) (fun l hl => (hall l hl).2) (fun l hl => ?_) (fun l v hv => ?_)
     · have hl : S.next ≤ l % STRIDE := hl
       have hnk : l ∉ keysL ren := fun hm => by
        have := Nat.le_of_ble_eq_true (allN_iff.1 hkn l hm)
        omega
       unfold newLab
       rw [renOf_none hnk]
       simp only
       rw [if_neg (by omega)]
     · exact (hlab (allN_iff.1 hone l (hp1 l v hv))).trans (I.root l v hv)
   · refine ⟨by simp only [headOf, setAll_length, clear_length, mapL_length]; rw [← hlen]; exact hs.1, fun t => ?_⟩
     simp only [headOf]
     have hst := hs.2 t
     rcases nth_setAll (sl := inL as (A.slots x)) (l := clear (mapL uncond S.tmps) as) t with ⟨h, _⟩ | ⟨v, h1, h2⟩ | ⟨h1, h2⟩
     · rw [h]; trivial
     · rw [h2]
       have h1 := (inL_mem h1).1
       obtain ⟨g, hg, gv, gr⟩ := fitSlots_mem e1 v1 r1 h1
       exact fitSl_rel hg gv gr (fun k hk => hlab (slotsOk_spec hsl t v h1 k hk)) (get_rel hs t)
     · have hko := keptOk_spec hkept t
       rw [nth_clear, if_neg h1] at hko
       rw [h2]
       rw [nth_clear, nth_mapL uncond .un rfl] at hko ⊢
       by_cases ht : t ∈ as
       · rw [if_pos ht]; trivial
       · rw [if_neg ht] at hko ⊢
         refine sl_lab ?_ (fun k hk => hlab (hko k hk))
         refine hkeep t ht _ _ _ _ ?_
         generalize nth Sl.un S'.tmps t = s at hst
         cases s with
         | cond g want u => trivial
         | _ => exact hst

end Go.Vse
