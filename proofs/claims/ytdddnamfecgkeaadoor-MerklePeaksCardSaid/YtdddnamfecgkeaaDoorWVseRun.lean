/- Regions in the text's order. -/
import Derived.Test.YtdddnamfecgkeaaDoorWVseFence
import Derived.Test.YtdddnamfecgkeaaDoorWVseIter
import Derived.Orders
namespace Go.Vse
variable {P : Program} {E : Env} {H : Mem} {ρ : Lab} {hp : List (Nat × SObj)} {lab : Nat} {N : Nat → Prop} {w : World} {S : SState} {a : Act}

theorem setN_length {α : Type} : ∀ (l : List α) (n : Nat) (v : α), (setN l n v).length = l.length
 | [], _, _ => rfl
 | _ :: _, 0, _ => rfl
 | _ :: r, n + 1, v => by simp [setN, setN_length r n v]
theorem nth_setN {α : Type} (d : α) : ∀ (l : List α) (n t : Nat) (v : α), nth d (setN l n v) t = if t = n ∧ n < l.length then v else nth d l t
 | [], n, t, v => by cases t <;> simp [setN, nth]
 | x :: r, 0, t, v => by cases t <;> simp [setN, nth]
 | x :: r, n + 1, t, v => by
   cases t with
   | zero => simp [setN, nth]
   | succ t => simp [setN, nth, nth_setN d r n t v]
theorem nth_mapL {α : Type} (f : α → α) (d : α) (hd : f d = d) : ∀ (l : List α) (t : Nat), nth d (mapL f l) t = f (nth d l t)
 | [], t => by cases t <;> simp [mapL, nth, hd]
 | x :: r, 0 => rfl
 | x :: r, t + 1 => by simp [mapL, nth, nth_mapL f d hd r t]
theorem mapL_length {α β : Type} (f : α → β) : ∀ (l : List α), (mapL f l).length = l.length
 | [] => rfl
 | _ :: r => by simp [mapL, mapL_length f r]
theorem freeOf_spec {d : Nat} : ∀ {l : List Sl}, freeOf d l = true → ∀ t g want v, nth .un l t = .cond g want v → g ≠ d
 | [], _, t, g, want, v, h => by cases t <;> simp [nth] at h
 | s :: r, hf, t, g, want, v, h => by
   have hr : freeOf d r = true := by
    unfold freeOf at hf; split at hf <;> simp_all
   cases t with
   | zero =>
     simp [nth] at h; subst h
     simp [freeOf] at hf
     exact fun e => by subst e; simp at hf
   | succ t => exact freeOf_spec hr t g want v h

theorem slRel_put {H : Mem} {ρ : Lab} {a : Array Value} {d : Nat} {u : Value} {s : Sl} {v : Value} (h : slRel H ρ a s v) (hs : ∀ g want x, s = .cond g want x → g ≠ d) : slRel H ρ (a.setIfInBounds d u) s v := by
 cases s with
 | cond g want x =>
   have : g ≠ d := hs g want x rfl
   simp only [slRel]
   rw [Array.getElem?_setIfInBounds, if_neg (fun e => this e.symm)]
   exact h
 | _ => exact h

theorem slots_put (hs : slotsRel H ρ S.tmps a.tmps) {dst : Option Nat} {out : Sl} {v : Value} (hout : slRel H ρ a.tmps out v) (hf : S.free dst = true) (hok : okOut dst out = true) :
 slotsRel H ρ (S.set dst out).tmps (a.put dst v).tmps := by
 cases dst with
 | none => exact hs
 | some d =>
   refine ⟨by simp [SState.set, Act.put, setN_length, hs.1], fun t => ?_⟩
   simp only [SState.set, Act.put, nth_setN, Array.getD_eq_getD_getElem?, Array.getElem?_setIfInBounds]
   by_cases ht : t = d ∧ d < S.tmps.length
   · obtain ⟨rfl, hlt⟩ := ht
     rw [if_pos ⟨rfl, hlt⟩, if_pos rfl, if_pos (by rw [← hs.1]; exact hlt)]
     refine slRel_put hout (fun g want x e => ?_)
     subst e
     intro e; subst e
     simp [okOut] at hok
   · rw [if_neg ht]
     have e : (if d = t then if d < a.tmps.size then some v else none else a.tmps[t]?) = a.tmps[t]? := by
      split
      · rename_i e; subst e
        have : ¬ d < a.tmps.size := fun h => ht ⟨rfl, by rw [hs.1]; exact h⟩
        rw [if_neg this, Array.getElem?_eq_none (by omega)]
      · rfl
     rw [e]
     have := hs.2 t
     rw [Array.getD_eq_getD_getElem?] at this
     exact slRel_put this (fun g want x e => freeOf_spec hf t g want x e)

theorem memB_spec {g : Nat} {want : Bool} : ∀ {l : List (Nat × Bool)}, memB g want l = true → (g, want) ∈ l
 | (g', want') :: r, h => by
   simp only [memB, Bool.or_eq_true, Bool.and_eq_true, beq_iff_eq] at h
   rcases h with ⟨h1, rfl⟩ | h
   · have e := Nat.eq_of_beq_eq_true h1; subst e; simp
   · exact List.mem_cons_of_mem _ (memB_spec h)
theorem slots_bare (hs : slotsRel H ρ S.tmps a.tmps) {l : List (Nat × Bool)} (hg : ∀ g want, (g, want) ∈ l → a.tmps[g]? = some (.bool want)) : slotsRel H ρ (S.bare l).tmps a.tmps := by
 refine ⟨by simp [SState.bare, mapL_length, hs.1], fun t => ?_⟩
 simp only [SState.bare]
 rw [nth_mapL (bare l) .un rfl]
 have := hs.2 t
 generalize nth Sl.un S.tmps t = s at this
 cases s with
 | cond g' want' x =>
   simp only [bare]
   cases hc : memB g' want' l with
   | false => exact this
   | true => exact this.1 (hg _ _ (memB_spec hc))
 | _ => exact this
theorem undef_not_bool {b : Bool} : undef ≠ .bool b := by simp [undef]
theorem met_sound (hs : slotsRel H ρ S.tmps a.tmps) : ∀ {l : List (Nat × Bool)} {ps : List Prop} {g : Nat} {want : Bool} {r : List (Nat × Bool)}, l = (g, want) :: r → metO S l = some ps → a.tmps[g]? = some (.bool want) →
 (∀ p ∈ ps, p) ∧ ∀ g' want', (g', want') ∈ l → a.tmps[g']? = some (.bool want')
 | [], _, _, _, _, h, _, _ => by cases h
 | (g, want) :: r, ps, _, _, _, rfl, h, hg => by
   have hrel := get_rel hs g
   rw [Array.getD_eq_getD_getElem?, hg] at hrel
   simp only [metO] at h
   split at h
   · rename_i b hb
     rw [hb] at hrel
     have e : Value.bool want = .bool b := hrel
     simp at e
     cases r with
     | nil =>
       simp [nilL] at h; subst h
       refine ⟨fun p hp => ?_, fun g' want' hm => ?_⟩
       · have hp := List.mem_singleton.1 hp
         rw [hp]; exact e.symm
       · simp at hm; obtain ⟨rfl, rfl⟩ := hm; exact hg
     | cons _ _ => simp [nilL] at h
   · rename_i g1 want1 b hb
     rw [hb] at hrel
     split at h
     · rename_i g2 want2 r2
       cases hc : (Nat.beq g1 g2 && (want1 == want2)) with
       | false => rw [hc] at h; simp at h
       | true =>
         rw [hc] at h
         simp only [cond_true] at h
         simp only [Bool.and_eq_true, beq_iff_eq] at hc
         obtain ⟨h1, rfl⟩ := hc
         have e := Nat.eq_of_beq_eq_true h1; subst e
         split at h
         · rename_i qs hq
           simp at h; subst h
           have hg2 : a.tmps[g1]? = some (.bool want1) := by
            by_cases hx : a.tmps[g1]? = some (.bool want1)
            · exact hx
            · have := hrel.2 hx
              simp at this
              exact absurd this.symm undef_not_bool
           have hb' : Value.bool want = .bool b := hrel.1 hg2
           simp at hb'
           obtain ⟨i1, i2⟩ := met_sound hs rfl hq hg2
           refine ⟨fun p hp => ?_, fun g' want' hm => ?_⟩
           · simp only [List.mem_cons] at hp
             rcases hp with rfl | hp
             · exact hb'.symm
             · exact i1 p hp
           · simp only [List.mem_cons] at hm
             rcases hm with hm | hm
             · simp at hm; obtain ⟨rfl, rfl⟩ := hm; exact hg
             · exact i2 g' want' (by simpa using hm)
         · cases h
     · cases h
   · cases h
theorem impAll_met : ∀ {ps : List Prop} {q : Option Prop}, (∀ p ∈ ps, p) → vcT (impAll ps q) → vcT q
 | [], _, _, h => h
 | p :: r, q, hp, h => by
   have h1 := impAll_met (ps := r) (fun x hx => hp x (List.mem_cons_of_mem _ hx)) h
   cases q with
   | none => trivial
   | some c => exact h1 (hp p (by simp))
theorem slots_mono {H H' : Mem} {ρ ρ' : Lab} (hH : H.le H') (hρ : ρ.le ρ') {l : List Sl} {a : Array Value} (h : slotsRel H ρ l a) : slotsRel H' ρ' l a :=
 ⟨h.1, fun t => slRel_mono hH hρ (h.2 t)⟩

theorem slot_bool (hs : slotsRel H ρ S.tmps a.tmps) {g : Nat} {b : Bool} (h : S.get g = .sv (.dv (.bool b))) : a.tmps[g]? = some (.bool b) := by
 have := get_rel hs g
 rw [h] at this
 have this : a.tmps.getD g undef = .bool b := this
 rw [Array.getD_eq_getD_getElem?] at this
 cases hh : a.tmps[g]? with
 | none => rw [hh] at this; simp [undef] at this
 | some u => rw [hh] at this; simp at this; rw [this]

def Leads (E : Env) (H : Mem) (ρ : Lab) (S : SState) (N : Nat → Prop) (lab : Nat) (a : Act) (o : Oper) (r : Res) (K : Act → World → Prop) : Prop :=
 ∀ a' w' H' ρ', H.le H' → ρ.le ρ' → MInv E H' ρ' (putAll S.hp r.upd) (but N lab) w' → slotsRel H' ρ' (S.set o.dst r.out).tmps a'.tmps → (∃ v, a' = a.put o.dst v) → K a' w'

theorem drop_label (I : MInv E H ρ hp N w) (hN : N lab) : look lab hp = .gone := by
 have hb := I.bound lab hN
 have ho := I.objs lab
 cases hl : look lab hp with
 | gone => rfl
 | cells cs ro =>
   rw [hl] at ho
   obtain ⟨b, c, ty, h1, _⟩ := ho
   rw [hb] at h1; cases h1
 | tok e s =>
   rw [hl] at ho
   obtain ⟨v, n, xs, h1, _⟩ := ho
   rw [hb] at h1; cases h1
 | row e s t xs ro =>
   rw [hl] at ho
   obtain ⟨v, h1, _⟩ := ho
   rw [hb] at h1; cases h1
 | mp ka kt va vt es =>
   rw [hl] at ho
   obtain ⟨r, en, clock, h1, _⟩ := ho
   rw [hb] at h1; cases h1
 | mpi ka kt va vt es g =>
   rw [hl] at ho
   obtain ⟨h1, _⟩ := ho
   rw [hb] at h1; cases h1
 | it ka kt va vt es c g =>
   rw [hl] at ho
   obtain ⟨b', s, h1, _⟩ := ho
   rw [hb] at h1; cases h1
theorem resG_go (I : MInv E H ρ S.hp N w) (hN : Fr N lab) (hs : slotsRel H ρ S.tmps a.tmps) {Γ : FuncId → Option PC} (hΓ : GamOk P E.H0 Γ) {o : Oper} {r : Res} (h : resG P Γ S o lab = some r) (hvc : vcT r.vc) :
 OpGo P E H ρ S.hp N lab w a o r := by
 have key : ∀ {by' : Bool} {r0 : Option Res}, r0 = resOp P Γ S o lab → dataRes by' lab r0 = some r → OpGo P E H ρ S.hp N lab w a o r := by
  intro by' r0 e0 h
  unfold dataRes at h
  split at h
  · rename_i vc k c xs l ob
    cases hb : (Nat.beq l lab && Nat.beq k lab && (by' || !isU8 c)) with
    | false => rw [hb] at h; simp at h
    | true =>
      rw [hb] at h; simp only [cond_true, Option.some.injEq] at h; subst h
      simp only [Bool.and_eq_true] at hb
      have e1 := Nat.eq_of_beq_eq_true hb.1.1
      have e2 := Nat.eq_of_beq_eq_true hb.1.2
      subst e1; subst e2
      have hgo := resOp_go I hN hs hΓ e0.symm hvc
      have hgone := drop_label I hN.one
      intro next Q hk
      refine hgo next Q fun v w' H' ρ' h1 h2 h3 h4 => hk v w' H' ρ' h1 h2 ?_ h4.2.1
      refine (h3.kill k).alike fun l => ?_
      show look l S.hp = look l (put k .gone (put k ob S.hp))
      rw [look_put, look_put]
      split
      · rename_i e; subst e; exact hgone
      · rfl
  · cases h
 unfold resG at h
 split at h
 · exact key rfl h
 · split at h
   · rename_i vc v hr
     simp only [Option.some.injEq] at h; subst h
     exact resOp_go I hN hs hΓ hr hvc
   · exact key rfl h
 · exact resOp_go I hN hs hΓ h hvc
theorem allP_all : ∀ {ps : List Prop}, allP ps → ∀ p ∈ ps, p
 | [], _, p, h => by cases h
 | [q], h, p, hp => by simp only [List.mem_singleton] at hp; subst hp; exact h
 | q :: q' :: r, h, p, hp => by
   simp only [List.mem_cons] at hp
   rcases hp with rfl | hp
   · exact h.1
   · exact allP_all h.2 p (by simpa using hp)
theorem met_back (hs : slotsRel H ρ S.tmps a.tmps) : ∀ {l : List (Nat × Bool)} {ps : List Prop}, metO S l = some ps → (∀ p ∈ ps, p) → ∀ g want, (g, want) ∈ l.head?.toList → a.tmps[g]? = some (.bool want)
 | [], _, h, _, _, _, _ => by simp [metO] at h
 | (g, want) :: r, ps, h, hp, g0, want0, hm => by
   simp only [List.head?_cons, Option.toList_some, List.mem_singleton, Prod.mk.injEq] at hm
   obtain ⟨rfl, rfl⟩ := hm
   simp only [metO] at h
   split at h
   · rename_i b hg
     cases hn : nilL r with
     | false => rw [hn] at h; simp at h
     | true =>
       rw [hn] at h; simp only [cond_true, Option.some.injEq] at h; subst h
       have hb : b = want0 := hp (eqP b want0) (by simp)
       have := slot_bool hs hg
       rw [this, hb]
   · rename_i g' want' b hg
     split at h
     · rename_i g2 want2 r'
       cases hc : (Nat.beq g' g2 && (want' == want2)) with
       | false => rw [hc] at h; simp at h
       | true =>
         rw [hc] at h; simp only [cond_true] at h
         simp only [Bool.and_eq_true, beq_iff_eq] at hc
         obtain ⟨h1, rfl⟩ := hc
         have e := Nat.eq_of_beq_eq_true h1; subst e
         split at h
         · rename_i qs hq
           simp only [Option.some.injEq] at h; subst h
           have ih := met_back hs hq (fun p hp' => hp p (List.mem_cons_of_mem _ hp')) g' want' (by simp)
           have hb : b = want0 := hp (eqP b want0) (by simp)
           have hrel := get_rel hs g0
           rw [hg] at hrel
           have h3 : a.tmps.getD g0 undef = .bool b := hrel.1 ih
           rw [Array.getD_eq_getD_getElem?] at h3
           cases hh : a.tmps[g0]? with
           | none => rw [hh] at h3; simp [undef] at h3
           | some u => rw [hh] at h3; simp at h3; rw [h3, hb]
         · cases h
     · cases h
   · cases h
theorem sliceO_upd {t : TypeId} {x : SV} {lo hi mx : Option SV} {r : Res} (h : sliceO P hp t x lo hi mx = some r) : r.upd = [] := by
 unfold sliceO at h
 repeat' split at h
 all_goals first
  | (simp only [Option.some.injEq] at h; subst h; rfl)
  | (cases h; done)
  | (simp only [Bool.cond_eq_ite] at h; split at h <;> first | (simp only [Option.some.injEq] at h; subst h; rfl) | (cases h; done))
  | (simp only [Bool.cond_eq_ite] at h; repeat' split at h) <;> first | (simp only [Option.some.injEq] at h; subst h; rfl) | (cases h; done)
theorem slice_upd {Γ : FuncId → Option PC} {o : Oper} {r : Res} (ho : isSliceOp o.op = true) (h : resOp P Γ S o lab = some r) : r.upd = [] ∨ (∃ l, r.upd = stills S.hp (some l)) ∨ ∃ ob rest, r.upd = (lab, ob) :: rest := by
 unfold isSliceOp at ho
 split at ho
 · rename_i t x lo hi mx heq
   unfold resOp at h
   rw [heq] at h
   simp only at h
   split at h
   · cases hrow : memN (lab + hRow) S.rows with
     | true =>
       rw [hrow] at h
       simp only [cond_true] at h
       unfold sliceRowO at h
       split at h
       case h_2 => cases h
       split at h
       case h_2 => cases h
       simp only [Bool.cond_eq_ite] at h
       split at h
       case isFalse => cases h
       split at h
       · simp only [Option.some.injEq] at h; subst h; exact .inl rfl
       · split at h
         · cases h
         · simp only [Option.some.injEq] at h; subst h; exact .inr (.inr ⟨_, _, rfl⟩)
       · cases h
     | false =>
     rw [hrow] at h
     simp only [cond_false] at h
     split at h
     · rename_i r' hr
       simp only [Option.some.injEq] at h; subst h
       exact .inl (sliceO_upd hr)
     · unfold sliceStillO at h
       split at h
       · rename_i c xs l vc _
         split at h
         · simp only [Option.some.injEq] at h; subst h
           exact .inr (.inl ⟨l, rfl⟩)
         · cases h
       · cases h
   · cases h
 · cases ho
theorem row_still (I : MInv E H ρ hp N w) {l : Nat} (h : isRowO (look l hp) = true) : ∃ H', H.le H' ∧ MInv E H' ρ (putAll hp (stills hp (some l))) N w := by
 unfold isRowO at h
 split at h
 · rename_i e s t xs ro hl
   have hs : asSlice hp (.ref (.row l)) = some ⟨t, xs, some l, none⟩ := by simp only [asSlice, hl]
   obtain ⟨v, h1, h2, h3⟩ := I.row hl
   have hv : svRel H ρ (.ref (.row l)) v := by
    refine ⟨h1, ?_⟩
    rcases h3 with ⟨rfl, _⟩ | ⟨g, cap, cur, f, rfl, _⟩
    · exact ⟨_, _, _, rfl⟩
    · exact ⟨_, _, _, rfl⟩
   obtain ⟨H', g1, g2, _⟩ := still_sound I hs trivial hv
   exact ⟨H', g1, g2⟩
 · cases h
theorem guardG_spec {ops : Array Oper} {o : Oper} {g : Nat} {w0 : Bool} (h : guardG ops.toList o = some (g, w0)) : ∃ j, o.guard = some (j, w0) ∧ dstOf ops.toList j = some g ∧ chainO ops.toList deep j w0 = [(g, w0)] := by
 unfold guardG at h
 split at h
 · rename_i j want hg
   split at h
   · rename_i g' w' hch
     simp only [Option.some.injEq, Prod.mk.injEq] at h
     obtain ⟨rfl, rfl⟩ := h
     have hd : dstOf ops.toList j = some g' ∧ w' = want := by
      unfold deep at hch
      simp only [chainO] at hch
      split at hch
      · rename_i g0 hd0
        split at hch <;> (simp only [List.cons.injEq, Prod.mk.injEq] at hch; obtain ⟨⟨rfl, rfl⟩, _⟩ := hch; exact ⟨hd0, rfl⟩)
      · cases hch
     obtain ⟨hd, rfl⟩ := hd
     exact ⟨j, hg, hd, hch⟩
   · cases h
 · cases h
theorem yielded_of {ops : Array Oper} {a : Act} {j g : Nat} {b : Bool} (hd : dstOf ops.toList j = some g) (h : a.tmps[g]? = some (.bool b)) : yielded ops a.tmps j = some b := by
 unfold yielded
 have : (ops[j]?).bind (·.dst) = some g := by rw [← hd]; simp [dstOf]
 rw [this]
 simp [h]
theorem slots_know {g : Nat} {q : Bool} (h : a.tmps[g]? = some (.bool q)) (hs : slotsRel H ρ S.tmps a.tmps) : slotsRel H ρ (S.know (.tmp g) q).tmps a.tmps := by
 refine ⟨by simp only [SState.know, setN_length]; exact hs.1, fun u => ?_⟩
 simp only [SState.know, nth_setN]
 split
 · rename_i hu
   rw [hu.1, Array.getD_eq_getD_getElem?, h]
   exact ⟨rfl, rfl⟩
 · exact hs.2 u
theorem met_go (I : MInv E H ρ S.hp N w) (hN : Fr N lab) (hs : slotsRel H ρ S.tmps a.tmps) {Γ : FuncId → Option PC} (hΓ : GamOk P E.H0 Γ) {ops : Array Oper} {o : Oper} {i : Nat} (ho : ops[i]? = some o) {g : Nat} {w0 : Bool} (hgd : guardG ops.toList o = some (g, w0)) (hb : a.tmps[g]? = some (.bool w0)) {r : Res}
 (hr : resOp P Γ (S.bare [(g, w0)]) o lab = some r) (hvc : vcT r.vc) (hf : S.free o.dst = true) (hok : okOut o.dst r.out = true) {K : Act → World → Prop} {Q : Exit → Act → World → Prop} (hK : Leads E H ρ S N lab a o r K) : wpOp P ops Q i K a w := by
 obtain ⟨j, hg, hd, _⟩ := guardG_spec hgd
 unfold wpOp
 rw [ho]
 simp only
 have hw : Region.wanted o (yielded ops a.tmps) = true := by simp [Region.wanted, hg, yielded_of hd hb]
 rw [if_pos hw]
 have hall : ∀ g' want, (g', want) ∈ [(g, w0)] → a.tmps[g']? = some (.bool want) := fun g' want hm => by
  simp only [List.mem_singleton, Prod.mk.injEq] at hm
  obtain ⟨rfl, rfl⟩ := hm
  exact hb
 have I' : MInv E H ρ (S.bare [(g, w0)]).hp N w := I
 refine .inl (resOp_go I' hN (slots_bare hs hall) hΓ hr hvc _ _ fun u w' H' ρ' h1 h2 h3 h4 => hK _ _ H' ρ' h1 h2 h3 ?_ ⟨u, rfl⟩)
 exact slots_put (slots_mono h1 h2 hs) h4 hf hok
theorem unmet_go (hs : slotsRel H ρ S.tmps a.tmps) {ops : Array Oper} {o : Oper} {i : Nat} (ho : ops[i]? = some o) {g : Nat} {w0 : Bool} (hgd : guardG ops.toList o = some (g, w0)) (hb : a.tmps[g]? = some (.bool (!w0)))
 (hf : S.free o.dst = true) (hok : okOut o.dst (skipped g w0) = true) {K : Act → World → Prop} {Q : Exit → Act → World → Prop} (hK : ∀ a', slotsRel H ρ (S.set o.dst (skipped g w0)).tmps a'.tmps → (∃ v, a' = a.put o.dst v) → K a' w) : wpOp P ops Q i K a w := by
 obtain ⟨j, hg, hd, _⟩ := guardG_spec hgd
 unfold wpOp
 rw [ho]
 simp only
 have hw : Region.wanted o (yielded ops a.tmps) = false := by
  simp only [Region.wanted, hg]
  rw [yielded_of hd hb]
  cases w0 <;> rfl
 rw [hw]
 simp only [Bool.false_eq_true, if_false]
 refine hK _ ?_ ⟨undef, rfl⟩
 exact slots_put hs ⟨fun e => by rw [hb] at e; cases w0 <;> simp at e, fun _ => rfl⟩ hf hok
theorem lit_spec {x : Option Res} {r : Res} (h : litO S lab x = some r) (hvc : vcT r.vc) : ∃ r0, x = some r0 ∧ vcT r0.vc ∧ r0.out = r.out ∧ r0.upd = r.upd := by
 unfold litO at h
 cases hm : memN (lab + hSame) S.rows with
 | false => rw [hm] at h; exact ⟨r, h, hvc, rfl, rfl⟩
 | true =>
   rw [hm] at h
   simp only [cond_true] at h
   unfold litR at h
   split at h
   · simp only [Option.some.injEq] at h; subst h
     obtain ⟨h1, h2⟩ := vcT_and hvc
     have h2 : _ = _ := h2
     exact ⟨_, rfl, h1, by rw [h2], rfl⟩
   · exact ⟨r, h, hvc, rfl, rfl⟩
theorem OpGo.alike {o : Oper} {r r' : Res} (h : OpGo P E H ρ hp N lab w a o r) (e1 : r.out = r'.out) (e2 : r.upd = r'.upd) : OpGo P E H ρ hp N lab w a o r' := by
 intro next Q hk
 refine h next Q fun v w' H' ρ' h1 h2 h3 h4 => hk v w' H' ρ' h1 h2 ?_ ?_
 · rw [← e2]; exact h3
 · rw [← e1]; exact h4
theorem step_go0 (I : MInv E H ρ S.hp N w) (hN : Fr N lab) (hs : slotsRel H ρ S.tmps a.tmps) {Γ : FuncId → Option PC} (hΓ : GamOk P E.H0 Γ) {ops : Array Oper} {o : Oper} {i : Nat} (ho : ops[i]? = some o) {r : Res}
 (h : stepO0 P Γ ops.toList S o lab = some r) (hvc : vcT r.vc) (hf : S.free o.dst = true) (hok : okOut o.dst r.out = true) {K : Act → World → Prop} {Q : Exit → Act → World → Prop} (hK : Leads E H ρ S N lab a o r K) : wpOp P ops Q i K a w := by
 unfold wpOp
 rw [ho]
 simp only
 unfold stepO0 at h
 split at h
 · rename_i hg
   have hw : Region.wanted o (yielded ops a.tmps) = true := by simp [Region.wanted, hg]
   rw [if_pos hw]
   obtain ⟨r0, h0, hv0, e1, e2⟩ := lit_spec h hvc
   refine .inl (((resOp_go I hN hs hΓ h0 hv0).alike e1 e2) _ _ fun v w' H' ρ' h1 h2 h3 h4 => hK _ _ H' ρ' h1 h2 h3 ?_ ⟨v, rfl⟩)
   exact slots_put (slots_mono h1 h2 hs) h4 hf hok
 · rename_i j want hg
   split at h
   · rename_i g w0 r0 hch
     have hd : dstOf ops.toList j = some g ∧ w0 = want := by
      unfold deep at hch
      simp only [chainO] at hch
      split at hch
      · rename_i g0 hd0
        split at hch <;> (simp at hch; obtain ⟨⟨rfl, rfl⟩, _⟩ := hch; exact ⟨hd0, rfl⟩)
      · cases hch
     obtain ⟨hd, rfl⟩ := hd
     split at h
     · rename_i ps vc v hm hr
       simp at h; subst h
       have hy : ∀ b, a.tmps[g]? = some (.bool b) → yielded ops a.tmps j = some b := by
        intro b hgv
        unfold yielded
        have : (ops[j]?).bind (·.dst) = some g := by rw [← hd]; simp [dstOf]
        rw [this]
        simp [hgv]
       have hyn : (∀ b, a.tmps[g]? ≠ some (.bool b)) → yielded ops a.tmps j = none := by
        intro hn
        unfold yielded
        have : (ops[j]?).bind (·.dst) = some g := by rw [← hd]; simp [dstOf]
        rw [this]
        cases hv : a.tmps[g]? with
        | none => simp
        | some u =>
          cases u <;> first | simp | exact absurd hv (hn _)
       by_cases hbw : a.tmps[g]? = some (.bool w0)
       · have hw : Region.wanted o (yielded ops a.tmps) = true := by simp [Region.wanted, hg, hy _ hbw]
         rw [if_pos hw]
         obtain ⟨hps, hall⟩ := met_sound hs rfl hm hbw
         have hv' : vcT vc := impAll_met hps hvc
         have I' : MInv E H ρ (S.bare ((g, w0) :: r0)).hp N w := I
         refine .inl (resG_go I' hN (slots_bare hs hall) hΓ hr hv' _ _ fun u w' H' ρ' h1 h2 h3 h4 => hK _ _ H' ρ' h1 h2 h3 ?_ ⟨u, rfl⟩)
         exact slots_put (slots_mono h1 h2 hs) ⟨fun _ => h4, fun hn => absurd hbw hn⟩ hf hok
       · have hw : Region.wanted o (yielded ops a.tmps) = false := by
           simp only [Region.wanted, hg]
           by_cases hx : ∃ b, a.tmps[g]? = some (.bool b)
           · obtain ⟨b, hb⟩ := hx
             rw [hy b hb]
             have : b ≠ w0 := fun e => hbw (by rw [hb, e])
             simp [this]
           · rw [hyn fun b hb => hx ⟨b, hb⟩]
             rfl
         rw [hw]
         simp only [Bool.false_eq_true, if_false]
         refine hK _ _ H ρ (Mem.le_refl H) (Lab.le_refl ρ) (I.later but_le) ?_ ⟨undef, rfl⟩
         exact slots_put hs ⟨fun e => absurd e hbw, fun _ => rfl⟩ hf hok
     · -- a row is held still
       rename_i ps vc v l ob rest hm hr
       cases hc : (isSliceOp o.op && isRowO (look l S.hp)) with
       | false => rw [hc] at h; cases h
       | true =>
       rw [hc] at h
       simp only [cond_true, Option.some.injEq] at h; subst h
       simp only [Bool.and_eq_true] at hc
       have hup : (l, ob) :: rest = stills S.hp (some l) := by
        have hG : resG P Γ (S.bare ((g, w0) :: r0)) o lab = resOp P Γ (S.bare ((g, w0) :: r0)) o lab := by
         have := hc.1
         unfold isSliceOp at this
         split at this
         · rename_i heq; unfold resG; rw [heq]
         · cases this
        rw [hG] at hr
        rcases slice_upd hc.1 hr with e | ⟨l0, e⟩ | ⟨ob', rest', e⟩
        · cases e
        rotate_left
        · exfalso
          have e : (l, ob) :: rest = (lab, ob') :: rest' := e
          simp only [List.cons.injEq, Prod.mk.injEq] at e
          have h9 := hc.2
          rw [e.1.1, gone_of_none I (I.bound lab hN.one)] at h9
          cases h9
        · have e : (l, ob) :: rest = stills S.hp (some l0) := e
          have : l0 = l := by
           simp only [stills] at e
           split at e
           · simp only [List.cons.injEq, Prod.mk.injEq] at e; exact e.1.1.symm
           · simp only [List.cons.injEq, Prod.mk.injEq] at e; exact e.1.1.symm
           · cases e
          subst this
          exact e
       rw [hup] at hr
       have hy : ∀ b, a.tmps[g]? = some (.bool b) → yielded ops a.tmps j = some b := by
        intro b hgv
        unfold yielded
        have : (ops[j]?).bind (·.dst) = some g := by rw [← hd]; simp [dstOf]
        rw [this]
        simp [hgv]
       have hyn : (∀ b, a.tmps[g]? ≠ some (.bool b)) → yielded ops a.tmps j = none := by
        intro hn
        unfold yielded
        have : (ops[j]?).bind (·.dst) = some g := by rw [← hd]; simp [dstOf]
        rw [this]
        cases hv : a.tmps[g]? with
        | none => simp
        | some u =>
          cases u <;> first | simp | exact absurd hv (hn _)
       by_cases hbw : a.tmps[g]? = some (.bool w0)
       · have hw : Region.wanted o (yielded ops a.tmps) = true := by simp [Region.wanted, hg, hy _ hbw]
         rw [if_pos hw]
         obtain ⟨hps, hall⟩ := met_sound hs rfl hm hbw
         have hv' : vcT vc := impAll_met hps hvc
         have I' : MInv E H ρ (S.bare ((g, w0) :: r0)).hp N w := I
         refine .inl (resG_go I' hN (slots_bare hs hall) hΓ hr hv' _ _ fun u w' H' ρ' h1 h2 h3 h4 => hK _ _ H' ρ' h1 h2 h3 ?_ ⟨u, rfl⟩)
         exact slots_put (slots_mono h1 h2 hs) ⟨fun _ => h4, fun hn => absurd hbw hn⟩ hf hok
       · have hw : Region.wanted o (yielded ops a.tmps) = false := by
           simp only [Region.wanted, hg]
           by_cases hx : ∃ b, a.tmps[g]? = some (.bool b)
           · obtain ⟨b, hb⟩ := hx
             rw [hy b hb]
             have : b ≠ w0 := fun e => hbw (by rw [hb, e])
             simp [this]
           · rw [hyn fun b hb => hx ⟨b, hb⟩]
             rfl
         rw [hw]
         simp only [Bool.false_eq_true, if_false]
         obtain ⟨H', g1, g2⟩ := row_still I hc.2
         refine hK _ _ H' ρ g1 (Lab.le_refl ρ) (g2.later but_le) ?_ ⟨undef, rfl⟩
         exact slots_put (slots_mono g1 (Lab.le_refl ρ) hs) ⟨fun e => absurd e hbw, fun _ => rfl⟩ hf hok
     · simp at h
   · simp at h

theorem owed_go (I : MInv E H ρ S.hp N w) (hN : Fr N lab) (hs : slotsRel H ρ S.tmps a.tmps) {Γ : FuncId → Option PC} (hΓ : GamOk P E.H0 Γ) {ops : Array Oper} {o : Oper} {i : Nat} (ho : ops[i]? = some o) {r : Res}
 (h : stepOwed P Γ ops.toList S o lab = some r) (hvc : vcT r.vc) (hf : S.free o.dst = true) (hok : okOut o.dst r.out = true) {K : Act → World → Prop} {Q : Exit → Act → World → Prop} (hK : Leads E H ρ S N lab a o r K) : wpOp P ops Q i K a w := by
 unfold wpOp
 rw [ho]
 simp only
 unfold stepOwed at h
 split at h
 · cases h
 · rename_i j want hg
   split at h
   · rename_i g w0 r0 hch
     have hd : dstOf ops.toList j = some g ∧ w0 = want := by
      unfold deep at hch
      simp only [chainO] at hch
      split at hch
      · rename_i g0 hd0
        split at hch <;> (simp at hch; obtain ⟨⟨rfl, rfl⟩, _⟩ := hch; exact ⟨hd0, rfl⟩)
      · cases hch
     obtain ⟨hd, rfl⟩ := hd
     split at h
     · rename_i ps x hm hr
       simp only [Option.some.injEq] at h; subst h
       obtain ⟨v1, v2⟩ := vcT_and hvc
       have hbw : a.tmps[g]? = some (.bool w0) := met_back hs hm (allP_all v1) g w0 (by simp)
       have hy : yielded ops a.tmps j = some w0 := by
        unfold yielded
        have : (ops[j]?).bind (·.dst) = some g := by rw [← hd]; simp [dstOf]
        rw [this]
        simp [hbw]
       have hw : Region.wanted o (yielded ops a.tmps) = true := by simp [Region.wanted, hg, hy]
       rw [if_pos hw]
       obtain ⟨hps, hall⟩ := met_sound hs rfl hm hbw
       have I' : MInv E H ρ (S.bare ((g, w0) :: r0)).hp N w := I
       refine .inl (resOp_go I' hN (slots_bare hs hall) hΓ hr v2 _ _ fun u w' H' ρ' h1 h2 h3 h4 => hK _ _ H' ρ' h1 h2 h3 ?_ ⟨u, rfl⟩)
       exact slots_put (slots_mono h1 h2 hs) h4 hf hok
     · cases h
   · cases h
theorem step_go (I : MInv E H ρ S.hp N w) (hN : Fr N lab) (hs : slotsRel H ρ S.tmps a.tmps) {Γ : FuncId → Option PC} (hΓ : GamOk P E.H0 Γ) {ops : Array Oper} {o : Oper} {i : Nat} (ho : ops[i]? = some o) {r : Res}
 (h : stepO P Γ ops.toList S o lab = some r) (hvc : vcT r.vc) (hf : S.free o.dst = true) (hok : okOut o.dst r.out = true) {K : Act → World → Prop} {Q : Exit → Act → World → Prop} (hK : Leads E H ρ S N lab a o r K) : wpOp P ops Q i K a w := by
 unfold stepO at h
 cases hm : memN (lab + STRIDE * 5) S.rows with
 | false =>
   rw [hm, cond_false] at h
   cases hm2 : (memN (lab + STRIDE * 12) S.rows && o.guard.isSome) with
   | false => rw [hm2] at h; exact step_go0 I hN hs hΓ ho h hvc hf hok hK
   | true => rw [hm2] at h; exact owed_go I hN hs hΓ ho h hvc hf hok hK
 | true =>
   rw [hm, cond_true] at h
   unfold sureO at h
   split at h
   case h_2 => cases h
   rename_i g w0 hgd
   split at h
   case h_2 => cases h
   rename_i b hget
   have hb := slot_bool hs hget
   cases hbw : (b == w0) with
   | true =>
     rw [hbw, cond_true] at h
     have e := beq_iff_eq.1 hbw
     subst e
     exact met_go I hN hs hΓ ho hgd hb h hvc hf hok hK
   | false =>
     rw [hbw, cond_false] at h
     simp only [Option.some.injEq] at h; subst h
     have e : b = !w0 := by cases b <;> cases w0 <;> simp at hbw ⊢
     subst e
     refine unmet_go hs ho hgd hb hf hok fun a' h1 h2 => hK a' w H ρ (Mem.le_refl H) (Lab.le_refl ρ) (I.later but_le) h1 h2
theorem stepR_go (I : MInv E H ρ S.hp N w) (hN : Fr N lab) (hs : slotsRel H ρ S.tmps a.tmps) {Γ : FuncId → Option PC} (hΓ : GamOk P E.H0 Γ) {ops : Array Oper} {o : Oper} {i : Nat} (ho : ops[i]? = some o) {r : Res}
 (h : stepR P Γ ops.toList S o lab = some r) (hvc : vcT r.vc) (hf : S.free o.dst = true) (hok : okOut o.dst r.out = true) {K : Act → World → Prop} {Q : Exit → Act → World → Prop} (hK : Leads E H ρ S N lab a o r K) : wpOp P ops Q i K a w := by
 unfold stepR at h
 split at h
 · rename_i r' hr
   simp only [Option.some.injEq] at h; subst h
   exact step_go I hN hs hΓ ho hr hvc hf hok hK
 · exact owed_go I hN hs hΓ ho h hvc hf hok hK

def St (E : Env) (S : SState) (a : Act) (w : World) : Prop :=
 a.defers = E.defs ∧ ∃ H ρ, MInv E H ρ S.hp (fun l => S.next ≤ l % STRIDE) w ∧ slotsRel H ρ S.tmps a.tmps

def Dst (E : Env) (S : SState) (a : Act) (w : World) : Prop :=
 a.defers = E.defs ∧ ∃ H ρ N, MInv E H ρ S.hp N w ∧ slotsRel H ρ S.tmps a.tmps

theorem slots_uncond {l : List Sl} {a : Array Value} (h : slotsRel H ρ l a) : slotsRel H ρ (mapL uncond l) a := by
 refine ⟨by simp [mapL_length, h.1], fun t => ?_⟩
 rw [nth_mapL uncond .un rfl]
 have := h.2 t
 generalize nth Sl.un l t = s at this
 cases s with
 | cond g' want' x => trivial
 | _ => exact this

theorem nilT_sound (I : MInv E H ρ S.hp N w) (hs : slotsRel H ρ S.tmps a.tmps) {op : BinOp} {t : TypeId} {x y : Operand} {same : Bool} (hop : op = if same then .eql else .neq) {p : Prop} {s' : Bool} (h : nilT P S same t x y = some (s', p)) :
 s' = same ∧ ∃ q : Bool, (q = true → p) ∧ OpOk P E H ρ S.hp N lab w a.tmps (do pure (.value (← (do eqGuard op t x y (a.eval x) (a.eval y); binOp op t (a.eval x) (a.eval y))))) (boolR (q == same)) := by
 have key0 : ∀ {α : Type} {xs : List α} {v : Value} (hu : ∃ e, P.underlying t = some (.slice e)), ((xs = [] ∧ a.eval x = .slice none 0 0) ∨ ∃ a0 n c, a.eval x = .slice (some a0) n c) → svRel H ρ (.dv (.cst v)) (a.eval y) → isNilS v = true →
  ∃ q : Bool, (q = true → xs = []) ∧ OpOk P E H ρ S.hp N lab w a.tmps (do pure (.value (← (do eqGuard op t x y (a.eval x) (a.eval y); binOp op t (a.eval x) (a.eval y))))) (boolR (q == same)) := by
  intro α xs v hu hx hy hv
  obtain ⟨e, hu⟩ := hu
  have hy2 : a.eval y = .slice none 0 0 := by
   obtain ⟨h1, _⟩ := hy
   rw [h1]
   unfold isNilS at hv
   split at hv
   · rfl
   · simp at hv
  rw [hy2]
  have fin : ∀ (b : Bool) (u : Value), a.eval x = u → (∃ ad n c, u = .slice ad n c) → (∀ D, (Op.equalIn (D + 1) t u (.slice none 0 0)).run P w = .ok b w) → (binOp .eql t u (.slice none 0 0) = (do pure (.bool (← Op.equal t u (.slice none 0 0))))) →
   (binOp .neq t u (.slice none 0 0) = (do pure (.bool (!(← Op.equal t u (.slice none 0 0)))))) → OpOk P E H ρ S.hp N lab w a.tmps (do pure (.value (← (do eqGuard op t x y (a.eval x) (.slice none 0 0); binOp op t (a.eval x) (.slice none 0 0))))) (boolR (b == same)) := by
   rintro b u hu' ⟨ad, n, c, rfl⟩ h1 h2 h3
   obtain ⟨g1, g2⟩ := eq_run h1 h2 h3
   rw [hu']
   refine OpOk.pure I ⟨rfl, .bool (b == same), ?_, rfl⟩
   rw [Sem.run_bind, guard_pure (by simp) (by simp)]
   simp only [Result.andThen_ok]
   subst hop
   cases same
   · simpa using g2
   · simpa using g1
  rcases hx with ⟨h1, h2⟩ | ⟨a0, n, c, h2⟩
  · exact ⟨true, fun _ => h1, fin true _ h2 ⟨_, _, _, rfl⟩ (fun D => by simp [Op.equalIn, run_underlying hu]) rfl rfl⟩
  · exact ⟨false, by simp, fin false _ h2 ⟨_, _, _, rfl⟩ (fun D => by simp [Op.equalIn, run_underlying hu]) rfl rfl⟩
 have key : ∀ {α : Type} {R : α → List Value → Prop} {xs : List α} {v : Value} (hu : ∃ e, P.underlying t = some (.slice e)), ev S x = ev S x → sliceRel H R xs (a.eval x) → svRel H ρ (.dv (.cst v)) (a.eval y) → isNilS v = true →
  ∃ q : Bool, (q = true → xs = []) ∧ OpOk P E H ρ S.hp N lab w a.tmps (do pure (.value (← (do eqGuard op t x y (a.eval x) (a.eval y); binOp op t (a.eval x) (a.eval y))))) (boolR (q == same)) := by
  intro α R xs v hu _ hx hy hv
  refine key0 hu ?_ hy hv
  rcases hx.2 with ⟨h1, h2 | ⟨a0, h2⟩⟩ | ⟨b, off, cap, cs, h2, _⟩
  · exact .inl ⟨h1, h2⟩
  · exact .inr ⟨_, _, _, h2⟩
  · exact .inr ⟨_, _, _, h2⟩
 unfold nilT at h
 split at h
 · rename_i e u xs v hu hx hy
   cases hv : isNilS v with
   | false => rw [hv] at h; simp at h
   | true =>
     rw [hv] at h
     simp only [cond_true, Option.some.injEq, Prod.mk.injEq] at h
     obtain ⟨rfl, rfl⟩ := h
     exact ⟨rfl, key ⟨e, hu⟩ rfl (ev_sound hs hx) (ev_sound hs hy) hv⟩
 · rename_i e k u xs v hu hx hy
   cases hv : isNilS v with
   | false => rw [hv] at h; simp at h
   | true =>
     rw [hv] at h
     simp only [cond_true, Option.some.injEq, Prod.mk.injEq] at h
     obtain ⟨rfl, rfl⟩ := h
     exact ⟨rfl, key ⟨e, hu⟩ rfl (ev_sound hs hx).2.1 (ev_sound hs hy) hv⟩
 · rename_i e l v hu hx hy
   split at h
   · rename_i e0 s0 t0 xs ro hl
     cases hv : (isNilS v && memN (STRIDE * 4) S.rows) with
     | false => rw [hv] at h; simp at h
     | true =>
       rw [hv] at h
       simp only [cond_true, Option.some.injEq, Prod.mk.injEq] at h
       obtain ⟨rfl, rfl⟩ := h
       simp only [Bool.and_eq_true] at hv
       obtain ⟨hρ, _⟩ := ev_sound hs hx
       obtain ⟨v', h1, _, h3⟩ := I.row hl
       rw [hρ] at h1
       simp only [Option.some.injEq] at h1
       refine ⟨rfl, key0 ⟨e, hu⟩ ?_ (ev_sound hs hy) hv.1⟩
       rcases h3 with ⟨h3, h4⟩ | ⟨g, cap, cur, f, h4, _⟩
       · exact .inl ⟨h4, h1.trans h3⟩
       · exact .inr ⟨_, _, _, h1.trans h4⟩
   · simp at h
 · simp at h
theorem nilTest_sound (I : MInv E H ρ S.hp N w) (hs : slotsRel H ρ S.tmps a.tmps) {o : Oper} {same : Bool} {p : Prop} (h : nilTest P S o = some (same, p)) :
 o.guard = none ∧ ∃ q : Bool, (q = true → p) ∧ OpGo P E H ρ S.hp N lab w a o (boolR (q == same)) := by
 unfold nilTest at h
 split at h
 · rename_i t x y ty hg ho
   obtain ⟨rfl, q, h1, h2⟩ := nilT_sound (lab := lab) I hs (op := .eql) (same := true) rfl h
   exact ⟨hg, q, h1, OpGo.of_ok (by simpa only [execOp, ho] using h2)⟩
 · rename_i t x y ty hg ho
   obtain ⟨rfl, q, h1, h2⟩ := nilT_sound (lab := lab) I hs (op := .neq) (same := false) rfl h
   exact ⟨hg, q, h1, OpGo.of_ok (by simpa only [execOp, ho] using h2)⟩
 · simp at h

theorem step_of_go (hs : slotsRel H ρ S.tmps a.tmps) {ops : Array Oper} {o : Oper} {i : Nat} (ho : ops[i]? = some o) {r : Res} (hgo : OpGo P E H ρ S.hp N lab w a o r) (hg : o.guard = none) (hf : S.free o.dst = true) (hok : okOut o.dst r.out = true)
 {K : Act → World → Prop} {Q : Exit → Act → World → Prop} (hK : Leads E H ρ S N lab a o r K) : wpOp P ops Q i K a w := by
 unfold wpOp
 rw [ho]
 simp only
 have hw : Region.wanted o (yielded ops a.tmps) = true := by simp [Region.wanted, hg]
 rw [if_pos hw]
 refine .inl (hgo _ _ fun v w' H' ρ' h1 h2 h3 h4 => hK _ _ H' ρ' h1 h2 h3 ?_ ⟨v, rfl⟩)
 exact slots_put (slots_mono h1 h2 hs) h4 hf hok

theorem nth_out : ∀ (l : List Sl) t, l.length ≤ t → nth .un l t = .un
 | [], t, _ => by cases t <;> rfl
 | x :: l, 0, h => by simp at h
 | x :: l, t + 1, h => nth_out l t (by simpa using h)
theorem mem_of_memN {u : Nat} : ∀ {L : List Nat}, memN u L = true → u ∈ L
 | k :: L, h => by
   simp only [memN, Bool.or_eq_true] at h
   rcases h with h | h
   · rw [Nat.eq_of_beq_eq_true h]; simp
   · exact List.mem_cons_of_mem _ (mem_of_memN h)
theorem forgetL_nth {all : List Oper} : ∀ (r : List Oper) (l : List Sl) (t : Nat), nth .un (forgetL all r l) t = nth .un l t ∨
 (t ∈ assignedOps all ∧ ∃ k c xs, nth .un l t = .sv (.own k c xs) ∧ nth .un (forgetL all r l) t = .sv (.dv (.imm c xs)))
 | [], l, t => .inl rfl
 | o :: r, l, t => by
   simp only [forgetL]
   split
   · rename_i u _
     split
     · rename_i k c xs hu
       cases hb : memN u (assignedOps all) with
       | false => exact forgetL_nth r l t
       | true =>
         simp only [cond_true]
         have hm := mem_of_memN hb
         have hlt : u < l.length := by
          rcases Nat.lt_or_ge u l.length with h | h
          · exact h
          · rw [nth_out l u h] at hu; cases hu
         have hset := nth_setN .un l u t (.sv (.dv (.imm c xs)))
         rcases forgetL_nth (all := all) r (setN l u (.sv (.dv (.imm c xs)))) t with h | ⟨h1, k', c', xs', h2, h3⟩
         · rw [h, hset]
           by_cases htu : t = u ∧ u < l.length
           · rw [if_pos htu, htu.1]; exact .inr ⟨hm, k, c, xs, hu, rfl⟩
           · rw [if_neg htu]; exact .inl rfl
         · rw [hset] at h2
           by_cases htu : t = u ∧ u < l.length
           · rw [if_pos htu] at h2; cases h2
           · rw [if_neg htu] at h2; exact .inr ⟨h1, k', c', xs', h2, h3⟩
     · exact forgetL_nth r l t
   · exact forgetL_nth r l t
theorem forgetL_length {all : List Oper} : ∀ (r : List Oper) (l : List Sl), (forgetL all r l).length = l.length
 | [], l => rfl
 | o :: r, l => by
   simp only [forgetL]
   split
   · rename_i u _
     split
     · cases memN u (assignedOps all) with
       | false => exact forgetL_length r l
       | true => simp only [cond_true]; rw [forgetL_length r, setN_length]
     · exact forgetL_length r l
   · exact forgetL_length r l
theorem slots_forget {all r : List Oper} {l : List Sl} {a : Array Value} (h : slotsRel H ρ l a) : slotsRel H ρ (forgetL all r l) a := by
 refine ⟨by rw [forgetL_length]; exact h.1, fun t => ?_⟩
 rcases forgetL_nth (all := all) r l t with e | ⟨_, k, c, xs, e1, e2⟩
 · rw [e]; exact h.2 t
 · have := h.2 t
   rw [e1] at this
   rw [e2]
   have this : ownRel H ρ k c xs _ := this
   exact this.2.1

theorem die_go (I : MInv E H ρ S.hp N w) (hs : slotsRel H ρ S.tmps a.tmps) {Y : Dy} (hG : HasG P E.H0) (hY : ∀ f c, Y.dc f = some c → DSpec P f c) {ops : Array Oper} {o : Oper} {i : Nat} (ho : ops[i]? = some o) {d : DieR} (h : dieO P Y S o = some d) (hat : d.at_) (hvc : vcT d.vc)
 {K : Act → World → Prop} {Q : Exit → Act → World → Prop} (hk : ∀ w' H', H.le H' → MInv E H' ρ (putAll S.hp d.upd) N w' → Q (.panic [{ v := d.val, recovered := false }]) a w') : wpOp P ops Q i K a w := by
 obtain ⟨hg, hgo⟩ := dieO_go (next := K) I hs hG hY h hat hvc hk
 unfold wpOp
 rw [ho]
 simp only
 have hw : Region.wanted o (yielded ops a.tmps) = true := by simp [Region.wanted, hg]
 rw [if_pos hw]
 exact .inl hgo
theorem skipG_spec (hs : slotsRel H ρ S.tmps a.tmps) {all : List Oper} {o : Oper} {g : Nat} {w0 : Bool} (h : skipG all S o = some (g, w0)) : guardG all o = some (g, w0) ∧ a.tmps[g]? = some (.bool (!w0)) := by
 unfold skipG at h
 split at h
 · rename_i g' w' hg
   have fin : ∀ {q : Bool}, S.get g' = .sv (.dv (.bool q)) → (bif q == w' then none else some (g', w')) = some (g, w0) → guardG all o = some (g, w0) ∧ a.tmps[g]? = some (.bool (!w0)) := by
    intro q this h
    cases hqw : q == w' with
    | true => rw [hqw] at h; cases h
    | false =>
      rw [hqw] at h
      simp only [cond_false, Option.some.injEq, Prod.mk.injEq] at h
      obtain ⟨rfl, rfl⟩ := h
      refine ⟨hg, ?_⟩
      rw [slot_bool hs this]
      cases q <;> cases w' <;> simp at hqw ⊢
   split at h
   · rename_i q hq
     cases hm : memN (STRIDE * 3) S.rows with
     | true => rw [hm] at hq; exact fin hq h
     | false => rw [hm] at hq; cases hq
   · split at h
     · rename_i q hq
       exact fin (by unfold SState.get; rw [hq]; rfl) h
     · cases h
 · cases h
theorem splitG_spec {all : List Oper} {o : Oper} {g : Nat} {w0 b : Bool} (h : splitG all S o lab = some (g, w0, b)) : guardG all o = some (g, w0) ∧ S.get g = .sv (.dv (.bool b)) := by
 unfold splitG at h
 cases hm : memN (lab + STRIDE * 2) S.rows with
 | false => rw [hm] at h; cases h
 | true =>
   rw [hm] at h
   simp only [cond_true] at h
   split at h
   · rename_i g' w' hg
     split at h
     · rename_i b' hb
       simp only [Option.some.injEq, Prod.mk.injEq] at h
       obtain ⟨rfl, rfl, rfl⟩ := h
       exact ⟨hg, hb⟩
     · cases h
   · cases h

theorem drawT_sound (I : MInv E H ρ S.hp N w) (hN : N lab) (hs : slotsRel H ρ S.tmps a.tmps) {o : Oper} {d : DrawR} (h : drawT P S o lab = some d) :
 o.guard = none ∧ match d with
 | .range f => ∃ g, OpGo P E H ρ S.hp N lab w a o (f g) ∧ ∀ n, okOut n (f g).out = true
 | .next vc r _ _ left f => (∀ n, okOut n r.out = true) ∧ (∀ n x y m, okOut n (f x y m).out = true) ∧ (vc → (left = [] ∧ OpGo P E H ρ S.hp N lab w a o r) ∨ ∃ x y m, left.Perm ((x, y) :: m) ∧ OpGo P E H ρ S.hp N lab w a o (f x y m))
 | .entry r => vcT r.vc → OpGo P E H ρ S.hp N lab w a o r := by
 unfold drawT at h
 split at h
 · rename_i t x hg ho
   refine ⟨hg, ?_⟩
   obtain ⟨s, hx, h⟩ := Option.bind_eq_some_iff.1 h
   obtain ⟨f, g, rfl, hok⟩ := rangeO_ok (a := a.tmps) I hN h (ev_sound hs hx)
   have e : ∀ n, okOut n (f g).out = true := by
    unfold rangeO at h
    split at h
    case h_2 => cases h
    split at h
    case h_2 => cases h
    simp only [Option.some.injEq, DrawR.range.injEq] at h
    subst h
    intro n; cases n <;> rfl
   exact ⟨g, OpGo.of_ok (by simpa only [execOp, ho] using hok), e⟩
 · rename_i x hg ho
   refine ⟨hg, ?_⟩
   obtain ⟨s, hx, h⟩ := Option.bind_eq_some_iff.1 h
   obtain ⟨vc, r, kt, vt, left, f, rfl, h1, h2, h3⟩ := nextO_ok (lab := lab) (a := a.tmps) I h (ev_sound hs hx) o.type
   refine ⟨h1, h2, fun hv => ?_⟩
   rcases h3 hv with ⟨h4, h5⟩ | ⟨x, y, m, h4, h5⟩
   · exact .inl ⟨h4, OpGo.of_ok (by simpa only [execOp, ho] using h5)⟩
   · exact .inr ⟨x, y, m, h4, OpGo.of_ok (by simpa only [execOp, ho] using h5)⟩
 · rename_i x hg ho
   refine ⟨hg, ?_⟩
   obtain ⟨s, hx, h⟩ := Option.bind_eq_some_iff.1 h
   obtain ⟨r, rfl, h1⟩ := entryO_ok (lab := lab) (a := a.tmps) I h (ev_sound hs hx)
   exact fun hv => OpGo.of_ok (by simpa only [execOp, ho] using h1 hv)
 · cases h

abbrev Fam := Option Exit → Env → Prop
def StF (V : Fam) (S : SState) (a : Act) (w : World) : Prop := ∃ E, V S.jump E ∧ St E S a w
theorem jump_apply (S : SState) (d : Option Nat) (r : Res) : (S.apply d r).jump = S.jump := by cases d <;> rfl
theorem jump_set (S : SState) (d : Option Nat) (v : Sl) : (S.set d v).jump = S.jump := by cases d <;> rfl
theorem jump_know (S : SState) (x : Operand) (q : Bool) : (S.know x q).jump = S.jump := by cases x <;> rfl
theorem jump_lit (S : SState) (k : Nat) : (S.lit k).jump = S.jump := rfl
theorem defers_of {a a' : Act} {d : Option Nat} (h : ∃ v, a' = a.put d v) : a'.defers = a.defers := by
 obtain ⟨v, rfl⟩ := h
 unfold Act.put; split <;> rfl
theorem put_defers' (a : Act) (d : Option Nat) (v : Value) : (a.put d v).defers = a.defers := by unfold Act.put; split <;> rfl
def YhOk (P : Program) (R : Option Nat) (V : Fam) (A : Act → Prop) (h : SState → Nat → List SV → (Bool → SState → Prop) → Prop) : Prop :=
 ∀ (S : SState) (k : Nat) (vs : List SV) (K : Bool → SState → Prop) (E : Env) (H : Mem) (ρ : Lab) (a : Act) (w : World) (xs : List Value) (y : Value),
  h S k vs K → A a → V S.jump E → a.defers = E.defs → MInv E H ρ S.hp (fun l => S.next ≤ l % STRIDE) w → slotsRel H ρ S.tmps a.tmps → svsRel H ρ vs xs → ρ k = some y →
  ∃ (l : Nat) (f : FuncId) (tmps : Array Value) (assign body : Code), y = .func (.yield l) #[] #[] ∧ (Instr.yield l xs.toArray).run P w = .ok (.round l f tmps assign body) w ∧
   RoundIn (RF R) 0 P l f tmps assign body w fun e w' => ∃ q S', e = .returned (.bool q) ∧ K q S' ∧ StF V S' a w'
theorem yieldT_spec {o : Oper} {k : Nat} {vs : List SV} (h : yieldT S o = some (k, vs)) : o.guard = none ∧ ∃ t args tys, o.op = .call { callee := .value (.tmp t), args := args, argTypes := tys } ∧ S.get t = .sv (.yld k) ∧ evs S args.toList = some vs := by
 unfold yieldT at h
 split at h
 · rename_i c hg ho
   split at h
   · rename_i t hc
     split at h
     · rename_i k' hk
       split at h
       · rename_i vs' hv
         simp only [Option.some.injEq, Prod.mk.injEq] at h
         obtain ⟨rfl, rfl⟩ := h
         obtain ⟨callee, args, tys⟩ := c
         simp only at hc hv
         subst hc
         exact ⟨hg, t, args, tys, ho, hk, hv⟩
       · cases h
     · cases h
   · cases h
 · cases h
theorem yield_go {R : Option Nat} {V : Fam} {h : SState → Nat → List SV → (Bool → SState → Prop) → Prop} {A : Act → Prop} (hy : YhOk P R V A h) (hA : A a) {ops : Array Oper} {o : Oper} {i : Nat} (ho : ops[i]? = some o) (hd : R = none ∨ undefer o) {k : Nat} {vs : List SV} (hyt : yieldT S o = some (k, vs))
 (hE : V S.jump E) (hdef : a.defers = E.defs) {n : Nat} (I : MInv E H ρ S.hp (fun l => n ≤ l % STRIDE) w) (hs : slotsRel H ρ S.tmps a.tmps) {K : Bool → SState → Prop} (hh : h { S with next := n } k vs K)
 {Kn : Act → World → Prop} {Q : Exit → Act → World → Prop} (hK : ∀ q S' w', K q S' → StF V S' a w' → Kn (a.put o.dst (.bool q)) w') : wpOpIn (RF R) 0 P ops Q i Kn a w := by
 obtain ⟨hg, t, args, tys, hop, hst, hvs⟩ := yieldT_spec hyt
 have ht : ρ k = some (a.eval (.tmp t)) := by
  have := evalO_sound hs (.tmp t)
  rw [show evalO S (.tmp t) = S.get t from rfl, hst] at this
  exact this
 obtain ⟨l, f, tmps, assign, body, e1, e2, e3⟩ := hy { S with next := n } k vs K E H ρ a w _ _ hh hA hE hdef I hs (evs_sound hs hvs) ht
 unfold wpOpIn
 rw [ho]
 simp only
 have hw : Region.wanted o (yielded ops a.tmps) = true := by simp [Region.wanted, hg]
 rw [if_pos hw]
 have esem : Oper.semAt (RF R).round a.eval o = execOp a.eval o := by
  rcases hd with rfl | hd
  · exact Oper.semAt_none _ _
  · exact Oper.semAt_eq _ _ _ hd
 refine ⟨fun _ _ => trivial, ?_⟩
 rw [esem]
 have earg : (args.toList.map a.eval).toArray = args.map a.eval := by apply Array.ext'; simp
 have hrun : (execOp a.eval o).run P w = .ok (.round l f tmps assign body) w := by
  rw [earg] at e2
  simp only [execOp, hop, resolve, e1, Deferred.ofValue, Sem.run_bind, Sem.run_pure, Result.andThen_ok, invoke]
  simpa using e2
 rw [hrun]
 refine ⟨fun h => by simp [RF, Fence.wide] at h, e3.mono ?_⟩
 rintro e w' ⟨q, S', rfl, hk, hst'⟩
 exact hK q S' w' hk hst'

theorem runOps_sound {R : Option Nat} {V : Fam} {Γ : FuncId → Option PC} (hΓ : ∀ j E, V j E → GamOk P E.H0 Γ) {Y : Dy} (hY : ∀ f c, Y.dc f = some c → DSpec P f c) {A : Act → Prop} (hYh : ∀ h, Y.yh = some h → YhOk P R V A h) {ops : Array Oper} (hA : ∀ (a : Act) (i : Nat) (o : Oper) (v : Value), ops[i]? = some o → A a → A (a.put o.dst v)) (hdf : R = none ∨ ∀ (i : Nat) (o : Oper), ops[i]? = some o → undefer o) {Q : Exit → Act → World → Prop} (hQ : ¬ LetsOut Q) {K : SState → Prop} (hK : ∀ E S' a' w', V S'.jump E → K S' → St E S' a' w' → Q .normal a' w')
 (hP : ∀ j E v S' a' w', V j E → Y.kp v S' → Dst E S' a' w' → Q (.panic [{ v := v, recovered := false }]) a' w') :
 ∀ (l : List Oper) (k : Nat) (lab : Nat) (S : SState) (a : Act) (w : World), ops.toList.drop k = l → runOps P Γ Y ops.toList l lab S K →
  A a → (∃ E, V S.jump E ∧ a.defers = E.defs ∧ ∃ H ρ, MInv E H ρ S.hp (fun l => lab ≤ l % STRIDE) w ∧ slotsRel H ρ S.tmps a.tmps) → wpOpsIn (RF R) 0 P ops Q (List.range' k l.length) a w
 | [], k, lab, S, a, w, _, h, _, ⟨E, hE, hd, H, ρ, I, hs⟩ => hK E { S with next := lab, tmps := forgetL ops.toList ops.toList (mapL uncond S.tmps) } a w hE h ⟨hd, H, ρ, I, slots_forget (slots_uncond hs)⟩
 | o :: rest, k, lab, S, a, w, hl, h, hAa, ⟨E, hE, hd, H, ρ, I, hs⟩ => by
   simp only [runOps] at h
   cases hlab : Nat.blt lab STRIDE with
   | false => rw [hlab] at h; exact h.elim
   | true =>
   rw [hlab] at h
   simp only [cond_true] at h
   have hlt : lab < STRIDE := Nat.le_of_ble_eq_true hlab
   have hN : Fr (fun l => lab ≤ l % STRIDE) lab := ⟨hlt, fun i => by rw [Nat.add_mul_mod_self_left, Nat.mod_eq_of_lt hlt]; exact Nat.le_refl _⟩
   have hnext : ∀ l, lab + 1 ≤ l % STRIDE → but (fun l => lab ≤ l % STRIDE) lab l := fun l hl => ⟨Nat.le_of_succ_le hl, fun e => by subst e; rw [Nat.mod_eq_of_lt hlt] at hl; omega, fun e => by omega⟩
   have ho : ops[k]? = some o := by
    have := congrArg (fun l => l[0]?) hl
    simpa using this
   have hA' : ∀ {a' : Act}, (∃ v, a' = a.put o.dst v) → A a' := fun ⟨v, e⟩ => e ▸ hA a k o v ho hAa
   have hrest : ops.toList.drop (k + 1) = rest := by
    rw [← List.drop_drop, hl]; rfl
   split at h
   · rename_i ky vs hyt
     split at h
     case h_2 => exact h.elim
     rename_i hh hyh
     rw [show (o :: rest).length = rest.length + 1 from rfl, List.range'_succ, wpOpsIn_cons]
     refine yield_go (hYh hh hyh) hAa ho (hdf.imp id fun hd => hd k o ho) hyt hE hd (I.later fun l hl => Nat.le_of_succ_le hl) hs h fun q S' w' hk hst => ?_
     obtain ⟨E', hE', hd', H', ρ', I', hs'⟩ := hst
     cases hf : S'.free o.dst with
     | false => rw [hf] at hk; exact hk.elim
     | true =>
       rw [hf, cond_true] at hk
       refine runOps_sound hΓ hY hYh hA hdf hQ hK hP rest (k + 1) S'.next (S'.apply o.dst (boolR q)) _ w' hrest hk (hA a k o _ ho hAa) ⟨E', by simpa only [jump_apply] using hE', (put_defers' _ _ _).trans hd', H', ρ', I', ?_⟩
       exact slots_put hs' (show slRel H' ρ' a.tmps (.sv (.dv (.bool q))) (.bool q) from rfl) hf (by cases o.dst <;> rfl)
   split at h
   · rename_i f hdr
     obtain ⟨hg, g, hgo, hok⟩ := drawT_sound I hN.one hs hdr
     cases hf : S.free o.dst with
     | false => rw [hf] at h; exact h.elim
     | true =>
       rw [hf] at h; simp only [cond_true] at h
       rw [show (o :: rest).length = rest.length + 1 from rfl, List.range'_succ, wpOpsIn_cons]
       refine wpOpIn_of ?_ hQ hdf
       refine step_of_go hs ho hgo hg hf (hok _) fun a' w' H' ρ' h1 h2 h3 h4 h5 => ?_
       exact runOps_sound hΓ hY hYh hA hdf hQ hK hP rest (k + 1) (lab + 1) (S.apply o.dst (f g)) a' w' hrest (h g) (hA' h5) ⟨E, by simpa only [jump_apply, jump_set, jump_know, jump_lit] using hE, (defers_of h5).trans hd, H', ρ', h3.later hnext, h4⟩
   · rename_i vc r kt vt left f hdr
     obtain ⟨hg, k1, k2, k3⟩ := drawT_sound I hN.one hs hdr
     cases hf : S.free o.dst with
     | false => rw [hf] at h; exact h.elim
     | true =>
       rw [hf] at h; simp only [cond_true] at h
       obtain ⟨hv, hno, hall⟩ := h
       rw [show (o :: rest).length = rest.length + 1 from rfl, List.range'_succ, wpOpsIn_cons]
       refine wpOpIn_of ?_ hQ hdf
       rcases k3 hv with ⟨hl0, hgo⟩ | ⟨x, y, m, hl0, hgo⟩
       · refine step_of_go hs ho hgo hg hf (k1 _) fun a' w' H' ρ' h1 h2 h3 h4 h5 => ?_
         exact runOps_sound hΓ hY hYh hA hdf hQ hK hP rest (k + 1) (lab + 1) (S.apply o.dst r) a' w' hrest (hno hl0) (hA' h5) ⟨E, by simpa only [jump_apply, jump_set, jump_know, jump_lit] using hE, (defers_of h5).trans hd, H', ρ', h3.later hnext, h4⟩
       · refine step_of_go hs ho hgo hg hf (k2 _ _ _ _) fun a' w' H' ρ' h1 h2 h3 h4 h5 => ?_
         exact runOps_sound hΓ hY hYh hA hdf hQ hK hP rest (k + 1) (lab + 1) (S.apply o.dst (f x y m)) a' w' hrest (hall x y m hl0) (hA' h5) ⟨E, by simpa only [jump_apply, jump_set, jump_know, jump_lit] using hE, (defers_of h5).trans hd, H', ρ', h3.later hnext, h4⟩
   · rename_i r hdr
     obtain ⟨hg, hgo⟩ := drawT_sound I hN.one hs hdr
     cases hc : (S.free o.dst && okOut o.dst r.out) with
     | false => rw [hc] at h; exact h.elim
     | true =>
       rw [hc] at h; simp only [cond_true] at h
       simp only [Bool.and_eq_true] at hc
       obtain ⟨hvc, h⟩ := owe_vc h
       rw [show (o :: rest).length = rest.length + 1 from rfl, List.range'_succ, wpOpsIn_cons]
       refine wpOpIn_of ?_ hQ hdf
       refine step_of_go hs ho (hgo hvc) hg hc.1 hc.2 fun a' w' H' ρ' h1 h2 h3 h4 h5 => ?_
       exact runOps_sound hΓ hY hYh hA hdf hQ hK hP rest (k + 1) (lab + 1) (S.apply o.dst r) a' w' hrest h (hA' h5) ⟨E, by simpa only [jump_apply, jump_set, jump_know, jump_lit] using hE, (defers_of h5).trans hd, H', ρ', h3.later hnext, h4⟩
   split at h
   · rename_i same p hnt
     cases hf : S.free o.dst with
     | false => rw [hf] at h; exact h.elim
     | true =>
       rw [hf] at h; simp only [cond_true] at h
       obtain ⟨hg, q, hq, hgo⟩ := nilTest_sound (lab := lab) I hs hnt
       rw [show (o :: rest).length = rest.length + 1 from rfl, List.range'_succ, wpOpsIn_cons]
       refine wpOpIn_of ?_ hQ hdf
       refine step_of_go hs ho hgo hg hf (by cases o.dst <;> rfl) fun a' w' H' ρ' h1 h2 h3 h4 h5 => ?_
       refine runOps_sound hΓ hY hYh hA hdf hQ hK hP rest (k + 1) (lab + 1) (S.apply o.dst (boolR (q == same))) a' w' hrest (h q hq) (hA' h5) ⟨E, by simpa only [jump_apply, jump_set, jump_know, jump_lit] using hE, (defers_of h5).trans hd, H', ρ', h3.later hnext, h4⟩
   split at h
   · rename_i g0 w0 hsk
     obtain ⟨hgd, hb⟩ := skipG_spec hs hsk
     cases hc : (S.free o.dst && okOut o.dst (skipped g0 w0)) with
     | false => rw [hc] at h; exact h.elim
     | true =>
       rw [hc] at h; simp only [cond_true] at h
       simp only [Bool.and_eq_true] at hc
       rw [show (o :: rest).length = rest.length + 1 from rfl, List.range'_succ, wpOpsIn_cons]
       refine wpOpIn_of ?_ hQ hdf
       refine unmet_go hs ho hgd hb hc.1 hc.2 fun a' h4 h5 => ?_
       have hhp : (S.set o.dst (skipped g0 w0)).hp = S.hp := by unfold SState.set; split <;> rfl
       exact runOps_sound hΓ hY hYh hA hdf hQ hK hP rest (k + 1) (lab + 1) (S.set o.dst (skipped g0 w0)) a' w hrest h (hA' h5) ⟨E, by simpa only [jump_apply, jump_set, jump_know, jump_lit] using hE, (defers_of h5).trans hd, H, ρ, by rw [hhp]; exact I.later fun l hl => Nat.le_of_succ_le hl, h4⟩
   split at h
   · rename_i g0 w0 b0 hsp
     obtain ⟨hgd, hget⟩ := splitG_spec hsp
     have hb := slot_bool hs hget
     rw [show (o :: rest).length = rest.length + 1 from rfl, List.range'_succ, wpOpsIn_cons]
     refine wpOpIn_of ?_ hQ hdf
     by_cases hbw : b0 = w0
     · have h := h.1 hbw
       subst hbw
       split at h
       case h_2 => exact h.elim
       rename_i r hr
       cases hc : ((S.know (.tmp g0) b0).free o.dst && okOut o.dst r.out) with
       | false => rw [hc] at h; exact h.elim
       | true =>
         rw [hc] at h; simp only [cond_true] at h
         simp only [Bool.and_eq_true] at hc
         obtain ⟨hvc, h⟩ := owe_vc h
         have I' : MInv E H ρ (S.know (.tmp g0) b0).hp (fun l => lab ≤ l % STRIDE) w := I
         refine met_go I' hN (slots_know hb hs) (hΓ _ E hE) ho hgd hb hr hvc hc.1 hc.2 fun a' w' H' ρ' h1 h2 h3 h4 h5 => ?_
         exact runOps_sound hΓ hY hYh hA hdf hQ hK hP rest (k + 1) (lab + 1) ((S.know (.tmp g0) b0).apply o.dst r) a' w' hrest h (hA' h5) ⟨E, by simpa only [jump_apply, jump_set, jump_know, jump_lit] using hE, (defers_of h5).trans hd, H', ρ', h3.later hnext, h4⟩
     · have hbn : b0 = !w0 := by cases b0 <;> cases w0 <;> simp at hbw ⊢
       have h := h.2 hbn
       rw [hbn] at hb
       cases hc : ((S.know (.tmp g0) (!w0)).free o.dst && okOut o.dst (skipped g0 w0)) with
       | false => rw [hc] at h; exact h.elim
       | true =>
         rw [hc] at h; simp only [cond_true] at h
         simp only [Bool.and_eq_true] at hc
         refine unmet_go (slots_know hb hs) ho hgd hb hc.1 hc.2 fun a' h4 h5 => ?_
         have hhp : ((S.know (.tmp g0) (!w0)).set o.dst (skipped g0 w0)).hp = S.hp := by unfold SState.set; split <;> rfl
         exact runOps_sound hΓ hY hYh hA hdf hQ hK hP rest (k + 1) (lab + 1) ((S.know (.tmp g0) (!w0)).set o.dst (skipped g0 w0)) a' w hrest h (hA' h5) ⟨E, by simpa only [jump_apply, jump_set, jump_know, jump_lit] using hE, (defers_of h5).trans hd, H, ρ, by rw [hhp]; exact I.later fun l hl => Nat.le_of_succ_le hl, h4⟩
   · have hthen : (∃ d, dieO P Y S o = some d ∧ d.at_ ∧ vcT d.vc ∧ kpOps Y S d) ∨ (match stepR P Γ ops.toList S o lab with
         | some r => bif S.free o.dst && okOut o.dst r.out then owe r.vc (match splitI S lab r with
           | none => runOps P Γ Y ops.toList rest (lab + 1) (S.apply o.dst r) K
           | some v => (leP 0 v ∧ leP v 1) ∧ (eqP v 0 → runOps P Γ Y ops.toList rest (lab + 1) ((S.apply o.dst (r.int 0)).lit 0) K) ∧ (eqP v 1 → runOps P Γ Y ops.toList rest (lab + 1) ((S.apply o.dst (r.int 1)).lit 1) K)) else False
         | none => False) := by
       cases hd : dieO P Y S o with
       | none => rw [hd] at h; exact .inr h
       | some d =>
         rw [hd] at h
         by_cases hat : d.at_
         · obtain ⟨h1, h2⟩ := owe_vc (h.1 hat)
           exact .inl ⟨d, rfl, hat, h1, h2⟩
         · exact .inr (h.2 hat)
     rcases hthen with ⟨d, hd1, hd2, hd3, hd4⟩ | h
     · rw [show (o :: rest).length = rest.length + 1 from rfl, List.range'_succ, wpOpsIn_cons]
       refine wpOpIn_of ?_ hQ hdf
       exact die_go I hs (hΓ _ E hE).glob hY ho hd1 hd2 hd3 fun w' H' le I' => hP _ E d.val _ a w' hE hd4 ⟨hd, H', ρ, _, I', slots_mono le (Lab.le_refl ρ) hs⟩
     split at h
     case h_2 => exact h.elim
     rename_i r hr
     cases hc : (S.free o.dst && okOut o.dst r.out) with
     | false => rw [hc] at h; exact h.elim
     | true =>
       rw [hc] at h; simp only [cond_true] at h
       simp only [Bool.and_eq_true] at hc
       obtain ⟨hvc, h⟩ := owe_vc h
       rw [show (o :: rest).length = rest.length + 1 from rfl, List.range'_succ, wpOpsIn_cons]
       refine wpOpIn_of ?_ hQ hdf
       refine stepR_go I hN hs (hΓ _ E hE) ho hr hvc hc.1 hc.2 fun a' w' H' ρ' h1 h2 h3 h4 h5 => ?_
       split at h
       · exact runOps_sound hΓ hY hYh hA hdf hQ hK hP rest (k + 1) (lab + 1) (S.apply o.dst r) a' w' hrest h (hA' h5) ⟨E, by simpa only [jump_apply, jump_set, jump_know, jump_lit] using hE, (defers_of h5).trans hd, H', ρ', h3.later hnext, h4⟩
       · rename_i v hsp
         have hout : r.out = .sv (.dv (.i64 v)) := by
          unfold splitI at hsp
          cases hm : memN (lab + hSplit) S.rows with
          | false => rw [hm] at hsp; cases hsp
          | true =>
            rw [hm] at hsp
            simp only [cond_true] at hsp
            split at hsp
            · rename_i u hu
              simp only [Option.some.injEq] at hsp
              rw [hu, hsp]
            · cases hsp
         obtain ⟨⟨hv1, hv2⟩, hv3, hv4⟩ := h
         unfold leP at hv1 hv2
         have hint : ∀ q : Int, v = q → r.int q = r := fun q e => by
          obtain ⟨vc, out, upd⟩ := r
          simp only at hout
          subst hout; subst e; rfl
         rcases (by omega : v = 0 ∨ v = 1) with e | e
         · have h := hv3 e
           rw [hint 0 e] at h
           exact runOps_sound hΓ hY hYh hA hdf hQ hK hP rest (k + 1) (lab + 1) ((S.apply o.dst r).lit 0) a' w' hrest h (hA' h5) ⟨E, by simpa only [jump_apply, jump_set, jump_know, jump_lit] using hE, (defers_of h5).trans hd, H', ρ', h3.later hnext, h4⟩
         · have h := hv4 e
           rw [hint 1 e] at h
           exact runOps_sound hΓ hY hYh hA hdf hQ hK hP rest (k + 1) (lab + 1) ((S.apply o.dst r).lit 1) a' w' hrest h (hA' h5) ⟨E, by simpa only [jump_apply, jump_set, jump_know, jump_lit] using hE, (defers_of h5).trans hd, H', ρ', h3.later hnext, h4⟩

end Go.Vse
