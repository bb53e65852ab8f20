/- Objects: structs with rows that are written in place and maps, as typed data. -/
import Derived.Test.YtdddnamfecgkeaaDoorWVseTyped
import Derived.Test.YtdddnamfecgkeaaDoorWVseGraph
namespace Go.Vse
variable {P : Program}

inductive OF where
 | dat (t : T)
 | row (e : TypeId) (t : T)
 | mp (kt : T) (va : Bool) (vt : T)
def aggK : T → Bool
 | .arr _ _ => true
 | .pair _ _ => true
 | _ => false
@[reducible] def OF.den : OF → Type
 | .dat t => t.den
 | .row _ t => List t.den
 | .mp kt _ vt => List (kt.den × vt.den)
@[reducible] def ofds : List OF → Type
 | [] => Unit
 | f :: r => f.den × ofds r
def oCells : (fs : List OF) → Nat → ofds fs → List SC
 | [], _, _ => []
 | .dat t :: r, k, x => app (ofRuns (enc t x.1)) (oCells r k x.2)
 | .row _ _ :: r, k, x => .ref (.row k) :: oCells r (k + 1) x.2
 | .mp _ _ _ :: r, k, x => .ref (.map k) :: oCells r (k + 1) x.2
def oHeap : (fs : List OF) → Nat → ofds fs → List (Nat × SObj)
 | [], _, _ => []
 | .dat _ :: r, k, x => oHeap r k x.2
 | .row e t :: r, k, x => (k, .row e t.size t x.1 false) :: oHeap r (k + 1) x.2
 | .mp kt va vt :: r, k, x => (k, .mp (aggK kt) kt va vt x.1) :: oHeap r (k + 1) x.2
def oObj (fs : List OF) (k : Nat) (x : ofds fs) : List (Nat × SObj) := (1, .cells (oCells fs k x) false) :: oHeap fs k x

def rowHd (e : TypeId) (t : T) (k : Nat) : List SC → List (Nat × SObj) → Option (List t.den × List SC × List (Nat × SObj))
 | .ref (.row l) :: cs, (l', .row e' s t' xs false) :: hp =>
   bif Nat.beq l k && Nat.beq l' k && Nat.beq e' e && Nat.beq s t.size then (if h : t' = t then some (castL h xs, cs, hp) else none) else none
 | _, _ => none
def mapHd (kt : T) (va : Bool) (vt : T) (k : Nat) : List SC → List (Nat × SObj) → Option (List (kt.den × vt.den) × List SC × List (Nat × SObj))
 | .ref (.map l) :: cs, (l', .mp ka' kt' va' vt' es) :: hp =>
   bif Nat.beq l k && Nat.beq l' k && (va' == va) && (ka' == aggK kt) then (if h : kt' = kt then (if h' : vt' = vt then some (castE h h' es, cs, hp) else none) else none) else none
 | _, _ => none
def dObj : (fs : List OF) → Nat → List SC → List (Nat × SObj) → Option (ofds fs)
 | [], _, cs, hp => match cs, hp with
   | [], [] => some ()
   | _, _ => none
 | .dat t :: r, k, cs, hp => match cs with
   | c :: cs => match decCs t [c], dObj r k cs hp with
     | some x, some y => some (x, y)
     | _, _ => none
   | [] => none
 | .row e t :: r, k, cs, hp => match rowHd e t k cs hp with
   | some (xs, cs, hp) => match dObj r (k + 1) cs hp with
     | some y => some (xs, y)
     | none => none
   | none => none
 | .mp kt va vt :: r, k, cs, hp => match mapHd kt va vt k cs hp with
   | some (es, cs, hp) => match dObj r (k + 1) cs hp with
     | some y => some (es, y)
     | none => none
   | none => none
theorem castL_refl {t u : T} (h : t = u) (xs : List t.den) {e : TypeId} {s : Nat} {ro : Bool} : SObj.row e s t xs ro = .row e s u (castL h xs) ro := by subst h; rfl
theorem castE_refl {k k' v v' : T} (h : k = k') (h' : v = v') (es : List (k.den × v.den)) {a b : Bool} : SObj.mp a k b v es = .mp a k' b v' (castE h h' es) := by subst h; subst h'; rfl
theorem rowHd_eq {e : TypeId} {t : T} {k : Nat} {cs : List SC} {hp : List (Nat × SObj)} {xs : List t.den} {cs' : List SC} {hp' : List (Nat × SObj)} (h : rowHd e t k cs hp = some (xs, cs', hp')) : cs = .ref (.row k) :: cs' ∧ hp = (k, .row e t.size t xs false) :: hp' := by
 unfold rowHd at h
 split at h
 · rename_i l cs0 l' e' s t' ys hp0
   cases hb : (Nat.beq l k && Nat.beq l' k && Nat.beq e' e && Nat.beq s t.size) with
   | false => rw [hb] at h; simp at h
   | true =>
     rw [hb, cond_true] at h
     simp only [Bool.and_eq_true] at hb
     obtain ⟨⟨⟨b1, b2⟩, b3⟩, b4⟩ := hb
     have b1 := Nat.eq_of_beq_eq_true b1
     have b2 := Nat.eq_of_beq_eq_true b2
     have b3 := Nat.eq_of_beq_eq_true b3
     have b4 := Nat.eq_of_beq_eq_true b4
     subst b1; subst b3; subst b4
     split at h
     · rename_i ht
       simp only [Option.some.injEq, Prod.mk.injEq] at h
       obtain ⟨rfl, rfl, rfl⟩ := h
       rw [b2]
       exact ⟨rfl, by rw [← castL_refl ht]⟩
     · cases h
 · cases h
theorem mapHd_eq {kt : T} {va : Bool} {vt : T} {k : Nat} {cs : List SC} {hp : List (Nat × SObj)} {es : List (kt.den × vt.den)} {cs' : List SC} {hp' : List (Nat × SObj)} (h : mapHd kt va vt k cs hp = some (es, cs', hp')) : cs = .ref (.map k) :: cs' ∧ hp = (k, .mp (aggK kt) kt va vt es) :: hp' := by
 unfold mapHd at h
 split at h
 · rename_i l cs0 l' ka' kt' va' vt' fs hp0
   cases hb : (Nat.beq l k && Nat.beq l' k && (va' == va) && (ka' == aggK kt)) with
   | false => rw [hb] at h; simp at h
   | true =>
     rw [hb, cond_true] at h
     simp only [Bool.and_eq_true, beq_iff_eq] at hb
     obtain ⟨⟨⟨b1, b2⟩, b3⟩, b4⟩ := hb
     have b1 := Nat.eq_of_beq_eq_true b1
     have b2 := Nat.eq_of_beq_eq_true b2
     subst b1; subst b3; subst b4
     split at h
     · rename_i ht
       split at h
       · rename_i hv
         simp only [Option.some.injEq, Prod.mk.injEq] at h
         obtain ⟨rfl, rfl, rfl⟩ := h
         rw [b2]
         exact ⟨rfl, by rw [← castE_refl ht hv]⟩
       · cases h
     · cases h
 · cases h
theorem dObj_eq : ∀ {fs : List OF} {k : Nat} {cs : List SC} {hp : List (Nat × SObj)} {x : ofds fs}, dObj fs k cs hp = some x → cs = oCells fs k x ∧ hp = oHeap fs k x := by
 intro fs
 induction fs with
 | nil =>
   intro k cs hp x h
   simp only [dObj] at h
   split at h
   · exact ⟨rfl, rfl⟩
   · cases h
 | cons f r ih =>
   intro k cs hp x h
   cases f with
   | dat t =>
     cases cs with
     | nil => simp [dObj] at h
     | cons c cs =>
       simp only [dObj] at h
       split at h
       · rename_i a b h1 h2
         simp only [Option.some.injEq] at h; subst h
         obtain ⟨e1, e2⟩ := ih h2
         have := decCs_eq h1
         refine ⟨?_, by simp only [oHeap]; exact e2⟩
         simp only [oCells]
         rw [← this, ← e1]; rfl
       · cases h
   | row e t =>
     simp only [dObj] at h
     split at h
     · rename_i xs cs' hp' h1
       split at h
       · rename_i y h2
         simp only [Option.some.injEq] at h; subst h
         obtain ⟨e1, e2⟩ := ih h2
         obtain ⟨e3, e4⟩ := rowHd_eq h1
         simp only [oCells, oHeap]
         rw [← e1, ← e2]
         exact ⟨e3, e4⟩
       · cases h
     · cases h
   | mp kt va vt =>
     simp only [dObj] at h
     split at h
     · rename_i xs cs' hp' h1
       split at h
       · rename_i y h2
         simp only [Option.some.injEq] at h; subst h
         obtain ⟨e1, e2⟩ := ih h2
         obtain ⟨e3, e4⟩ := mapHd_eq h1
         simp only [oCells, oHeap]
         rw [← e1, ← e2]
         exact ⟨e3, e4⟩
       · cases h
     · cases h

theorem oHeap_ge : ∀ {fs : List OF} {k : Nat} {x : ofds fs}, ∀ l ∈ labelsOf (oHeap fs k x), k ≤ l
 | [], _, _, l, h => by simp [oHeap, labelsOf] at h
 | .dat _ :: r, k, x, l, h => oHeap_ge (fs := r) l (by simpa [oHeap] using h)
 | .row _ _ :: r, k, x, l, h => by
   simp only [oHeap, labelsOf, List.mem_cons] at h
   rcases h with rfl | h
   · exact Nat.le_refl _
   · have := oHeap_ge (fs := r) l h; omega
 | .mp _ _ _ :: r, k, x, l, h => by
   simp only [oHeap, labelsOf, List.mem_cons] at h
   rcases h with rfl | h
   · exact Nat.le_refl _
   · have := oHeap_ge (fs := r) l h; omega
theorem oHeap_nodup : ∀ {fs : List OF} {k : Nat} {x : ofds fs}, (labelsOf (oHeap fs k x)).Nodup
 | [], _, _ => by simp [oHeap, labelsOf]
 | .dat _ :: r, k, x => by simpa [oHeap] using oHeap_nodup (fs := r) (k := k) (x := x.2)
 | .row _ _ :: r, k, x => by
   simp only [oHeap, labelsOf]
   exact List.nodup_cons.2 ⟨fun h => by have := oHeap_ge (fs := r) _ h; omega, oHeap_nodup (fs := r)⟩
 | .mp _ _ _ :: r, k, x => by
   simp only [oHeap, labelsOf]
   exact List.nodup_cons.2 ⟨fun h => by have := oHeap_ge (fs := r) _ h; omega, oHeap_nodup (fs := r)⟩
theorem oObj_nodup {fs : List OF} {x : ofds fs} : (labelsOf (oObj fs 2 x)).Nodup := by
 simp only [oObj, labelsOf]
 exact List.nodup_cons.2 ⟨fun h => by have := oHeap_ge (fs := fs) _ h; omega, oHeap_nodup⟩

def gF (ts : List T) (F : dens ts → GRes) : PC := { ptr := false, ct := fun _ => none, gr := some (mapL (fun _ => true) ts, fun ins heap => match heap with
 | [] => match decs ts ins with
   | some x => some (F x)
   | none => none
 | _ => none) }
def gM (fs : List OF) (ts : List T) (F : ofds fs → dens ts → GRes) : PC := { ptr := false, ct := fun _ => none, gr := some (false :: mapL (fun _ => true) ts, fun ins heap => match ins, heap with
 | .ref (.cell 1 [] 0) :: data, (1, .cells cs false) :: hp => match dObj fs 2 cs hp, decs ts data with
   | some s, some x => some (F s x)
   | _, _ => none
 | _, _ => none) }
theorem spec_gf {l : List (FuncId × PC)} (hl : Specs P l) {f : FuncId} {fn : Func} (hf : P.funcs[f]? = some fn) (hb : fn.body.isSome = true)
 (hn : (fn.name == "runtime.NumGoroutine") = false) {ts : List T} {F : dens ts → GRes}
 (h : ∀ x : dens ts, vcT (F x).vc → okD ts x → ∃ ann, bodyG P (gam l) ann fn [] (svsOf ts x) (F x)) : Spec P f (gF ts F) := by
 refine specG_of_body (gam_ok hl) hf hb hn fun ins heap r hr hvc hok _ => ?_
 split at hr
 · split at hr
   · rename_i x hx
     simp only [Option.some.injEq] at hr; subst hr
     have := decs_eq hx
     subst this
     exact h x hvc (okD_svs _ _ hok)
   · cases hr
 · cases hr
theorem spec_gm {l : List (FuncId × PC)} (hl : Specs P l) {f : FuncId} {fn : Func} (hf : P.funcs[f]? = some fn) (hb : fn.body.isSome = true)
 (hn : (fn.name == "runtime.NumGoroutine") = false) {fs : List OF} {ts : List T} {F : ofds fs → dens ts → GRes}
 (h : ∀ (s : ofds fs) (x : dens ts), vcT (F s x).vc → okHp (oObj fs 2 s) → okD ts x → ∃ ann, bodyG P (gam l) ann fn (oObj fs 2 s) (.ref (.cell 1 [] 0) :: svsOf ts x) (F s x)) : Spec P f (gM fs ts F) := by
 refine specG_of_body (gam_ok hl) hf hb hn fun ins heap r hr hvc hok hhp => ?_
 split at hr
 · split at hr
   · rename_i s x hs hx
     simp only [Option.some.injEq] at hr; subst hr
     have := decs_eq hx
     subst this
     obtain ⟨e1, e2⟩ := dObj_eq hs
     subst e1; subst e2
     exact h s x hvc (hhp oObj_nodup) (okD_svs _ _ hok.2)
   · cases hr
 · cases hr
def keepG (k : List Nat) (c : PC) : PC := { c with keep := k }
theorem spec_keep {f : FuncId} {c : PC} (k : List Nat) (h : Spec P f c) : Spec P f (keepG k c) := ⟨h.fn, h.does, h.gdoes⟩
theorem bodyG_ok {A : Prop} {Γ : FuncId → Option PC} {fn : Func} {heap : List (Nat × SObj)} {ins : List SV} {r : GRes} (ann : Ann) (h : A) (e : A = bodyG P Γ ann fn heap ins r) : ∃ ann, bodyG P Γ ann fn heap ins r := ⟨ann, e ▸ h⟩

end Go.Vse
