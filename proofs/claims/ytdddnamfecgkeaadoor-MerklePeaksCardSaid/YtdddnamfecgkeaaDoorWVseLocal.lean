/- An operation's step looks at its operands alone, and at the blocks they name. -/
import Derived.Test.YtdddnamfecgkeaaDoorWVseLoop
namespace Go.Vse
variable {P : Program} {hp hp' : List (Nat × SObj)}

def agree (hp hp' : List (Nat × SObj)) (ls : List Nat) : Prop := ∀ l ∈ ls, look l hp = look l hp'

theorem agree.left {l m : List Nat} (h : agree hp hp' (app l m)) : agree hp hp' l := fun k hk => h k (mem_app.2 (.inl hk))
theorem agree.right {l m : List Nat} (h : agree hp hp' (app l m)) : agree hp hp' m := fun k hk => h k (mem_app.2 (.inr hk))

theorem labs_nilFor (t : TypeId) (v : SV) : labsV (nilFor P t v) = labsV v := by
 unfold nilFor
 split
 · split <;> rfl
 · rfl

theorem cellsAt_local {l : Nat} (h : look l hp = look l hp') : cellsAt hp l = cellsAt hp' l := by unfold cellsAt; rw [h]
theorem asSlice_local {v : SV} (h : agree hp hp' (labsV v)) : asSlice hp v = asSlice hp' v := by
 cases v with
 | ref r =>
   cases r with
   | win l p off t start len n lit => simp only [asSlice, cellsAt_local (h l (by simp [labsV, labR]))]
   | row l => simp only [asSlice, h l (by simp [labsV, labR])]
   | _ => rfl
 | dv d => cases d <;> rfl
 | _ => rfl
theorem asSlice_still {v : SV} {d : SlD} (h : asSlice hp v = some d) : ∀ l, d.still = some l → l ∈ labsV v := by
 intro l hl
 cases v with
 | ref r =>
   cases r with
   | win l' p off t start len n lit =>
     simp only [asSlice] at h
     cases hb : allLit p with
     | false => rw [hb] at h; simp at h
     | true =>
       rw [hb] at h; simp only [cond_true] at h
       split at h
       · split at h
         · simp at h; subst h; simp at hl; subst hl; simp [labsV, labR]
         · simp at h
       · simp at h
   | row k =>
     simp only [asSlice] at h
     split at h
     · simp only [Option.some.injEq] at h; subst h; simp at hl; subst hl; simp [labsV, labR]
     · simp at h
   | _ => simp [asSlice] at h
 | dv d => cases d <;> simp [asSlice] at h <;> (subst h; simp at hl)
 | own k t xs => simp [asSlice] at h; subst h; simp at hl
 | full t xs => simp [asSlice] at h; subst h; simp at hl
 | _ => simp [asSlice] at h
theorem stills_local {s : Option Nat} (h : ∀ l, s = some l → look l hp = look l hp') : stills hp s = stills hp' s := by
 cases s with
 | none => rfl
 | some l => simp only [stills, h l rfl]
theorem asData_local {v : SV} (h : agree hp hp' (labsV v)) : asData hp v = asData hp' v := by
 have key : (match asSlice hp v with | some d => some (⟨.dv (.imm d.t d.xs), stills hp d.still, d.vc⟩ : Dat) | none => none) =
  (match asSlice hp' v with | some d => some (⟨.dv (.imm d.t d.xs), stills hp' d.still, d.vc⟩ : Dat) | none => none) := by
  rw [← asSlice_local h]
  cases hs : asSlice hp v with
  | none => rfl
  | some d =>
    simp only
    rw [stills_local (fun l hl => h l (asSlice_still hs l hl))]
 cases v with
 | dv d => cases d <;> rfl
 | agg cs => rfl
 | ipt rs => rfl
 | clo f caps => rfl
 | _ => exact key
theorem capsO_local : ∀ {vs : List SV}, agree hp hp' (labsVs vs) → capsO hp vs = capsO hp' vs
 | [], _ => rfl
 | v :: r, h => by
   have ih := capsO_local (vs := r) (h.right)
   cases v with
   | ref q =>
     cases q with
     | cell l p o =>
       cases p with
       | nil =>
         cases o with
         | zero => simp only [capsO, h.left l (by simp [labsV, labR]), ih]
         | succ o => rfl
       | cons a b => rfl
     | _ => rfl
   | ipt rs => simp only [capsO, ih]
   | _ => rfl
theorem labsVs_app : ∀ (vs ws : List SV), labsVs (app vs ws) = app (labsVs vs) (labsVs ws)
 | [], _ => rfl
 | v :: vs, ws => by
   simp only [app, labsVs, labsVs_app vs ws]
   simp only [app_eq, List.append_assoc]
theorem labs_refArgs : ∀ {cs : List SC} {rs : List SV}, refArgs cs = some rs → labsVs rs = labsC cs
 | [], rs, h => by simp only [refArgs, Option.some.injEq] at h; subst h; rfl
 | .ref r :: l, rs, h => by
   simp only [refArgs] at h
   split at h
   · rename_i vs hv
     simp only [Option.some.injEq] at h; subst h
     simp only [labsVs, labsV, labsC, labs_refArgs hv]
     rfl
   · cases h
 | .run _ :: _, _, h => by cases h
 | .own _ _ _ :: _, _, h => by cases h
theorem labs_ipt : ∀ (vs : List SV) (caps : List (List Run)), labsVs (app vs (mapL SV.ipt caps)) = labsVs vs
 | [], [] => rfl
 | [], c :: r => labs_ipt [] r
 | v :: vs, caps => by simp only [app, labsVs, labs_ipt vs caps]
theorem asDatas_local : ∀ {vs : List SV}, agree hp hp' (labsVs vs) → asDatas hp vs = asDatas hp' vs
 | [], _ => rfl
 | v :: r, h => by
   simp only [asDatas, asData_local (h.left), asDatas_local (h.right)]
theorem labs_argsOf : ∀ (ts : List TypeId) (vs : List SV), labsVs (argsOf P ts vs) = labsVs vs
 | [], vs => by cases vs <;> rfl
 | t :: ts, [] => rfl
 | t :: ts, v :: vs => by simp only [argsOf, labsVs, labs_nilFor, labs_argsOf ts vs]

theorem loadO_local {t : TypeId} {v : SV} (h : agree hp hp' (labsV v)) : loadO P hp t v = loadO P hp' t v := by
 cases v with
 | ref r =>
   cases r with
   | cell l p o => simp only [loadO, cellsAt_local (h l (by simp [labsV, labR]))]
   | elt l p o => simp only [loadO, rowCells, h l (by simp [labsV, labR])]
   | _ => rfl
 | _ => rfl
theorem storeO_local {t : TypeId} {x v : SV} (h : agree hp hp' (labsV x)) : storeO P hp t x v = storeO P hp' t x v := by
 unfold storeO
 split
 · rename_i l p o new _
   rw [h l (by simp [labsV, labR])]
 · rename_i l p o new _
   rw [h l (by simp [labsV, labR])]
 · rfl
theorem convO_local {lab : Nat} {s d : TypeId} {x : SV} (h : agree hp hp' (labsV x)) : convO P hp lab s d x = convO P hp' lab s d x := by
 have e := asSlice_local h
 unfold convO
 split <;> first | rfl | (rw [e]) | skip
 split
 · rename_i k xs
   rw [h k (by simp [labsV])]
 · rfl
theorem indexAddrO_local {t : TypeId} {x i : SV} (h : agree hp hp' (labsV x)) : indexAddrO P hp t x i = indexAddrO P hp' t x i := by
 have e := asSlice_local h
 have e2 : ∀ l, x = .ref (.row l) → look l hp = look l hp' := fun l hx => h l (by subst hx; simp [labsV, labR])
 unfold indexAddrO
 repeat' (first | rfl | (rw [e]) | (rw [e2 _ rfl]) | split)
theorem sliceO_local {t : TypeId} {x : SV} {lo hi mx : Option SV} (h : agree hp hp' (labsV x)) : sliceO P hp t x lo hi mx = sliceO P hp' t x lo hi mx := by
 have e := asSlice_local h
 unfold sliceO
 repeat' (first | rfl | (rw [e]) | split)
theorem sliceStillO_local {t : TypeId} {x : SV} {lo hi mx : Option SV} (h : agree hp hp' (labsV x)) : sliceStillO P hp t x lo hi mx = sliceStillO P hp' t x lo hi mx := by
 unfold sliceStillO
 rw [← asSlice_local h]
 split
 · rename_i c xs l vc hs
   rw [stills_local (hp' := hp') (fun l' hl => h l' (asSlice_still hs l' hl))]
 · rfl
theorem arrAtO_local {t : TypeId} {x : SV} (h : agree hp hp' (labsV x)) : arrAtO P hp t x = arrAtO P hp' t x := by
 unfold arrAtO
 rw [← asSlice_local h]
 split
 · rename_i n e c xs st vc _ hs
   rw [stills_local (hp' := hp') (fun l hl => h l (asSlice_still hs l hl))]
 · rfl
theorem decSV_local {t : T} {v : SV} (h : agree hp hp' (labsV v)) : decSV hp t v = decSV hp' t v := by
 unfold decSV; rw [asData_local h]
def labsP : List (Nat × SV) → List Nat
 | [] => []
 | (_, v) :: r => app (labsV v) (labsP r)
theorem labs_nilParts (f : Nat → TypeId) : ∀ (l : List (Nat × SV)), labsP (nilParts P f l) = labsP l
 | [] => rfl
 | (i, v) :: r => by
   have := labs_nilParts f r
   simp only [nilParts, mapL, labsP, labs_nilFor] at this ⊢
   rw [this]
theorem decParts_local {t : T} : ∀ {l : List (Nat × SV)}, agree hp hp' (labsP l) → decParts hp t l = decParts hp' t l
 | [], _ => rfl
 | (_, v) :: r, h => by simp only [decParts, decSV_local (h.left), decParts_local (h.right)]
theorem setParts_local {t : T} {n : Nat} : ∀ {l : List (Nat × SV)} (xs : List t.den), agree hp hp' (labsP l) → setParts hp t n xs l = setParts hp' t n xs l
 | [], _, _ => rfl
 | (_, v) :: r, xs, h => by
   simp only [setParts, decSV_local (h.left)]
   cases decSV hp' t v with
   | none => rfl
   | some d => simp only [setParts_local (xs.set _ d.x) (h.right)]
theorem rowOf_local {t : T} {n : Nat} {l : List (Nat × SV)} (h : agree hp hp' (labsP l)) : rowOf hp t n l = rowOf hp' t n l := by
 unfold rowOf; rw [decParts_local h, setParts_local _ h]
theorem buildO_local {t : TypeId} {l : List (Nat × SV)} (h : agree hp hp' (labsP l)) : buildO P hp t l = buildO P hp' t l := by
 unfold buildO
 split
 · rfl
 · rename_i n e
   split
   · rw [rowOf_local (by rw [labs_nilParts]; exact h)]
   · rfl
 · rfl
theorem buildSliceO_local {t : TypeId} {n lab : Nat} {l : List (Nat × SV)} (h : agree hp hp' (labsP l)) : buildSliceO P hp t n lab l = buildSliceO P hp' t n lab l := by
 unfold buildSliceO
 split
 · split
   · rw [rowOf_local (by rw [labs_nilParts]; exact h)]
   · rfl
 · rfl
theorem buildRowO_local {t : TypeId} {n lab : Nat} {l : List (Nat × SV)} (h : agree hp hp' (labsP l)) : buildRowO P hp t n lab l = buildRowO P hp' t n lab l := by
 unfold buildRowO
 split
 · split
   · rw [rowOf_local (by rw [labs_nilParts]; exact h)]
   · rfl
 · rfl
theorem buildSl_local {q : Bool} {t : TypeId} {n lab : Nat} {l : List (Nat × SV)} (h : agree hp hp' (labsP l)) : buildSl P q hp t n lab l = buildSl P q hp' t n lab l := by
 unfold buildSl
 rw [buildRowO_local h, buildSliceO_local h]
theorem lenO_local {t : TypeId} {x : SV} (h : agree hp hp' (labsV x)) : lenO P hp t x = lenO P hp' t x := by
 have e := asSlice_local h
 have e2 : ∀ l, x = .ref (.row l) → look l hp = look l hp' := fun l hx => h l (by subst hx; simp [labsV, labR])
 have e3 : ∀ l, x = .ref (.map l) → look l hp = look l hp' := fun l hx => h l (by subst hx; simp [labsV, labR])
 unfold lenO
 repeat' (first | rfl | (rw [e]) | (rw [e2 _ rfl]) | (rw [e3 _ rfl]) | split)
theorem srcOf_local {c : T} {t : TypeId} {x : SV} (h : agree hp hp' (labsV x)) : srcOf P hp c t x = srcOf P hp' c t x := by
 unfold srcOf; rw [asSlice_local h]
theorem appendO_local {ts tx : TypeId} {lab : Nat} {s x : SV} (hs : agree hp hp' (labsV s)) (hx : agree hp hp' (labsV x)) : appendO P hp ts tx lab s x = appendO P hp' ts tx lab s x := by
 unfold appendO
 simp only [srcOf_local hx]
 cases s with
 | own k t xs => simp only [hs k (by simp [labsV])]
 | _ => repeat' (first | rfl | contradiction | split)
theorem appendRowO_local {ts tx : TypeId} {lab : Nat} {s x : SV} (hs : agree hp hp' (labsV s)) (hx : agree hp hp' (labsV x)) : appendRowO P hp ts tx lab s x = appendRowO P hp' ts tx lab s x := by
 unfold appendRowO
 simp only [srcOf_local hx]
 cases s with
 | ref r =>
   cases r with
   | row k => simp only [hs k (by simp [labsV, labR])]
   | _ => repeat' (first | rfl | contradiction | split)
 | _ => repeat' (first | rfl | contradiction | split)
theorem plainOf_local {ka : Bool} {t : T} {v : SV} : plainOf hp ka t v = plainOf hp' ka t v := by
 unfold plainOf
 split
 · rename_i d
   rw [decSV_local (hp' := hp') (fun l hl => by simp [labsV] at hl)]
 · rfl
 · rfl
theorem deleteO_local {t : TypeId} {m k : SV} (h : agree hp hp' (labsV m)) : deleteO P hp t m k = deleteO P hp' t m k := by
 unfold deleteO
 split
 · rename_i l kty ety _
   rw [h l (by simp [labsV, labR])]
   split
   · simp only [plainOf_local (hp := hp) (hp' := hp')]
   · rfl
 · rfl
theorem lookupO_local {t : TypeId} {x i : SV} {ok : Bool} (h : agree hp hp' (labsV x)) : lookupO P hp t x i ok = lookupO P hp' t x i ok := by
 unfold lookupO
 split
 · rename_i l kty ety _
   rw [h l (by simp [labsV, labR])]
   split
   · rw [plainOf_local (hp' := hp')]
   · rfl
 · rfl
theorem mapUpdateO_local {t : TypeId} {m k v : SV} (h : agree hp hp' (labsV m)) (hv : agree hp hp' (labsV v)) : mapUpdateO P hp t m k v = mapUpdateO P hp' t m k v := by
 unfold mapUpdateO
 split
 · rename_i l kty ety _
   rw [h l (by simp [labsV, labR])]
   split
   · rw [plainOf_local (hp' := hp'), decSV_local hv]
   · rfl
 · rfl
theorem rowNilO_local {op : BinOp} {t : TypeId} {x y : SV} (h : agree hp hp' (labsV x)) : rowNilO P hp op t x y = rowNilO P hp' op t x y := by
 unfold rowNilO
 split
 · rename_i l e _
   rw [h l (by simp [labsV, labR])]
 · rfl
theorem copyO_local {td tx : TypeId} {d x : SV} (hd : agree hp hp' (labsV d)) (hx : agree hp hp' (labsV x)) : copyO P hp td tx d x = copyO P hp' td tx d x := by
 unfold copyO
 simp only [srcOf_local hx]
 split
 · rename_i l p o c start len m
   unfold copyEO
   rw [srcOf_local hx, hd l (by simp [labsV, labR])]
 · rename_i l p o c start len m lit e e' _ _
   rw [hd l (by simp [labsV, labR])]
 · rfl
theorem sliceRowO_local {t : TypeId} {lab : Nat} {x : SV} {lo hi mx : Option SV} (h : agree hp hp' (labsV x)) : sliceRowO P hp t lab x lo hi mx = sliceRowO P hp' t lab x lo hi mx := by
 unfold sliceRowO
 split
 · rename_i l e _
   rw [h l (by simp [labsV, labR])]
 · rfl
theorem clearO_local {t : TypeId} {x : SV} (h : agree hp hp' (labsV x)) : clearO P hp t x = clearO P hp' t x := by
 unfold clearO
 split
 · rename_i l c st len n e _
   rw [h l (by simp [labsV, labR])]
 · rfl
theorem look_put_same {l : Nat} : ∀ {u hp hp' : List (Nat × SObj)}, l ∈ labelsOf u → look l (putAll hp u) = look l (putAll hp' u)
 | (k, o) :: r, hp, hp', h => by
   simp only [putAll]
   by_cases hr : l ∈ labelsOf r
   · exact look_put_same hr
   · simp only [labelsOf, List.mem_cons] at h
     have hl : l = k := h.resolve_right hr
     subst hl
     have e1 : ∀ {u hp : List (Nat × SObj)} {l : Nat}, l ∉ labelsOf u → look l (putAll hp u) = look l hp := by
      intro u
      induction u with
      | nil => intro hp l _; rfl
      | cons x u ih =>
        intro hp l h
        obtain ⟨x1, x2⟩ := x
        simp only [labelsOf, List.mem_cons, not_or] at h
        rw [putAll, ih h.2, look_put, if_neg h.1]
     rw [e1 hr, e1 hr, look_put, look_put]
     simp
theorem look_putAll_of {l : Nat} : ∀ {u hp hp' : List (Nat × SObj)}, (l ∈ labelsOf u ∨ look l hp = look l hp') → look l (putAll hp u) = look l (putAll hp' u)
 | u, hp, hp', h => by
   by_cases hl : l ∈ labelsOf u
   · exact look_put_same hl
   · have h := h.resolve_left hl
     rcases look_putAll (L := u) (hp := hp) l with ⟨o, ho, _⟩ | ⟨_, h1⟩
     · exact absurd (labels_mem.2 ⟨o, ho⟩) hl
     · rcases look_putAll (L := u) (hp := hp') l with ⟨o, ho, _⟩ | ⟨_, h2⟩
       · exact absurd (labels_mem.2 ⟨o, ho⟩) hl
       · rw [h1, h2, h]
theorem gArgs_local : ∀ {fs : List Bool} {vs : List SV}, agree hp hp' (labsVs vs) → gArgs hp fs vs = gArgs hp' fs vs
 | [], [], _ => rfl
 | [], _ :: _, _ => rfl
 | true :: fs, v :: r, h => by simp only [gArgs, asData_local (h.left), gArgs_local (fs := fs) (h.right)]
 | false :: fs, v :: r, h => by simp only [gArgs, gArgs_local (fs := fs) (h.right)]
 | _ :: _, [], _ => by
   rename_i b _ _
   cases b <;> rfl
theorem reach_acc {hp : List (Nat × SObj)} {l : Nat} : ∀ {k : Nat} {todo acc : List Nat}, l ∈ acc → l ∈ reach hp k todo acc
 | 0, _, _, h => h
 | _ + 1, [], _, h => h
 | k + 1, m :: r, acc, h => by
   simp only [reach]
   cases memN m acc with
   | true => exact reach_acc (k := k) h
   | false => exact reach_acc (k := k) (mem_app.2 (.inl h))
theorem reach_local {hp hp' : List (Nat × SObj)} : ∀ {k : Nat} {todo acc : List Nat}, agree hp hp' (reach hp k todo acc) → reach hp k todo acc = reach hp' k todo acc
 | 0, _, _, _ => rfl
 | _ + 1, [], _, _ => rfl
 | k + 1, m :: r, acc, h => by
   simp only [reach] at h ⊢
   cases hm : memN m acc with
   | true =>
     rw [hm] at h
     exact reach_local (k := k) h
   | false =>
     rw [hm] at h
     simp only [cond_false] at h ⊢
     have e : look m hp = look m hp' := h m (reach_acc (k := k) (mem_app.2 (.inr (by simp))))
     rw [← e]
     exact reach_local (k := k) h
theorem allN_congr {f g : Nat → Bool} : ∀ {l : List Nat}, (∀ x ∈ l, f x = g x) → allN f l = allN g l
 | [], _ => rfl
 | x :: r, h => by simp only [allN, h x (by simp), allN_congr (l := r) fun y hy => h y (List.mem_cons_of_mem _ hy)]
theorem closedB_local {ord : List Nat} (h : agree hp hp' ord) : closedB hp ord = closedB hp' ord := by
 unfold closedB
 exact allN_congr fun l hl => by simp only [h l hl]
theorem canonH_local {f : Nat → Nat} : ∀ {ord : List Nat}, agree hp hp' ord → canonH f hp ord = canonH f hp' ord
 | [], _ => rfl
 | l :: r, h => by simp only [canonH, h l (by simp), canonH_local (ord := r) fun y hy => h y (List.mem_cons_of_mem _ hy)]
theorem callG_local {flags : List Bool} {g : List SV → List (Nat × SObj) → Option GRes} {keep : List Nat} {ts : List TypeId} {lab : Nat} {vs : List SV} (h : agree hp hp' (labsVs vs)) (h3 : ∀ d, gArgs hp flags (argsOf P ts vs) = some d → agree hp hp' (orderG hp d)) : callG P flags g keep hp ts lab vs = callG P flags g keep hp' ts lab vs := by
 have h : agree hp hp' (labsVs (argsOf P ts vs)) := by rw [labs_argsOf]; exact h
 unfold callG
 rw [← gArgs_local h]
 cases hd : gArgs hp flags (argsOf P ts vs) with
 | none => rfl
 | some d =>
   have hag : agree (putAll hp d.upd) (putAll hp' d.upd) (orderG hp d) := fun m hm => look_putAll_of (.inr (h3 d hd m hm))
   have ho : orderG hp d = orderG hp' d := by
    unfold orderG at hag ⊢
    exact reach_local hag
   simp only
   rw [← ho, ← closedB_local hag, ← canonH_local hag]
theorem callO_local {Γ : FuncId → Option PC} {f : FuncId} {ts : List TypeId} {lab : Nat} {vs : List SV} (h : agree hp hp' (labsVs vs)) (h3 : agree hp hp' (rdO P Γ hp f ts vs)) : callO P Γ hp f ts lab vs = callO P Γ hp' f ts lab vs := by
 cases hf : Γ f with
 | none => unfold callO; rw [hf]
 | some c =>
   cases hg : c.gr with
   | some fg =>
     obtain ⟨flags, g⟩ := fg
     unfold callO
     rw [hf]
     simp only [hg]
     exact callG_local h fun d hd => by
      unfold rdO at h3
      rw [hf] at h3
      simp only [hg, hd] at h3
      exact h3
   | none =>
     have h : agree hp hp' (labsVs (argsOf P ts vs)) := by rw [labs_argsOf]; exact h
     unfold callO
     rw [hf]
     simp only [hg]
     generalize argsOf P ts vs = as at h
     split
     · rw [asDatas_local h]
     · rename_i l as _
       rw [asDatas_local (h.right)]
       have hl : look l hp = look l hp' := h l (mem_app.2 (.inl (by simp [labsV, labR])))
       split
       · rename_i d _
         rw [look_putAll_of (.inr hl)]
       · rfl
     · rfl

variable {S S' : SState}
def sameAt (S S' : SState) (l : List Operand) : Prop := ∀ x ∈ l, evalO S x = evalO S' x ∧ agree S.hp S'.hp (labsS (evalO S x))

theorem ev_local {l : List Operand} (h : sameAt S S' l) {x : Operand} (hx : x ∈ l) : ev S x = ev S' x := by unfold ev; rw [(h x hx).1]
theorem ev_labs {l : List Operand} (h : sameAt S S' l) {x : Operand} (hx : x ∈ l) {v : SV} (hv : ev S x = some v) : agree S.hp S'.hp (labsV v) := by
 have := (h x hx).2
 unfold ev svOf at hv
 split at hv
 · rename_i u hu; rw [hu] at this; simp at hv; subst hv; exact this
 · simp at hv
theorem evs_local : ∀ {l : List Operand}, sameAt S S' l → evs S l = evs S' l ∧ ∀ vs, evs S l = some vs → agree S.hp S'.hp (labsVs vs)
 | [], _ => ⟨rfl, fun vs h => by simp [evs, optMap] at h; subst h; intro k hk; simp [labsVs] at hk⟩
 | x :: r, h => by
   have h1 := ev_local h (x := x) (by simp)
   obtain ⟨h2, h3⟩ := evs_local (l := r) (fun y hy => h y (List.mem_cons_of_mem _ hy))
   unfold evs at h2 h3 ⊢
   refine ⟨by simp only [optMap, h1, h2], fun vs hv => ?_⟩
   simp only [optMap] at hv
   split at hv
   · simp at hv
   · rename_i y hy
     split at hv
     · simp at hv
     · rename_i ys hys
       simp at hv; subst hv
       intro k hk
       simp only [labsVs, mem_app] at hk
       rcases hk with hk | hk
       · exact ev_labs h (by simp) hy k hk
       · exact h3 ys hys k hk
theorem evP_local : ∀ {l : List (Nat × Operand)}, sameAt S S' (mapL (fun p => p.2) l) → evP S l = evP S' l ∧ ∀ vs, evP S l = some vs → agree S.hp S'.hp (labsP vs)
 | [], _ => ⟨rfl, fun vs h => by simp [evP, optMap] at h; subst h; intro k hk; simp [labsP] at hk⟩
 | (i, x) :: r, h => by
   have h1 := ev_local h (x := x) (by simp [mapL])
   obtain ⟨h2, h3⟩ := evP_local (l := r) (fun y hy => h y (List.mem_cons_of_mem _ hy))
   unfold evP at h2 h3 ⊢
   refine ⟨by simp only [optMap, h1, h2], fun vs hv => ?_⟩
   simp only [optMap] at hv
   split at hv
   · simp at hv
   · rename_i y hy
     split at hv
     · simp at hv
     · rename_i ys hys
       simp at hv; subst hv
       split at hy
       · rename_i v hv
         simp at hy; subst hy
         intro k hk
         simp only [labsP, mem_app] at hk
         rcases hk with hk | hk
         · exact ev_labs h (by simp [mapL]) hv k hk
         · exact h3 ys hys k hk
       · simp at hy
theorem evO_local {l : List Operand} (h : sameAt S S' l) {x : Option Operand} (hx : ∀ y, x = some y → y ∈ l) : evO S x = evO S' x := by
 cases x with
 | none => rfl
 | some y => simp only [evO, ev_local h (hx y rfl)]
theorem armOf_local {l : List Operand} (h : sameAt S S' l) {x : Operand} (hx : x ∈ l) (g : Nat) (want : Bool) : armOf S g want x = armOf S' g want x := by
 unfold armOf; rw [(h x hx).1]

theorem bind_local {x x' : Option SV} {f g : SV → Option Res} (h : x = x') (hf : ∀ v, x = some v → f v = g v) : x.bind f = x'.bind g := by
 subst h
 cases x with
 | none => rfl
 | some v => exact hf v rfl

def CallSame (P : Program) (Γ : FuncId → Option PC) (S S' : SState) (o : Oper) (lab : Nat) : Prop := ∀ c f vs, o.op = .call c → callsOf S c = some (f, vs) → agree S.hp S'.hp (labsVs vs) → callO P (altG (memN lab S.rows) Γ) S.hp f c.argTypes.toList lab vs = callO P (altG (memN lab S.rows) Γ) S'.hp f c.argTypes.toList lab vs
theorem callSame_of {Γ : FuncId → Option PC} {o : Oper} {lab : Nat} (h : agree S.hp S'.hp (readsAt P Γ S o lab)) : CallSame P Γ S S' o lab := fun c f vs hc hcal h1 => callO_local h1 (by
 unfold readsAt at h
 rw [hc] at h
 simp only [hcal] at h
 exact h)
theorem resOp_local {Γ : FuncId → Option PC} {o : Oper} {lab : Nat} (h : sameAt S S' (opsOf o.op)) (hcs : CallSame P Γ S S' o lab) (hrw : S.rows = S'.rows) : resOp P Γ S o lab = resOp P Γ S' o lab := by
 unfold CallSame at hcs
 unfold resOp
 cases ho : o.op with
 | move x => rw [ho] at h; simp only [(h x (by simp [opsOf])).1]
 | assign x => rw [ho] at h; simp only [ev_local h (x := x) (by simp [opsOf])]
 | pick c x y =>
   rw [ho] at h
   try simp only
   unfold pickO
   cases c with
   | tmp g => simp only [(h (.tmp g) (by simp [opsOf])).1, armOf_local h (x := x) (by simp [opsOf]), armOf_local h (x := y) (by simp [opsOf])]
   | _ => rfl
 | alloc t => simp only [hrw]
 | box t x => rw [ho] at h; simp only [ev_local h (x := x) (by simp [opsOf])]
 | build t ps =>
   rw [ho] at h
   obtain ⟨h1, h2⟩ := evP_local (l := ps.toList) h
   try simp only
   rw [← h1]
   cases he : evP S ps.toList with
   | none => rfl
   | some l => exact buildO_local (h2 l he)
 | buildSlice t n ps =>
   rw [ho] at h
   obtain ⟨h1, h2⟩ := evP_local (l := ps.toList) h
   try simp only
   rw [← h1]
   cases he : evP S ps.toList with
   | none => rfl
   | some l =>
     try simp only [Option.bind_some]
     rw [← hrw]
     exact buildSl_local (h2 l he)
 | load t x => rw [ho] at h; exact bind_local (ev_local h (by simp [opsOf])) fun v hv => loadO_local (ev_labs h (by simp [opsOf]) hv)
 | store t x v =>
   rw [ho] at h
   try simp only
   rw [← ev_local h (x := x) (by simp [opsOf]), ← ev_local h (x := v) (by simp [opsOf])]
   cases hx : ev S x with
   | none => rfl
   | some sx =>
     cases hv : ev S v with
     | none => rfl
     | some sv =>
       try simp only
       split
       · exact storeO_local (by rename_i e1 e2 e3; simp at e1; subst e1; exact ev_labs h (by simp [opsOf]) hx)
       · rfl
 | nilCheck x => rw [ho] at h; simp only [ev_local h (x := x) (by simp [opsOf])]
 | binOp op t x y ty =>
   rw [ho] at h
   try simp only
   rw [← ev_local h (x := x) (by simp [opsOf]), ← ev_local h (x := y) (by simp [opsOf])]
   cases hx : ev S x with
   | none => rfl
   | some sx =>
     cases hy : ev S y with
     | none => rfl
     | some sy =>
       try simp only
       rw [rowNilO_local (ev_labs h (by simp [opsOf]) hx)]
 | unOp op t x => rw [ho] at h; simp only [ev_local h (x := x) (by simp [opsOf])]
 | convert s d x => rw [ho] at h; exact bind_local (ev_local h (by simp [opsOf])) fun v hv => convO_local (ev_labs h (by simp [opsOf]) hv)
 | sliceToArrayPointer t x => rw [ho] at h; exact bind_local (ev_local h (by simp [opsOf])) fun v hv => arrAtO_local (ev_labs h (by simp [opsOf]) hv)
 | makeSlice t l c => rw [ho] at h; simp only [hrw, ev_local h (x := l) (by simp [opsOf]), ev_local h (x := c) (by simp [opsOf])]
 | slice t x lo hi mx =>
   rw [ho] at h
   try simp only
   rw [← ev_local h (x := x) (by simp [opsOf]), ← evO_local h (x := lo) (by rintro y rfl; simp [opsOf, mem_app]), ← evO_local h (x := hi) (by rintro y rfl; simp [opsOf, mem_app]), ← evO_local h (x := mx) (by rintro y rfl; simp [opsOf, mem_app])]
   cases hx : ev S x with
   | none => rfl
   | some sx =>
     try simp only
     split
     · rename_i e1 e2 e3 e4; simp at e1; subst e1; rw [hrw, sliceRowO_local (ev_labs h (by simp [opsOf]) hx), sliceO_local (ev_labs h (by simp [opsOf]) hx), sliceStillO_local (ev_labs h (by simp [opsOf]) hx)]
     · rfl
 | fieldAddr t x f => rw [ho] at h; simp only [ev_local h (x := x) (by simp [opsOf])]
 | field t x f => rw [ho] at h; simp only [ev_local h (x := x) (by simp [opsOf])]
 | indexAddr t x i =>
   rw [ho] at h
   try simp only
   rw [← ev_local h (x := x) (by simp [opsOf]), ← ev_local h (x := i) (by simp [opsOf])]
   cases hx : ev S x with
   | none => rfl
   | some sx =>
     try simp only
     split
     · rename_i e1 e2; simp at e1; subst e1; rw [hrw, indexAddrO_local (ev_labs h (by simp [opsOf]) hx)]
     · rfl
 | index t x i => rw [ho] at h; simp only [ev_local h (x := x) (by simp [opsOf]), ev_local h (x := i) (by simp [opsOf])]
 | extract x i => rw [ho] at h; simp only [(h x (by simp [opsOf])).1]
 | call c =>
   rw [ho] at h
   obtain ⟨h1, h2⟩ := evs_local (l := c.args.toList) (fun x hx => h x (mem_app.2 (.inl hx)))
   try simp only
   rw [← h1]
   cases he : evs S c.args.toList with
   | none =>
     obtain ⟨callee, args, tys⟩ := c
     cases callee with
     | value x => cases x <;> rfl
     | _ => rfl
   | some vs =>
     have hag := h2 vs he
     have hag2 : agree S.hp S'.hp (labsVs (argsOf P c.argTypes.toList vs)) := by rw [labs_argsOf]; exact hag
     have hcs := fun f vs => hcs c f vs ho
     obtain ⟨callee, args, tys⟩ := c
     simp only at he
     unfold callsOf at hcs
     simp only [he] at hcs
     simp only at hag2 ⊢
     cases callee with
     | builtin b =>
       try simp only
       generalize argsOf P tys.toList vs = as at hag2 ⊢
       split
       · exact lenO_local (hag2.left)
       · rw [hrw, appendO_local (hag2.left) (hag2.right.left), appendRowO_local (hag2.left) (hag2.right.left)]
       · exact copyO_local (hag2.left) (hag2.right.left)
       · exact deleteO_local (hag2.left)
       · exact clearO_local (hag2.left)
       · rfl
       · rfl
       · rfl
     | value x =>
       cases x with
       | func f =>
         have hcs2 := hcs f vs rfl hag
         try simp only
         rw [← hrw]
         exact hcs2
       | tmp t =>
         have ht : S.get t = S'.get t := (h (.tmp t) (mem_app.2 (.inr (by simp [calleeOps])))).1
         try simp only
         rw [ht]
         split
         · rename_i f' caps' hcl
           simp only [ht, hcl] at hcs
           rw [← hrw]
           exact hcs _ _ rfl (by rw [labs_ipt]; exact hag)
         · rename_i f' cs' hcl
           have hlb := (h (.tmp t) (mem_app.2 (.inr (by simp [calleeOps])))).2
           cases hra : refArgs cs' with
           | none => rfl
           | some rs =>
             simp only [ht, hcl, hra] at hcs
             try simp only
             rw [← hrw]
             refine hcs _ _ rfl ?_
             rw [labsVs_app, labs_refArgs hra]
             intro l hl
             rcases mem_app.1 hl with h1 | h1
             · exact hag l h1
             · refine hlb l ?_
               rw [show evalO S (.tmp t) = S.get t from rfl, ht, hcl]
               exact h1
         · rfl
       | _ => rfl
     | invoke r n => rfl
 | makeFunc fn first captured =>
   rw [ho] at h
   obtain ⟨h1, h2⟩ := evs_local (l := captured.toList) (fun x hx => h x (mem_app.2 (.inr hx)))
   cases fn with
   | func f =>
     try simp only
     rw [← h1]
     cases he : evs S captured.toList with
     | none => cases first.toList <;> rfl
     | some vs => cases first.toList with
       | nil => simp only [hrw, capsO_local (h2 vs he)]
       | cons a b => rfl
   | _ => rfl
 | makeInterface t x => rw [ho] at h; simp only [ev_local h (x := x) (by simp [opsOf])]
 | makeMap t r => rfl
 | lookup t x i ok =>
   rw [ho] at h
   try simp only
   rw [← ev_local h (x := x) (by simp [opsOf]), ← ev_local h (x := i) (by simp [opsOf])]
   cases hx : ev S x with
   | none => rfl
   | some sx =>
     cases hi : ev S i with
     | none => rfl
     | some si => exact lookupO_local (ev_labs h (by simp [opsOf]) hx)
 | mapUpdate t m k v =>
   rw [ho] at h
   try simp only
   rw [← ev_local h (x := m) (by simp [opsOf]), ← ev_local h (x := k) (by simp [opsOf]), ← ev_local h (x := v) (by simp [opsOf])]
   cases hm : ev S m with
   | none => rfl
   | some sm =>
     cases hk : ev S k with
     | none => rfl
     | some sk =>
       cases hv : ev S v with
       | none => rfl
       | some sv => exact mapUpdateO_local (ev_labs h (by simp [opsOf]) hm) (ev_labs h (by simp [opsOf]) hv)
 | _ => rfl

theorem resOp_local' {Γ : FuncId → Option PC} {o : Oper} {lab : Nat} (h1 : ∀ x ∈ opsOf o.op, evalO S x = evalO S' x) (h2 : ∀ x ∈ usesO o.op, agree S.hp S'.hp (labsS (evalO S x))) (hcs : CallSame P Γ S S' o lab) (hrw : S.rows = S'.rows) : resOp P Γ S o lab = resOp P Γ S' o lab := by
 have key : usesO o.op = opsOf o.op → resOp P Γ S o lab = resOp P Γ S' o lab := fun e => resOp_local (fun x hx => ⟨h1 x hx, h2 x (by rw [e]; exact hx)⟩) hcs hrw
 have hev : ∀ x ∈ opsOf o.op, ev S x = ev S' x := fun x hx => by unfold ev; rw [h1 x hx]
 cases ho : o.op with
 | move x => unfold resOp; rw [ho]; simp only [h1 x (by rw [ho]; simp [opsOf])]
 | assign x => unfold resOp; rw [ho]; simp only [hev x (by rw [ho]; simp [opsOf])]
 | nilCheck x => unfold resOp; rw [ho]; simp only [hev x (by rw [ho]; simp [opsOf])]
 | fieldAddr t x f => unfold resOp; rw [ho]; simp only [hev x (by rw [ho]; simp [opsOf])]
 | _ => exact key (by rw [ho]; rfl)
theorem resG_local' {Γ : FuncId → Option PC} {o : Oper} {lab : Nat} (h1 : ∀ x ∈ opsOf o.op, evalO S x = evalO S' x) (h2 : ∀ x ∈ usesO o.op, agree S.hp S'.hp (labsS (evalO S x))) (hcs : CallSame P Γ S S' o lab) (hrw : S.rows = S'.rows) : resG P Γ S o lab = resG P Γ S' o lab := by
 unfold resG
 rw [resOp_local' h1 h2 hcs hrw]
theorem dieCall_local {c : DC} {ts : List TypeId} {vs : List SV} (h : agree S.hp S'.hp (labsVs vs)) : dieCall P c S.hp ts vs = dieCall P c S'.hp ts vs := by
 have h : agree S.hp S'.hp (labsVs (argsOf P ts vs)) := by rw [labs_argsOf]; exact h
 unfold dieCall
 generalize argsOf P ts vs = as at h
 split
 · rw [asDatas_local h]
 · rename_i l as _
   rw [asDatas_local (h.right)]
   have hl : look l S.hp = look l S'.hp := h l (mem_app.2 (.inl (by simp [labsV, labR])))
   split
   · rename_i d _
     rw [look_putAll_of (.inr hl)]
   · rfl
 · rfl
theorem dieO_local {Y : Dy} {o : Oper} (h : sameAt S S' (opsOf o.op)) : dieO P Y S o = dieO P Y S' o := by
 unfold dieO
 cases hg : o.guard with
 | some g => rfl
 | none =>
   cases ho : o.op with
   | call c =>
     rw [ho] at h
     obtain ⟨h1, h2⟩ := evs_local (l := c.args.toList) (fun x hx => h x (mem_app.2 (.inl hx)))
     try simp only
     obtain ⟨callee, args, tys⟩ := c
     cases callee with
     | value x =>
       cases x with
       | func f =>
         try simp only
         cases Y.dc f with
         | none => rfl
         | some d =>
           try simp only
           simp only at h1 h2
           rw [← h1]
           cases he : evs S args.toList with
           | none => rfl
           | some vs => exact dieCall_local (h2 vs he)
       | _ => rfl
     | _ => rfl
   | panic x => rw [ho] at h; simp only [ev_local h (x := x) (by simp [opsOf])]
   | _ => rfl
end Go.Vse
