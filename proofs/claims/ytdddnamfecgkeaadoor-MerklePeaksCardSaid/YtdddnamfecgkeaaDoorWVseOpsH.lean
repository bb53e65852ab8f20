/- Literals, make, copy, conversions. -/
import Derived.Test.YtdddnamfecgkeaaDoorWVseOpsG
namespace Go.Vse
variable {P : Program} {E : Env} {H : Mem} {ρ : Lab} {hp : List (Nat × SObj)} {lab : Nat} {N : Nat → Prop} {w : World} {a : Array Value} {n : Nat}

theorem fold_set (off : Nat) : ∀ (l : List Value) (k : Nat) (cells : Array Value), off + k + l.length ≤ cells.size →
 (l.zipIdx k).foldl (fun cs (p : Value × Nat) => cs.setIfInBounds (off + p.2) p.1) cells = (cells.toList.take (off + k) ++ l ++ cells.toList.drop (off + k + l.length)).toArray
 | [], k, cells, _ => by simp
 | v :: l, k, cells, h => by
   simp only [List.zipIdx_cons, List.foldl_cons]
   rw [fold_set off l (k + 1) _ (by simp at h ⊢; omega)]
   congr 1
   have e := list_seg_step cells.toList (off + k) v l (by simp at h ⊢; omega)
   simpa [Array.toList_setIfInBounds, Nat.add_assoc] using e

theorem fill_step {place : Nat → Option (Nat × Nat)} {cells : Array Value} {i off size : Nat} {v : Value} {rest : List (Nat × Value)} (hp : place i = some (off, size)) (hs : v.cells.size = size) (hf : off + size ≤ cells.size) :
 Instr.fill place cells ((i, v) :: rest) = Instr.fill place (cells.toList.take off ++ v.cells.toList ++ cells.toList.drop (off + size)).toArray rest := by
 simp only [Instr.fill, hp]
 rw [if_neg (by simp [hs]; omega)]
 congr 1
 have := fold_set off v.cells.toList 0 cells (by simp [hs]; omega)
 simp only [Nat.add_zero, Array.length_toList, hs] at this
 rw [← this]
 rw [← Array.foldl_toList, Array.toList_zipIdx]

def partsRel (H : Mem) (ρ : Lab) : List (Nat × SV) → List (Nat × Value) → Prop
 | [], vs => vs = []
 | (i, s) :: r, vs => ∃ v w, vs = (i, v) :: w ∧ svRel H ρ s v ∧ partsRel H ρ r w
theorem partsRel_mono {H H' : Mem} (hH : H.le H') : ∀ {l : List (Nat × SV)} {vs : List (Nat × Value)}, partsRel H ρ l vs → partsRel H' ρ l vs
 | [], _, h => h
 | (_, _) :: _, _, ⟨v, w, hv, h1, h2⟩ => ⟨v, w, hv, svRel_mono hH (Lab.le_refl ρ) h1, partsRel_mono hH h2⟩
theorem nilParts_sound {tyOf : Nat → TypeId} : ∀ {l : List (Nat × SV)} {vs : List (Nat × Value)}, partsRel H ρ l vs → partsRel H ρ (nilParts P tyOf l) vs
 | [], _, h => h
 | (_, _) :: _, _, ⟨v, w, hv, h1, h2⟩ => ⟨v, w, hv, nilFor_sound h1, nilParts_sound h2⟩

theorem RoExt.decSV {x y : List (Nat × SObj)} (h : RoExt x y) (t : T) (s : SV) : Vse.decSV y t s = Vse.decSV x t s := by
 simp only [Vse.decSV, h.asData]
theorem RoExt.decParts {x y : List (Nat × SObj)} (h : RoExt x y) (t : T) (l : List (Nat × SV)) : Vse.decParts y t l = Vse.decParts x t l := by
 induction l with
 | nil => rfl
 | cons p r ih => obtain ⟨i, s⟩ := p; simp only [Vse.decParts, h.decSV, ih]
theorem RoExt.setParts {x y : List (Nat × SObj)} (h : RoExt x y) (t : T) (n : Nat) (l : List (Nat × SV)) : ∀ xs, Vse.setParts y t n xs l = Vse.setParts x t n xs l := by
 induction l with
 | nil => intro xs; rfl
 | cons p r ih => intro xs; obtain ⟨i, s⟩ := p; simp only [Vse.setParts, h.decSV, ih]

theorem decSV_sound (I : MInv E H ρ hp N w) {t : T} {s : SV} {d : Dec t.den} (h : decSV hp t s = some d) (hvc : vcT d.vc) {v : Value} (hv : svRel H ρ s v) :
 ∃ H', H.le H' ∧ MInv E H' ρ (putAll hp d.upd) N w ∧ RoExt hp (putAll hp d.upd) ∧ eltRel H' t d.x v.cells.toList := by
 unfold decSV at h
 split at h
 · rename_i dd hd
   split at h
   · rename_i cs hcs
     split at h
     · rename_i x hx
       simp at h; subst h
       obtain ⟨H', h1, h2, h3, h4⟩ := asData_sound I hd hvc hv
       exact ⟨H', h1, h2, h3, decAll_sound (ρ := ρ) hx (toCells_sound hcs (h4 ρ))⟩
     · simp at h
   · simp at h
 · simp at h

theorem decParts_sound {t : T} : ∀ {l : List (Nat × SV)} {H : Mem} {hp : List (Nat × SObj)} (_ : MInv E H ρ hp N w) {k : Nat} (_ : inOrder k l = true) {d : Dec (List t.den)} (_ : decParts hp t l = some d) (_ : vcT d.vc)
 {vs : List (Nat × Value)} (_ : partsRel H ρ l vs) (cells : Array Value) (pre : List Value) (_ : pre.length = k * t.size) (post : List Value) (_ : cells.toList = pre ++ post) (_ : l.length * t.size ≤ post.length),
 ∃ H' new, H.le H' ∧ MInv E H' ρ (putAll hp d.upd) N w ∧ RoExt hp (putAll hp d.upd) ∧ rowRel (eltRel H' t) d.x new ∧
  Instr.fill (fun i => some (i * t.size, t.size)) cells vs = some (pre ++ (new ++ post.drop (l.length * t.size))).toArray
 | [], H, hp, I, k, _, d, h, _, vs, hv, cells, pre, hpre, post, hc, hl => by
   simp [decParts] at h; subst h
   simp only [partsRel] at hv; subst hv
   exact ⟨H, [], Mem.le_refl H, I, RoExt.refl hp, rfl, by simp [Instr.fill, ← hc]⟩
 | (i, s) :: r, H, hp, I, k, hord, d, h, hvc, vs, hv, cells, pre, hpre, post, hc, hl => by
   simp only [inOrder, Bool.and_eq_true] at hord
   have hk := Nat.eq_of_beq_eq_true hord.1
   subst hk
   obtain ⟨v, w', rfl, hs, hr⟩ := hv
   simp only [decParts] at h
   split at h
   · rename_i d1 h1
     split at h
     · rename_i ds h2
       simp at h; subst h
       obtain ⟨v1, v2⟩ := vcT_and hvc
       obtain ⟨H1, le1, I1, ro1, e1⟩ := decSV_sound I h1 v1 hs
       rw [← ro1.decParts] at h2
       have hlen := eltRel_length t _ _ e1
       have hle : t.size ≤ post.length := by simp [Nat.add_mul] at hl; omega
       obtain ⟨H2, new, le2, I2, ro2, hrow, hfill⟩ := decParts_sound I1 hord.2 h2 v2 (partsRel_mono le1 hr) (pre ++ v.cells.toList ++ post.drop t.size).toArray (pre ++ v.cells.toList) (by simp [hpre, Nat.add_mul]; simpa using hlen) (post.drop t.size) (by simp) (by simp [Nat.add_mul] at hl ⊢; omega)
       refine ⟨H2, v.cells.toList ++ new, Mem.le_trans le1 le2, by rw [putAll_app]; exact I2, by rw [putAll_app]; exact ro1.trans ro2, ⟨_, _, rfl, eltRel_mono le2 t _ _ e1, hrow⟩, ?_⟩
       rw [fill_step rfl (by simpa using hlen) (by
        have : cells.size = pre.length + post.length := by rw [← Array.length_toList, hc]; simp
        omega), hc, List.take_left' hpre]
       have e2 : (pre ++ post).drop (k * t.size + t.size) = post.drop t.size := by rw [← hpre, List.drop_append]; simp
       rw [e2, hfill]
       simp [Nat.add_mul, Nat.add_comm]
     · simp at h
   · simp at h

theorem setParts_sound {t : T} {n : Nat} : ∀ {l : List (Nat × SV)} {H : Mem} {hp : List (Nat × SObj)} (_ : MInv E H ρ hp N w) (xs : List t.den) {d : Dec (List t.den)} (_ : setParts hp t n xs l = some d) (_ : vcT d.vc)
 {vs : List (Nat × Value)} (_ : partsRel H ρ l vs) (cells : Array Value) (_ : xs.length = n) (_ : rowRel (eltRel H t) xs cells.toList),
 ∃ H' new, H.le H' ∧ MInv E H' ρ (putAll hp d.upd) N w ∧ RoExt hp (putAll hp d.upd) ∧ d.x.length = n ∧ rowRel (eltRel H' t) d.x new ∧
  Instr.fill (fun i => some (i * t.size, t.size)) cells vs = some new.toArray
 | [], H, hp, I, xs, d, h, _, vs, hv, cells, hn, hrow => by
   simp [setParts] at h; subst h
   simp only [partsRel] at hv; subst hv
   exact ⟨H, cells.toList, Mem.le_refl H, I, RoExt.refl hp, hn, hrow, by simp [Instr.fill]⟩
 | (i, s) :: r, H, hp, I, xs, d, h, hvc, vs, hv, cells, hn, hrow => by
   obtain ⟨v, w', rfl, hs, hr⟩ := hv
   simp only [setParts] at h
   split at h
   · rename_i d1 h1
     cases hlt : Nat.blt i n with
     | false => rw [hlt] at h; simp at h
     | true =>
       rw [hlt] at h; simp only [cond_true] at h
       have hin : i < n := Nat.le_of_ble_eq_true hlt
       split at h
       · rename_i ds h2
         simp at h; subst h
         obtain ⟨v1, v2⟩ := vcT_and hvc
         obtain ⟨H1, le1, I1, ro1, e1⟩ := decSV_sound I h1 v1 hs
         rw [← ro1.setParts] at h2
         have hlen := eltRel_length t _ _ e1
         obtain ⟨A, M, C, hA, hAl, hM, hset⟩ := rowRel_at (eltRel_length t) (rowRel_mono (eltRel_mono le1 t) hrow) (i := i) (by omega) t.dflt
         have hMl := eltRel_length t _ _ hM
         obtain ⟨H2, new, le2, I2, ro2, hl2, hrow2, hfill⟩ := setParts_sound I1 (xs.set i d1.x) h2 v2 (partsRel_mono le1 hr) (A ++ (v.cells.toList ++ C)).toArray (by simp [hn]) (hset _ _ e1)
         refine ⟨H2, new, Mem.le_trans le1 le2, by rw [putAll_app]; exact I2, by rw [putAll_app]; exact ro1.trans ro2, hl2, hrow2, ?_⟩
         rw [fill_step rfl (by simpa using hlen) (by
          have : cells.size = (A ++ (M ++ C)).length := by rw [← Array.length_toList, hA]
          simp at this; omega), hA]
         have e1' : (A ++ (M ++ C)).take (i * t.size) = A := List.take_left' hAl
         have e2' : (A ++ (M ++ C)).drop (i * t.size + t.size) = C := by
          rw [show A ++ (M ++ C) = (A ++ M) ++ C by simp, List.drop_left' (by simp [hAl, hMl])]
         rw [e1', e2']
         simpa using hfill
       · simp at h
   · simp at h

theorem rowOf_sound (I : MInv E H ρ hp N w) {t : T} {n : Nat} {l : List (Nat × SV)} {d : Dec (List t.den)} (h : rowOf hp t n l = some d) (hvc : vcT d.vc) {vs : List (Nat × Value)} (hv : partsRel H ρ l vs)
 {cells : Array Value} (hz : rowRel (eltRel H t) (List.replicate n t.dflt) cells.toList) :
 ∃ H' new, H.le H' ∧ MInv E H' ρ (putAll hp d.upd) N w ∧ d.x.length = n ∧ rowRel (eltRel H' t) d.x new ∧ Instr.fill (fun i => some (i * t.size, t.size)) cells vs = some new.toArray := by
 unfold rowOf at h
 have hcl := rowRel_length (eltRel_length t) hz
 simp only [List.length_replicate] at hcl
 cases hb : (inOrder 0 l && Nat.beq (lenL l) n) with
 | true =>
   rw [hb] at h; simp only [cond_true] at h
   simp only [Bool.and_eq_true] at hb
   have hn := Nat.eq_of_beq_eq_true hb.2
   rw [lenL_eq] at hn
   obtain ⟨H', new, h1, h2, h3, h4, h5⟩ := decParts_sound I hb.1 h hvc hv cells [] (by simp) cells.toList (by simp) (by rw [hcl, hn]; exact Nat.le_refl _)
   have hdl : d.x.length = l.length := by
    clear h1 h2 h3 h4 h5 hv hvc
    have key : ∀ (l : List (Nat × SV)) (d : Dec (List t.den)), decParts hp t l = some d → d.x.length = l.length := by
     intro l
     induction l with
     | nil => intro d h; simp [decParts] at h; subst h; rfl
     | cons p r ih =>
       intro d h
       obtain ⟨i, s⟩ := p
       simp only [decParts] at h
       split at h
       · split at h
         · rename_i ds hds
           simp at h; subst h
           simp [ih _ hds]
         · simp at h
       · simp at h
    exact key l d h
   refine ⟨H', new, h1, h2, by omega, h4, ?_⟩
   rw [h5, hn]
   have : cells.toList.drop (n * t.size) = [] := List.drop_eq_nil_of_le (by omega)
   rw [this]; simp
 | false =>
   rw [hb] at h; simp only [cond_false] at h
   obtain ⟨H', new, h1, h2, _, h3, h4, h5⟩ := setParts_sound I _ h hvc hv cells (by simp) hz
   exact ⟨H', new, h1, h2, h3, h4, h5⟩

theorem replicate_zero {c : T} {l : List Value} (h : l = zeroL (.arr n c)) : rowRel (eltRel H c) (List.replicate n c.dflt) l := by
 subst h; exact rep_flat (dflt_rel H c) n

theorem infos_places : ∀ {l : List Field}, infosOk P l = true → ∃ places, l.mapM (fun f => (P.info? f.type).map fun i => (f.offset, i.size)) = some places
 | [], _ => ⟨[], rfl⟩
 | f :: r, h => by
   simp only [infosOk] at h
   cases hi : P.info? f.type with
   | none => rw [hi] at h; simp at h
   | some i =>
     rw [hi] at h
     obtain ⟨pl, hpl⟩ := infos_places (l := r) h
     exact ⟨_, by rw [List.mapM_cons]; simp [hi, hpl]; rfl⟩

theorem fillS_sound {t : TypeId} {fs : Array Field} (hu : P.underlying t = some (.struct fs)) {places : List (Nat × Nat)} (hpl : fs.toList.mapM (fun f => (P.info? f.type).map fun i => (f.offset, i.size)) = some places) :
 ∀ {l : List (Nat × SV)} {cs ds : List SC} (_ : fillS P t cs l = some ds) {vs : List (Nat × Value)} (_ : partsRel H ρ l vs) (cells : Array Value) (_ : scsRel H ρ cs cells.toList),
 ∃ new, scsRel H ρ ds new ∧ Instr.fill (places.toArray[·]?) cells vs = some new.toArray
 | [], cs, ds, h, vs, hv, cells, hr => by
   simp [fillS] at h; subst h
   simp only [partsRel] at hv; subst hv
   exact ⟨cells.toList, hr, by simp [Instr.fill]⟩
 | (i, s) :: r, cs, ds, h, vs, hv, cells, hr => by
   obtain ⟨v, w', rfl, hs, hrest⟩ := hv
   simp only [fillS] at h
   split at h
   · rename_i off ft new hf hnew
     cases hb : Nat.beq (sizeL new) (sizeT P ft) with
     | false => rw [hb] at h; simp at h
     | true =>
       rw [hb] at h; simp only [cond_true] at h
       split at h
       · rename_i cs' hrep
         obtain ⟨fs', fd, hu', hfd, hoff, hft⟩ := fieldOf_sound hf
         rw [hu] at hu'; simp at hu'; subst hu'
         have hnr := toCells_sound hnew hs
         have hsz : v.cells.toList.length = P.cellsOf ft := by rw [sizeL_eq hnr]; exact Nat.eq_of_beq_eq_true hb
         obtain ⟨A, M, C, hA, hAl, hMl, hall⟩ := replC_sound hrep hr
         have hplace : places.toArray[i]? = some (off, P.cellsOf ft) := by
          have h1 : places[i]? = (fs.toList[i]?).bind (fun f => (P.info? f.type).map fun i => (f.offset, i.size)) := by
           clear hA hall hfd hf
           generalize fs.toList = fl at hpl
           induction fl generalizing places i with
           | nil => simp at hpl; subst hpl; simp
           | cons f fl ih =>
             rw [List.mapM_cons] at hpl
             simp only [bind, Option.bind_eq_some_iff, pure, Option.some.injEq] at hpl
             obtain ⟨x, hx, xs, hxs, rfl⟩ := hpl
             cases i with
             | zero => simp [hx]
             | succ i => simpa using ih _ hxs
          simp only [List.getElem?_toArray]
          rw [h1]
          have hfd' : fs.toList[i]? = some fd := by simpa using hfd
          rw [hfd']
          simp only [Option.bind_some]
          have hinf : ∃ x, P.info? fd.type = some x := by
           cases hi : P.info? fd.type with
           | some x => exact ⟨x, rfl⟩
           | none =>
             exfalso
             rw [hfd'] at h1
             simp only [Option.bind_some, hi, Option.map_none] at h1
             have hlen : places.length = fs.toList.length := by
              clear h1 hA hall hfd'
              generalize fs.toList = fl at hpl
              induction fl generalizing places with
              | nil => simp at hpl; subst hpl; rfl
              | cons f fl ih =>
                rw [List.mapM_cons] at hpl
                simp only [bind, Option.bind_eq_some_iff, pure, Option.some.injEq] at hpl
                obtain ⟨x, hx, xs, hxs, rfl⟩ := hpl
                simp [ih hxs]
             have hil : i < fs.toList.length := (List.getElem?_eq_some_iff.1 hfd').1
             rw [List.getElem?_eq_none_iff] at h1
             omega
          obtain ⟨x, hx⟩ := hinf
          simp [hx, Program.cellsOf, ← hft, hoff]
         obtain ⟨new', h1, h2⟩ := fillS_sound hu hpl h hrest (A ++ (v.cells.toList ++ C)).toArray (hall _ hnr)
         refine ⟨new', h1, ?_⟩
         rw [fill_step hplace (by simpa using hsz) (by
          have : cells.size = (A ++ (M ++ C)).length := by rw [← Array.length_toList, hA]
          simp at this; simp [sizeT] at hMl; omega), hA]
         have e1' : (A ++ (M ++ C)).take off = A := List.take_left' hAl
         have e2' : (A ++ (M ++ C)).drop (off + P.cellsOf ft) = C := by
          rw [show A ++ (M ++ C) = (A ++ M) ++ C by simp, List.drop_left' (by simp [hAl, hMl, sizeT])]
         rw [e1', e2']
         rw [show (A ++ v.cells.toList ++ C) = A ++ (v.cells.toList ++ C) by simp]
         exact h2
       · simp at h
   · simp at h

theorem buildO_ok (I : MInv E H ρ hp N w) {t : TypeId} {l : List (Nat × SV)} {r : Res} (h : buildO P hp t l = some r) (hvc : vcT r.vc) {parts : Array (Nat × Value)} (hv : partsRel H ρ l parts.toList) :
 OpOk P E H ρ hp N lab w a (do pure (.value (← Instr.build t parts))) r := by
 unfold buildO at h
 split at h
 · rename_i fs hu
   split at h
   · rename_i z0 hz0
     split at h
     · rename_i cs hfill
       cases hinf : infosOk P fs.toList with
       | false => rw [hinf] at h; simp at h
       | true =>
         rw [hinf] at h; simp [val] at h; subst h
         obtain ⟨z, hz, hrel, hsz⟩ := zeros_sound hz0 H ρ
         obtain ⟨i, hi, _⟩ := info_of hu
         have hzi : i.zero = some z := by
          have := hz w
          simp only [zeroValue, typeInfo, Sem.run_bind, run_program, Result.andThen_ok, hi, Sem.run_pure] at this
          cases hzz : i.zero with
          | none => rw [hzz] at this; simp at this
          | some z' => rw [hzz] at this; simp at this; rw [this]
         obtain ⟨places, hpl⟩ := infos_places hinf
         obtain ⟨new, h1, h2⟩ := fillS_sound hu hpl hfill (nilParts_sound hv) z.cells hrel
         have hb : P.built t parts.toList = some new.toArray := by
          simp only [Program.built, hi, hu, hzi, hpl]
          exact h2
         have hrun := run_build (P := P) w t parts _ hb
         exact OpOk.pure I ⟨rfl, _, hrun, new, rfl, h1⟩
     · simp at h
   · simp at h
 · rename_i n e hu
   split at h
   · rename_i c hc
     split at h
     · rename_i d hrow
       cases hzs : zeroIs P t (zeroL (.arr n c)) with
       | false => rw [hzs] at h; simp at h
       | true =>
         rw [hzs] at h; simp at h; subst h
         obtain ⟨i, z, hi, hz, hzc, his⟩ := zeroIs_sound hzs
         obtain ⟨⟨ie, ze, hie, hze, _, hies⟩, _⟩ := code_sound hc
         obtain ⟨H', new, h1, h2, h3, h4, h5⟩ := rowOf_sound (cells := z.cells) I hrow hvc (nilParts_sound hv) (replicate_zero (n := n) hzc)
         have hb : P.built t parts.toList = some new.toArray := by
          simp only [Program.built, hi, hu, hz, hie, hies]
          exact h5
         have hrun := run_build (P := P) w t parts _ hb
         exact ⟨_, w, H', ρ, .inl (by rw [Sem.run_bind, hrun]; rfl), h1, Lab.le_refl ρ, h2.later but_le, new, rfl, ⟨_, [], (List.append_nil _).symm, ⟨h3, h4⟩, rfl⟩⟩
     · simp at h
   · simp at h
 · simp at h

theorem buildSliceO_ok (I : MInv E H ρ hp N w) (hN : N lab) {t : TypeId} {n : Nat} {l : List (Nat × SV)} {r : Res} (h : buildSliceO P hp t n lab l = some r) (hvc : vcT r.vc) {parts : Array (Nat × Value)} (hv : partsRel H ρ l parts.toList) :
 OpOk P E H ρ hp N lab w a (do pure (.value (← Instr.buildSlice t n parts))) r := by
 unfold buildSliceO at h
 split at h
 · rename_i e hu
   split at h
   · rename_i c hc
     split at h
     · rename_i d hrow
       cases hb : (Nat.ble n 4194304 && Nat.ble (n * c.size) 16777216 && Nat.ble 1 c.size) with
       | false => rw [hb] at h; simp at h
       | true =>
         rw [hb] at h; simp at h; subst h
         simp only [Bool.and_eq_true] at hb
         have hn := Nat.le_of_ble_eq_true hb.1.1
         have hnc := Nat.le_of_ble_eq_true hb.1.2
         have hc1 := Nat.le_of_ble_eq_true hb.2
         obtain ⟨⟨i, z, hi, hz, hzc, his⟩, hco⟩ := code_sound hc
         have hzl : z.cells.size = c.size := by rw [← Array.length_toList, hzc]; exact eltRel_length c _ _ (dflt_rel H c)
         have hcells : ∀ m, ((Array.range (m * c.size)).map (z.cells[· % z.cells.size]!)).toList = (rep (zeroL c) m).flatten := by
          intro m
          have hlen : ∀ m, ((rep (zeroL c) m).flatten).length = m * c.size := fun m => by
           have := rowRel_length (eltRel_length c) (rep_flat (dflt_rel H c) m)
           simpa using this
          apply List.ext_getElem
          · simp [hlen]
          · intro j h1 h2
            simp at h1
            have hj : j < m * c.size := by simpa using h1
            have hjm : j % c.size < c.size := Nat.mod_lt _ (by omega)
            have key : ∀ m j, j < m * c.size → ((rep (zeroL c) m).flatten)[j]? = (zeroL c)[j % c.size]? := by
             have hzl' : (zeroL c).length = c.size := eltRel_length c _ _ (dflt_rel H c)
             intro m
             induction m with
             | zero => intro j hj; simp at hj
             | succ m ih =>
               intro j hj
               simp only [rep, List.flatten_cons]
               by_cases hlt : j < c.size
               · rw [List.getElem?_append_left (by omega), Nat.mod_eq_of_lt hlt]
               · rw [List.getElem?_append_right (by omega), hzl', ih (j - c.size) (by simp [Nat.add_mul] at hj; omega)]
                 congr 1
                 conv => rhs; rw [← Nat.sub_add_cancel (Nat.le_of_not_lt hlt)]
                 simp
            have h3 := key m j hj
            rw [List.getElem?_eq_getElem (by simpa [hlen] using hj)] at h3
            have h4 : (zeroL c)[j % c.size]? = some z.cells[j % z.cells.size]! := by
             rw [← hzc, hzl]
             simp [hzl, hjm]
            rw [h4] at h3
            simp at h3
            simp [h3]
         have hzr : rowRel (eltRel H c) (List.replicate n c.dflt) ((Array.range (n * c.size)).map (z.cells[· % z.cells.size]!)).toList := by
          rw [hcells n]; exact rep_flat (dflt_rel H c) n
         obtain ⟨H', new, h1, h2, h3, h4, h5⟩ := rowOf_sound I hrow hvc (nilParts_sound hv) hzr
         have hnl := rowRel_length (eltRel_length (H := H') c) h4
         have hmax : n ≤ maxLen := by simp only [maxLen]; omega
         obtain ⟨g1, g2, g3, g4⟩ := h2.own hN (n := n) (cap := n) (s := c.size) (e := e) (c := new.toArray) (f := (0, 0)) (Nat.le_refl _) hmax (by simp [hnl, h3]) (farF_zero _)
         have hrun : (Instr.buildSlice t n parts).run P w = .ok (.slice (some ⟨w.heap.size, 0, none⟩) n n) (w.alloc (.cells new.toArray e)) := by
          have hne : ¬ 16777216 < n * c.size := by omega
          by_cases hz0 : n * c.size = 0
          · have hn0 : n = 0 := by
              rcases Nat.mul_eq_zero.1 hz0 with h0 | h0
              · exact h0
              · omega
            subst hn0
            simp only [Nat.zero_mul, Array.range_zero', Array.map_empty] at h5
            have hr0 : (Array.range 0) = #[] := rfl
            simp [Instr.buildSlice, run_underlying hu, sizeOf, typeInfo, hi, his, newRow, hr0, h5]
          · simp [Instr.buildSlice, run_underlying hu, sizeOf, typeInfo, zeroValue, hi, hz, his, hz0, hne, newRow, h5]
         refine ⟨_, _, _, _, .inl (by rw [Sem.run_bind, hrun]; rfl), Mem.le_trans h1 g1, g2, by rw [putAll_app]; exact g3, by simp [setLab], ⟨by rw [h3]; unfold LIM; omega, .inr ⟨w.heap.size, 0, n, new, by rw [h3], by omega, rowRel_mono (eltRel_mono g1 c) h4, ?_⟩⟩, ?_⟩
         · have e : (new.toArray.toList.take (n * c.size)) = new := by
             rw [List.take_of_length_le (by simp; rw [hnl, h3]; exact Nat.le_refl _)]
           rwa [e] at g4
         · intro ad n' c' e'
           simp at e'
           rw [← e'.1]
     · simp at h
   · simp at h
 · simp at h

end Go.Vse
