/- Reading memory; slices as data. -/
import Derived.Test.YtdddnamfecgkeaaDoorWVseOpsA
namespace Go.Vse
variable {P : Program} {E : Env} {H : Mem} {ρ : Lab} {hp : List (Nat × SObj)} {lab : Nat} {N : Nat → Prop} {w : World} {a : Array Value}

theorem MInv.cells (I : MInv E H ρ hp N w) {l : Nat} {cs : List SC} {ro : Bool} (h : look l hp = .cells cs ro) :
 ∃ b c ty, ρ l = some (.pointer (some ⟨b, 0, none⟩)) ∧ w.heap[b]? = some (.cells c ty (0, 0)) ∧ scsRel H ρ cs c.toList ∧ (ro = false → ∀ o, H b o = none) := by
 have := I.objs l
 rw [h] at this
 exact this

theorem add_at (b o n : Nat) : (⟨b, o, none⟩ : Addr).add n = ⟨b, o + n, none⟩ := by
 unfold Addr.add; split <;> simp_all

theorem run_loadVar {t : TypeId} {bb : Bool} (h : isAggT P t = some bb) {b off : Nat} {vs : List Value} (hl : vs.length = P.cellsOf t) (h1 : bb = false → vs.length = 1)
 (hc : ∀ i v, vs[i]? = some v → w.cell? ⟨b, off + i, none⟩ = some v) : (loadVar t ⟨b, off, none⟩).run P w = .ok (valOf P t vs) w := by
 obtain ⟨d, hd⟩ := isAgg_under h
 unfold loadVar
 rw [Sem.run_bind, run_isAgg' h]
 simp only [Result.andThen_ok]
 cases bb with
 | true =>
   have hcs := run_loadCells_list (P := P) w ⟨b, off, none⟩ vs (fun j v hj => by rw [add_at]; exact hc j v hj)
   simp only [if_true, Sem.run_bind, run_sizeOf' hd, Result.andThen_ok, ← hl, hcs, Sem.run_pure, valOf, h]
 | false =>
   obtain ⟨x, rfl⟩ : ∃ x, vs = [x] := by
    match vs, h1 rfl with
    | [x], _ => exact ⟨x, rfl⟩
   have := hc 0 x rfl
   simp only [Bool.false_eq_true, if_false]
   rw [run_load]
   simp only [Nat.add_zero] at this
   simp [this, valOf, h]

theorem noL_eq {a : Array Value} (h : noL a = true) : a = #[] := by
 unfold noL at h
 split at h
 · rename_i e; apply Array.ext'; simpa using e
 · cases h
theorem cloOf_rel {d : DV} {v : Value} (h : dvRel H d v) : svRel H ρ (cloOf d) v := by
 unfold cloOf
 split
 · rename_i f a b
   cases hb : (noL a && noL b) with
   | false => exact h
   | true =>
     simp only [Bool.and_eq_true] at hb
     rw [noL_eq hb.1, noL_eq hb.2] at h
     exact h.1
 · exact h
theorem ofCells_sound {t : TypeId} {cs : List SC} {sv : SV} (h : ofCells P t cs = some sv) {vs : List Value} (hr : scsRel H ρ cs vs) :
 ∃ b, isAggT P t = some b ∧ (b = false → vs.length = 1) ∧ svRel H ρ sv (valOf P t vs) := by
 unfold ofCells at h
 split at h <;> simp only [Option.some.injEq, reduceCtorEq] at h <;> rename_i ha <;> subst h
 · exact ⟨true, ha, by simp, vs, by simp [valOf, ha], hr⟩
 · obtain ⟨x, y, rfl, ⟨v, rfl, hd⟩, rfl⟩ := hr
   exact ⟨false, ha, by simp, by simp only [valOf, ha, List.append_nil, List.getD_cons_zero]; exact cloOf_rel hd⟩
 · obtain ⟨x, y, rfl, ⟨v, rfl, hd⟩, rfl⟩ := hr
   exact ⟨false, ha, by simp, by simp only [valOf, ha, List.append_nil, List.getD_cons_zero]; exact hd⟩
 · obtain ⟨x, y, rfl, ⟨v, rfl, hd⟩, rfl⟩ := hr
   exact ⟨false, ha, by simp, by simp only [valOf, ha, List.append_nil, List.getD_cons_zero]; exact hd⟩

theorem MInv.row (I : MInv E H ρ hp N w) {l : Nat} {e : TypeId} {s : Nat} {t : T} {xs : List t.den} {ro : Bool} (h : look l hp = .row e s t xs ro) : ∃ v, ρ l = some v ∧ rowOwn H w e s t xs v ro := by
 have := I.objs l
 rw [h] at this
 exact this
theorem MInv.rowAt (I : MInv E H ρ hp N w) {l : Nat} {e : TypeId} {s : Nat} {t : T} {xs : List t.den} {ro : Bool} (h : look l hp = .row e s t xs ro) {b n c : Nat} (hρ : ρ l = some (.slice (some ⟨b, 0, none⟩) n c)) :
 s = t.size ∧ n = xs.length ∧ ∃ cur f, farF f cur.size ∧ w.heap[b]? = some (.cells cur e f) ∧ xs.length ≤ c ∧ c ≤ maxLen ∧ cur.size = c * s ∧ rowRel (eltRel H t) xs (cur.toList.take (xs.length * s)) ∧ (ro = false → ∀ o, H b o = none) := by
 obtain ⟨v, h1, h2, h3⟩ := I.row h
 rw [hρ] at h1
 simp only [Option.some.injEq] at h1
 subst h1
 rcases h3 with ⟨h3, _⟩ | ⟨g, cap, cur, f, h4, h5, h6, h7, h8, h9, h10, h11⟩
 · simp at h3
 · simp only [Value.slice.injEq, Option.some.injEq, Addr.mk.injEq] at h4
   obtain ⟨⟨rfl, _⟩, rfl, rfl⟩ := h4
   exact ⟨h2, rfl, cur, f, h5, h6, h7, h8, h9, h10, h11⟩
theorem row_many {t : T} {xs : List t.den} {cs : List Value} (h : rowRel (eltRel H t) xs cs) : scsRel H ρ [.run (.many t xs.length xs)] cs := ⟨cs, [], by simp, ⟨rfl, h⟩, rfl⟩

theorem run_store_far (g o : Nat) (t : TypeId) (f : Nat × Nat) : ∀ (vs : List Value) (i : Nat) (cur : Array Value) (w : World), w.heap[g]? = some (.cells cur t f) → farF f cur.size → o + i + vs.length ≤ cur.size → (∀ v ∈ vs, v.oneCell' = true) →
 (storeCells ⟨g, o, none⟩ vs i).run P w = .ok () (w.setRow g (cur.toList.take (o + i) ++ vs ++ cur.toList.drop (o + i + vs.length)).toArray)
 | [], i, cur, w, hg, _, _, _ => by
   simp only [storeCells, List.append_nil, List.length_nil, Nat.add_zero, List.take_append_drop, Array.toArray_toList]
   rw [setRow_self w g cur t f hg]
   rfl
 | v :: rest, i, cur, w, hg, hfar, hl, h1 => by
   have hi : o + i < cur.size := by simp at hl; omega
   have hadd : (⟨g, o, none⟩ : Addr).add i = ⟨g, o + i, none⟩ := by unfold Addr.add; split <;> simp_all
   have hcell : w.cell? ⟨g, o + i, none⟩ = some cur[o + i] := by simp [World.cell?, hg, hi]
   have hfro : w.frozen? ⟨g, o + i, none⟩ = false := by
    have h2 := hfar (o + i) hi
    simp only [World.frozen?, hg]
    simp only [Bool.and_eq_false_iff, decide_eq_false_iff_not]
    by_cases h3 : f.1 ≤ o + i
    · exact .inr fun h4 => h2 ⟨h3, h4⟩
    · exact .inl h3
   have hst : (store ((⟨g, o, none⟩ : Addr).add i) v).run P w = .ok () (w.setRow g (cur.setIfInBounds (o + i) v)) := by
    rw [hadd, run_store P w _ v _ (h1 v (by simp)), hcell]
    simp [hfro, setCell_eq_setRow w g (o + i) cur t f v hg]
   have ih := run_store_far g o t f rest (i + 1) (cur.setIfInBounds (o + i) v) (w.setRow g (cur.setIfInBounds (o + i) v)) (setRow_heap w g cur _ t _ hg) (by simpa using hfar) (by simp at hl ⊢; omega) (fun x hx => h1 x (by simp [hx]))
   simp only [storeCells, Sem.run_bind, hst, Result.andThen_ok, ih, setRow_setRow]
   congr 3
   have e := list_seg_step cur.toList (o + i) v rest (by simp at hl ⊢; omega)
   simpa [Array.toList_setIfInBounds, Nat.add_assoc] using e

theorem cell_in {b : Nat} {c : Array Value} {ty : TypeId} {f : Nat × Nat} (hb : w.heap[b]? = some (.cells c ty f)) {A M C : List Value} (hc : c.toList = A ++ (M ++ C)) :
 ∀ i v, M[i]? = some v → w.cell? ⟨b, A.length + i, none⟩ = some v := by
 intro i v hv
 have hi : i < M.length := by
  rcases Nat.lt_or_ge i M.length with h | h
  · exact h
  · rw [List.getElem?_eq_none h] at hv; cases hv
 simp only [World.cell?, hb]
 have : c[A.length + i]? = c.toList[A.length + i]? := by simp
 simp only [Option.isSome_none, Bool.false_eq_true, if_false]
 rw [this, hc, List.getElem?_append_right (by omega), Nat.add_sub_cancel_left, List.getElem?_append_left hi, hv]

theorem loadO_sound (I : MInv E H ρ hp N w) {t : TypeId} {x : SV} {r : Res} (h : loadO P hp t x = some r) (hv : vcT r.vc) {v : Value} (hx : svRel H ρ x v) :
 r.upd = [] ∧ ∃ ad u, v = .pointer (some ad) ∧ (loadVar t ad).run P w = .ok u w ∧ ∃ s, r.out = .sv s ∧ svRel H ρ s u := by
 unfold loadO at h
 split at h
 · rename_i l p o
   obtain ⟨b, hρ, rfl, hlit⟩ := hx
   split at h
   · rename_i cs0 h0
     split at h
     · rename_i cs hd
       split at h
       · rename_i ds hds
         split at h
         · rename_i sv hof
           simp at h; subst h
           unfold cellsAt at h0
           split at h0
           · rename_i cs1 ro hl
             simp at h0; subst h0
             obtain ⟨b', c, ty, hρ', hb, hcs, _⟩ := I.cells hl
             rw [hρ] at hρ'; simp at hρ'; subst hρ'
             obtain ⟨A, M, C, hA1, hA2, hM⟩ := descend_sound hd hcs hlit hv
             simp only [Option.bind_eq_some_iff] at hds
             obtain ⟨es, h1, h2⟩ := hds
             obtain ⟨A2, C2, rfl, hl2, hC2⟩ := dropC_sound h1 hM
             obtain ⟨A3, C3, rfl, hl3, hA3⟩ := takeC_sound h2 hC2
             obtain ⟨bb, hagg, hone, hsv⟩ := ofCells_sound hof hA3
             refine ⟨rfl, _, _, rfl, run_loadVar hagg (by rw [hl3]; rfl) hone (fun i v hi => ?_), sv, rfl, hsv⟩
             have := cell_in hb (A := A ++ A2) (M := A3) (C := C3 ++ C) (by rw [hA1]; simp) i v hi
             simpa [hA2, hl2] using this
           · simp at h0
         · simp at h
       · simp at h
     · simp at h
   · simp at h
 · rename_i l p o
   obtain ⟨b, n, cap, hρ, rfl, hlit⟩ := hx
   split at h
   · rename_i cs0 h0
     split at h
     · rename_i cs hd
       split at h
       · rename_i ds hds
         split at h
         · rename_i sv hof
           simp at h; subst h
           unfold rowCells at h0
           split at h0
           · rename_i e s c xs ro hl
             simp at h0; subst h0
             obtain ⟨hs, _, cur, f, hfar, hb, hle, hmax, hsz, hrow, _⟩ := I.rowAt hl hρ
             obtain ⟨A, M, C, hA1, hA2, hM⟩ := descend_sound hd (row_many (ρ := ρ) hrow) hlit hv
             simp only [Option.bind_eq_some_iff] at hds
             obtain ⟨es, h1, h2⟩ := hds
             obtain ⟨A2, C2, rfl, hl2, hC2⟩ := dropC_sound h1 hM
             obtain ⟨A3, C3, rfl, hl3, hA3⟩ := takeC_sound h2 hC2
             obtain ⟨bb, hagg, hone, hsv⟩ := ofCells_sound hof hA3
             refine ⟨rfl, _, _, rfl, run_loadVar hagg (by rw [hl3]; rfl) hone (fun i v hi => ?_), sv, rfl, hsv⟩
             have := cell_in hb (A := A ++ A2) (M := A3) (C := C3 ++ C ++ cur.toList.drop (xs.length * s)) (by
              conv => lhs; rw [← List.take_append_drop (xs.length * s) cur.toList, hA1]
              simp) i v hi
             simpa [hA2, hl2] using this
           · simp at h0
         · simp at h
       · simp at h
     · simp at h
   · simp at h
 · rename_i rs
   obtain ⟨b, off, cs, rfl, hrs, hin⟩ := hx
   split at h
   · rename_i ds hds
     split at h
     · rename_i sv hof
       simp [val] at h; subst h
       obtain ⟨A3, C3, rfl, hl3, hA3⟩ := takeC_sound hds (scsRel_ofRuns (ρ := ρ).2 hrs)
       obtain ⟨bb, hagg, hone, hsv⟩ := ofCells_sound hof hA3
       refine ⟨rfl, _, _, rfl, run_loadVar hagg (by rw [hl3]; rfl) hone (fun i v hi => ?_), sv, rfl, hsv⟩
       have hlt : i < A3.length := by
        rcases Nat.lt_or_ge i A3.length with h | h
        · exact h
        · rw [List.getElem?_eq_none h] at hi; cases hi
       apply I.mem
       rw [hin i (by simp; omega), List.getElem?_append_left hlt, hi]
     · simp at h
   · simp at h
 · simp at h

def sliceNow (w : World) (H : Mem) (t : T) (xs : List t.den) (v : Value) : Prop :=
 xs.length ≤ LIM ∧ ((xs = [] ∧ noneV v) ∨
  ∃ b off cap cs, v = .slice (some ⟨b, off, none⟩) xs.length cap ∧ xs.length ≤ cap ∧ rowRel (eltRel H t) xs cs ∧ ∀ i u, cs[i]? = some u → w.cell? ⟨b, off + i, none⟩ = some u)

theorem sliceNow_of (I : MInv E H ρ hp N w) {t : T} {xs : List t.den} {v : Value} (h : sliceRel H (eltRel H t) xs v) : sliceNow w H t xs v := by
 obtain ⟨hl, h⟩ := h
 refine ⟨hl, ?_⟩
 rcases h with h | ⟨b, off, cap, cs, hv, hc, hr, hi⟩
 · exact .inl h
 · refine .inr ⟨b, off, cap, cs, hv, hc, hr, fun i u hu => I.mem _ _ _ ?_⟩
   have hlt : i < cs.length := by
    rcases Nat.lt_or_ge i cs.length with h | h
    · exact h
    · rw [List.getElem?_eq_none h] at hu; cases hu
   rw [hi i hlt, hu]

theorem vc_lit : ∀ {p : List Hop} {cs : List SC}, allLit p = true → vcT (pathVC cs p)
 | [], _, _ => by simp [pathVC, vcT]
 | h :: p, cs, hl => by
   simp only [allLit, Bool.and_eq_true] at hl
   simp only [pathVC]
   split
   · rename_i t n xs rest heq
     rw [hl.1]
     have := vc_lit (p := p) (cs := ofRuns (enc t (xs.getD h.e t.dflt))) hl.2
     simpa [andVC] using this
   · simp [vcT]

theorem rowAt_sound {t : T} {n : Nat} {lit : Bool} {cs : List SC} {off : Nat} {xs : List t.den} {vc : Option Prop} (h : rowAt t n lit cs off = some (xs, vc)) (hv : vcT vc) {vs : List Value} (hr : scsRel H ρ cs vs) :
 n ≤ xs.length ∧ ∃ A M C, vs = A ++ (M ++ C) ∧ A.length = off ∧ rowRel (eltRel H t) xs M := by
 unfold rowAt at h
 split at h
 · rename_i t' m ys rest heq
   obtain ⟨A, C, rfl, hA, hC⟩ := dropC_sound heq hr
   obtain ⟨M, C', rfl, ⟨hl, hrow⟩, _⟩ := hC
   split at h
   · rename_i ht
     cases lit with
     | true =>
       simp only [cond_true] at h
       cases hb : Nat.ble n m with
       | false => rw [hb] at h; simp at h
       | true =>
         rw [hb] at h; simp at h; obtain ⟨rfl, rfl⟩ := h
         exact ⟨by rw [castL_length, hl]; exact Nat.le_of_ble_eq_true hb, A, M, C', rfl, hA, castL_rel ht hrow⟩
     | false =>
       simp at h; obtain ⟨rfl, rfl⟩ := h
       exact ⟨by rw [castL_length, hl]; exact hv, A, M, C', rfl, hA, castL_rel ht hrow⟩
   · simp at h
 · simp at h

theorem win_row (I : MInv E H ρ hp N w) {l : Nat} {p : List Hop} {off : Nat} {t : T} {start len n : Nat} {lit : Bool} {d : SlD}
 (h : asSlice hp (.ref (.win l p off t start len n lit)) = some d) (hvc : vcT d.vc) {v : Value} (hv : svRel H ρ (.ref (.win l p off t start len n lit)) v) :
 d.still = some l ∧ ∃ cs ro b c ty, look l hp = .cells cs ro ∧ ρ l = some (.pointer (some ⟨b, 0, none⟩)) ∧ w.heap[b]? = some (.cells c ty (0, 0)) ∧
  ∃ o cap A M C, v = .slice (some ⟨b, o, none⟩) d.xs.length cap ∧ d.xs.length ≤ cap ∧ d.xs.length ≤ LIM ∧ c.toList = A ++ (M ++ C) ∧ A.length = o ∧ rowRel (eltRel H d.t) d.xs M := by
 simp only [asSlice] at h
 cases hal : allLit p with
 | false => rw [hal] at h; simp at h
 | true =>
   rw [hal] at h; simp only [cond_true] at h
   split at h
   · rename_i cs hcs
     split at h
     · rename_i xs vc hrow
       simp at h; subst h
       obtain ⟨b, cap, hρ, rfl, hlit, hsn, hlc, hLIM⟩ := hv
       simp only [Option.bind_eq_some_iff] at hcs
       obtain ⟨cs0, h0, hd⟩ := hcs
       unfold cellsAt at h0
       split at h0
       · rename_i cs1 ro hl
         simp at h0; subst h0
         obtain ⟨b', c, ty, hρ', hb, hcs, _⟩ := I.cells hl
         rw [hρ] at hρ'; simp at hρ'; subst hρ'
         obtain ⟨A, M, C, hA1, hA2, hM⟩ := descend_sound hd hcs hlit (vc_lit hal)
         obtain ⟨hn, A2, M2, C2, rfl, hA3, hM2⟩ := rowAt_sound hrow hvc hM
         have hs := eltRel_length (H := H) t
         have hdr := (rowRel_take hs hM2 start).2
         have htk := (rowRel_take hs hdr len).1
         have hlen : ((xs.drop start).take len).length = len := by simp; omega
         refine ⟨rfl, cs1, ro, b, c, ty, hl, hρ, hb, pathOff p + off + start * t.size, cap, A ++ (A2 ++ M2.take (start * t.size)), (M2.drop (start * t.size)).take (len * t.size), (M2.drop (start * t.size)).drop (len * t.size) ++ (C2 ++ C), by simp only [hlen], by simpa only [hlen] using hlc, by simpa only [hlen] using hLIM, ?_, ?_, htk⟩
         · rw [hA1]
           conv => lhs; rw [← List.take_append_drop (start * t.size) M2, ← List.take_append_drop (len * t.size) (M2.drop (start * t.size))]
           simp
         · have : start * t.size ≤ M2.length := by rw [rowRel_length hs hM2]; exact Nat.mul_le_mul_right _ (by omega)
           simp [hA2, hA3, Nat.min_eq_left this]; omega
       · simp at h0
     · simp at h
   · simp at h

theorem asSlice_now (I : MInv E H ρ hp N w) {x : SV} {d : SlD} (h : asSlice hp x = some d) (hvc : vcT d.vc) {v : Value} (hv : svRel H ρ x v) : sliceNow w H d.t d.xs v := by
 cases x with
 | dv y =>
   cases y <;> simp only [asSlice, Option.some.injEq, reduceCtorEq] at h
   · subst h; exact ⟨by simp [LIM], .inl ⟨rfl, .inl hv⟩⟩
   · subst h; exact sliceNow_of I hv
 | own k t xs => simp only [asSlice, Option.some.injEq] at h; subst h; exact sliceNow_of I hv.2.1
 | full t xs => simp only [asSlice, Option.some.injEq] at h; subst h; exact sliceNow_of I hv.1
 | ref r =>
   cases r with
   | win l p off t start len n lit =>
     obtain ⟨_, cs, ro, b, c, ty, _, _, hb, o, cap, A, M, C, rfl, hlc, hL, hc, hA, hrow⟩ := win_row I h hvc hv
     refine ⟨hL, .inr ⟨b, o, cap, M, rfl, hlc, hrow, fun i u hi => ?_⟩⟩
     rw [← hA]; exact cell_in hb hc i u hi
   | row l =>
     simp only [asSlice] at h
     split at h
     · rename_i e s t xs ro hl
       simp only [Option.some.injEq] at h; subst h
       obtain ⟨hρ, _⟩ := hv
       obtain ⟨v, h1, h2, h3⟩ := I.row hl
       rw [hρ] at h1
       simp only [Option.some.injEq] at h1
       subst h1
       rcases h3 with ⟨rfl, rfl⟩ | ⟨g, cap, cur, f, rfl, hfar, hb, hle, hmax, hsz, hrow, _⟩
       · exact ⟨Nat.zero_le _, .inl ⟨rfl, .inl rfl⟩⟩
       · refine ⟨Nat.le_trans hle hmax, .inr ⟨g, 0, cap, _, rfl, hle, hrow, fun i u hi => ?_⟩⟩
         have := cell_in hb (A := []) (M := cur.toList.take (xs.length * s)) (C := cur.toList.drop (xs.length * s)) (by simp) i u hi
         simpa using this
     · simp at h
   | _ => simp [asSlice] at h
 | _ => simp [asSlice] at h

def RoExt (hp hp' : List (Nat × SObj)) : Prop := ∀ l, look l hp' = look l hp ∨ (∃ cs ro, look l hp = .cells cs ro ∧ look l hp' = .cells cs true) ∨ ∃ e s t xs ro, look l hp = .row e s t xs ro ∧ look l hp' = .row e s t xs true
theorem RoExt.refl (hp : List (Nat × SObj)) : RoExt hp hp := fun _ => .inl rfl
theorem RoExt.trans {x y z : List (Nat × SObj)} (h : RoExt x y) (h' : RoExt y z) : RoExt x z := by
 intro l
 rcases h l with e | ⟨cs, ro, e1, e2⟩ | ⟨e0, s, t, xs, ro, e1, e2⟩
 · rcases h' l with f | ⟨cs, ro, f1, f2⟩ | ⟨e0, s, t, xs, ro, f1, f2⟩
   · exact .inl (f.trans e)
   · exact .inr (.inl ⟨cs, ro, e ▸ f1, f2⟩)
   · exact .inr (.inr ⟨e0, s, t, xs, ro, e ▸ f1, f2⟩)
 · rcases h' l with f | ⟨cs', ro', f1, f2⟩ | ⟨e0, s, t, xs, ro', f1, f2⟩
   · exact .inr (.inl ⟨cs, ro, e1, f.trans e2⟩)
   · rw [e2] at f1; cases f1; exact .inr (.inl ⟨cs, ro, e1, f2⟩)
   · rw [e2] at f1; cases f1
 · rcases h' l with f | ⟨cs', ro', f1, f2⟩ | ⟨e0', s', t', xs', ro', f1, f2⟩
   · exact .inr (.inr ⟨e0, s, t, xs, ro, e1, f.trans e2⟩)
   · rw [e2] at f1; cases f1
   · rw [e2] at f1; cases f1; exact .inr (.inr ⟨e0, s, t, xs, ro, e1, f2⟩)
theorem RoExt.cellsAt {x y : List (Nat × SObj)} (h : RoExt x y) (l : Nat) : Vse.cellsAt y l = Vse.cellsAt x l := by
 unfold Vse.cellsAt
 rcases h l with e | ⟨cs, ro, e1, e2⟩ | ⟨e0, s, t, xs, ro, e1, e2⟩
 · rw [e]
 · rw [e1, e2]
 · rw [e1, e2]
theorem RoExt.asSlice {x y : List (Nat × SObj)} (h : RoExt x y) (s : SV) : Vse.asSlice y s = Vse.asSlice x s := by
 cases s with
 | dv d => cases d <;> rfl
 | ref r =>
   cases r with
   | win l p off t start len n lit => simp only [Vse.asSlice, h.cellsAt l]
   | row l =>
     simp only [Vse.asSlice]
     rcases h l with e | ⟨cs, ro, e1, e2⟩ | ⟨e0, s, t, xs, ro, e1, e2⟩
     · rw [e]
     · rw [e1, e2]
     · rw [e1, e2]
   | _ => rfl
 | _ => rfl
theorem RoExt.stills {x y : List (Nat × SObj)} (h : RoExt x y) (s : Option Nat) : Vse.stills y s = Vse.stills x s := by
 cases s with
 | none => rfl
 | some l =>
   unfold Vse.stills
   rcases h l with e | ⟨cs, ro, e1, e2⟩ | ⟨e0, s, t, xs, ro, e1, e2⟩
   · simp only [e]
   · simp only [e1, e2]
   · simp only [e1, e2]
theorem RoExt.asData {x y : List (Nat × SObj)} (h : RoExt x y) (s : SV) : Vse.asData y s = Vse.asData x s := by
 cases s with
 | dv d => cases d <;> rfl
 | agg cs => rfl
 | _ => simp only [Vse.asData, h.asSlice, h.stills]

theorem still_sound (I : MInv E H ρ hp N w) {x : SV} {d : SlD} (h : asSlice hp x = some d) (hvc : vcT d.vc) {v : Value} (hv : svRel H ρ x v) :
 ∃ H', H.le H' ∧ MInv E H' ρ (putAll hp (stills hp d.still)) N w ∧ RoExt hp (putAll hp (stills hp d.still)) ∧ sliceRel H' (eltRel H' d.t) d.xs v := by
 have none_case : ∀ (hs : d.still = none), sliceRel H (eltRel H d.t) d.xs v → ∃ H', H.le H' ∧ MInv E H' ρ (putAll hp (stills hp d.still)) N w ∧ RoExt hp (putAll hp (stills hp d.still)) ∧ sliceRel H' (eltRel H' d.t) d.xs v := by
  intro hs hr
  rw [hs]
  exact ⟨H, Mem.le_refl H, I, RoExt.refl hp, hr⟩
 cases x with
 | dv y =>
   cases y <;> simp only [asSlice, Option.some.injEq, reduceCtorEq] at h
   · subst h; exact none_case rfl ⟨by simp [LIM], .inl ⟨rfl, .inl hv⟩⟩
   · subst h; exact none_case rfl hv
 | own k t xs => simp only [asSlice, Option.some.injEq] at h; subst h; exact none_case rfl hv.2.1
 | full t xs => simp only [asSlice, Option.some.injEq] at h; subst h; exact none_case rfl hv.1
 | ref r =>
   cases r with
   | win l p off t start len n lit =>
     obtain ⟨hst, cs, ro, b, c, ty, hl, hρ, hb, o, cap, A, M, C, rfl, hlc, hL, hc, hA, hrow⟩ := win_row I h hvc hv
     obtain ⟨hle, I'⟩ := I.still hl hρ hb
     rw [hst]
     simp only [stills, hl, putAll]
     refine ⟨_, hle, I', fun k => ?_, hL, .inr ⟨b, o, cap, M, rfl, hlc, rowRel_mono (eltRel_mono hle d.t) hrow, fun i hi => ?_⟩⟩
     · rw [look_put]
       split
       · rename_i e; subst e; exact .inr (.inl ⟨cs, ro, hl, rfl⟩)
       · exact .inl rfl
     · unfold extH
       have hlen : c.size = A.length + (M.length + C.length) := by rw [← Array.length_toList, hc]; simp
       rw [if_pos ⟨rfl, by omega⟩, hc, ← hA, List.getElem?_append_right (by omega), Nat.add_sub_cancel_left, List.getElem?_append_left hi]
   | row l =>
     simp only [asSlice] at h
     split at h
     · rename_i e s t xs ro hl
       simp only [Option.some.injEq] at h; subst h
       obtain ⟨hρ, _⟩ := hv
       obtain ⟨v, h1, h2, h3⟩ := I.row hl
       rw [hρ] at h1
       simp only [Option.some.injEq] at h1
       subst h1
       simp only [stills, hl, putAll]
       have hext : RoExt hp (put l (.row e s t xs true) hp) := fun k => by
        rw [look_put]
        split
        · rename_i e'; subst e'; exact .inr (.inr ⟨e, s, t, xs, ro, hl, rfl⟩)
        · exact .inl rfl
       rcases h3 with ⟨rfl, rfl⟩ | ⟨g, cap, cur, f, rfl, hfar, hb, hle, hmax, hsz, hrow, _⟩
       · refine ⟨H, Mem.le_refl H, ?_, hext, Nat.zero_le _, .inl ⟨rfl, .inl rfl⟩⟩
         have alive : ∀ k, look k (put l (.row e s t [] true) hp) ≠ .gone → look k hp ≠ .gone := by
          intro k hk
          rw [look_put] at hk
          split at hk
          · rename_i e'; subst e'; rw [hl]; simp
          · exact hk
         exact { I with
          objs := fun k => by
           rw [look_put]
           split
           · rename_i e'; subst e'; exact ⟨_, hρ, h2, .inl ⟨rfl, rfl⟩⟩
           · exact I.objs k
          sep := fun k k' b h1 h2 => I.sep k k' b (alive k h1) (alive k' h2)
          fresh := fun k b h1 => I.fresh k b (alive k h1) }
       · have hle' := I.ext_le (n := xs.length * s) hb
         refine ⟨_, hle', I.hold (l := l) (n := xs.length * s) (by rw [hl]; simp) (by simp [baseOf, hρ, blk]) hb ⟨_, hρ, h2, .inr ⟨g, cap, cur, f, rfl, hfar, hb, hle, hmax, hsz, rowRel_mono (eltRel_mono hle' t) hrow, fun h => by cases h⟩⟩, hext, Nat.le_trans hle hmax, .inr ⟨g, 0, cap, _, rfl, hle, rowRel_mono (eltRel_mono hle' t) hrow, fun i hi => ?_⟩⟩
         unfold extH
         have hi' : i < xs.length * s := by simp only [List.length_take] at hi; omega
         simp only [Nat.zero_add]
         rw [if_pos ⟨trivial, hi'⟩, List.getElem?_take, if_pos hi']
     · simp at h
   | _ => simp [asSlice] at h
 | _ => simp [asSlice] at h

theorem asData_sound (I : MInv E H ρ hp N w) {x : SV} {d : Dat} (h : asData hp x = some d) (hvc : vcT d.vc) {v : Value} (hv : svRel H ρ x v) :
 ∃ H', H.le H' ∧ MInv E H' ρ (putAll hp d.upd) N w ∧ RoExt hp (putAll hp d.upd) ∧ ∀ ρ', svRel H' ρ' d.v v := by
 have sl : ∀ (hh : (match asSlice hp x with | some d => some (⟨.dv (.imm d.t d.xs), stills hp d.still, d.vc⟩ : Dat) | none => none) = some d),
  ∃ H', H.le H' ∧ MInv E H' ρ (putAll hp d.upd) N w ∧ RoExt hp (putAll hp d.upd) ∧ ∀ ρ', svRel H' ρ' d.v v := by
  intro hh
  split at hh
  · rename_i e he
    simp at hh; subst hh
    obtain ⟨H', h1, h2, h3, h4⟩ := still_sound I he hvc hv
    exact ⟨H', h1, h2, h3, fun _ => h4⟩
  · simp at hh
 cases x with
 | dv y =>
   cases y <;> simp only [asData, Option.some.injEq] at h <;> subst h <;> refine ⟨H, Mem.le_refl H, I, RoExt.refl hp, fun ρ' => ?_⟩ <;> first | exact hv | exact ⟨by simp [LIM], .inl ⟨rfl, .inl hv⟩⟩
 | agg cs =>
   simp only [asData] at h
   split at h
   · rename_i rs hrs
     simp at h; subst h
     obtain ⟨vs, rfl, hr⟩ := hv
     exact ⟨H, Mem.le_refl H, I, RoExt.refl hp, fun ρ' => ⟨vs, rfl, scsRel_ofRuns.2 (toRuns_sound hrs hr)⟩⟩
   · simp at h
 | own k t xs => exact sl h
 | full t xs => exact sl h
 | ref r => exact sl h
 | ipt rs => simp only [asData, Option.some.injEq] at h; subst h; exact ⟨H, Mem.le_refl H, I, RoExt.refl hp, fun _ => hv⟩
 | clr f cs => exact sl h
 | yld k => exact sl h
 | clo f caps => simp only [asData, Option.some.injEq] at h; subst h; exact ⟨H, Mem.le_refl H, I, RoExt.refl hp, fun _ => by cases caps <;> exact hv⟩
 | top => exact sl h

theorem RoExt.capsO {x y : List (Nat × SObj)} (h : RoExt x y) : ∀ (l : List SV) {c : Caps}, Vse.capsO x l = some c → ∃ c', Vse.capsO y l = some c' ∧ c'.rss = c.rss ∧ c'.upd = c.upd
 | [], c, e => ⟨c, e, rfl, rfl⟩
 | v :: r, c, e => by
   cases v with
   | ref q =>
     cases q with
     | cell l p o =>
       cases p with
       | nil =>
         cases o with
         | zero =>
           simp only [Vse.capsO] at e ⊢
           split at e
           · rename_i cs ro hl
             split at e
             · rename_i rs c1 h1 h2
               simp at e; subst e
               obtain ⟨c2, g1, g2, g3⟩ := h.capsO r h2
               rcases h l with e1 | ⟨cs', ro', e1, e2⟩ | ⟨_, _, _, _, _, e1, _⟩
               · rw [e1, hl]; simp only [h1, g1]; exact ⟨_, rfl, by rw [g2], by rw [g3]⟩
               · rw [hl] at e1; simp at e1; obtain ⟨rfl, rfl⟩ := e1
                 rw [e2]; simp only [h1, g1]; exact ⟨_, rfl, by rw [g2], by rw [g3]⟩
               · rw [hl] at e1; cases e1
             · simp at e
           · simp at e
         | succ o => simp [Vse.capsO] at e
       | cons a b => simp [Vse.capsO] at e
     | _ => simp [Vse.capsO] at e
   | ipt rs =>
     simp only [Vse.capsO] at e ⊢
     split at e
     · rename_i c1 h1
       simp at e; subst e
       obtain ⟨c2, g1, g2, g3⟩ := h.capsO r h1
       rw [g1]; exact ⟨_, rfl, by rw [g2], by rw [g3]⟩
     · simp at e
   | _ => simp [Vse.capsO] at e
theorem capsO_sound : ∀ {l : List SV} {hp : List (Nat × SObj)} {H : Mem} (_ : MInv E H ρ hp N w) {c : Caps} (_ : capsO hp l = some c) {vs : List Value} (_ : svsRel H ρ l vs),
 ∃ H', H.le H' ∧ MInv E H' ρ (putAll hp c.upd) N w ∧ capsRel H' c.rss vs
 | [], hp, H, I, c, h, vs, hv => by
   simp [capsO] at h; subst h
   exact ⟨H, Mem.le_refl H, I, hv⟩
 | v :: r, hp, H, I, c, h, vs, hv => by
   obtain ⟨u, w', rfl, hx, hr⟩ := hv
   cases v with
   | ref q =>
     cases q with
     | cell l p o =>
       cases p with
       | nil =>
         cases o with
         | zero =>
           simp only [capsO] at h
           split at h
           · rename_i cs ro hl
             split at h
             · rename_i rs c1 h1 h2
               simp at h; subst h
               obtain ⟨b, cc, ty, g1, g2, g3, _⟩ := I.cells hl
               obtain ⟨hle, I1⟩ := I.still hl g1 g2
               have ro1 : RoExt hp (put l (.cells cs true) hp) := fun k => by
                rw [look_put]
                split
                · rename_i e; subst e; exact .inr (.inl ⟨cs, ro, hl, rfl⟩)
                · exact .inl rfl
               obtain ⟨c2, k1, k2, k3⟩ := ro1.capsO r h2
               obtain ⟨H2, le2, I2, rel2⟩ := capsO_sound I1 k1 (svsRel_mono hle (Lab.le_refl ρ) hr)
               obtain ⟨b', e1, rfl, _⟩ := hx
               rw [g1] at e1; simp at e1; subst e1
               refine ⟨H2, Mem.le_trans hle le2, by simp only [putAll]; rw [← k3]; exact I2, b, 0, cc.toList, w', by simp [pathOff], ?_, ?_, by rw [← k2]; exact rel2⟩
               · exact runsRel_mono (Mem.le_trans hle le2) (toRuns_sound h1 g3)
               · refine cellsIn_mono le2 fun i hi => ?_
                 unfold extH
                 rw [Array.length_toList] at hi
                 rw [if_pos ⟨rfl, by omega⟩]
                 simp
             · simp at h
           · simp at h
         | succ o => simp [capsO] at h
       | cons a b => simp [capsO] at h
     | _ => simp [capsO] at h
   | ipt rs =>
     simp only [capsO] at h
     split at h
     · rename_i c1 h1
       simp at h; subst h
       obtain ⟨b, off, cs, rfl, g1, g2⟩ := hx
       obtain ⟨H2, le2, I2, rel2⟩ := capsO_sound I h1 hr
       exact ⟨H2, le2, I2, b, off, cs, w', rfl, runsRel_mono le2 g1, cellsIn_mono le2 g2, rel2⟩
     · simp at h
   | _ => simp [capsO] at h
theorem capsRel_ipt : ∀ {rss : List (List Run)} {vs : List Value}, capsRel H rss vs → svsRel H ρ (mapL SV.ipt rss) vs
 | [], _, h => h
 | _ :: _, _, ⟨b, off, cs, w', e, h1, h2, h3⟩ => ⟨_, w', e, ⟨b, off, cs, rfl, h1, h2⟩, capsRel_ipt h3⟩

theorem putAll_app (hp u us : List (Nat × SObj)) : putAll hp (app u us) = putAll (putAll hp u) us := by
 induction u generalizing hp with
 | nil => rfl
 | cons x u ih => obtain ⟨l, o⟩ := x; simp [app, putAll, ih]

theorem RoExt.asDatas {x y : List (Nat × SObj)} (h : RoExt x y) (l : List SV) : Vse.asDatas y l = Vse.asDatas x l := by
 induction l with
 | nil => rfl
 | cons v r ih => simp only [Vse.asDatas, h.asData, ih]

def datsRel (H : Mem) : List SV → List Value → Prop
 | [], vs => vs = []
 | s :: r, vs => ∃ v w, vs = v :: w ∧ (∀ ρ, svRel H ρ s v) ∧ datsRel H r w

theorem asDatas_sound : ∀ {l : List SV} {hp : List (Nat × SObj)} {H : Mem} (_ : MInv E H ρ hp N w) {d : Dats} (_ : asDatas hp l = some d) (_ : vcT d.vc) {vs : List Value} (_ : svsRel H ρ l vs),
 ∃ H', H.le H' ∧ MInv E H' ρ (putAll hp d.upd) N w ∧ RoExt hp (putAll hp d.upd) ∧ datsRel H' d.vs vs
 | [], hp, H, I, d, h, hvc, vs, hv => by
   simp [asDatas] at h; subst h
   exact ⟨H, Mem.le_refl H, I, RoExt.refl hp, hv⟩
 | x :: r, hp, H, I, d, h, hvc, vs, hv => by
   obtain ⟨v, w', rfl, hx, hr⟩ := hv
   simp only [asDatas] at h
   split at h
   · rename_i d1 h1
     split at h
     · rename_i ds h2
       simp at h; subst h
       obtain ⟨v1, v2⟩ := vcT_and hvc
       obtain ⟨H1, le1, I1, ro1, rel1⟩ := asData_sound I h1 v1 hx
       rw [← ro1.asDatas] at h2
       obtain ⟨H2, le2, I2, ro2, rel2⟩ := asDatas_sound I1 h2 v2 (svsRel_mono le1 (Lab.le_refl ρ) hr)
       exact ⟨H2, Mem.le_trans le1 le2, by rw [putAll_app]; exact I2, by rw [putAll_app]; exact ro1.trans ro2, v, w', rfl, fun ρ' => svRel_mono le2 (Lab.le_refl ρ') (rel1 ρ'), rel2⟩
     · simp at h
   · simp at h

end Go.Vse
