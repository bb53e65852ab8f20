/- Rows made, rows copied, turns of kind. -/
import Derived.Test.YtdddnamfecgkeaaDoorWVseOpsH
import Derived.Laws.IdiomCopy
import Derived.Laws.IdiomStrings
namespace Go.Vse
variable {P : Program} {E : Env} {H : Mem} {ρ : Lab} {hp : List (Nat × SObj)} {lab : Nat} {N : Nat → Prop} {w : World} {a : Array Value}

theorem zeroL_len (c : T) : (zeroL c).length = c.size := eltRel_length (H := fun _ _ => none) c _ _ (dflt_rel _ c)

theorem made_rep {c : T} {z : Array Value} (hz : z.toList = zeroL c) (m : Nat) : (madeCells z (m * c.size)).toList = (rep (zeroL c) m).flatten := by
 have hzl : z.size = c.size := by rw [← Array.length_toList, hz, zeroL_len]
 have hlen : ∀ m, ((rep (zeroL c) m).flatten).length = m * c.size := fun m => by
  have := rowRel_length (eltRel_length c) (rep_flat (dflt_rel (fun _ _ => none) c) m)
  simpa using this
 unfold madeCells
 apply List.ext_getElem
 · simp [hlen]
 · intro j h1 h2
   have hj : j < m * c.size := by simpa using h1
   have hc1 : 0 < c.size := by
    rcases Nat.eq_zero_or_pos c.size with h | h
    · rw [h] at hj; simp at hj
    · exact h
   have hjm : j % c.size < c.size := Nat.mod_lt _ hc1
   have key : ∀ m j, j < m * c.size → ((rep (zeroL c) m).flatten)[j]? = (zeroL c)[j % c.size]? := by
    intro m
    induction m with
    | zero => intro j hj; simp at hj
    | succ m ih =>
      intro j hj
      simp only [rep, List.flatten_cons]
      by_cases hlt : j < c.size
      · rw [List.getElem?_append_left (by rw [zeroL_len]; omega), Nat.mod_eq_of_lt hlt]
      · rw [List.getElem?_append_right (by rw [zeroL_len]; omega), zeroL_len, ih (j - c.size) (by simp [Nat.add_mul] at hj; omega)]
        congr 1
        conv => rhs; rw [← Nat.sub_add_cancel (Nat.le_of_not_lt hlt)]
        simp
   have h3 := key m j hj
   rw [List.getElem?_eq_getElem (by simpa [hlen] using hj)] at h3
   have h4 : (zeroL c)[j % c.size]? = some z[j % z.size]! := by
    rw [← hz, hzl]
    simp [hzl, hjm]
   rw [h4] at h3
   simp at h3
   simp [h3]

theorem makeSliceO_ok (I : MInv E H ρ hp N w) (hN : N lab) {t : TypeId} {n m : SV} {r : Res} (h : makeSliceO P t lab n m = some r) (hvc : vcT r.vc) {vn vm : Value} (hn : svRel H ρ n vn) (hm : svRel H ρ m vm) :
 OpOk P E H ρ hp N lab w a (do pure (.value (← Instr.makeSlice t vn vm))) r := by
 unfold makeSliceO at h
 split at h
 · rename_i e n m hu
   split at h
   · rename_i c hc
     cases hs : small P e with
     | false => rw [hs] at h; simp at h
     | true =>
       rw [hs] at h; simp at h; subst h
       obtain ⟨rfl, h0, hr⟩ := hvc
       obtain ⟨rfl, _⟩ := hn
       obtain ⟨rfl, _⟩ := hm
       obtain ⟨⟨i, z, hi, hz, hzc, his⟩, _⟩ := code_sound hc
       have hb := small_bytes hs hi
       unfold leP ROOM at hr
       obtain ⟨k, rfl⟩ := Int.eq_ofNat_of_zero_le h0
       have hk : k ≤ 4294967296 := by omega
       have hbytes : (i.bytes : Int) * (k : Int) ≤ 281474976710656 := by
        have : i.bytes * k ≤ 4096 * 4294967296 := Nat.mul_le_mul hb hk
        have h2 : ((i.bytes * k : Nat) : Int) ≤ 281474976710656 := by omega
        rwa [Int.natCast_mul] at h2
       have hrun := run_make (P := P) w t e i z hu hi hz .i64 .i64 (k : Int) (k : Int) (by omega) (Int.le_refl _) hbytes (by omega)
       simp only [Int.toNat_natCast] at hrun ⊢
       have hrow : rowRel (eltRel H c) (List.replicate k c.dflt) (madeCells z.cells (k * i.size)).toList := by
        rw [his, made_rep hzc]; exact rep_flat (dflt_rel H c) k
       obtain ⟨h1, h2⟩ := I.alloc hN (cs := [.run (.many c k (List.replicate k c.dflt))]) (c := madeCells z.cells (k * i.size)) e ⟨_, [], (List.append_nil _).symm, ⟨by simp, hrow⟩, rfl⟩
       exact ⟨_, _, H, _, .inl (by rw [Sem.run_bind, hrun]; rfl), Mem.le_refl H, h2, h1, w.heap.size, k, by simp [setLab], by simp [pathOff], trivial, by omega, Nat.le_refl _, by unfold LIM; omega⟩
   · simp at h
 · simp at h

theorem splice_row {c : T} {xs ys : List c.den} {M Y : List Value} {start : Nat} (h1 : c.size = 1) (hx : rowRel (eltRel H c) xs M) (hy : rowRel (eltRel H c) ys Y) (hs : start + ys.length ≤ xs.length) :
 rowRel (eltRel H c) (spliceL xs ys start) (M.take start ++ (Y ++ M.drop (start + Y.length))) ∧ (spliceL xs ys start).length = xs.length := by
 have hl := rowRel_length (eltRel_length c) hy
 rw [h1, Nat.mul_one] at hl
 refine ⟨?_, by simp [spliceL]; omega⟩
 have a := (rowRel_take (eltRel_length c) hx start).1
 have b := (rowRel_take (eltRel_length c) hx (start + ys.length)).2
 rw [h1, Nat.mul_one] at a b
 rw [hl]
 exact rowRel_append.2 ⟨_, _, rfl, a, rowRel_append.2 ⟨_, _, rfl, hy, b⟩⟩

theorem run_copy_far {dT sT ty elem : TypeId} {g o dLen dCap : Nat} {a : Addr} {sLen sCap : Nat} {cur : Array Value} {t : TypeId} {f : Nat × Nat} {cs : List Value}
 (hu : P.underlying dT = some (.slice elem)) (hs : (P.info? elem).map (·.size) = some 1) (hg : w.heap[g]? = some (.cells cur t f)) (hfar : farF f cur.size) (hn : cs.length = Nat.min sLen dLen)
 (hsrc : ∀ j v, cs[j]? = some v → w.cell? (a.add j) = some v) (hfit : o + cs.length ≤ cur.size) (h1 : ∀ v ∈ cs, v.oneCell' = true) :
 (Builtin.copy_ #[dT, sT] ty #[.slice (some ⟨g, o, none⟩) dLen dCap, .slice (some a) sLen sCap]).run P w =
  .ok (goInt cs.length) (w.setRow g (cur.toList.take o ++ cs ++ cur.toList.drop (o + cs.length)).toArray) := by
 have hl := run_loadCells_list (P := P) w a cs hsrc
 have hst := run_store_far (P := P) g o t f cs 0 cur w hg hfar (by simpa using hfit) h1
 cases hq : P.info? elem with
 | none => simp [hq] at hs
 | some i =>
   have hi : i.size = 1 := by simpa [hq] using hs
   simp [Builtin.copy_, run_underlying hu, Builtin.lenOf, Builtin.firstCells, sizeOf, typeInfo, hq, hi, ← hn, hl, hst]

theorem copyEO_ok (I : MInv E H ρ hp N w) {td tx : TypeId} {l : Nat} {p : List Hop} {o : Nat} {c : T} {start len m : Nat} {x : SV} {r : Res} (h : copyEO P hp td tx l p o c start len m x = some r) (hvc : vcT r.vc) {vd vx : Value} (hd : svRel H ρ (.ref (.ewin l p o c start len m)) vd) (hx : svRel H ρ x vx) (ty : TypeId) :
 OpOk P E H ρ hp N lab w a (do pure (.value (← Builtin.copy_ #[td, tx] ty #[vd, vx]))) r := by
 unfold copyEO at h
 split at h
 case h_2 => simp at h
 rename_i e e' hu hux
 split at h
 case h_2 => simp at h
 rename_i ys vc e0 sz k xs hsrc hl
 split at h
 case h_2 => simp at h
 rename_i k' _ zs hm
 split at h
 case isFalse => simp at h
 rename_i hk
 subst hk
 cases hb : (Nat.beq c.size 1 && Nat.beq (sizeT P e) 1 && !Nat.beq k'.size 0) with
 | false => rw [hb] at h; simp at h
 | true =>
   rw [hb] at h; simp at h; subst h
   simp only [Bool.and_eq_true, Bool.not_eq_true'] at hb
   have hc1 := Nat.eq_of_beq_eq_true hb.1.1
   have he1 : P.cellsOf e = 1 := Nat.eq_of_beq_eq_true hb.1.2
   have hpos : 0 < k'.size := Nat.pos_of_ne_zero fun e0 => by rw [e0] at hb; simp at hb
   obtain ⟨hvc1, hvc2⟩ := vcT_and hvc
   have hes : (P.info? e).map (·.size) = some 1 := by
    cases hi : P.info? e with
    | none => simp [Program.cellsOf, hi] at he1
    | some i => simp [Program.cellsOf, hi] at he1; simp [he1]
   have hsn : sliceNow w H c ys vx := by
    unfold srcOf at hsrc
    rw [hux] at hsrc
    simp only at hsrc
    split at hsrc
    · rename_i d hd
      split at hsrc
      · rename_i hc
        simp at hsrc
        obtain ⟨rfl, rfl⟩ := hsrc
        have hn := asSlice_now I hd hvc1 hx
        subst hc
        exact hn
      · simp at hsrc
    · simp at hsrc
   obtain ⟨b, m0, cap0, cap, hρ, rfl, hlit, hsn', hlc, hLIM⟩ := hd
   obtain ⟨hsz, rfl, cc, f, hfar, hblk, hle, hmax, hcur, hrow, hro⟩ := I.rowAt hl hρ
   obtain ⟨A, M, C, ds, fs, hA, hAl, hf, hM, hall⟩ := modAt_sound hm (row_many (ρ := ρ) hrow) hlit hvc2
   obtain ⟨A2, M2, C2, q, q', rest, rfl, hA2, hfq, hM2, _, hall2⟩ := modC_sound hf hM
   split at hfq
   case h_2 => simp at hfq
   rename_i t n us _
   cases hlm : Nat.ble m n with
   | false => rw [hlm] at hfq; simp at hfq
   | true =>
     rw [hlm] at hfq; simp only [cond_true] at hfq
     have hmn := Nat.le_of_ble_eq_true hlm
     split at hfq
     case isFalse => simp at hfq
     rename_i hct
     subst hct
     simp at hfq; subst hfq
     obtain ⟨hxl, hxr⟩ := hM2
     have hkl : min ys.length len ≤ LIM := Nat.le_trans (Nat.min_le_right _ _) hLIM
     have hM2l := rowRel_length (eltRel_length c) hxr
     rw [hc1, Nat.mul_one] at hM2l
     have hcl : cc.toList = (A ++ ((A2 ++ (M2 ++ C2)) ++ C)) ++ cc.toList.drop (xs.length * sz) := by rw [← hA, List.take_append_drop]
     generalize cc.toList.drop (xs.length * sz) = D at hcl
     have hcc : cc.size = A.length + (A2.length + (M2.length + C2.length) + C.length) + D.length := by rw [← Array.length_toList, hcl]; simp [Nat.add_assoc]
     have hgo : ∃ Y, rowRel (eltRel H c) (ys.take len) Y ∧ (Builtin.copy_ #[td, tx] ty #[.slice (some ⟨b, pathOff p + o + start * c.size, none⟩) len cap, vx]).run P w =
      .ok (goInt Y.length) (w.setRow b (cc.toList.take (pathOff p + o + start) ++ Y ++ cc.toList.drop (pathOff p + o + start + Y.length)).toArray) := by
      rcases hsn.2 with ⟨rfl, rfl | ⟨a0, rfl⟩⟩ | ⟨b2, o2, cap2, news, rfl, hlc2, hrow2, hci⟩
      · refine ⟨[], by simp [rowRel], ?_⟩
        rw [run_copy_none w td tx ty e _ none len cap 0 0 hu hes (by simp)]
        simp [goInt]
        rw [setRow_self w b cc e0 f hblk]
      · refine ⟨[], by simp [rowRel], ?_⟩
        rw [run_copy_none w td tx ty e _ (some a0) len cap 0 0 hu hes (by simp)]
        simp [goInt]
        rw [setRow_self w b cc e0 f hblk]
      · have hnl := rowRel_length (eltRel_length c) hrow2
        rw [hc1, Nat.mul_one] at hnl
        have htk := (rowRel_take (eltRel_length c) hrow2 len).1
        rw [hc1, Nat.mul_one] at htk
        refine ⟨_, htk, ?_⟩
        rw [hc1, Nat.mul_one]
        exact run_copy_far (P := P) hu hes hblk hfar (by simp [hnl, Nat.min_comm]) (fun j u hj => by
         rw [add_at]
         rw [List.getElem?_take] at hj
         split at hj
         · exact hci j u hj
         · cases hj) (by simp [hnl]; omega) (fun v hv => row_one hrow2 v (List.mem_of_mem_take hv))
     obtain ⟨Y, hY, hrun⟩ := hgo
     have hYl := rowRel_length (eltRel_length c) hY
     rw [hc1, Nat.mul_one] at hYl
     have hyl : (ys.take len).length = min ys.length len := by simp [Nat.min_comm]
     obtain ⟨hs1, hs2⟩ := splice_row (start := start) hc1 hxr hY (by rw [hyl, hxl]; omega)
     have hfin := hall _ (hall2 (M2.take start ++ (Y ++ M2.drop (start + Y.length))) ⟨by rw [← hxl]; exact hs2, hs1⟩) (by simp [hYl]; omega)
     have e1 : cc.toList.take (pathOff p + o + start) = A ++ (A2 ++ M2.take start) := by
      rw [hcl, show (A ++ ((A2 ++ (M2 ++ C2)) ++ C)) ++ D = (A ++ (A2 ++ M2.take start)) ++ (M2.drop start ++ (C2 ++ (C ++ D))) by
       simp only [List.append_assoc]
       rw [← List.append_assoc (M2.take start), List.take_append_drop]]
      rw [List.take_left' (by simp [hAl, hA2]; omega)]
     have e2 : cc.toList.drop (pathOff p + o + start + Y.length) = M2.drop (start + Y.length) ++ (C2 ++ (C ++ D)) := by
      rw [hcl, show (A ++ ((A2 ++ (M2 ++ C2)) ++ C)) ++ D = (A ++ (A2 ++ M2.take (start + Y.length))) ++ (M2.drop (start + Y.length) ++ (C2 ++ (C ++ D))) by
       simp only [List.append_assoc]
       rw [← List.append_assoc (M2.take (start + Y.length)), List.take_append_drop]]
      rw [List.drop_left' (by simp [hAl, hA2]; omega)]
     rw [e1, e2] at hrun
     obtain ⟨R, X, hRX, ⟨hym, hyr⟩, hX⟩ := hfin
     simp only [scsRel] at hX
     subst hX
     simp only [List.append_nil] at hRX
     have hlR : R.length = xs.length * sz := by
      have h1 := congrArg List.length hA
      rw [← hRX]
      simp only [List.length_take, List.length_append, List.length_drop, Array.length_toList] at h1 ⊢
      have h2 : xs.length * sz ≤ cc.size := by rw [hcur]; exact Nat.mul_le_mul_right _ hle
      simp only [Nat.min_eq_left h2] at h1
      omega
     have hyl2 := rowRel_length (eltRel_length k') hyr
     have hlen : zs.length = xs.length := by
      rw [hsz] at hlR
      exact Nat.eq_of_mul_eq_mul_right hpos (hyl2.symm.trans hlR)
     have hnewl : (A ++ (A2 ++ M2.take start) ++ Y ++ (M2.drop (start + Y.length) ++ (C2 ++ (C ++ D)))) = R ++ D := by rw [← hRX]; simp
     rw [hnewl] at hrun
     have hRD : (R ++ D).toArray.size = cc.size := by
      have h1 := congrArg List.length hA
      have h2 : xs.length * sz ≤ cc.size := by rw [hcur]; exact Nat.mul_le_mul_right _ hle
      simp only [List.length_take, List.length_append, Array.length_toList, Nat.min_eq_left h2] at h1
      simp only [List.size_toArray, List.length_append]
      omega
     refine ⟨goInt Y.length, _, H, ρ, .inl (by rw [Sem.run_bind, hrun]; rfl), Mem.le_refl H, Lab.le_refl ρ, (I.rewrite (l := l) (o' := .row e0 sz k' zs false) (c' := (R ++ D).toArray) (by rw [hl]; simp) (b := b) (by simp [baseOf, hρ, blk]) hblk (hro rfl)
      ⟨_, hρ, hsz, .inr ⟨b, cap0, _, f, by rw [hlen], by rw [hRD]; exact hfar, setRow_heap w b cc _ e0 f hblk, by omega, hmax, by rw [hRD]; exact hcur, ?_, hro⟩⟩).later but_le, ?_⟩
     · rw [hlen, ← hlR]
       simpa using hyr
     · refine ⟨?_, lim_in hkl⟩
       rw [hYl, hyl]
       rfl

theorem copyO_ok (I : MInv E H ρ hp N w) {td tx : TypeId} {d x : SV} {r : Res} (h : copyO P hp td tx d x = some r) (hvc : vcT r.vc) {vd vx : Value} (hd : svRel H ρ d vd) (hx : svRel H ρ x vx) (tys : Array TypeId) (htys : tys = #[td, tx]) (ty : TypeId) :
 OpOk P E H ρ hp N lab w a (do pure (.value (← Builtin.copy_ tys ty #[vd, vx]))) r := by
 subst htys
 unfold copyO at h
 split at h
 · exact copyEO_ok I h hvc hd hx ty
 · rename_i l p o c start len m lit e e' hu hux
   split at h
   · rename_i ys vc cs hsrc hl
     split at h
     · rename_i cs' hm
       cases hb : (allLit p && Nat.beq c.size 1 && Nat.beq (sizeT P e) 1) with
       | false => rw [hb] at h; simp at h
       | true =>
         rw [hb] at h; simp at h; subst h
         simp only [Bool.and_eq_true] at hb
         have hal := hb.1.1
         have hc1 := Nat.eq_of_beq_eq_true hb.1.2
         have he1 : P.cellsOf e = 1 := Nat.eq_of_beq_eq_true hb.2
         have hes : (P.info? e).map (·.size) = some 1 := by
          cases hi : P.info? e with
          | none => simp [Program.cellsOf, hi] at he1
          | some i => simp [Program.cellsOf, hi] at he1; simp [he1]
         have hsn : sliceNow w H c ys vx := by
          unfold srcOf at hsrc
          rw [hux] at hsrc
          simp only at hsrc
          split at hsrc
          · rename_i d hd
            split at hsrc
            · rename_i hc
              simp at hsrc
              obtain ⟨rfl, rfl⟩ := hsrc
              have hn := asSlice_now I hd hvc hx
              subst hc
              exact hn
            · simp at hsrc
          · simp at hsrc
         obtain ⟨b, cap, hρ, rfl, hlit, hsn', hlc, hLIM⟩ := hd
         obtain ⟨b', cc, ty', hρ', hblk, hcs, hro⟩ := I.cells hl
         rw [hρ] at hρ'; simp at hρ'; subst hρ'
         obtain ⟨A, M, C, ds, fs, hA, hAl, hf, hM, hall⟩ := modAt_sound hm hcs hlit (vc_lit hal)
         obtain ⟨A2, M2, C2, q, q', rest, rfl, hA2, hfq, hM2, _, hall2⟩ := modC_sound hf hM
         split at hfq
         · rename_i t n xs _
           cases hlm : (lit && Nat.ble m n) with
           | false => rw [hlm] at hfq; simp at hfq
           | true =>
             rw [hlm] at hfq; simp only [cond_true] at hfq
             simp only [Bool.and_eq_true] at hlm
             have hmn := Nat.le_of_ble_eq_true hlm.2
             split at hfq
             · rename_i hct
               subst hct
               simp at hfq; subst hfq
               obtain ⟨hxl, hxr⟩ := hM2
               have hkl : min ys.length len ≤ LIM := Nat.le_trans (Nat.min_le_right _ _) hLIM
               have hgo : ∃ Y, rowRel (eltRel H c) (ys.take len) Y ∧ (Builtin.copy_ #[td, tx] ty #[.slice (some ⟨b, pathOff p + o + start * c.size, none⟩) len cap, vx]).run P w =
                .ok (goInt Y.length) (w.setRow b (cc.toList.take (pathOff p + o + start) ++ Y ++ cc.toList.drop (pathOff p + o + start + Y.length)).toArray) := by
                have hcc : cc.size = (A ++ ((A2 ++ (M2 ++ C2)) ++ C)).length := by rw [← Array.length_toList, hA]
                have hM2l := rowRel_length (eltRel_length c) hxr
                rw [hc1, Nat.mul_one] at hM2l
                rcases hsn.2 with ⟨rfl, rfl | ⟨a0, rfl⟩⟩ | ⟨b2, o2, cap2, news, rfl, hlc2, hrow, hci⟩
                · refine ⟨[], by simp [rowRel], ?_⟩
                  rw [run_copy_none w td tx ty e _ none len cap 0 0 hu hes (by simp)]
                  simp [goInt]
                  rw [setRow_self w b cc ty' (0, 0) hblk]
                · refine ⟨[], by simp [rowRel], ?_⟩
                  rw [run_copy_none w td tx ty e _ (some a0) len cap 0 0 hu hes (by simp)]
                  simp [goInt]
                  rw [setRow_self w b cc ty' (0, 0) hblk]
                · have hnl := rowRel_length (eltRel_length c) hrow
                  rw [hc1, Nat.mul_one] at hnl
                  have htk := (rowRel_take (eltRel_length c) hrow len).1
                  rw [hc1, Nat.mul_one] at htk
                  refine ⟨_, htk, ?_⟩
                  rw [hc1, Nat.mul_one]
                  exact run_copy_row P w td tx ty e b (pathOff p + o + start) len cap ⟨b2, o2, none⟩ ys.length cap2 cc ty' _ hu hes hblk (by simp [hnl, Nat.min_comm]) (fun j u hj => by
                   rw [add_at]
                   rw [List.getElem?_take] at hj
                   split at hj
                   · exact hci j u hj
                   · cases hj) (by simp [hnl]; simp at hcc; omega) (fun v hv => row_one hrow v (List.mem_of_mem_take hv))
               obtain ⟨Y, hY, hrun⟩ := hgo
               have hYl := rowRel_length (eltRel_length c) hY
               rw [hc1, Nat.mul_one] at hYl
               have hyl : (ys.take len).length = min ys.length len := by simp [Nat.min_comm]
               obtain ⟨hs1, hs2⟩ := splice_row (start := start) hc1 hxr hY (by rw [hyl, hxl]; omega)
               have hM2l := rowRel_length (eltRel_length c) hxr
               rw [hc1, Nat.mul_one] at hM2l
               have hfin := hall _ (hall2 (M2.take start ++ (Y ++ M2.drop (start + Y.length))) ⟨by rw [← hxl]; exact hs2, hs1⟩) (by simp [hYl]; omega)
               refine ⟨goInt Y.length, _, H, ρ, .inl (by rw [Sem.run_bind, hrun]; rfl), Mem.le_refl H, Lab.le_refl ρ, (I.store hl hρ hblk (cs' := cs') ?_).later but_le, ?_⟩
               · have e1 : cc.toList.take (pathOff p + o + start) = A ++ (A2 ++ M2.take start) := by
                   rw [hA, show A ++ ((A2 ++ (M2 ++ C2)) ++ C) = (A ++ (A2 ++ M2.take start)) ++ (M2.drop start ++ (C2 ++ C)) by
                    simp only [List.append_assoc]
                    rw [← List.append_assoc (M2.take start), List.take_append_drop]]
                   rw [List.take_left' (by simp [hAl, hA2]; omega)]
                 have e2 : cc.toList.drop (pathOff p + o + start + Y.length) = M2.drop (start + Y.length) ++ (C2 ++ C) := by
                  rw [hA, show A ++ ((A2 ++ (M2 ++ C2)) ++ C) = (A ++ (A2 ++ M2.take (start + Y.length))) ++ (M2.drop (start + Y.length) ++ (C2 ++ C)) by
                   simp only [List.append_assoc]
                   rw [← List.append_assoc (M2.take (start + Y.length)), List.take_append_drop]]
                  rw [List.drop_left' (by simp [hAl, hA2]; omega)]
                 simp only
                 rw [e1, e2]
                 simpa using hfin
               · refine ⟨?_, lim_in hkl⟩
                 rw [hYl, hyl]
                 rfl
             · simp at hfq
         · simp at hfq
     · simp at h
   · simp at h
 · simp at h

theorem convO_ok (I : MInv E H ρ hp N w) (hN : N lab) {src dst : TypeId} {x : SV} {r : Res} (h : convO P hp lab src dst x = some r) (hvc : vcT r.vc) {vx : Value} (hx : svRel H ρ x vx) :
 OpOk P E H ρ hp N lab w a (do pure (.value (← convert src dst vx))) r := by
 unfold convO at h
 split at h
 · rename_i ds k hs hd
   have fin : ∀ {n : Int} {k0 : IntKind}, vx = .int k0 n → (r.upd = [] ∧ ∃ v, (Conv.intToInt k n).run P w = .ok v w ∧ slRel H ρ a r.out v) → OpOk P E H ρ hp N lab w a (do pure (.value (← convert src dst vx))) r := by
    rintro n k0 rfl ⟨h1, v, h2, h3⟩
    refine OpOk.pure I ⟨h1, v, ?_, h3⟩
    rw [← h2]
    simp [convert, run_underlying hs, run_underlying hd]
   split at h
   · exact fin hx (convBV_sound (by omega) h)
   · exact fin hx (convBV_sound (by omega) h)
   · exact fin hx (convBV_sound (by omega) h)
   · exact fin hx (convBV_sound (by omega) h)
   · exact fin hx.1 (convI_sound hx.2 h)
   · simp at h
 · rename_i hs hd
   split at h
   · simp [dval] at h; subst h
     obtain ⟨rfl, hl⟩ := hx
     exact OpOk.pure I ⟨rfl, _, by simp [convert, run_underlying hs, run_underlying hd], rfl, hl⟩
   · simp at h
 · rename_i e hs hd
   split at h
   · rename_i xs st vc hsl
     cases hb : isByteT P e with
     | false => rw [hb] at h; simp at h
     | true =>
       rw [hb] at h; simp at h; subst h
       have he : P.underlying e = some (.int .u8) := by
        unfold isByteT at hb
        split at hb
        · assumption
        · simp at hb
       have hn := asSlice_now I hsl hvc hx
       have hrun := convStr_run (P := P) hn
       have hxl := hn.1
       refine OpOk.pure I ⟨rfl, _, ?_, rfl, hxl⟩
       rw [← hrun]
       rcases hn.2 with ⟨_, rfl | ⟨_, rfl⟩⟩ | ⟨b, o, cap, cs, rfl, _⟩ <;> simp [convert, run_underlying hs, run_underlying hd, run_underlying he]
   · simp at h
 · rename_i e hs hd
   split at h
   · rename_i l
     cases hb : isByteT P e with
     | false => rw [hb] at h; simp at h
     | true =>
       rw [hb] at h; simp only [cond_true, Option.some.injEq] at h; subst h
       have he : P.underlying e = some (.int .u8) := by
        unfold isByteT at hb
        split at hb
        · assumption
        · simp at hb
       obtain ⟨rfl, hl⟩ := hx
       have hroom : l.length ≤ ROOM := hvc
       have hrun := run_bytes_of_string (P := P) w src dst e (toBA l) hs hd he
       have hge := grownCap_ge w (toBA l).size 0 e
       have hle := grownCap_le_maxLen w (toBA l).size 0 e (by rw [toBA_size]; unfold ROOM at hroom; simp only [maxLen]; omega)
       generalize grownCap w (toBA l).size 0 e = cap at hrun hge hle
       rw [toBA_size] at hge hrun
       have hsz : (bytesRow (toBA l) cap).size = cap * 1 := by
        have h2 : (toBA l).data.size = l.length := toBA_size l
        simp only [bytesRow, Array.size_append, Array.size_map, Array.size_replicate, h2, Nat.mul_one]
        have h3 : (toBA l).size = l.length := toBA_size l
        rw [h3]; omega
       have htk : (bytesRow (toBA l) cap).toList.take (l.length * 1) = l.map fun x => Value.int .u8 (x.toNat : Int) := by
        rw [Nat.mul_one]
        simp only [bytesRow, Array.toList_append, Array.toList_map, toBA_data]
        rw [List.take_left' (by simp)]
        simp [Function.comp_def]
       generalize bytesRow (toBA l) cap = row at hrun hsz htk
       have I1 := I.same (Same.drew w)
       obtain ⟨h1, h2, h3, h4⟩ := I1.own hN (n := l.length) (cap := cap) (s := 1) (e := e) (c := row) (f := (row.size, row.size + 1)) hge hle hsz (farF_size _)
       rw [htk] at h4
       have h5 : cellsIn (extH H w.drew.heap.size (l.length * 1) row.toList) w.heap.size 0 (l.map fun x => Value.int .u8 (x.toNat : Int)) := h4
       refine ⟨_, _, _, _, .inl (by rw [Sem.run_bind, hrun]; rfl), h1, h2, h3, ?_, ⟨hl, .inr ⟨w.heap.size, 0, cap, l.map fun x => Value.int .u8 (x.toNat : Int), rfl, hge, ?_, h5⟩⟩, ?_⟩
       · simp [setLab]
       · clear hl hroom hrun hge hle hsz htk h1 h2 h3 h4 h5 I1 hvc
         induction l with
         | nil => rfl
         | cons x l ih => exact ⟨[_], _, rfl, rfl, ih⟩
       · intro ad n' c' e'
         simp at e'
         rw [← e'.1]
   · simp at h
 · rename_i e e' hs hd
   split at h
   · rename_i k xs
     split at h
     · rename_i te ts hl
       cases hb : (Nat.beq src dst && isByteT P e) with
       | false => rw [hb] at h; simp at h
       | true =>
         rw [hb] at h; simp only [cond_true, Option.some.injEq] at h; subst h
         simp only [Bool.and_eq_true] at hb
         have hsd := Nat.eq_of_beq_eq_true hb.1
         subst hsd
         rw [hs] at hd
         simp only [Option.some.injEq, TypeDesc.slice.injEq] at hd
         subst hd
         have he : P.underlying e = some (.int .u8) := by
          have hb := hb.2
          unfold isByteT at hb
          split at hb
          · assumption
          · simp at hb
         have hpos : 0 < xs.length := hvc
         obtain ⟨h1, h2, h3⟩ := hx
         have hobj := I.objs k
         rw [hl] at hobj
         obtain ⟨v, n, ys, g1, g2, _⟩ := hobj
         rw [h1] at g1
         simp only [Option.some.injEq] at g1
         subst g1
         rcases h2.2 with ⟨h0, _⟩ | ⟨b, o, cap, cs, rfl, _⟩
         · rw [h0] at hpos; simp at hpos
         · rcases g2.2 with ⟨hv, _⟩ | ⟨g, cap', cur, f, hv, _, hg, _⟩
           · cases hv
           · simp only [Value.slice.injEq, Option.some.injEq, Addr.mk.injEq] at hv
             obtain ⟨⟨rfl, _, _⟩, _, _⟩ := hv
             have hbase : baseOf ρ k = some b := by simp [baseOf, h1, blk]
             have hne : look k hp ≠ .gone := by rw [hl]; simp
             have hrun : (convert src src (.slice (some ⟨b, o, none⟩) xs.length cap)).run P w = .ok (.slice (some ⟨b, o, none⟩) xs.length cap) (w.freeze ⟨b, cur.size, none⟩ 1) := by
              have hsh : w.shape? b = some (te, cur.size) := by unfold World.shape?; rw [hg]
              have hmk : (markStringish ⟨b, o, none⟩).run P w = .ok () (w.freeze ⟨b, cur.size, none⟩ 1) := by
               simp only [markStringish, Sem.run_bind]
               have : (Go.shape b).run P w = .ok (some (te, cur.size)) w := by
                show ((Sem.pure (w.shape? b) : Sem _).run P w) = _
                rw [hsh]; rfl
               rw [this]
               rfl
              simp only [convert, run_underlying hs, run_underlying he, Sem.run_bind, Result.andThen_ok, beq_self_eq_true, hmk]
              rfl
             refine ⟨_, _, H, ρ, .inl (by rw [Sem.run_bind, hrun]; rfl), Mem.le_refl H, Lab.le_refl ρ, ((I.kill k).mark hg (fun l hl' hbl => ?_) (I.fresh k b hne hbase)).later but_le, h2⟩
             have hlk : l ≠ k := fun e => by subst e; rw [look_put, if_pos rfl] at hl'; exact hl' rfl
             rw [look_put, if_neg hlk] at hl'
             exact I.sep l k b hl' hne hlk hbl hbase
     · simp at h
   · simp at h
 · simp at h

theorem minmax_sound {mx : Bool} : ∀ {l : List SV} {a0 n : Int}, minmax mx a0 l = some n → inI64 a0 → ∀ {vs : List Value}, svsRel H ρ l vs →
 ((vs.foldlM (bif mx then Builtin.max2 else Builtin.min2) (.int .i64 a0) : Sem Value).run P w = .ok (.int .i64 n) w) ∧ inI64 n
 | [], a0, n, h, h0, vs, hv => by
   simp [minmax] at h; subst h
   simp only [svsRel] at hv; subst hv
   exact ⟨rfl, h0⟩
 | .dv (.i64 b) :: r, a0, n, h, h0, vs, hv => by
   simp only [minmax] at h
   obtain ⟨v, vs', rfl, ⟨rfl, hb⟩, hr⟩ := hv
   have h1 : inI64 (bif mx then max a0 b else min a0 b) := by
    cases mx <;> simp <;> unfold inI64 at * <;> omega
   obtain ⟨h2, h3⟩ := minmax_sound h h1 hr
   refine ⟨?_, h3⟩
   cases mx
   · simp only [cond_false, List.foldlM_cons, Builtin.min2] at h2 ⊢
     have e : (if b < a0 then b else a0) = min a0 b := by split <;> omega
     rw [e]
     simpa using h2
   · simp only [cond_true, List.foldlM_cons, Builtin.max2] at h2 ⊢
     have e : (if b > a0 then b else a0) = max a0 b := by split <;> omega
     rw [e]
     simpa using h2

theorem minmaxO_sound {mx : Bool} {l : List SV} {r : Res} (h : minmaxO mx l = some r) {vs : List Value} (hv : svsRel H ρ l vs) (ts : Array TypeId) (ty : TypeId) :
 r.upd = [] ∧ ∃ v, (bif mx then Builtin.max_ ts ty vs.toArray else Builtin.min_ ts ty vs.toArray).run P w = .ok v w ∧ slRel H ρ a r.out v := by
 unfold minmaxO at h
 split at h
 · split at h
   · rename_i n hn
     simp [dval] at h; subst h
     obtain ⟨v, vs', rfl, ⟨rfl, hb⟩, hr⟩ := hv
     obtain ⟨h2, h3⟩ := minmax_sound (P := P) (w := w) hn hb hr
     refine ⟨rfl, _, ?_, rfl, h3⟩
     cases mx
     · simpa [Builtin.min_] using h2
     · simpa [Builtin.max_] using h2
   · simp at h
 · simp at h

end Go.Vse
