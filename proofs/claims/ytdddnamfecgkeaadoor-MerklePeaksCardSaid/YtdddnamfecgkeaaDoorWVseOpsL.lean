/- Rows that are written in place: made, appended to. -/
import Derived.Test.YtdddnamfecgkeaaDoorWVseOpsJ
namespace Go.Vse
variable {P : Program} {E : Env} {H : Mem} {ρ ρ' : Lab} {hp : List (Nat × SObj)} {lab : Nat} {N : Nat → Prop} {w : World} {S : SState} {a : Array Value}

theorem append_new_row (I : MInv E H ρ hp N w) (hN : N lab) {ts tx ty e : TypeId} {c : T} (hu : P.underlying ts = some (.slice e)) (hc : code P e = some c) (hs : small P e = true)
 {xs ys : List c.den} {olds news : List Value} {vx : Value} {sCap : Nat} {base : Option Addr} (hsrc : Src P w tx e vx c.size ys.length news) (hrow : rowRel (eltRel H c) ys news) (hold : rowRel (eltRel H c) xs olds)
 (holds : ∀ w', Same w w' → (Builtin.firstCells c.size xs.length (.slice base xs.length sCap)).run P w' = .ok olds.toArray w') (hg : sCap < xs.length + ys.length) (hroom : xs.length + ys.length ≤ ROOM) :
 ∃ v' w' ρ', (Builtin.append_ #[ts, tx] ty #[.slice base xs.length sCap, vx]).run P w = .ok v' w' ∧ ρ.le ρ' ∧ MInv E H ρ' (put lab (.row e c.size c (xs ++ ys) false) hp) (but N lab) w' ∧ refRel ρ' (.row lab) v' := by
 obtain ⟨⟨i, z, hi, hz, hzc, his⟩, _⟩ := code_sound hc
 have hb := small_bytes hs hi
 unfold ROOM at hroom
 have hbytes : (xs.length + ys.length) * i.bytes ≤ 140737488355328 := by
  have : (xs.length + ys.length) * i.bytes ≤ 4294967296 * 4096 := Nat.mul_le_mul hroom hb
  omega
 have hmax : xs.length + ys.length ≤ maxLen := by simp only [maxLen]; omega
 rw [← his] at hsrc holds
 have hrun := append_grow (ty := ty) hu hi hz hsrc holds hg (by omega) (growslice_fits hg hbytes)
 have hge := grownCap_ge w (xs.length + ys.length) sCap e
 have hle := grownCap_le_maxLen w (xs.length + ys.length) sCap e hmax
 generalize grownCap w (xs.length + ys.length) sCap e = cap at hrun hge hle
 have hl := eltRel_length (H := H) c
 have ho := rowRel_length hl hold
 have hn := rowRel_length hl hrow
 have hzs : z.cells.size = c.size := by rw [← Array.length_toList, hzc]; rw [eltRel_length c _ _ (dflt_rel H c)]
 have hsz : (olds.toArray ++ news.toArray ++ Builtin.zeroCells z.cells (cap - (xs.length + ys.length))).size = cap * c.size := by
  simp only [Array.size_append, List.size_toArray, size_zeroCells, hzs, ho, hn, ← Nat.add_mul]
  congr 1; omega
 have htake : (olds.toArray ++ news.toArray ++ Builtin.zeroCells z.cells (cap - (xs.length + ys.length))).toList.take ((xs.length + ys.length) * c.size) = olds ++ news := by
  simp only [Array.toList_append, List.append_assoc]
  rw [← List.append_assoc, List.take_left' (by simp [ho, hn, Nat.add_mul])]
 generalize (olds.toArray ++ news.toArray ++ Builtin.zeroCells z.cells (cap - (xs.length + ys.length))) = cells at hrun hsz htake
 have I1 := I.same (Same.drew w)
 have hlab := setLab_le (v := .slice (some ⟨w.heap.size, 0, none⟩) (xs.length + ys.length) cap) (I.bound lab hN)
 refine ⟨_, _, setLab ρ lab (.slice (some ⟨w.heap.size, 0, none⟩) (xs.length + ys.length) cap), hrun, hlab, (I1.same (Same.alloc w.drew _)).label (v := (.slice (some ⟨w.heap.size, 0, none⟩) (xs.length + ys.length) cap)) hN ⟨(.slice (some ⟨w.heap.size, 0, none⟩) (xs.length + ys.length) cap), by simp [setLab], rfl, .inr ⟨w.heap.size, cap, cells, (0, 0), by simp, farF_zero _, heap_alloc_new w.drew _, by simpa using hge, hle, hsz, ?_, fun _ o => I1.memLt (Nat.le_refl _)⟩⟩ ?_, by simp [setLab], _, _, _, rfl⟩
 · rw [List.length_append, htake]
   exact rowRel_append.2 ⟨olds, news, rfl, hold, hrow⟩
 · intro b hb
   simp [blk] at hb
   subst hb
   exact ⟨.inl I.grow, fun l hl e => Nat.lt_irrefl _ (base_lt I hl e)⟩

theorem castL_rowOwn {w : World} {e : TypeId} {s : Nat} {t u : T} (h : t = u) {xs : List t.den} {v : Value} {ro : Bool} (hr : rowOwn H w e s t xs v ro) : rowOwn H w e s u (castL h xs) v ro := by
 subst h; exact hr

theorem appendRowO_ok (I : MInv E H ρ hp N w) (hN : N lab) {ts tx : TypeId} {s x : SV} {r : Res} (h : appendRowO P hp ts tx lab s x = some r) (hvc : vcT r.vc) {vs vx : Value} (hs : svRel H ρ s vs) (hx : svRel H ρ x vx) (tys : Array TypeId) (htys : tys = #[ts, tx]) (ty : TypeId) :
 OpOk P E H ρ hp N lab w a (do pure (.value (← Builtin.append_ tys ty #[vs, vx]))) r := by
 subst htys
 unfold appendRowO at h
 split at h
 · rename_i e hu
   split at h
   · simp at h
   · rename_i c hc
     cases hsm : (!small P e || Nat.beq c.size 0) with
     | true => rw [hsm] at h; simp at h
     | false =>
       rw [hsm] at h; simp only [cond_false] at h
       simp only [Bool.or_eq_false_iff, Bool.not_eq_false'] at hsm
       obtain ⟨hsmall, hnz⟩ := hsm
       split at h
       · simp at h
       · rename_i ys vc hsrc
         obtain ⟨⟨i, z, hi, hz, hzc, his⟩, _⟩ := code_sound hc
         have hle0 := fun v => setLab_le (v := v) (I.bound lab hN)
         split at h
         · -- nil
           rename_i t'
           simp at h; subst h
           obtain ⟨hv1, hv2⟩ := vcT_and hvc
           obtain ⟨news, hS, hrow⟩ := srcOf_sound I hc hsmall hsrc hv1 hx
           rw [show vs = _ from hs]
           by_cases hy : ys.length = 0
           · have hy0 : ys = [] := List.eq_nil_of_length_eq_zero hy
             rw [hy] at hS
             rw [← his] at hS
             have hrun := append_nil0 (ty := ty) hu hi hS
             exact ⟨.slice none 0 0, w, H, setLab ρ lab (.slice none 0 0), .inl (by simp [hrun]), Mem.le_refl H, hle0 _, I.label hN ⟨.slice none 0 0, by simp [setLab], rfl, .inl ⟨rfl, hy0⟩⟩ (by simp [blk]), by simp [setLab], _, _, _, rfl⟩
           · have hfirst : ∀ w', Same w w' → (Builtin.firstCells c.size ([] : List c.den).length (.slice none ([] : List c.den).length 0)).run P w' = .ok ([] : List Value).toArray w' := fun w' _ => rfl
             obtain ⟨v', w', ρ', hrun, h2, h3, h4⟩ := append_new_row (ty := ty) I hN hu hc hsmall hS hrow (xs := []) (olds := []) rfl hfirst (by simp; omega) (by have h9 : ys.length ≤ ROOM := hv2; simpa using h9)
             exact ⟨v', w', H, ρ', .inl (by simp at hrun; simp [hrun]), Mem.le_refl H, h2, h3, h4⟩
         · -- full
           rename_i t xs
           split at h
           · rename_i htc
             simp at h; subst h
             obtain ⟨hv1, hv2⟩ := vcT_and hvc
             obtain ⟨hpos, hroom⟩ := hv2
             obtain ⟨news, hS, hrow⟩ := srcOf_sound I hc hsmall hsrc hv1 hx
             have hsl := castL_slice htc hs.1
             obtain ⟨base, cap, olds, rfl, hbn, hold, hf⟩ := first_old (P := P) I hsl
             have hlen := castL_length htc xs
             have hcap : cap ≤ (castL htc xs).length := by
              cases base with
              | none => have := hbn rfl; omega
              | some ad => have := hs.2 ad _ _ rfl; omega
             obtain ⟨v', w', ρ', hrun, h2, h3, h4⟩ := append_new_row (ty := ty) I hN hu hc hsmall hS hrow hold hf (by omega) (by rw [hlen]; exact hroom)
             exact ⟨v', w', H, ρ', .inl (by simp [hrun]), Mem.le_refl H, h2, h3, h4⟩
           · simp at h
         · -- a row
           rename_i k
           split at h
           · rename_i e' sz t xs hl
             cases hchk : (Nat.beq sz c.size && Nat.beq e' e) with
             | false => rw [hchk] at h; simp at h
             | true =>
               rw [hchk] at h; simp only [cond_true] at h
               simp only [Bool.and_eq_true] at hchk
               have hsz := Nat.eq_of_beq_eq_true hchk.1
               have hee := Nat.eq_of_beq_eq_true hchk.2
               subst hsz; subst hee
               split at h
               · rename_i htc
                 simp at h; subst h
                 obtain ⟨hv1, hroom⟩ := vcT_and hvc
                 have hroom' : xs.length + ys.length ≤ ROOM := hroom
                 obtain ⟨news, hS, hrow⟩ := srcOf_sound I hc hsmall hsrc hv1 hx
                 obtain ⟨v0, hρ0, hown0⟩ := I.row hl
                 have hown := castL_rowOwn htc hown0
                 have hlen := castL_length htc xs
                 generalize castL htc xs = zs at *
                 rw [← hlen] at hroom'
                 obtain ⟨hρk, _⟩ := hs
                 rw [hρk] at hρ0; simp at hρ0; subst hρ0
                 have Ik := I.kill k
                 rcases hown.2 with ⟨rfl, rfl⟩ | ⟨g, cap, cur, f, rfl, hfar, hg, hnc, hcm, hcs, htake, hro⟩
                 · -- nil
                   by_cases hy : ys.length = 0
                   · have hy0 : ys = [] := List.eq_nil_of_length_eq_zero hy
                     rw [hy] at hS
                     rw [← his] at hS
                     have hrun := append_nil0 (ty := ty) hu hi hS
                     exact ⟨.slice none 0 0, w, H, setLab ρ lab (.slice none 0 0), .inl (by simp [hrun]), Mem.le_refl H, hle0 _, Ik.label hN ⟨.slice none 0 0, by simp [setLab], rfl, .inl ⟨rfl, by simp [hy0]⟩⟩ (by simp [blk]), by simp [setLab], _, _, _, rfl⟩
                   · have hfirst : ∀ w', Same w w' → (Builtin.firstCells c.size ([] : List c.den).length (.slice none ([] : List c.den).length 0)).run P w' = .ok ([] : List Value).toArray w' := fun w' _ => rfl
                     obtain ⟨v', w', ρ', hrun, h2, h3, h4⟩ := append_new_row (ty := ty) Ik hN hu hc hsmall hS hrow (xs := []) (olds := []) rfl hfirst (by simp; omega) (by simpa using hroom')
                     exact ⟨v', w', H, ρ', .inl (by simp at hrun; simp [hrun]), Mem.le_refl H, h2, h3, h4⟩
                 · have hl' := eltRel_length (H := H) c
                   have hnl := rowRel_length hl' hrow
                   have hfirst : ∀ w', Same w w' → (Builtin.firstCells c.size zs.length (.slice (some ⟨g, 0, none⟩) zs.length cap)).run P w' = .ok (cur.toList.take (zs.length * c.size)).toArray w' := fun w' hw => by
                    refine run_firstCells_some (P := P) w' c.size zs.length ⟨g, 0, none⟩ zs.length cap (cur.toList.take (zs.length * c.size)) (rowRel_length hl' htake) (fun j u hj => ?_)
                    rw [add_at]
                    refine hw.cell ?_
                    have := cell_in hg (A := []) (M := cur.toList.take (zs.length * c.size)) (C := cur.toList.drop (zs.length * c.size)) (by simp) j u hj
                    simpa using this
                   by_cases hfit : zs.length + ys.length ≤ cap
                   · have hfit' : zs.length * c.size + news.length ≤ cur.size := by rw [hnl, hcs, ← Nat.add_mul]; exact Nat.mul_le_mul_right _ hfit
                     rw [← his] at hS
                     have hrun := append_fit (ty := ty) hu hi hS hg hfar hfit (by rw [his]; exact hfit') (row_one hrow) ⟨_, hz⟩
                     rw [his] at hrun
                     have hbase : baseOf ρ k = some g := by simp [baseOf, hρk, blk]
                     have hfree : ∀ l, look l (put k .gone hp) ≠ .gone → baseOf ρ l ≠ some g := by
                      intro l hll he
                      rw [look_put] at hll
                      split at hll
                      · exact hll rfl
                      · rename_i hne
                        exact I.sep l k g hll (by rw [hl]; simp) hne he hbase
                     have hfr : E.w0.heap.size ≤ g ∨ g ∈ E.own0 := I.fresh k g (by rw [hl]; simp) hbase
                     have hlt : (cur.toList.take (zs.length * c.size)).length = zs.length * c.size := by simp; omega
                     have htk : ((cur.toList.take (zs.length * c.size) ++ news ++ cur.toList.drop (zs.length * c.size + news.length))).take ((zs.length + ys.length) * c.size) = cur.toList.take (zs.length * c.size) ++ news := by
                      rw [List.take_left' (by simp only [List.length_append, hlt, hnl]; rw [Nat.add_mul])]
                     have es : (cur.toList.take (zs.length * c.size) ++ news ++ cur.toList.drop (zs.length * c.size + news.length)).toArray.size = cur.size := by simp; omega
                     generalize (cur.toList.take (zs.length * c.size) ++ news ++ cur.toList.drop (zs.length * c.size + news.length)) = new at hrun htk es
                     have I2 := I.rewrite (l := k) (o' := .gone) (c' := new.toArray) (by rw [hl]; simp) hbase hg (hro rfl) trivial
                     refine ⟨_, _, H, setLab ρ lab (.slice (some ⟨g, 0, none⟩) (zs.length + ys.length) cap), .inl (by rw [Sem.run_bind, hrun]; rfl), Mem.le_refl H, hle0 _, I2.label (v := (.slice (some ⟨g, 0, none⟩) (zs.length + ys.length) cap)) hN ⟨(.slice (some ⟨g, 0, none⟩) (zs.length + ys.length) cap), by simp [setLab], rfl, .inr ⟨g, cap, _, f, by simp, by rw [es]; exact hfar, setRow_heap w g cur _ _ f hg, by simpa using hfit, hcm, by rw [es]; exact hcs, ?_, hro⟩⟩ ?_, by simp [setLab], _, _, _, rfl⟩
                     · rw [List.length_append]
                       show rowRel (eltRel H c) (zs ++ ys) (new.take ((zs.length + ys.length) * c.size))
                       rw [htk]
                       exact rowRel_append.2 ⟨_, news, rfl, htake, hrow⟩
                     · intro b hb
                       simp [blk] at hb
                       subst hb
                       exact ⟨hfr, hfree⟩
                   · obtain ⟨v', w', ρ', hrun, h2, h3, h4⟩ := append_new_row (ty := ty) Ik hN hu hc hsmall hS hrow htake hfirst (by omega) hroom'
                     exact ⟨v', w', H, ρ', .inl (by simp [hrun]), Mem.le_refl H, h2, h3, h4⟩
               · simp at h
           · simp at h
         · simp at h
 · simp at h

theorem makeRowO_ok (I : MInv E H ρ hp N w) (hN : N lab) {t : TypeId} {n m : SV} {r : Res} (h : makeRowO P t lab n m = some r) (hvc : vcT r.vc) {vn vm : Value} (hn : svRel H ρ n vn) (hm : svRel H ρ m vm) :
 OpOk P E H ρ hp N lab w a (do pure (.value (← Instr.makeSlice t vn vm))) r := by
 unfold makeRowO at h
 split at h
 · rename_i e n m hu
   split at h
   · rename_i c hc
     cases hs : small P e with
     | false => rw [hs] at h; simp at h
     | true =>
       rw [hs] at h; simp at h; subst h
       obtain ⟨rfl, h0, hr⟩ := hvc
       obtain ⟨rfl, _⟩ := hn
       obtain ⟨rfl, _⟩ := hm
       obtain ⟨⟨i, z, hi, hz, hzc, his⟩, _⟩ := code_sound hc
       have hb := small_bytes hs hi
       unfold leP ROOM at hr
       obtain ⟨k, rfl⟩ := Int.eq_ofNat_of_zero_le h0
       have hk : k ≤ 4294967296 := by omega
       have hbytes : (i.bytes : Int) * (k : Int) ≤ 281474976710656 := by
        have : i.bytes * k ≤ 4096 * 4294967296 := Nat.mul_le_mul hb hk
        have h2 : ((i.bytes * k : Nat) : Int) ≤ 281474976710656 := by omega
        rwa [Int.natCast_mul] at h2
       have hrun := run_make (P := P) w t e i z hu hi hz .i64 .i64 (k : Int) (k : Int) (by omega) (Int.le_refl _) hbytes (by omega)
       simp only [Int.toNat_natCast] at hrun ⊢
       have hrow : rowRel (eltRel H c) (List.replicate k c.dflt) (madeCells z.cells (k * i.size)).toList := by
        rw [his, made_rep hzc]; exact rep_flat (dflt_rel H c) k
       have hsz : (madeCells z.cells (k * i.size)).size = k * c.size := by
        rw [← Array.length_toList, rowRel_length (eltRel_length c) hrow]; simp
       have hlab := setLab_le (v := .slice (some ⟨w.heap.size, 0, none⟩) k k) (I.bound lab hN)
       refine ⟨_, _, H, _, .inl (by rw [Sem.run_bind, hrun]; rfl), Mem.le_refl H, hlab, (I.same (Same.alloc w _)).label (v := (.slice (some ⟨w.heap.size, 0, none⟩) k k)) hN ⟨(.slice (some ⟨w.heap.size, 0, none⟩) k k), by simp [setLab], rfl, .inr ⟨w.heap.size, k, _, (0, 0), by simp, farF_zero _, heap_alloc_new w _, by simp, by simp only [maxLen]; omega, hsz, ?_, fun _ o => I.memLt (Nat.le_refl _)⟩⟩ ?_, by simp [setLab], _, _, _, rfl⟩
       · rw [List.take_of_length_le (by rw [Array.length_toList, hsz]; simp)]
         exact hrow
       · intro b hb
         simp [blk] at hb
         subst hb
         exact ⟨.inl I.grow, fun l hl e => Nat.lt_irrefl _ (base_lt I hl e)⟩
   · simp at h
 · simp at h

theorem buildRowO_ok (I : MInv E H ρ hp N w) (hN : N lab) {t : TypeId} {n : Nat} {l : List (Nat × SV)} {r : Res} (h : buildRowO P hp t n lab l = some r) (hvc : vcT r.vc) {parts : Array (Nat × Value)} (hv : partsRel H ρ l parts.toList) :
 OpOk P E H ρ hp N lab w a (do pure (.value (← Instr.buildSlice t n parts))) r := by
 unfold buildRowO at h
 split at h
 · rename_i e hu
   split at h
   · rename_i c hc
     split at h
     · rename_i d hrow
       cases hb : (Nat.ble n 4194304 && Nat.ble (n * c.size) 16777216 && Nat.ble 1 c.size) with
       | false => rw [hb] at h; simp at h
       | true =>
         rw [hb] at h; simp at h; subst h
         simp only [Bool.and_eq_true] at hb
         have hn := Nat.le_of_ble_eq_true hb.1.1
         have hnc := Nat.le_of_ble_eq_true hb.1.2
         have hc1 := Nat.le_of_ble_eq_true hb.2
         obtain ⟨⟨i, z, hi, hz, hzc, his⟩, hco⟩ := code_sound hc
         have hzl : z.cells.size = c.size := by rw [← Array.length_toList, hzc]; exact eltRel_length c _ _ (dflt_rel H c)
         have hcells : ∀ m, ((Array.range (m * c.size)).map (z.cells[· % z.cells.size]!)).toList = (rep (zeroL c) m).flatten := by
          intro m
          have hlen : ∀ m, ((rep (zeroL c) m).flatten).length = m * c.size := fun m => by
           have := rowRel_length (eltRel_length c) (rep_flat (dflt_rel H c) m)
           simpa using this
          apply List.ext_getElem
          · simp [hlen]
          · intro j h1 h2
            simp at h1
            have hj : j < m * c.size := by simpa using h1
            have hjm : j % c.size < c.size := Nat.mod_lt _ (by omega)
            have key : ∀ m j, j < m * c.size → ((rep (zeroL c) m).flatten)[j]? = (zeroL c)[j % c.size]? := by
             have hzl' : (zeroL c).length = c.size := eltRel_length c _ _ (dflt_rel H c)
             intro m
             induction m with
             | zero => intro j hj; simp at hj
             | succ m ih =>
               intro j hj
               simp only [rep, List.flatten_cons]
               by_cases hlt : j < c.size
               · rw [List.getElem?_append_left (by omega), Nat.mod_eq_of_lt hlt]
               · rw [List.getElem?_append_right (by omega), hzl', ih (j - c.size) (by simp [Nat.add_mul] at hj; omega)]
                 congr 1
                 conv => rhs; rw [← Nat.sub_add_cancel (Nat.le_of_not_lt hlt)]
                 simp
            have h3 := key m j hj
            rw [List.getElem?_eq_getElem (by simpa [hlen] using hj)] at h3
            have h4 : (zeroL c)[j % c.size]? = some z.cells[j % z.cells.size]! := by
             rw [← hzc, hzl]
             simp [hzl, hjm]
            rw [h4] at h3
            simp at h3
            simp [h3]
         have hzr : rowRel (eltRel H c) (List.replicate n c.dflt) ((Array.range (n * c.size)).map (z.cells[· % z.cells.size]!)).toList := by
          rw [hcells n]; exact rep_flat (dflt_rel H c) n
         obtain ⟨H', new, h1, h2, h3, h4, h5⟩ := rowOf_sound I hrow hvc (nilParts_sound hv) hzr
         have hnl := rowRel_length (eltRel_length (H := H') c) h4
         have hmax : n ≤ maxLen := by simp only [maxLen]; omega
         have hrun : (Instr.buildSlice t n parts).run P w = .ok (.slice (some ⟨w.heap.size, 0, none⟩) n n) (w.alloc (.cells new.toArray e)) := by
          have hne : ¬ 16777216 < n * c.size := by omega
          by_cases hz0 : n * c.size = 0
          · have hn0 : n = 0 := by
              rcases Nat.mul_eq_zero.1 hz0 with h0 | h0
              · exact h0
              · omega
            subst hn0
            simp only [Nat.zero_mul, Array.range_zero', Array.map_empty] at h5
            have hr0 : (Array.range 0) = #[] := rfl
            simp [Instr.buildSlice, run_underlying hu, sizeOf, typeInfo, hi, his, newRow, hr0, h5]
          · simp [Instr.buildSlice, run_underlying hu, sizeOf, typeInfo, zeroValue, hi, hz, his, hz0, hne, newRow, h5]
         have hlab := setLab_le (v := .slice (some ⟨w.heap.size, 0, none⟩) n n) (I.bound lab hN)
         have hown : rowOwn H' (w.alloc (.cells new.toArray e)) e c.size c d.x (.slice (some ⟨w.heap.size, 0, none⟩) n n) false := by
          refine ⟨rfl, .inr ⟨w.heap.size, n, new.toArray, (0, 0), by rw [h3], farF_zero _, heap_alloc_new w _, by rw [h3]; exact Nat.le_refl _, by simp only [maxLen]; omega, by simp [hnl, h3], ?_, fun _ o => h2.memLt (Nat.le_refl _)⟩⟩
          rw [List.take_of_length_le (by simp [hnl])]
          exact h4
         have hfin := (h2.same (Same.alloc w (.cells new.toArray e))).label (v := (.slice (some ⟨w.heap.size, 0, none⟩) n n)) (o := .row e c.size c d.x false) hN ⟨(.slice (some ⟨w.heap.size, 0, none⟩) n n), by simp [setLab], hown⟩ (by
          intro b hb
          simp [blk] at hb
          subst hb
          exact ⟨.inl h2.grow, fun l hl e => Nat.lt_irrefl _ (base_lt h2 hl e)⟩)
         exact ⟨_, _, H', _, .inl (by rw [Sem.run_bind, hrun]; rfl), h1, hlab, by rw [putAll_app]; exact hfin, by simp [setLab], _, _, _, rfl⟩
     · simp at h
   · simp at h
 · simp at h

theorem makeOwnO_ok (I : MInv E H ρ hp N w) (hN : N lab) {t : TypeId} {n m : SV} {r : Res} (h : makeOwnO P t lab n m = some r) (hvc : vcT r.vc) {vn vm : Value} (hn : svRel H ρ n vn) (hm : svRel H ρ m vm) :
 OpOk P E H ρ hp N lab w a (do pure (.value (← Instr.makeSlice t vn vm))) r := by
 unfold makeOwnO at h
 split at h
 · rename_i e n m hu
   split at h
   · rename_i c hc
     cases hs : small P e with
     | false => rw [hs] at h; simp at h
     | true =>
       rw [hs] at h; simp at h; subst h
       obtain ⟨rfl, h0, hr⟩ := hvc
       obtain ⟨rfl, _⟩ := hn
       obtain ⟨rfl, _⟩ := hm
       obtain ⟨⟨i, z, hi, hz, hzc, his⟩, _⟩ := code_sound hc
       have hb := small_bytes hs hi
       unfold leP at hr
       obtain ⟨k, rfl⟩ := Int.eq_ofNat_of_zero_le h0
       have hk : k ≤ 16777216 := by omega
       have hbytes : (i.bytes : Int) * (k : Int) ≤ 281474976710656 := by
        have : i.bytes * k ≤ 4096 * 16777216 := Nat.mul_le_mul hb hk
        have h2 : ((i.bytes * k : Nat) : Int) ≤ 281474976710656 := by omega
        rwa [Int.natCast_mul] at h2
       have hrun := run_make (P := P) w t e i z hu hi hz .i64 .i64 (k : Int) (k : Int) (by omega) (Int.le_refl _) hbytes (by omega)
       simp only [Int.toNat_natCast] at hrun ⊢
       have hrow : rowRel (eltRel H c) (List.replicate k c.dflt) (madeCells z.cells (k * i.size)).toList := by
        rw [his, made_rep hzc]; exact rep_flat (dflt_rel H c) k
       have hsz : (madeCells z.cells (k * i.size)).size = k * c.size := by
        rw [← Array.length_toList, rowRel_length (eltRel_length c) hrow]; simp
       obtain ⟨g1, g2, g3, g4⟩ := I.own hN (n := k) (cap := k) (s := c.size) (e := e) (c := madeCells z.cells (k * i.size)) (f := (0, 0)) (Nat.le_refl _) (by simp only [maxLen]; omega) hsz (farF_zero _)
       refine ⟨_, _, _, _, .inl (by rw [Sem.run_bind, hrun]; rfl), g1, g2, g3, by simp [setLab], ⟨by simp [LIM]; omega, .inr ⟨w.heap.size, 0, k, _, by simp, by simp, rowRel_mono (eltRel_mono g1 c) hrow, ?_⟩⟩, ?_⟩
       · have e : ((madeCells z.cells (k * i.size)).toList.take (k * c.size)) = (madeCells z.cells (k * i.size)).toList := by
           rw [List.take_of_length_le (by rw [Array.length_toList, hsz]; exact Nat.le_refl _)]
         rwa [e] at g4
       · intro ad n' c' e'
         simp at e'
         rw [← e'.1]
   · simp at h
 · simp at h

theorem fillP_sound : ∀ {l : List (Nat × SV)} {cs ds : List SC} (_ : fillP cs l = some ds) {vs : List (Nat × Value)} (_ : partsRel H ρ l vs) (cells : Array Value) (_ : scsRel H ρ cs cells.toList),
 ∃ new, scsRel H ρ ds new ∧ Instr.fill (fun i => some (i * 1, 1)) cells vs = some new.toArray ∧ new.length = cells.size
 | [], cs, ds, h, vs, hv, cells, hr => by
   simp [fillP] at h; subst h
   simp only [partsRel] at hv; subst hv
   exact ⟨cells.toList, hr, by simp [Instr.fill], by simp⟩
 | (i, s) :: r, cs, ds, h, vs, hv, cells, hr => by
   obtain ⟨v, w', rfl, hs, hrest⟩ := hv
   simp only [fillP] at h
   split at h
   · rename_i c hnew
     cases hb : Nat.beq c.size 1 with
     | false => rw [hb] at h; simp at h
     | true =>
       rw [hb] at h; simp only [cond_true] at h
       split at h
       · rename_i cs' hrep
         have hnr := toCells_sound hnew hs
         have hsz : v.cells.toList.length = 1 := by
          rw [sizeL_eq hnr]
          simp [sizeL, Nat.eq_of_beq_eq_true hb]
         obtain ⟨A, M, C, hA, hAl, hMl, hall⟩ := replC_sound hrep hr
         obtain ⟨new', h1, h2, h3⟩ := fillP_sound h hrest (A ++ (v.cells.toList ++ C)).toArray (hall _ hnr)
         refine ⟨new', h1, ?_, ?_⟩
         · rw [fill_step (place := fun i => some (i * 1, 1)) (i := i) (off := i) (size := 1) (by simp) (by simpa using hsz) (by
             have : cells.size = (A ++ (M ++ C)).length := by rw [← Array.length_toList, hA]
             simp at this; omega), hA]
           have e1' : (A ++ (M ++ C)).take i = A := List.take_left' hAl
           have e2' : (A ++ (M ++ C)).drop (i + 1) = C := by
            rw [show A ++ (M ++ C) = (A ++ M) ++ C by simp, List.drop_left' (by simp [hAl, hMl])]
           rw [e1', e2']
           rw [show (A ++ v.cells.toList ++ C) = A ++ (v.cells.toList ++ C) by simp]
           exact h2
         · rw [h3]
           have : cells.size = (A ++ (M ++ C)).length := by rw [← Array.length_toList, hA]
           simp at this ⊢; simp at hsz; omega
       · simp at h
   · simp at h

theorem buildPtrO_ok (I : MInv E H ρ hp N w) (hN : N lab) {t : TypeId} {n : Nat} {l : List (Nat × SV)} {r : Res} (h : buildPtrO P t n lab l = some r) {parts : Array (Nat × Value)} (hv : partsRel H ρ l parts.toList) :
 OpOk P E H ρ hp N lab w a (do pure (.value (← Instr.buildSlice t n parts))) r := by
 unfold buildPtrO at h
 split at h
 · rename_i e hu
   split at h
   · rename_i e' hue
     split at h
     · rename_i cs hfill
       cases hb : (zeroIs P e [.pointer none] && Nat.ble n 4096 && Nat.ble 1 n) with
       | false => rw [hb] at h; simp at h
       | true =>
         rw [hb] at h; simp at h; subst h
         simp only [Bool.and_eq_true] at hb
         obtain ⟨i, z, hi, hz, hzc, his⟩ := zeroIs_sound hb.1.1
         have hn := Nat.le_of_ble_eq_true hb.1.2
         have hn1 := Nat.le_of_ble_eq_true hb.2
         simp only [List.length_singleton] at his
         have hzs : z.cells.size = 1 := by rw [← Array.length_toList, hzc]; rfl
         have hz0 : ∀ j : Nat, z.cells[j % z.cells.size]! = .pointer none := fun j => by
          have e0 : z.cells = #[.pointer none] := by apply Array.ext'; simpa using hzc
          rw [e0]
          simp [Nat.mod_one]
         have hcells : ((Array.range (n * 1)).map (z.cells[· % z.cells.size]!)).toList = List.replicate n (.pointer none) := by
          apply List.ext_getElem
          · simp
          · intro j h1 h2
            simp [hz0]
         have hrel : ∀ m, scsRel H ρ (rep (.run (.one (.cst (.pointer none)))) m) (List.replicate m (.pointer none)) := by
          intro m
          induction m with
          | zero => rfl
          | succ m ih => exact ⟨[.pointer none], _, rfl, ⟨.pointer none, rfl, rfl, rfl⟩, ih⟩
         obtain ⟨new, h1, h2, h3⟩ := fillP_sound hfill (nilParts_sound hv) ((Array.range (n * 1)).map (z.cells[· % z.cells.size]!)) (by rw [hcells]; exact hrel n)
         have hlen : new.length = n := by rw [h3]; simp
         have hrun : (Instr.buildSlice t n parts).run P w = .ok (.slice (some ⟨w.heap.size, 0, none⟩) n n) (w.alloc (.cells new.toArray e)) := by
          have hne : ¬ 16777216 < n := by omega
          have hn0 : n ≠ 0 := by omega
          simp only [Nat.mul_one] at h2
          simp [Instr.buildSlice, run_underlying hu, sizeOf, typeInfo, zeroValue, hi, hz, his, hn0, hne, newRow, h2]
         have hlab := setLab_le (v := .pointer (some ⟨w.heap.size, 0, none⟩)) (I.bound lab hN)
         refine ⟨_, _, H, _, .inl (by rw [Sem.run_bind, hrun]; rfl), Mem.le_refl H, hlab, (I.same (Same.alloc w _)).label (v := .pointer (some ⟨w.heap.size, 0, none⟩)) hN ⟨w.heap.size, new.toArray, e, by simp [setLab], heap_alloc_new w _, scsRel_mono (Mem.le_refl H) hlab (by simpa using h1), fun _ o => I.memLt (Nat.le_refl _)⟩ ?_, w.heap.size, by simp [setLab], rfl, by unfold LIM; omega⟩
         intro b hb
         simp [blk] at hb
         subst hb
         exact ⟨.inl I.grow, fun l hl e => Nat.lt_irrefl _ (base_lt I hl e)⟩
     · simp at h
   · simp at h
 · simp at h
theorem buildSl_ok (I : MInv E H ρ hp N w) (hN : N lab) {hinted : Bool} {t : TypeId} {n : Nat} {l : List (Nat × SV)} {r : Res} (h : buildSl P hinted hp t n lab l = some r) (hvc : vcT r.vc) {parts : Array (Nat × Value)} (hv : partsRel H ρ l parts.toList) :
 OpOk P E H ρ hp N lab w a (do pure (.value (← Instr.buildSlice t n parts))) r := by
 unfold buildSl at h
 cases hinted with
 | true => exact buildRowO_ok I hN h hvc hv
 | false =>
   simp only [cond_false] at h
   split at h
   · rename_i r' hr
     simp only [Option.some.injEq] at h; subst h
     exact buildSliceO_ok I hN hr hvc hv
   · exact buildPtrO_ok I hN h hv

theorem rowNilO_ok (I : MInv E H ρ hp N w) {op : BinOp} {t : TypeId} {x y : SV} {r : Res} (h : rowNilO P hp op t x y = some r) (hvc : vcT r.vc) {vx vy : Value} (hx : svRel H ρ x vx) (hy : svRel H ρ y vy) {ox oy : Operand} {a : Array Value} :
 OpOk P E H ρ hp N lab w a (do pure (.value (← (do eqGuard op t ox oy vx vy; binOp op t vx vy)))) r := by
 unfold rowNilO at h
 split at h
 · rename_i l e hu
   split at h
   · rename_i e0 s k xs ro hl
     cases hn : nilSV y with
     | false => rw [hn] at h; simp at h
     | true =>
       rw [hn] at h; simp only [cond_true] at h
       have hy2 : vy = .slice none 0 0 := by
        unfold nilSV at hn
        split at hn
        · exact hy.1
        · cases hn
       subst hy2
       obtain ⟨hρ, _⟩ := hx
       obtain ⟨v, h1, h2, h3⟩ := I.row hl
       rw [hρ] at h1
       simp only [Option.some.injEq] at h1
       subst h1
       have hpos : 0 < xs.length := by
        split at h
        · simp only [owed, Option.some.injEq] at h; subst h; exact hvc
        · simp only [owed, Option.some.injEq] at h; subst h; exact hvc
        · cases h
       rcases h3 with ⟨_, rfl⟩ | ⟨g, cap, cur, f, rfl, _⟩
       · simp at hpos
       · obtain ⟨g1, g2⟩ := eq_run (P := P) (w := w) (t := t) (u := .slice (some ⟨g, 0, none⟩) xs.length cap) (v := .slice none 0 0) (b := false) (fun D => by simp [Op.equalIn, run_underlying hu]) rfl rfl
         split at h
         · simp only [owed, Option.some.injEq] at h; subst h
           refine OpOk.pure I ⟨rfl, .bool false, ?_, rfl⟩
           rw [Sem.run_bind, guard_pure (by simp) (by simp)]
           exact g1
         · simp only [owed, Option.some.injEq] at h; subst h
           refine OpOk.pure I ⟨rfl, .bool true, ?_, rfl⟩
           rw [Sem.run_bind, guard_pure (by simp) (by simp)]
           exact g2
         · cases h
   · simp at h
 · simp at h

theorem nilNil_ok (I : MInv E H ρ hp N w) {op : BinOp} {t : TypeId} {x y : SV} {q : Bool} (h : nilNil P op t x y = some q) {vx vy : Value} (hx : svRel H ρ x vx) (hy : svRel H ρ y vy) {ox oy : Operand} {a : Array Value} :
 OpOk P E H ρ hp N lab w a (do pure (.value (← (do eqGuard op t ox oy vx vy; binOp op t vx vy)))) ⟨none, .sv (.dv (.bool q)), []⟩ := by
 unfold nilNil at h
 split at h
 · rename_i e hu
   cases hn : (nilsV x && nilSV y) with
   | false => rw [hn] at h; simp at h
   | true =>
     rw [hn] at h; simp only [cond_true] at h
     simp only [Bool.and_eq_true] at hn
     have hx2 : vx = .slice none 0 0 := by
      have := hn.1
      unfold nilsV at this
      split at this
      · exact hx
      · exact hx.1
      · cases this
     have hy2 : vy = .slice none 0 0 := by
      have := hn.2
      unfold nilSV at this
      split at this
      · exact hy.1
      · cases this
     subst hx2; subst hy2
     obtain ⟨g1, g2⟩ := eq_run (P := P) (w := w) (t := t) (u := .slice none 0 0) (v := .slice none 0 0) (b := true) (fun D => by simp [Op.equalIn, run_underlying hu]) rfl rfl
     split at h
     · simp only [Option.some.injEq] at h; subst h
       refine OpOk.pure I ⟨rfl, .bool true, ?_, rfl⟩
       rw [Sem.run_bind, guard_pure (by simp) (by simp)]
       exact g1
     · simp only [Option.some.injEq] at h; subst h
       refine OpOk.pure I ⟨rfl, .bool false, ?_, rfl⟩
       rw [Sem.run_bind, guard_pure (by simp) (by simp)]
       exact g2
     · cases h
 · rename_i kt et hu
   split at h
   · rename_i r
     obtain ⟨b, _, rfl⟩ := hx
     have hy2 := hy.1
     subst hy2
     obtain ⟨g1, g2⟩ := eq_run (P := P) (w := w) (t := t) (u := .map (some b)) (v := .map none) (b := false) (fun D => by simp [Op.equalIn, run_underlying hu]) rfl rfl
     split at h
     · simp only [Option.some.injEq] at h; subst h
       refine OpOk.pure I ⟨rfl, .bool false, ?_, rfl⟩
       rw [Sem.run_bind, guard_pure (by simp) (by simp)]
       exact g1
     · simp only [Option.some.injEq] at h; subst h
       refine OpOk.pure I ⟨rfl, .bool true, ?_, rfl⟩
       rw [Sem.run_bind, guard_pure (by simp) (by simp)]
       exact g2
     · cases h
   · cases h
 · cases h

end Go.Vse
