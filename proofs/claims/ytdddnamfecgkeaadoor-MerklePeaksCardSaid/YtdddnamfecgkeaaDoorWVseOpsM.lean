/- Windows of rows, rows cut short, zeros in a window; arrays of slices, each in a cell of its own. -/
import Derived.Test.YtdddnamfecgkeaaDoorWVseOpsL
namespace Go.Vse
variable {P : Program} {E : Env} {H : Mem} {ρ ρ' : Lab} {hp : List (Nat × SObj)} {lab : Nat} {N : Nat → Prop} {w : World} {S : SState} {a : Array Value}

theorem sliceRowO_ok (I : MInv E H ρ hp N w) (hN : N lab) {t : TypeId} {x : SV} {lo hi mx : Option SV} {r : Res} (h : sliceRowO P hp t lab x lo hi mx = some r) (hvc : vcT r.vc) {vx : Value} {vlo vhi vmx : Option Value} (hx : svRel H ρ x vx)
 (h1 : optRel H ρ lo vlo) (h2 : optRel H ρ hi vhi) (h3 : optRel H ρ mx vmx) :
 OpOk P E H ρ hp N lab w a (do pure (.value (← Instr.sliceAt t vx vlo vhi vmx))) r := by
 unfold sliceRowO at h
 split at h
 case h_2 => cases h
 rename_i l e hu
 split at h
 case h_2 => cases h
 rename_i e' s c xs ro hl
 cases hb : (Nat.beq s (sizeT P e) && Nat.beq c.size s && !Nat.beq s 0) with
 | false => rw [hb] at h; cases h
 | true =>
   rw [hb] at h
   simp only [cond_true] at h
   simp only [Bool.and_eq_true, Bool.not_eq_true'] at hb
   have hs1 : s = P.cellsOf e := Nat.eq_of_beq_eq_true hb.1.1
   have hs2 := Nat.eq_of_beq_eq_true hb.1.2
   have hne : P.cellsOf e ≠ 0 := fun e0 => by rw [hs1, e0] at hb; simp at hb
   obtain ⟨hρ, _⟩ := hx
   obtain ⟨v, g1, g2, g3⟩ := I.row hl
   rw [hρ] at g1
   simp only [Option.some.injEq] at g1
   subst g1
   have hnx : vmx = none ∨ mx ≠ none := by
    cases mx with
    | none => cases vmx with
      | none => exact .inl rfl
      | some u => exact h3.elim
    | some u => exact .inr (by simp)
   split at h
   · rename_i k hlo hhi
     simp only [Option.some.injEq] at h; subst h
     have b1 := bound_of hlo h1
     have b2 := bound_of hhi h2
     obtain ⟨v1, v2⟩ : leP 0 k ∧ k < xs.length := hvc
     unfold leP at v1
     cases vmx with
     | some u => exact h3.elim
     | none =>
     rcases g3 with ⟨_, h0⟩ | ⟨g, cap, cur, f, rfl, hfar, hg, hnc, hcm, hcs, hrow, hro⟩
     · rw [h0] at v2; simp at v2; omega
     · obtain ⟨p1, p2, hrun⟩ := cut_run (P := P) (w := w) (isSlice := true) hnc (lo := some k) (hi := none) rfl (show vcT (some (leP 0 k ∧ leP k (xs.length : Int))) from ⟨v1, by unfold leP; omega⟩) b1 b2
       have hcap : cap ≠ k.toNat := by omega
       refine ⟨.slice (some ⟨g, k.toNat * c.size, none⟩) (xs.length - k.toNat) (cap - k.toNat), w, H, ρ, .inl ?_, Mem.le_refl H, Lab.le_refl ρ, I.later but_le, g, xs.length, cap, cap - k.toNat, hρ, ?_, trivial, by omega, by omega, ?_⟩
       · simp only [Instr.sliceAt, Sem.run_bind, run_underlying hu, Result.andThen_ok, Instr.slice, hrun, cells_info hne, if_neg hcap, Option.map_some, add_at]
         rw [hs2, hs1]
         simp [Sem.run_pure]
       · simp [pathOff]
       · simp only [maxLen] at hcm; unfold LIM; omega
   · rename_i k hlo hhi
     cases ro with
     | true => cases h
     | false =>
     simp only [cond_false, Option.some.injEq] at h; subst h
     have b1 := bound_of hlo h1
     have b2 := bound_of hhi h2
     obtain ⟨v1, v2, v3⟩ : leP 0 k ∧ leP k xs.length ∧ 0 < xs.length := hvc
     unfold leP at v1 v2
     cases vmx with
     | some u => exact h3.elim
     | none =>
     rcases g3 with ⟨_, h0⟩ | ⟨g, cap, cur, f, rfl, hfar, hg, hnc, hcm, hcs, hrow, hro⟩
     · rw [h0] at v3; simp at v3
     · obtain ⟨p1, p2, hrun⟩ := cut_run (P := P) (w := w) (isSlice := true) hnc (lo := none) (hi := some k) rfl (show vcT (some (leP 0 k ∧ leP k (xs.length : Int))) from ⟨v1, v2⟩) b1 b2
       have hk : k.toNat ≤ xs.length := by omega
       have hbase : baseOf ρ l = some g := by simp [baseOf, hρ, blk]
       have hfree : ∀ l', look l' (put l .gone hp) ≠ .gone → baseOf ρ l' ≠ some g := by
        intro l' hll he
        rw [look_put] at hll
        split at hll
        · exact hll rfl
        · rename_i hne'
          exact I.sep l' l g hll (by rw [hl]; simp) hne' he hbase
       have hfr : E.w0.heap.size ≤ g ∨ g ∈ E.own0 := I.fresh l g (by rw [hl]; simp) hbase
       have hlen : (xs.take k.toNat).length = k.toNat := by simp [hk]
       have hll : lab ≠ l := fun e => by
        have := gone_of_none I (I.bound lab hN)
        rw [e, hl] at this; cases this
       have I2 := (I.kill l).label (v := .slice (some ⟨g, 0, none⟩) k.toNat cap) (o := .row e' s c (xs.take k.toNat) false) hN ⟨.slice (some ⟨g, 0, none⟩) k.toNat cap, by simp [setLab], g2, .inr ⟨g, cap, cur, f, by rw [hlen], hfar, hg, by omega, hcm, hcs, (by
        have h4 := (rowRel_take (eltRel_length c) hrow k.toNat).1
        rw [List.take_take, ← g2] at h4
        rw [hlen]
        rwa [Nat.min_eq_left (Nat.mul_le_mul_right _ hk)] at h4), hro⟩⟩ (by
        intro b hb
        simp [blk] at hb
        subst hb
        exact ⟨hfr, hfree⟩)
       refine ⟨.slice (some ⟨g, 0, none⟩) k.toNat cap, w, H, setLab ρ lab (.slice (some ⟨g, 0, none⟩) k.toNat cap), .inl ?_, Mem.le_refl H, setLab_le (I.bound lab hN),
        I2.alike fun l' => ?_, by simp [setLab], _, _, _, rfl⟩
       · simp only [Instr.sliceAt, Sem.run_bind, run_underlying hu, Result.andThen_ok, Instr.slice, hrun, cells_info hne]
         by_cases hc0 : cap = 0
         · simp [hc0]
         · rw [if_neg hc0]
           simp [Sem.run_pure, add_at]
       · simp only [putAll]
         rw [look_put, look_put, look_put, look_put]
         by_cases h5 : l' = l
         · rw [if_pos h5, if_neg (fun e => hll (e.symm.trans h5)), if_pos h5]
         · rw [if_neg h5, if_neg h5]
   · cases h
end Go.Vse
namespace Go.Vse
variable {P : Program} {E : Env} {H : Mem} {ρ ρ' : Lab} {hp : List (Nat × SObj)} {lab : Nat} {N : Nat → Prop} {w : World} {S : SState} {a : Array Value}

theorem zeroCells_rep {c : T} {z : Array Value} (hz : z.toList = zeroL c) (m : Nat) : (Builtin.zeroCells z m).toList = (rep (zeroL c) m).flatten := by
 rw [zeroCells_flat, hz]

theorem clearO_ok (I : MInv E H ρ hp N w) {t ty : TypeId} {x : SV} {r : Res} (h : clearO P hp t x = some r) (hvc : vcT r.vc) {vx : Value} (hx : svRel H ρ x vx) (tys : Array TypeId) (htys : tys = #[t]) :
 OpOk P E H ρ hp N lab w a (do pure (.value (← Builtin.clear_ tys ty #[vx]))) r := by
 subst htys
 unfold clearO at h
 split at h
 case h_2 => cases h
 rename_i l c start len _ e hu
 split at h
 case h_2 => cases h
 rename_i e' s k xs c' hl hc
 split at h
 case isFalse => cases h
 rename_i hck
 subst hck
 cases hb : (Nat.beq c.size c'.size && !Nat.beq c'.size 0) with
 | false => rw [hb] at h; cases h
 | true =>
   rw [hb] at h
   simp only [cond_true, Option.some.injEq] at h; subst h
   simp only [Bool.and_eq_true, Bool.not_eq_true'] at hb
   have hcs := Nat.eq_of_beq_eq_true hb.1
   have hv : start + len ≤ xs.length := hvc
   obtain ⟨b, m, c0, cap, hρ, rfl, _, _, _, _⟩ := hx
   obtain ⟨hsz, rfl, cur, f, hfar, hblk, hle, hmax, hcur, hrow, hro⟩ := I.rowAt hl hρ
   obtain ⟨⟨i, z, hi, hz, hzc, his⟩, _⟩ := code_sound hc
   have hzl := zeroCells_rep hzc len
   have hzr := rep_flat (dflt_rel H c') len
   have hzn : ((rep (zeroL c') len).flatten).length = len * c'.size := by
    have := rowRel_length (eltRel_length c') hzr
    simpa using this
   have hcc : xs.length * s ≤ cur.size := by rw [hcur]; exact Nat.mul_le_mul_right _ hle
   have hst := run_store_far (P := P) b (start * c.size) e' f (rep (zeroL c') len).flatten 0 cur w hblk hfar (by
    rw [hzn, hcs, Nat.add_zero, ← Nat.add_mul]
    refine Nat.le_trans ?_ hcc
    rw [hsz]; exact Nat.mul_le_mul_right _ hv) (row_one hzr)
   have hrun : (Builtin.clear_ #[t] ty #[.slice (some ⟨b, pathOff [] + 0 + start * c.size, none⟩) len cap]).run P w = .ok (.tuple #[]) (w.setRow b (cur.toList.take (start * c.size) ++ (rep (zeroL c') len).flatten ++ cur.toList.drop (start * c.size + len * c'.size)).toArray) := by
    simp only [Nat.add_zero, hzn] at hst
    cases len with
    | zero =>
      simp only [rep, List.flatten_nil, List.append_nil, Nat.zero_mul, Nat.add_zero, List.take_append_drop, Array.toArray_toList]
      rw [setRow_self w b cur e' f hblk]
      simp [Builtin.clear_, run_underlying hu]
    | succ n =>
      simp only [Builtin.clear_, pathOff, Nat.add_zero, Nat.zero_add]
      simp [run_underlying hu, zeroValue, typeInfo, hi, hz, hzl, hst]
   have htk := hrow
   have h1 := (rowRel_take (eltRel_length c') hrow start).1
   have h2 := (rowRel_take (eltRel_length c') hrow (start + len)).2
   rw [← hsz] at h1 h2
   rw [List.take_take, Nat.min_eq_left (Nat.mul_le_mul_right _ (by omega))] at h1
   rw [List.drop_take] at h2
   have hnew : (cur.toList.take (start * c.size) ++ (rep (zeroL c') len).flatten ++ cur.toList.drop (start * c.size + len * c'.size)).take (xs.length * s) =
    cur.toList.take (start * s) ++ ((rep (zeroL c') len).flatten ++ (cur.toList.drop ((start + len) * s)).take (xs.length * s - (start + len) * s)) := by
    rw [hcs, ← hsz, List.append_assoc, Nat.add_mul]
    have l1 : (cur.toList.take (start * s)).length = start * s := by
     rw [List.length_take, Nat.min_eq_left]
     rw [Array.length_toList]
     exact Nat.le_trans (Nat.mul_le_mul_right _ (by omega)) hcc
    have l3 : start * s + len * s ≤ xs.length * s := by rw [← Nat.add_mul]; exact Nat.mul_le_mul_right _ hv
    rw [List.take_append, l1, List.take_of_length_le (by rw [l1]; omega)]
    congr 1
    rw [List.take_append, List.take_of_length_le (by rw [hzn, ← hsz]; omega), hzn, ← hsz]
    congr 2
    omega
   generalize hN' : (cur.toList.take (start * c.size) ++ (rep (zeroL c') len).flatten ++ cur.toList.drop (start * c.size + len * c'.size)) = new at hrun hnew
   have hns : new.toArray.size = cur.size := by
    rw [← hN', hcs, List.size_toArray]
    simp only [List.length_append, List.length_take, List.length_drop, Array.length_toList, hzn]
    have l3 : start * c'.size + len * c'.size ≤ cur.size := by
     rw [← Nat.add_mul, ← hsz]; exact Nat.le_trans (Nat.mul_le_mul_right _ hv) hcc
    omega
   have hlen : (xs.take start ++ (List.replicate len c'.dflt ++ xs.drop (start + len))).length = xs.length := by simp; omega
   refine ⟨.tuple #[], _, H, ρ, .inl (by rw [Sem.run_bind, hrun]; rfl), Mem.le_refl H, Lab.le_refl ρ, (I.rewrite (l := l) (o' := .row e' s c' (xs.take start ++ (List.replicate len c'.dflt ++ xs.drop (start + len))) false) (c' := new.toArray) (by rw [hl]; simp) (b := b) (by simp [baseOf, hρ, blk]) hblk (hro rfl)
    ⟨_, hρ, hsz, .inr ⟨b, c0, _, f, by rw [hlen], by rw [hns]; exact hfar, setRow_heap w b cur _ e' f hblk, by omega, hmax, by rw [hns]; exact hcur, ?_, hro⟩⟩).later but_le, [], rfl, rfl⟩
   rw [hlen]
   show rowRel _ _ (new.take (xs.length * s))
   rw [hnew]
   exact rowRel_append.2 ⟨_, _, rfl, h1, rowRel_append.2 ⟨_, _, rfl, hzr, h2⟩⟩

theorem allocXO_ok (I : MInv E H ρ hp N w) (hN : N lab) {t : TypeId} {r : Res} (h : allocXO P t lab = some r) :
 OpOk P E H ρ hp N lab w a (do Pure.pure (.value (← Instr.alloc t true (.tuple #[])))) r := by
 unfold allocXO at h
 split at h
 case h_2 => cases h
 rename_i n e hu
 split at h
 case h_2 => cases h
 rename_i c hc
 cases hb : (zeroIs P t (zeroL (.arr n (.slc c))) && Nat.ble n 8) with
 | false => rw [hb] at h; cases h
 | true =>
   rw [hb] at h
   simp only [cond_true, Option.some.injEq] at h; subst h
   simp only [Bool.and_eq_true] at hb
   obtain ⟨z, hz, hzc, _⟩ := run_zero hb.1
   have hrep : ∀ n, scsRel H ρ (rep (.run (.one (.nils c))) n) (rep (zeroL (.slc c)) n).flatten := by
    intro n
    induction n with
    | zero => rfl
    | succ n ih => exact ⟨[.slice none 0 0], _, by simp [rep, zeroL], ⟨_, rfl, rfl⟩, ih⟩
   obtain ⟨I', hle⟩ := I.alloc (cs := rep (.run (.one (.nils c))) n) (c := z.cells) hN t (by rw [hzc]; exact hrep n)
   refine ⟨.pointer (some ⟨w.heap.size, 0, none⟩), _, H, _, .inl ?_, Mem.le_refl H, hle, I', ?_⟩
   · simp [Instr.alloc, hz, newVar, newRow]
   · exact ⟨w.heap.size, by simp [setLab], rfl, trivial⟩
end Go.Vse
