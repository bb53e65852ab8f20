/- '==' of arrays and structs. -/
import Derived.Test.YtglkhgodeghnlaaWVseOpsB
import Derived.Laws.StructEq
import Derived.ChangeKeysEq
namespace Go.Vse
variable {P : Program} {w : World} {H : Mem} {ρ : Lab} {a : Array Value}

theorem info_of {t : TypeId} {d : TypeDesc} (h : P.underlying t = some d) : ∃ i, P.info? t = some i ∧ P.cellsOf t = i.size := by
 unfold Program.underlying at h
 cases hi : P.info? t with
 | none => rw [hi] at h; simp at h
 | some i => exact ⟨i, rfl, by simp [Program.cellsOf, hi]⟩
theorem run_sizeOf' {t : TypeId} {d : TypeDesc} (h : P.underlying t = some d) (w : World) : (sizeOf t).run P w = .ok (P.cellsOf t) w := by
 obtain ⟨i, hi, hs⟩ := info_of h
 simp [sizeOf, typeInfo, hi, hs]

def valOf (P : Program) (t : TypeId) (vs : List Value) : Value :=
 match isAggT P t with
 | some true => .agg vs.toArray
 | _ => vs.getD 0 undef

theorem run_isAgg' {t : TypeId} {b : Bool} (h : isAggT P t = some b) (w : World) : (isAgg t).run P w = .ok b w := by
 unfold isAggT at h
 split at h <;> simp only [Option.some.injEq, reduceCtorEq] at h <;> subst h
 · rename_i fs hu; simp [isAgg, run_underlying hu]
 · rename_i n e hu; simp [isAgg, run_underlying hu]
 · rename_i d h1 h2 hu
   cases d <;> simp [isAgg, run_underlying hu]
   · exact (h2 _ _ rfl).elim
   · exact (h1 _ rfl).elim
theorem isAgg_under {t : TypeId} {b : Bool} (h : isAggT P t = some b) : ∃ d, P.underlying t = some d := by
 unfold isAggT at h
 split at h <;> first | exact ⟨_, ‹_›⟩ | simp at h

theorem run_part {t : TypeId} {b : Bool} (h : isAggT P t = some b) {A v X : List Value} {off : Nat} (hA : A.length = off) (hv : v.length = P.cellsOf t) (h1 : b = false → v.length = 1) :
 (part t (A ++ (v ++ X)).toArray off).run P w = .ok (valOf P t v) w := by
 obtain ⟨d, hd⟩ := isAgg_under h
 unfold part
 rw [Sem.run_bind, run_isAgg' h]
 simp only [Result.andThen_ok]
 cases b with
 | true =>
   simp only [if_true, Sem.run_bind, run_sizeOf' hd, Result.andThen_ok, Sem.run_pure, valOf, h]
   congr 2
   subst hA
   rw [← hv]
   apply Array.ext'
   simp
 | false =>
   have hl := h1 rfl
   obtain ⟨x, rfl⟩ : ∃ x, v = [x] := by
    match v, hl with
    | [x], _ => exact ⟨x, rfl⟩
   have : (A ++ ([x] ++ X)).toArray[off]? = some x := by subst hA; simp
   simp only [Bool.false_eq_true, if_false]
   rw [this]
   simp [valOf, h]

theorem rowRel_one {α : Type} {R : α → List Value → Prop} {f : α → Value} (hR : ∀ x cs, R x cs → cs = [f x]) : ∀ {xs : List α} {cs : List Value}, rowRel R xs cs → cs = xs.map f
 | [], _, h => by simpa [rowRel] using h
 | x :: xs, _, h => by
   obtain ⟨a, b, rfl, h1, h2⟩ := h
   rw [hR x a h1, rowRel_one hR h2]; rfl

def cellOf : (t : T) → t.den → Value
 | .u8, x => .int .u8 (x.toNat : Int)
 | .u16, x => .int .u16 (x.toNat : Int)
 | .u32, x => .int .u32 (x.toNat : Int)
 | .u64, x => .int .u64 (x.toNat : Int)
 | .i64, n => .int .i64 n
 | .bool, b => .bool b
 | .str, l => .string (toBA l)
 | _, _ => undef

theorem scalar_cell {e : TypeId} {c : T} (h : scalarT P e c = true) : ∀ (x : c.den) cs, eltRel H c x cs → cs = [cellOf c x] := by
 intro x cs hx
 unfold scalarT at h
 split at h <;> first | (simp at h; done) | skip
 all_goals first | exact hx | exact hx.1
theorem scalar_eq {e : TypeId} {c : T} (h : scalarT P e c = true) (D : Nat) (x y : c.den) : (Op.equalIn (D + 1) e (cellOf c x) (cellOf c y)).run P w = .ok (haveI := c.deq; decide (x = y)) w := by
 have hb : ∀ (n : Nat) (x y : BitVec n), ((x.toNat : Int) == y.toNat) = decide (x = y) := by
  intro n x y
  rw [Bool.eq_iff_iff, beq_iff_eq, decide_eq_true_iff]
  exact ⟨fun e => BitVec.eq_of_toNat_eq (by omega), fun e => by rw [e]⟩
 unfold scalarT at h
 split at h <;> first | (simp at h; done) | skip
 · rename_i hu; rw [show cellOf .u8 x = .int .u8 (BitVec.toNat x : Int) from rfl, show cellOf .u8 y = .int .u8 (BitVec.toNat y : Int) from rfl, run_equalIn_int w D e .u8 .u8 _ _ hu]; congr 1; rw [hb 8 x y]; congr
 · rename_i hu; rw [show cellOf .u16 x = .int .u16 (BitVec.toNat x : Int) from rfl, show cellOf .u16 y = .int .u16 (BitVec.toNat y : Int) from rfl, run_equalIn_int w D e .u16 .u16 _ _ hu]; congr 1; rw [hb 16 x y]; congr
 · rename_i hu; rw [show cellOf .u32 x = .int .u32 (BitVec.toNat x : Int) from rfl, show cellOf .u32 y = .int .u32 (BitVec.toNat y : Int) from rfl, run_equalIn_int w D e .u32 .u32 _ _ hu]; congr 1; rw [hb 32 x y]; congr
 · rename_i hu; rw [show cellOf .u64 x = .int .u64 (BitVec.toNat x : Int) from rfl, show cellOf .u64 y = .int .u64 (BitVec.toNat y : Int) from rfl, run_equalIn_int w D e .u64 .u64 _ _ hu]; congr 1; rw [hb 64 x y]; congr
 · rename_i hu; rw [show cellOf .i64 x = .int .i64 x from rfl, show cellOf .i64 y = .int .i64 y from rfl, run_equalIn_int w D e .i64 .i64 _ _ hu]; rfl
 · rename_i hu; rw [show cellOf .bool x = .bool x from rfl, show cellOf .bool y = .bool y from rfl, run_equalIn_bool' w D e _ _ hu]; cases x <;> cases y <;> rfl
 · rename_i hu
   rw [show cellOf .str x = .string (toBA x) from rfl, show cellOf .str y = .string (toBA y) from rfl, run_equalIn_string w D e _ _ hu, toBA_list, toBA_list]
   congr 1
   rw [Bool.eq_iff_iff, beq_iff_eq, decide_eq_true_iff]
   exact map_ofBV_inj

theorem eqItems_cells {e : TypeId} {c : T} (hc : scalarT P e c = true) (hs : P.cellsOf e = 1) (D : Nat) (xs ys : List c.den) (hl : xs.length = ys.length) (A B : List Value) (hA : A.length = B.length) (k : Nat) (hk : k = A.length) :
 (Op.eqItems (D + 1) e 1 (A ++ xs.map (cellOf c)).toArray (B ++ ys.map (cellOf c)).toArray (List.range' k xs.length)).run P w = .ok (eqL c xs ys) w := by
 have hue : ∃ d, P.underlying e = some d := by
  unfold scalarT at hc
  split at hc <;> first | exact ⟨_, ‹_›⟩ | simp at hc
 have hagg : isAggT P e = some false := by
  unfold scalarT at hc
  split at hc <;> first | (simp at hc; done) | (rename_i hq; unfold isAggT; rw [hq])
 induction xs generalizing ys A B k with
 | nil =>
   have : ys = [] := List.eq_nil_of_length_eq_zero (by simpa using hl.symm)
   subst this
   simp [Op.eqItems, eqL]
 | cons x xs ih =>
   cases ys with
   | nil => simp at hl
   | cons y ys =>
     have h1 := run_part (P := P) (w := w) hagg (A := A) (v := [cellOf c x]) (X := xs.map (cellOf c)) (off := k * 1) (by omega) (by simp [hs]) (fun _ => rfl)
     have h2 := run_part (P := P) (w := w) hagg (A := B) (v := [cellOf c y]) (X := ys.map (cellOf c)) (off := k * 1) (by omega) (by simp [hs]) (fun _ => rfl)
     simp only [valOf, hagg, List.getD_cons_zero, List.singleton_append] at h1 h2
     simp only [List.length_cons, List.range'_succ, Op.eqItems, List.map_cons, Sem.run_bind, h1, h2, Result.andThen_ok, scalar_eq hc D x y]
     by_cases hxy : x = y
     · subst hxy
       have h3 := ih ys (by simpa using hl) (A ++ [cellOf c x]) (B ++ [cellOf c x]) (by simp [hA]) (k + 1) (by simp [hk])
       simp only [decide_true, Bool.not_true, Bool.false_eq_true, if_false]
       simp only [List.append_assoc, List.singleton_append] at h3
       rw [h3]
       simp [eqL]
     · simp [hxy, eqL]

theorem array_eq {t e : TypeId} {n : Nat} {c : T} (hu : P.underlying t = some (.array n e)) (hc : scalarT P e c = true) (hs : P.cellsOf e = 1) (D : Nat) (xs ys : List c.den) (hx : xs.length = n) (hy : ys.length = n) :
 (Op.equalIn (D + 2) t (.agg (xs.map (cellOf c)).toArray) (.agg (ys.map (cellOf c)).toArray)).run P w = .ok (eqL c xs ys) w := by
 have hue : ∃ d, P.underlying e = some d := by
  unfold scalarT at hc
  split at hc <;> first | exact ⟨_, ‹_›⟩ | simp at hc
 obtain ⟨d, hd⟩ := hue
 obtain ⟨i, hi, _⟩ := info_of hd
 rw [run_equalIn_array w (D + 1) _ _ hu hi, hs, List.range_eq_range', ← hx]
 simpa using eqItems_cells (P := P) (w := w) hc hs D xs ys (by omega) [] [] rfl 0 rfl

theorem eqDV_sound {t : TypeId} {x y : DV} (hx : dvOf (scalarOf P t) x = true) (hy : dvOf (scalarOf P t) y = true) {b : Bool} (h : eqDV x y = some b) {v u : Value} (hv : dvRel H x v) (hu : dvRel H y u) (D : Nat) :
 (Op.equalIn (D + 1) t v u).run P w = .ok b w := by
 have hb : ∀ (n : Nat) (x y : BitVec n), ((x.toNat : Int) == y.toNat) = (x == y) := by
  intro n x y
  rw [Bool.eq_iff_iff, beq_iff_eq, beq_iff_eq]
  exact ⟨fun e => BitVec.eq_of_toNat_eq (by omega), fun e => by rw [e]⟩
 unfold scalarOf at hx hy
 split at hx <;> rename_i hq <;> simp only [hq] at hy <;> cases x <;> first | (simp [dvOf] at hx; done) | skip
 all_goals cases y <;> first | (simp [dvOf] at hy; done) | skip
 all_goals simp only [eqDV, Option.some.injEq] at h
 all_goals subst h
 · rw [show v = _ from hv, show u = _ from hu, run_equalIn_int w D t .u8 .u8 _ _ hq, hb]
 · rw [show v = _ from hv, show u = _ from hu, run_equalIn_int w D t .u16 .u16 _ _ hq, hb]
 · rw [show v = _ from hv, show u = _ from hu, run_equalIn_int w D t .u32 .u32 _ _ hq, hb]
 · rw [show v = _ from hv, show u = _ from hu, run_equalIn_int w D t .u64 .u64 _ _ hq, hb]
 · rw [hv.1, hu.1, run_equalIn_int w D t .i64 .i64 _ _ hq]
 · rw [show v = _ from hv, show u = _ from hu, run_equalIn_bool' w D t _ _ hq]
 · rw [hv.1, hu.1, run_equalIn_string w D t _ _ hq, toBA_list, toBA_list]
   congr 1
   rw [Bool.eq_iff_iff, beq_iff_eq, beq_iff_eq]
   exact map_ofBV_inj

def TakeOk (P : Program) (w : World) (H : Mem) (ρ : Lab) (k : Nat) (t : TypeId) (cs ds : List SC) (x : Eqd) : Prop :=
 ∀ vs us, scsRel H ρ cs vs → scsRel H ρ ds us → ∃ v1 v2 u1 u2, vs = v1 ++ v2 ∧ us = u1 ++ u2 ∧ scsRel H ρ x.cs v2 ∧ scsRel H ρ x.ds u2 ∧
  v1.length = P.cellsOf t ∧ u1.length = P.cellsOf t ∧ (∃ b, isAggT P t = some b ∧ (b = false → v1.length = 1)) ∧
  ∀ D, k ≤ D → (Op.equalIn (D + 1) t (valOf P t v1) (valOf P t u1)).run P w = .ok x.b w

theorem eqFs_sound {k : Nat} {f : TypeId → List SC → List SC → Option Eqd} (hf : ∀ t cs ds x, f t cs ds = some x → TakeOk P w H ρ k t cs ds x) :
 ∀ (fs : List Field) (off : Nat) (cs ds : List SC) (x : Eqd), eqFs f P off fs cs ds = some x → ∀ vs us, scsRel H ρ cs vs → scsRel H ρ ds us →
 ∃ v1 v2 u1 u2, vs = v1 ++ v2 ∧ us = u1 ++ u2 ∧ scsRel H ρ x.cs v2 ∧ scsRel H ρ x.ds u2 ∧ v1.length = sumF P fs ∧ u1.length = sumF P fs ∧
  ∀ D, k ≤ D → ∀ A B X Y : List Value, A.length = off → B.length = off → (Op.eqFields (D + 1) (A ++ (v1 ++ X)).toArray (B ++ (u1 ++ Y)).toArray fs).run P w = .ok x.b w := by
 intro fs
 induction fs with
 | nil => intro off cs ds x h; simp [eqFs] at h
 | cons fd r ih =>
   intro off cs ds x h vs us hv hu
   have one : ∀ x1, (fd.name == "_" || !Nat.beq fd.offset off) = false → f fd.type cs ds = some x1 → ∃ v1 v2 u1 u2, vs = v1 ++ v2 ∧ us = u1 ++ u2 ∧ scsRel H ρ x1.cs v2 ∧ scsRel H ρ x1.ds u2 ∧
    v1.length = P.cellsOf fd.type ∧ u1.length = P.cellsOf fd.type ∧ ∀ D, k ≤ D → ∀ A B X Y : List Value, A.length = off → B.length = off →
     ∀ (K : Sem Bool), ((do let a ← part fd.type (A ++ (v1 ++ X)).toArray fd.offset; let b ← part fd.type (B ++ (u1 ++ Y)).toArray fd.offset; let r ← Op.equalIn (D + 1) fd.type a b; if (!r) = true then pure false else K) : Sem Bool).run P w =
      (if x1.b then K else pure false).run P w := by
    intro x1 hc h1
    obtain ⟨v1, v2, u1, u2, e1, e2, r1, r2, l1, l2, ⟨b, hagg, hone⟩, heq⟩ := hf _ _ _ _ h1 vs us hv hu
    refine ⟨v1, v2, u1, u2, e1, e2, r1, r2, l1, l2, fun D hD A B X Y hA hB K => ?_⟩
    simp only [Bool.or_eq_false_iff, Bool.not_eq_false'] at hc
    have ho := Nat.eq_of_beq_eq_true hc.2
    have p1 := run_part (P := P) (w := w) hagg (A := A) (v := v1) (X := X) (off := fd.offset) (by omega) l1 hone
    have p2 := run_part (P := P) (w := w) hagg (A := B) (v := u1) (X := Y) (off := fd.offset) (by omega) l2 (fun hb => by rw [l2, ← l1]; exact hone hb)
    simp only [Sem.run_bind, p1, p2, heq D hD, Result.andThen_ok]
    cases x1.b <;> simp
   have hname : (fd.name == "_" || !Nat.beq fd.offset off) = false → fd.name ≠ "_" := by
    intro hc; simp at hc; exact hc.1
   cases r with
   | nil =>
     simp only [eqFs] at h
     cases hc : (fd.name == "_" || !Nat.beq fd.offset off) with
     | true => rw [hc] at h; simp at h
     | false =>
       rw [hc] at h; simp only [cond_false] at h
       obtain ⟨v1, v2, u1, u2, e1, e2, r1, r2, l1, l2, hrun⟩ := one x hc h
       refine ⟨v1, v2, u1, u2, e1, e2, r1, r2, by simp [sumF, l1], by simp [sumF, l2], fun D hD A B X Y hA hB => ?_⟩
       simp only [Op.eqFields]
       rw [if_pos (hname hc), hrun D hD A B X Y hA hB (pure true)]
       cases x.b <;> rfl
   | cons fd2 r2 =>
     simp only [eqFs] at h
     cases hc : (fd.name == "_" || !Nat.beq fd.offset off) with
     | true => rw [hc] at h; simp at h
     | false =>
       rw [hc] at h; simp only [cond_false] at h
       cases h1 : f fd.type cs ds with
       | none => rw [h1] at h; simp at h
       | some x1 =>
         rw [h1] at h; simp only at h
         cases h2 : eqFs f P (off + P.cellsOf fd.type) (fd2 :: r2) x1.cs x1.ds with
         | none => rw [h2] at h; simp at h
         | some y =>
           rw [h2] at h; simp at h; subst h
           obtain ⟨v1, v2, u1, u2, e1, e2, r1, r2', l1, l2, hrun⟩ := one x1 hc h1
           obtain ⟨v3, v4, u3, u4, e3, e4, r3, r4, l3, l4, hrun2⟩ := ih _ _ _ _ h2 v2 u2 r1 r2'
           subst e1; subst e2; subst e3; subst e4
           refine ⟨v1 ++ v3, v4, u1 ++ u3, u4, by simp, by simp, r3, r4, by simp only [sumF, List.length_append, l1, l3], by simp only [sumF, List.length_append, l2, l4], fun D hD A B X Y hA hB => ?_⟩
           have hr1 := hrun D hD A B (v3 ++ X) (u3 ++ Y) hA hB (Op.eqFields (D + 1) (A ++ (v1 ++ (v3 ++ X))).toArray (B ++ (u1 ++ (u3 ++ Y))).toArray (fd2 :: r2))
           have hr2 := hrun2 D hD (A ++ v1) (B ++ u1) X Y (by simp [hA, l1]) (by simp [hB, l2])
           simp only [List.append_assoc] at hr2 ⊢
           rw [Op.eqFields, if_pos (hname hc), hr1]
           cases x1.b with
           | true => simpa using hr2
           | false => simp

theorem eqTake_sound : ∀ (k : Nat) (t : TypeId) (cs ds : List SC) (x : Eqd), eqTake P k t cs ds = some x → TakeOk P w H ρ k t cs ds x := by
 intro k
 induction k with
 | zero => intro t cs ds x h; simp [eqTake] at h
 | succ k ih =>
   intro t cs ds x h
   simp only [eqTake] at h
   split at h
   · rename_i n e hu
     split at h
     · rename_i c m xs r c' m' ys s
       split at h
       · rename_i hcc
         subst hcc
         cases hcond : (scalarT P e c' && Nat.beq m n && Nat.beq m' n && Nat.beq (P.cellsOf e) 1 && Nat.beq (P.cellsOf t) n) with
         | false => rw [hcond] at h; simp at h
         | true =>
           rw [hcond] at h; simp at h; subst h
           simp only [Bool.and_eq_true] at hcond
           obtain ⟨⟨⟨⟨hsc, hm⟩, hm'⟩, hce⟩, hct⟩ := hcond
           have hm := Nat.eq_of_beq_eq_true hm
           have hm' := Nat.eq_of_beq_eq_true hm'
           have hce := Nat.eq_of_beq_eq_true hce
           have hct := Nat.eq_of_beq_eq_true hct
           subst hm
           intro vs us ⟨v1, v2, e1, ⟨hl1, hr1⟩, hr2⟩ ⟨u1, u2, e2, ⟨hl2, hr3⟩, hr4⟩
           have hv1 := rowRel_one (scalar_cell hsc) hr1
           have hu1 := rowRel_one (scalar_cell hsc) hr3
           refine ⟨v1, v2, u1, u2, e1, e2, hr2, hr4, by rw [hv1, hct]; simpa using hl1, by rw [hu1, hct]; simpa using hl2.trans hm', ⟨true, by unfold isAggT; rw [hu], by simp⟩, fun D hD => ?_⟩
           obtain ⟨D', rfl⟩ : ∃ D', D = D' + 1 := ⟨D - 1, by omega⟩
           have hagg : isAggT P t = some true := by unfold isAggT; rw [hu]
           simp only [valOf, hagg, hv1, hu1]
           exact array_eq hu hsc hce D' xs ys hl1 (hl2.trans hm')
       · simp at h
     · simp at h
   · rename_i fs hu
     cases hc : (P.stoodInHeld t || !Nat.beq (sumF P fs.toList) (P.cellsOf t)) with
     | true => rw [hc] at h; simp at h
     | false =>
       rw [hc] at h; simp only [cond_false] at h
       simp only [Bool.or_eq_false_iff, Bool.not_eq_false'] at hc
       have hsz := Nat.eq_of_beq_eq_true hc.2
       intro vs us hv hu'
       obtain ⟨v1, v2, u1, u2, e1, e2, r1, r2, l1, l2, hrun⟩ := eqFs_sound ih fs.toList 0 cs ds x h vs us hv hu'
       have hagg : isAggT P t = some true := by unfold isAggT; rw [hu]
       refine ⟨v1, v2, u1, u2, e1, e2, r1, r2, by omega, by omega, ⟨true, hagg, by simp⟩, fun D hD => ?_⟩
       obtain ⟨D', rfl⟩ : ∃ D', D = D' + 1 := ⟨D - 1, by omega⟩
       have hfo : P.fieldsOf t = fs := by simp [Program.fieldsOf, hu]
       simp only [valOf, hagg]
       rw [run_equalIn_struct w (D' + 1) t _ _ (by rw [hfo]; exact hu) hc.1, hfo]
       simpa using hrun D' (by omega) [] [] [] [] rfl rfl
   · rename_i d h1 h2 hu
     split at h
     · rename_i a r b s
       cases hc : (dvOf (scalarOf P t) a && dvOf (scalarOf P t) b && Nat.beq (P.cellsOf t) 1) with
       | false => rw [hc] at h; simp at h
       | true =>
         rw [hc] at h; simp only [cond_true] at h
         simp only [Bool.and_eq_true] at hc
         split at h
         · rename_i q hq
           simp at h; subst h
           have hct := Nat.eq_of_beq_eq_true hc.2
           intro vs us ⟨v1, v2, e1, ⟨v, hv1, hdv⟩, hr2⟩ ⟨u1, u2, e2, ⟨u, hu1, hdu⟩, hr4⟩
           have hagg : isAggT P t = some false := by
            unfold isAggT
            rw [hu]
            cases d <;> first | rfl | exact (h2 _ rfl).elim | exact (h1 _ _ rfl).elim
           subst hv1; subst hu1
           refine ⟨[v], v2, [u], u2, e1, e2, hr2, hr4, by simp [hct], by simp [hct], ⟨false, hagg, by simp⟩, fun D hD => ?_⟩
           simp only [valOf, hagg, List.getD_cons_zero]
           exact eqDV_sound hc.1.1 hc.1.2 hq hdv hdu D
         · simp at h
     · simp at h
   · simp at h

theorem eqAgg_sound {t : TypeId} {cs ds : List SC} {b : Bool} (h : eqAgg P t cs ds = some b) {vs us : List Value} (hv : scsRel H ρ cs vs) (hu : scsRel H ρ ds us) :
 P.eqGuardType P.depth t = false ∧ (Op.equalIn 10000 t (.agg vs.toArray) (.agg us.toArray)).run P w = .ok b w := by
 unfold eqAgg at h
 cases hg : P.eqGuardType P.depth t with
 | true => rw [hg] at h; simp at h
 | false =>
   rw [hg] at h; simp only [cond_false] at h
   split at h
   · rename_i b' ha heq
     simp at h; subst h
     obtain ⟨v1, v2, u1, u2, rfl, rfl, r1, r2, l1, l2, _, hrun⟩ := eqTake_sound (P := P) (w := w) (H := H) (ρ := ρ) _ _ _ _ _ heq _ _ hv hu
     simp only [scsRel] at r1 r2
     subst r1; subst r2
     refine ⟨rfl, ?_⟩
     have := hrun 9999 (by decide)
     simpa [valOf, ha] using this
   · simp at h

end Go.Vse
