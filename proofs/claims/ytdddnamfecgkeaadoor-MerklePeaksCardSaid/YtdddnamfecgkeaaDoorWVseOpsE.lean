/- Making, storing, cutting. -/
import Derived.Test.YtdddnamfecgkeaaDoorWVseOpsD
import Derived.Laws.CopyOwn
namespace Go.Vse
variable {P : Program} {E : Env} {H : Mem} {ρ : Lab} {hp : List (Nat × SObj)} {lab : Nat} {N : Nat → Prop} {w : World} {a : Array Value}

def OpOk (P : Program) (E : Env) (H : Mem) (ρ : Lab) (hp : List (Nat × SObj)) (N : Nat → Prop) (lab : Nat) (w : World) (a : Array Value) (x : Sem Next) (r : Res) : Prop :=
 ∃ v w' H' ρ', (x.run P w = .ok (.value v) w' ∨ (x.run P w = .ok .skip w' ∧ v = undef)) ∧ H.le H' ∧ ρ.le ρ' ∧ MInv E H' ρ' (putAll hp r.upd) (but N lab) w' ∧ slRel H' ρ' a r.out v

theorem OpOk.pure (I : MInv E H ρ hp N w) {s : Sem Value} {r : Res} (h : r.upd = [] ∧ ∃ v, s.run P w = .ok v w ∧ slRel H ρ a r.out v) :
 OpOk P E H ρ hp N lab w a (do Pure.pure (.value (← s))) r := by
 obtain ⟨hu, v, hr, hs⟩ := h
 exact ⟨v, w, H, ρ, .inl (by simp [hr]), Mem.le_refl H, Lab.le_refl ρ, by rw [hu]; exact I.later but_le, hs⟩

theorem eqV_eq {x y : Value} (h : eqV x y = true) : x = y := by
 unfold eqV at h
 split at h <;> simp_all
 · exact WideShapes.bytes_inj (by simpa using h)
 · rw [noL_eq h.1.1.1.2, noL_eq h.1.1.2, noL_eq h.1.2, noL_eq h.2]; exact ⟨rfl, rfl⟩
theorem eqVs_eq : ∀ {x y : List Value}, eqVs x y = true → x = y
 | [], [], _ => rfl
 | a :: r, b :: s, h => by
   simp only [eqVs, Bool.and_eq_true] at h
   rw [eqV_eq h.1, eqVs_eq h.2]
 | [], _ :: _, h => by simp [eqVs] at h
 | _ :: _, [], h => by simp [eqVs] at h
theorem zeroIs_sound {t : TypeId} {l : List Value} (h : zeroIs P t l = true) : ∃ i z, P.info? t = some i ∧ i.zero = some z ∧ z.cells.toList = l ∧ i.size = l.length := by
 unfold zeroIs at h
 split at h
 · rename_i i hi
   split at h
   · rename_i z hz
     simp only [Bool.and_eq_true] at h
     exact ⟨i, z, hi, hz, eqVs_eq h.2, Nat.eq_of_beq_eq_true h.1⟩
   · simp at h
 · simp at h
theorem run_zero {t : TypeId} {l : List Value} (h : zeroIs P t l = true) : ∃ z, (∀ w, (zeroValue t).run P w = .ok z w) ∧ z.cells.toList = l ∧ P.cellsOf t = l.length := by
 obtain ⟨i, z, hi, hz, hc, hs⟩ := zeroIs_sound h
 exact ⟨z, fun w => by simp [zeroValue, typeInfo, hi, hz], hc, by simp [Program.cellsOf, hi, hs]⟩

theorem rep_flat {α : Type} {R : α → List Value → Prop} {x : α} {c : List Value} (h : R x c) : ∀ n, rowRel R (List.replicate n x) (rep c n).flatten
 | 0 => by simp [rep, rowRel]
 | n + 1 => by
   simp only [rep, List.replicate_succ, List.flatten_cons]
   exact ⟨_, _, rfl, h, rep_flat h n⟩
theorem dflt_rel (H : Mem) : ∀ c : T, eltRel H c c.dflt (zeroL c)
 | .u8 => rfl
 | .u16 => rfl
 | .u32 => rfl
 | .u64 => rfl
 | .i64 => ⟨rfl, by unfold inI64 T.dflt; omega⟩
 | .bool => rfl
 | .str => ⟨rfl, by simp [T.dflt]⟩
 | .unit => rfl
 | .arr n t => ⟨by simp [T.dflt], rep_flat (dflt_rel H t) n⟩
 | .slc t => ⟨_, rfl, by simp [T.dflt, LIM], .inl ⟨rfl, .inl rfl⟩⟩
 | .pair a b => ⟨_, _, rfl, dflt_rel H a, dflt_rel H b⟩
theorem scalarZero_rel (H : Mem) (ρ : Lab) : ∀ c : T, scRel H ρ (scalarZero c) (zeroL c)
 | .u8 => ⟨_, rfl, rfl⟩
 | .u16 => ⟨_, rfl, rfl⟩
 | .u32 => ⟨_, rfl, rfl⟩
 | .u64 => ⟨_, rfl, rfl⟩
 | .i64 => ⟨_, rfl, rfl, by unfold inI64; omega⟩
 | .bool => ⟨_, rfl, rfl⟩
 | .str => ⟨_, rfl, rfl, by simp⟩
 | .unit => ⟨rfl, rfl⟩
 | .arr n t => ⟨by simp, rep_flat (dflt_rel H t) n⟩
 | .slc t => ⟨_, rfl, rfl⟩
 | .pair a b => ⟨rfl, _, [], (List.append_nil _).symm, ⟨_, _, rfl, dflt_rel H a, dflt_rel H b⟩, rfl⟩
theorem zeros_rel (H : Mem) (ρ : Lab) : ∀ (l : List Leaf), rawOk l = true → scsRel H ρ (mapL Leaf.zero l) (mapL Leaf.zeroL l).flatten
 | [], _ => rfl
 | .dat c :: r, h => ⟨_, _, rfl, scalarZero_rel H ρ c, zeros_rel H ρ r h⟩
 | .raw v :: r, h => by
   simp only [rawOk, Bool.and_eq_true] at h
   exact ⟨_, _, rfl, ⟨v, rfl, rfl, h.1⟩, zeros_rel H ρ r h.2⟩

theorem zeros_sound {t : TypeId} {cs : List SC} (h : zeros P t = some cs) (H : Mem) (ρ : Lab) :
 ∃ z, (∀ w, (zeroValue t).run P w = .ok z w) ∧ scsRel H ρ cs z.cells.toList ∧ P.cellsOf t = z.cells.size := by
 unfold zeros at h
 split at h
 · rename_i l hl
   cases hc : (zeroIs P t (mapL Leaf.zeroL l).flatten && rawOk l) with
   | false => rw [hc] at h; simp at h
   | true =>
     rw [hc] at h; simp at h; subst h
     simp only [Bool.and_eq_true] at hc
     obtain ⟨z, hz, hcl, hs⟩ := run_zero hc.1
     exact ⟨z, hz, by rw [hcl]; exact zeros_rel H ρ l hc.2, by rw [hs, ← hcl]; simp⟩
 · simp at h

theorem code_sound {t : TypeId} {c : T} (h : code P t = some c) : (∃ i z, P.info? t = some i ∧ i.zero = some z ∧ z.cells.toList = zeroL c ∧ i.size = c.size) ∧ P.cellsOf t = c.size := by
 unfold code at h
 split at h
 · rename_i c' hc'
   cases hc : (zeroIs P t (zeroL c') && Nat.beq (zeroL c').length c'.size) with
   | false => rw [hc] at h; simp at h
   | true =>
     rw [hc] at h; simp at h; subst h
     simp only [Bool.and_eq_true] at hc
     obtain ⟨i, z, hi, hz, hcl, hs⟩ := zeroIs_sound hc.1
     have h2 := Nat.eq_of_beq_eq_true hc.2
     exact ⟨⟨i, z, hi, hz, hcl, by rw [hs, h2]⟩, by simp [Program.cellsOf, hi, hs, h2]⟩
 · simp at h

theorem dv_one {d : DV} {v : Value} (h : dvRel H d v) : v.oneCell' = true ∧ v.cells = #[v] := by
 cases d <;> simp only [dvRel] at h
 case u8 => subst h; exact ⟨rfl, rfl⟩
 case u16 => subst h; exact ⟨rfl, rfl⟩
 case u32 => subst h; exact ⟨rfl, rfl⟩
 case u64 => subst h; exact ⟨rfl, rfl⟩
 case i64 => rw [h.1]; exact ⟨rfl, rfl⟩
 case bool => subst h; exact ⟨rfl, rfl⟩
 case str => rw [h.1]; exact ⟨rfl, rfl⟩
 case nils => subst h; exact ⟨rfl, rfl⟩
 case imm t xs =>
  rcases h.2 with ⟨_, rfl | ⟨_, rfl⟩⟩ | ⟨_, _, _, _, rfl, _⟩ <;> exact ⟨rfl, rfl⟩
 case cst v =>
  obtain ⟨rfl, h⟩ := h
  cases v <;> first | exact ⟨rfl, rfl⟩ | (simp [isNilV] at h)
theorem slice_one {t : T} {xs : List t.den} {v : Value} (h : sliceRel H (eltRel H t) xs v) : v.oneCell' = true ∧ v.cells = #[v] := by
 rcases h.2 with ⟨_, rfl | ⟨_, rfl⟩⟩ | ⟨_, _, _, _, rfl, _⟩ <;> exact ⟨rfl, rfl⟩
theorem ref_one {r : Ref} {v : Value} (h : refRel ρ r v) : v.oneCell' = true ∧ v.cells = #[v] := by
 cases r with
 | cell => obtain ⟨_, _, rfl, _⟩ := h; exact ⟨rfl, rfl⟩
 | win => obtain ⟨_, _, _, rfl, _⟩ := h; exact ⟨rfl, rfl⟩
 | map => obtain ⟨_, _, rfl⟩ := h; exact ⟨rfl, rfl⟩
 | row => obtain ⟨_, _, _, _, rfl⟩ := h; exact ⟨rfl, rfl⟩
 | elt => obtain ⟨_, _, _, _, rfl, _⟩ := h; exact ⟨rfl, rfl⟩
 | ewin => obtain ⟨_, _, _, _, _, rfl, _⟩ := h; exact ⟨rfl, rfl⟩
 | cwin => obtain ⟨_, _, rfl, _⟩ := h; exact ⟨rfl, rfl⟩

theorem elt_one : ∀ (t : T) (x : t.den) (cs : List Value), eltRel H t x cs → ∀ v ∈ cs, v.oneCell' = true := by
 have row : ∀ {α : Type} {R : α → List Value → Prop} (_ : ∀ x cs, R x cs → ∀ v ∈ cs, v.oneCell' = true) {xs : List α} {cs : List Value}, rowRel R xs cs → ∀ v ∈ cs, v.oneCell' = true := by
  intro α R hR xs
  induction xs with
  | nil => intro cs h v hv; simp [rowRel] at h; subst h; simp at hv
  | cons x xs ih =>
    rintro cs ⟨a, b, rfl, h1, h2⟩ v hv
    rcases List.mem_append.1 hv with h | h
    · exact hR _ _ h1 v h
    · exact ih h2 v h
 intro t
 induction t with
 | arr n t ih => intro x cs h; exact row ih h.2
 | slc t ih => rintro x cs ⟨v, rfl, h⟩ u hu; simp at hu; subst hu; exact (slice_one h).1
 | pair a b iha ihb =>
   rintro x cs ⟨c, d, rfl, h1, h2⟩ v hv
   rcases List.mem_append.1 hv with h | h
   · exact iha _ _ h1 v h
   · exact ihb _ _ h2 v h
 | unit => intro x cs h v hv; simp only [eltRel] at h; subst h; simp at hv
 | i64 | str => intro x cs h v hv; rw [h.1] at hv; simp at hv; subst hv; rfl
 | _ => intro x cs h v hv; simp only [eltRel] at h; subst h; simp at hv; subst hv; rfl
theorem row_one {t : T} {xs : List t.den} {cs : List Value} (h : rowRel (eltRel H t) xs cs) : ∀ v ∈ cs, v.oneCell' = true := by
 induction xs generalizing cs with
 | nil => intro v hv; simp [rowRel] at h; subst h; simp at hv
 | cons x xs ih =>
   obtain ⟨a, b, rfl, h1, h2⟩ := h
   intro v hv
   rcases List.mem_append.1 hv with h | h
   · exact elt_one t _ _ h1 v h
   · exact ih h2 v h
theorem scs_one : ∀ {cs : List SC} {vs : List Value}, scsRel H ρ cs vs → ∀ v ∈ vs, v.oneCell' = true
 | [], _, h => by simp only [scsRel] at h; subst h; simp
 | c :: r, _, h => by
   obtain ⟨a, b, rfl, h1, h2⟩ := h
   intro v hv
   rcases List.mem_append.1 hv with h | h
   · cases c with
     | run y =>
       cases y with
       | one d => obtain ⟨u, rfl, hd⟩ := h1; simp at h; subst h; exact (dv_one hd).1
       | many t n xs => exact row_one h1.2 v h
     | ref y => obtain ⟨u, rfl, hd⟩ := h1; simp at h; subst h; exact (ref_one hd).1
     | own k t xs => obtain ⟨u, rfl, hd⟩ := h1; simp at h; subst h; exact (slice_one hd.2.1).1
   · exact scs_one h2 v h

theorem toCells_sound {s : SV} {cs : List SC} (h : toCells s = some cs) {v : Value} (hv : svRel H ρ s v) : scsRel H ρ cs v.cells.toList := by
 cases s with
 | clo f caps =>
   cases caps with
   | cons c r => cases h
   | nil =>
     simp only [toCells, Option.some.injEq] at h; subst h
     rw [show v = fnV f from hv]
     exact ⟨[fnV f], [], rfl, ⟨fnV f, rfl, rfl, rfl⟩, rfl⟩
 | _ => ?_
 all_goals simp only [toCells, Option.some.injEq, reduceCtorEq] at h <;> subst h
 case dv d => rw [(dv_one hv).2]; exact ⟨[v], [], rfl, ⟨v, rfl, hv⟩, rfl⟩
 case own k t xs => rw [(slice_one hv.2.1).2]; exact ⟨[v], [], rfl, ⟨v, rfl, hv⟩, rfl⟩
 case full t xs => rw [(slice_one hv.1).2]; exact ⟨[v], [], rfl, ⟨v, rfl, hv.1⟩, rfl⟩
 case ref r => rw [(ref_one hv).2]; exact ⟨[v], [], rfl, ⟨v, rfl, hv⟩, rfl⟩
 case agg cs => obtain ⟨vs, rfl, h⟩ := hv; simpa [Value.cells] using h

theorem nilFor_sound {t : TypeId} {s : SV} {v : Value} (hv : svRel H ρ s v) : svRel H ρ (nilFor P t s) v := by
 unfold nilFor
 split
 · split
   · exact hv.1
   · exact hv
 · exact hv

theorem alloc_ok (I : MInv E H ρ hp N w) (hN : N lab) {t : TypeId} {cs : List SC} (h : zeros P t = some cs) :
 OpOk P E H ρ hp N lab w a (do Pure.pure (.value (← Instr.alloc t true (.tuple #[])))) ⟨none, .sv (.ref (.cell lab [] 0)), [(lab, .cells cs false)]⟩ := by
 obtain ⟨z, hz, hr, _⟩ := zeros_sound h H ρ
 obtain ⟨I', hle⟩ := I.alloc hN t hr
 refine ⟨.pointer (some ⟨w.heap.size, 0, none⟩), _, H, _, .inl ?_, Mem.le_refl H, hle, I', ?_⟩
 · simp [Instr.alloc, hz, newVar, newRow]
 · exact ⟨w.heap.size, by simp [setLab], rfl, trivial⟩
theorem box_ok (I : MInv E H ρ hp N w) (hN : N lab) {t : TypeId} {cs : List SC} {v : Value} (hv : scsRel H ρ cs v.cells.toList) :
 OpOk P E H ρ hp N lab w a (do Pure.pure (.value (← Instr.box t v))) ⟨none, .sv (.ref (.cell lab [] 0)), [(lab, .cells cs false)]⟩ := by
 obtain ⟨I', hle⟩ := I.alloc hN t hv
 refine ⟨.pointer (some ⟨w.heap.size, 0, none⟩), _, H, _, .inl ?_, Mem.le_refl H, hle, I', ?_⟩
 · simp [Instr.box, newVar, newRow]
 · exact ⟨w.heap.size, by simp [setLab], rfl, trivial⟩

theorem sizeL_eq {cs : List SC} {vs : List Value} (h : scsRel H ρ cs vs) : vs.length = sizeL cs := scsRel_length h

theorem storeO_ok (I : MInv E H ρ hp N w) {t : TypeId} {x s : SV} {r : Res} (h : storeO P hp t x s = some r) (hvc : vcT r.vc) {vx vs : Value} (hx : svRel H ρ x vx) (hs : svRel H ρ s vs) (ht : ∃ d, P.underlying t = some d) :
 OpOk P E H ρ hp N lab w a (do Instr.storeAt t vx vs; Pure.pure .skip) r := by
 unfold storeO at h
 split at h
 · rename_i l p o new hnew
   cases hb : Nat.beq (sizeL new) (sizeT P t) with
   | false => rw [hb] at h; simp at h
   | true =>
     rw [hb] at h; simp only [cond_true] at h
     split at h
     · rename_i cs hl
       split at h
       · rename_i cs' hm
         simp at h; subst h
         obtain ⟨b, hρ, rfl, hlit⟩ := hx
         obtain ⟨b', c, ty, hρ', hblk, hcs, hro⟩ := I.cells hl
         rw [hρ] at hρ'; simp at hρ'; subst hρ'
         obtain ⟨A, M, C, ds, fs, hA, hAl, hf, hM, hall⟩ := modAt_sound hm hcs hlit hvc
         obtain ⟨A2, M2, C2, rfl, hA2, hM2, hall2⟩ := replC_sound hf hM
         have hnr := toCells_sound hnew hs
         have hsz : vs.cells.toList.length = P.cellsOf t := by rw [sizeL_eq hnr]; exact Nat.eq_of_beq_eq_true hb
         have hfin := hall _ (hall2 _ hnr) (by simp only [List.length_append, hsz]; simp [hM2, sizeT])
         obtain ⟨d, hd⟩ := ht
         have hst := run_storeCells_at P b (pathOff p + o) ty vs.cells.toList 0 c w hblk (by
          have : c.size = (A ++ ((A2 ++ (M2 ++ C2)) ++ C)).length := by rw [← Array.length_toList, hA]
          simp at this hsz; simp [hsz]; simp [sizeT] at hM2; omega) (scs_one hnr)
         have hrun : (Instr.storeAt t (.pointer (some ⟨b, pathOff p + o, none⟩)) vs).run P w = .ok () (w.setRow b (A ++ ((A2 ++ (vs.cells.toList ++ C2)) ++ C)).toArray) := by
          simp only [Instr.storeAt, Instr.sureAddr, Sem.run_bind, Sem.run_pure, Result.andThen_ok, storeVar, run_sizeOf' hd]
          rw [if_neg (by simp at hsz; simp [hsz])]
          rw [hst]
          congr 3
          rw [hA]
          simp only [Nat.add_zero]
          have e1 : (A ++ ((A2 ++ (M2 ++ C2)) ++ C)).take (pathOff p + o) = A ++ A2 := by
           rw [show A ++ ((A2 ++ (M2 ++ C2)) ++ C) = (A ++ A2) ++ ((M2 ++ C2) ++ C) by simp, List.take_left' (by simp [hAl, hA2])]
          have e2 : (A ++ ((A2 ++ (M2 ++ C2)) ++ C)).drop (pathOff p + o + vs.cells.toList.length) = C2 ++ C := by
           rw [show A ++ ((A2 ++ (M2 ++ C2)) ++ C) = (A ++ (A2 ++ M2)) ++ (C2 ++ C) by simp, List.drop_left' (by rw [hsz]; simp [hAl, hA2, hM2, sizeT]; omega)]
          rw [e1, e2]; simp
         refine ⟨undef, w.setRow b (A ++ ((A2 ++ (vs.cells.toList ++ C2)) ++ C)).toArray, H, ρ, .inr ⟨by rw [Sem.run_bind, hrun]; rfl, rfl⟩, Mem.le_refl H, Lab.le_refl ρ, (I.store hl hρ hblk (by simpa using hfin)).later but_le, trivial⟩
       · simp at h
     · simp at h
 · rename_i l p o new hnew
   cases hb : Nat.beq (sizeL new) (sizeT P t) with
   | false => rw [hb] at h; simp at h
   | true =>
     rw [hb] at h; simp only [cond_true] at h
     split at h
     · rename_i e sz k xs hl
       split at h
       · rename_i k' m ys hm
         split at h
         · rename_i hk
           subst hk
           cases hz : Nat.beq k'.size 0 with
           | true => rw [hz] at h; simp at h
           | false =>
             rw [hz] at h; simp at h; subst h
             obtain ⟨b, n, cap, hρ, rfl, hlit⟩ := hx
             obtain ⟨hsz, rfl, cur, f, hfar, hblk, hle, hmax, hcur, hrow, hro⟩ := I.rowAt hl hρ
             obtain ⟨A, M, C, ds, fs, hA, hAl, hf, hM, hall⟩ := modAt_sound hm (row_many (ρ := ρ) hrow) hlit hvc
             obtain ⟨A2, M2, C2, rfl, hA2, hM2, hall2⟩ := replC_sound hf hM
             have hnr := toCells_sound hnew hs
             have hvs : vs.cells.toList.length = P.cellsOf t := by rw [sizeL_eq hnr]; exact Nat.eq_of_beq_eq_true hb
             have hfin := hall _ (hall2 _ hnr) (by simp only [List.length_append, hvs]; simp [hM2, sizeT])
             obtain ⟨d, hd⟩ := ht
             have hcl : cur.toList = (A ++ ((A2 ++ (M2 ++ C2)) ++ C)) ++ cur.toList.drop (xs.length * sz) := by rw [← hA, List.take_append_drop]
             have hst := run_store_far (P := P) b (pathOff p + o) e f vs.cells.toList 0 cur w hblk hfar (by
              have : cur.size = ((A ++ ((A2 ++ (M2 ++ C2)) ++ C)) ++ cur.toList.drop (xs.length * sz)).length := by rw [← Array.length_toList, ← hcl]
              simp only [List.length_append] at this; simp [sizeT] at hM2; omega) (scs_one hnr)
             generalize cur.toList.drop (xs.length * sz) = D at hcl
             have hrun : (Instr.storeAt t (.pointer (some ⟨b, pathOff p + o, none⟩)) vs).run P w = .ok () (w.setRow b ((A ++ ((A2 ++ (vs.cells.toList ++ C2)) ++ C)) ++ D).toArray) := by
              simp only [Instr.storeAt, Instr.sureAddr, Sem.run_bind, Sem.run_pure, Result.andThen_ok, storeVar, run_sizeOf' hd]
              rw [if_neg (by simp at hvs; simp [hvs])]
              rw [hst]
              congr 3
              rw [hcl]
              simp only [Nat.add_zero]
              have e1 : ((A ++ ((A2 ++ (M2 ++ C2)) ++ C)) ++ D).take (pathOff p + o) = A ++ A2 := by
               rw [show (A ++ ((A2 ++ (M2 ++ C2)) ++ C)) ++ D = (A ++ A2) ++ ((M2 ++ C2) ++ (C ++ D)) by simp, List.take_left' (by simp [hAl, hA2])]
              have e2 : ((A ++ ((A2 ++ (M2 ++ C2)) ++ C)) ++ D).drop (pathOff p + o + vs.cells.toList.length) = C2 ++ (C ++ D) := by
               rw [show (A ++ ((A2 ++ (M2 ++ C2)) ++ C)) ++ D = (A ++ (A2 ++ M2)) ++ (C2 ++ (C ++ D)) by simp, List.drop_left' (by rw [hvs]; simp [hAl, hA2, hM2, sizeT]; omega)]
              rw [e1, e2]; simp
             obtain ⟨R, X, hRX, ⟨hym, hyr⟩, hX⟩ := hfin
             simp only [scsRel] at hX
             subst hX
             simp only [List.append_nil] at hRX
             have hv2 : vs.cells.size = P.cellsOf t := by simpa using hvs
             have hlR : R.length = xs.length * sz := by
              have h1 := congrArg List.length hA
              rw [← hRX]
              simp only [List.length_take, List.length_append, Array.length_toList] at h1 ⊢
              have h2 : xs.length * sz ≤ cur.size := by rw [hcur]; exact Nat.mul_le_mul_right _ hle
              simp only [Nat.min_eq_left h2] at h1
              simp [sizeT] at hM2
              omega
             have hyl := rowRel_length (eltRel_length k') hyr
             have hpos : 0 < k'.size := Nat.pos_of_ne_zero fun e0 => by rw [e0] at hz; simp at hz
             have hlen : ys.length = xs.length := by
              rw [hsz] at hlR
              exact Nat.eq_of_mul_eq_mul_right hpos (hyl.symm.trans hlR)
             have hnewsz : ((A ++ ((A2 ++ (vs.cells.toList ++ C2)) ++ C)) ++ D).toArray.size = cur.size := by
              have h1 := congrArg List.length hcl
              simp only [List.length_append, Array.length_toList] at h1
              simp only [List.size_toArray, List.length_append, hvs]
              simp [sizeT] at hM2
              omega
             have I' := I.rewrite (l := l) (o' := .row e sz k' ys false) (c' := ((A ++ ((A2 ++ (vs.cells.toList ++ C2)) ++ C)) ++ D).toArray) (by rw [hl]; simp) (b := b) (by simp [baseOf, hρ, blk]) hblk (hro rfl)
              ⟨_, hρ, hsz, .inr ⟨b, cap, _, f, by rw [hlen], by rw [hnewsz]; exact hfar, setRow_heap w b cur _ e _ hblk, by omega, hmax, by rw [hnewsz]; exact hcur, by
               rw [hlen, ← hlR, hRX]
               simpa using hyr, hro⟩⟩
             exact ⟨undef, _, H, ρ, .inr ⟨by rw [Sem.run_bind, hrun]; rfl, rfl⟩, Mem.le_refl H, Lab.le_refl ρ, I'.later but_le, trivial⟩
         · simp at h
       · simp at h
     · simp at h
 · simp at h

theorem fieldOf_sound {t : TypeId} {f off : Nat} {ft : TypeId} (h : fieldOf P t f = some (off, ft)) : ∃ fs fd, P.underlying t = some (.struct fs) ∧ fs[f]? = some fd ∧ fd.offset = off ∧ fd.type = ft := by
 unfold fieldOf at h
 split at h
 · rename_i fs hu
   split at h
   · rename_i fd hf
     simp at h
     exact ⟨fs, fd, hu, by simpa using hf, h.1, h.2⟩
   · simp at h
 · simp at h
theorem cells_info {t : TypeId} (h : P.cellsOf t ≠ 0) (w : World) : (sizeOf t).run P w = .ok (P.cellsOf t) w := by
 cases hi : P.info? t with
 | none => simp [Program.cellsOf, hi] at h
 | some i => simp [sizeOf, typeInfo, hi, Program.cellsOf]

theorem dropR_sound {rs rs' : List Run} {n : Nat} (h : dropR rs n = some rs') {cs : List Value} (hr : runsRel H rs cs) : ∃ A C, cs = A ++ C ∧ A.length = n ∧ runsRel H rs' C := by
 unfold dropR at h
 simp only [Option.bind_eq_some_iff] at h
 obtain ⟨ds, h1, h2⟩ := h
 obtain ⟨A, C, rfl, hA, hC⟩ := dropC_sound (ρ := fun _ => none) h1 (scsRel_ofRuns.2 hr)
 exact ⟨A, C, rfl, hA, toRuns_sound h2 hC⟩

theorem cellsIn_drop {b off : Nat} {A C : List Value} (h : cellsIn H b off (A ++ C)) : cellsIn H b (off + A.length) C := by
 intro i hi
 have := h (A.length + i) (by simp; omega)
 rw [List.getElem?_append_right (by omega), Nat.add_sub_cancel_left] at this
 rwa [Nat.add_assoc]
theorem cellsIn_take {b off : Nat} {A C : List Value} (h : cellsIn H b off (A ++ C)) : cellsIn H b off A := by
 intro i hi
 have := h i (by simp; omega)
 rwa [List.getElem?_append_left hi] at this

theorem fieldAddrO_sound {t : TypeId} {x : SV} {f : Nat} {r : Res} (h : fieldAddrO P t x f = some r) {vx : Value} (hx : svRel H ρ x vx) :
 r.upd = [] ∧ ∃ v, (Instr.fieldAt t vx f).run P w = .ok v w ∧ slRel H ρ a r.out v := by
 unfold fieldAddrO at h
 split at h
 · simp at h
 · rename_i off ft hf
   obtain ⟨fs, fd, hu, hfd, hoff, hft⟩ := fieldOf_sound hf
   cases hb : Nat.beq (sizeT P ft) 0 with
   | true => rw [hb] at h; simp at h
   | false =>
     rw [hb] at h; simp only [cond_false] at h
     have hne : P.cellsOf fd.type ≠ 0 := by rw [hft]; intro e; simp [sizeT, e] at hb
     have hrun : ∀ b o, (Instr.fieldAt t (.pointer (some ⟨b, o, none⟩)) f).run P w = .ok (.pointer (some ⟨b, o + off, none⟩)) w := by
      intro b o
      simp [Instr.fieldAt, run_underlying hu, hfd, Instr.sureAddr, fieldPlace, cells_info hne, hne, add_at, hoff]
     split at h
     · rename_i l p o
       simp [val] at h; subst h
       obtain ⟨b, hρ, rfl, hlit⟩ := hx
       exact ⟨rfl, _, hrun _ _, b, hρ, by rw [Nat.add_assoc], hlit⟩
     · rename_i l p o
       simp [val] at h; subst h
       obtain ⟨b, n, c, hρ, rfl, hlit⟩ := hx
       exact ⟨rfl, _, hrun _ _, b, n, c, hρ, by rw [Nat.add_assoc], hlit⟩
     · rename_i rs
       split at h
       · rename_i rs' hd
         simp [val] at h; subst h
         obtain ⟨b, o, cs, rfl, hr, hin⟩ := hx
         obtain ⟨A, C, rfl, hA, hC⟩ := dropR_sound hd hr
         exact ⟨rfl, _, hrun _ _, b, o + off, C, rfl, hC, hA ▸ cellsIn_drop hin⟩
       · simp at h
     · simp at h

theorem run_asAgg (vs : List Value) : (asAgg (.agg vs.toArray)).run P w = .ok vs.toArray w := rfl
theorem fieldO_sound {t : TypeId} {x : SV} {f : Nat} {r : Res} (h : fieldO P t x f = some r) {vx : Value} (hx : svRel H ρ x vx) :
 r.upd = [] ∧ ∃ v, (Instr.field t vx f).run P w = .ok v w ∧ slRel H ρ a r.out v := by
 unfold fieldO at h
 split at h
 · rename_i off ft cs hf
   obtain ⟨fs, fd, hu, hfd, hoff, hft⟩ := fieldOf_sound hf
   split at h
   · rename_i ds hds
     split at h
     · rename_i v hof
       simp [val] at h; subst h
       obtain ⟨vs, rfl, hr⟩ := hx
       simp only [Option.bind_eq_some_iff] at hds
       obtain ⟨es, h1, h2⟩ := hds
       obtain ⟨A, C, rfl, hA, hC⟩ := dropC_sound h1 hr
       obtain ⟨M, C2, rfl, hM, hMr⟩ := takeC_sound h2 hC
       obtain ⟨bb, hagg, hone, hsv⟩ := ofCells_sound hof hMr
       have hp := run_part (P := P) (w := w) hagg hA (X := C2) (by rw [hM]; rfl) hone
       exact ⟨rfl, _, by simp only [Instr.field, Sem.run_bind, run_underlying hu, Result.andThen_ok, hfd, run_asAgg, hft, hoff, hp], hsv⟩
     · simp at h
   · simp at h
 · simp at h

theorem indexAt_run {t e : TypeId} {b o len : Nat} {v : Value} (hw : (P.underlying t = some (.array len e) ∧ v = .pointer (some ⟨b, o, none⟩)) ∨ (P.underlying t = some (.slice e) ∧ ∃ cap, v = .slice (some ⟨b, o, none⟩) len cap))
 (hne : P.cellsOf e ≠ 0) {i : Int} (hi : within i len) : (Instr.indexAt t v (.int .i64 i)).run P w = .ok (.pointer (some ⟨b, o + i.toNat * P.cellsOf e, none⟩)) w := by
 rcases hw with ⟨hu, rfl⟩ | ⟨hu, cap, rfl⟩
 · simp [Instr.indexAt, asIntOf, run_underlying hu, Instr.sureAddr, hi.1, hi.2, cells_info hne, add_at]
 · simp [Instr.indexAt, asIntOf, run_underlying hu, hi.1, hi.2, cells_info hne, add_at]

theorem elt_addr {c : T} {xs : List c.den} {b o : Nat} {cs : List Value} (hr : rowRel (eltRel H c) xs cs) (hin : cellsIn H b o cs) {i : Nat} (hi : i < xs.length) :
 ∃ ds, runsRel H (enc c (xs.getD i c.dflt)) ds ∧ cellsIn H b (o + i * c.size) ds := by
 obtain ⟨A, M, C, rfl, hA, hM, _⟩ := rowRel_at (eltRel_length c) hr hi c.dflt
 refine ⟨M, (enc_rel c _ _).2 hM, ?_⟩
 rw [← hA]; exact cellsIn_take (cellsIn_drop hin)

theorem imm_of {x : SV} {d : SlD} (h : asSlice hp x = some d) (hs : d.still = none) {v : Value} (hv : svRel H ρ x v) : sliceRel H (eltRel H d.t) d.xs v := by
 cases x with
 | dv y =>
   cases y <;> simp only [asSlice, Option.some.injEq, reduceCtorEq] at h
   · subst h; exact ⟨by simp [LIM], .inl ⟨rfl, .inl hv⟩⟩
   · subst h; exact hv
 | own k t xs => simp only [asSlice, Option.some.injEq] at h; subst h; exact hv.2.1
 | full t xs => simp only [asSlice, Option.some.injEq] at h; subst h; exact hv.1
 | ref r =>
   cases r with
   | win l p off t start len n lit =>
     exfalso
     simp only [asSlice] at h
     cases hal : allLit p with
     | false => rw [hal] at h; simp at h
     | true =>
       rw [hal] at h; simp only [cond_true] at h
       split at h
       · split at h
         · simp at h; subst h; simp at hs
         · simp at h
       · simp at h
   | row l =>
     exfalso
     simp only [asSlice] at h
     split at h
     · simp only [Option.some.injEq] at h; subst h; simp at hs
     · simp at h
   | _ => simp [asSlice] at h
 | _ => simp [asSlice] at h

theorem pathOff_app (p : List Hop) (h : Hop) : pathOff (app p [h]) = pathOff p + (h.off + h.e * h.s) := by
 induction p with
 | nil => simp [app, pathOff]
 | cons x p ih => simp only [app, pathOff, ih]; omega
theorem litOk_app (p : List Hop) (h : Hop) (hp : litOk p) (hh : h.lit = true → h.e < h.n) : litOk (app p [h]) := by
 induction p with
 | nil => exact ⟨hh, trivial⟩
 | cons x p ih => exact ⟨hp.1, ih hp.2⟩

theorem indexAddrO_sound (I : MInv E H ρ hp N w) {t : TypeId} {x i : SV} {r : Res} (h : indexAddrO P hp t x i = some r) (hvc : vcT r.vc) {vx vi : Value} (hx : svRel H ρ x vx) (hi : svRel H ρ i vi) :
 r.upd = [] ∧ ∃ v, (Instr.indexAt t vx vi).run P w = .ok v w ∧ slRel H ρ a r.out v := by
 unfold indexAddrO at h
 split at h
 · rename_i i
   obtain ⟨rfl, _⟩ := hi
   split at h
   · rename_i n e hu
     cases hb : Nat.beq (sizeT P e) 0 with
     | true => rw [hb] at h; simp at h
     | false =>
       rw [hb] at h; simp only [cond_false] at h
       have hne : P.cellsOf e ≠ 0 := fun e => by simp [sizeT, e] at hb
       split at h
       · rename_i l p o
         simp [owed] at h; subst h
         obtain ⟨b, hρ, rfl, hlit⟩ := hx
         have hin : within i n := hvc
         refine ⟨rfl, _, indexAt_run (.inl ⟨hu, rfl⟩) hne hin, b, hρ, ?_, litOk_app p _ hlit (fun _ => by have := hin.2; have := hin.1; show i.toNat < n; omega)⟩
         rw [pathOff_app]; simp [sizeT, Nat.add_assoc]
       · rename_i l p o
         simp [owed] at h; subst h
         obtain ⟨b, m, c, hρ, rfl, hlit⟩ := hx
         have hin : within i n := hvc
         refine ⟨rfl, _, indexAt_run (.inl ⟨hu, rfl⟩) hne hin, b, m, c, hρ, ?_, litOk_app p _ hlit (fun _ => by have := hin.2; have := hin.1; show i.toNat < n; omega)⟩
         rw [pathOff_app]; simp [sizeT, Nat.add_assoc]
       · rename_i c m xs rest
         cases hc : (Nat.beq c.size (sizeT P e) && Nat.ble n m) with
         | false => rw [hc] at h; simp at h
         | true =>
           rw [hc] at h; simp [owed] at h; subst h
           simp only [Bool.and_eq_true] at hc
           obtain ⟨b, o, cs, rfl, ⟨A, B, rfl, ⟨hl, hrow⟩, _⟩, hin⟩ := hx
           have hw : within i n := hvc
           have hnm := Nat.le_of_ble_eq_true hc.2
           obtain ⟨ds, h1, h2⟩ := elt_addr hrow (cellsIn_take hin) (i := i.toNat) (by have := hw.2; have := hw.1; omega)
           refine ⟨rfl, _, indexAt_run (.inl ⟨hu, rfl⟩) hne hw, b, _, ds, rfl, h1, ?_⟩
           have hcs := Nat.eq_of_beq_eq_true hc.1
           rw [sizeT] at hcs
           rwa [hcs] at h2
       · simp at h
   · rename_i e hu
     cases hb : Nat.beq (sizeT P e) 0 with
     | true => rw [hb] at h; simp at h
     | false =>
       rw [hb] at h; simp only [cond_false] at h
       have hne : P.cellsOf e ≠ 0 := fun e => by simp [sizeT, e] at hb
       split at h
       · rename_i l n
         cases hc : Nat.beq (sizeT P e) 1 with
         | false => rw [hc] at h; simp at h
         | true =>
           rw [hc] at h; simp [owed] at h; subst h
           have hs1 := Nat.eq_of_beq_eq_true hc
           have hin : within i n := hvc
           obtain ⟨b, hρ, rfl, _⟩ := hx
           refine ⟨rfl, _, indexAt_run (.inr ⟨hu, n, rfl⟩) hne hin, b, hρ, ?_, trivial⟩
           simp only [sizeT] at hs1
           simp [pathOff, hs1]
       · rename_i l
         split at h
         · rename_i e' s c xs ro hl
           cases hc : (Nat.beq s (sizeT P e) && Nat.beq c.size s) with
           | false => rw [hc] at h; simp at h
           | true =>
             rw [hc] at h; simp [owed] at h; subst h
             simp only [Bool.and_eq_true] at hc
             have hs1 := Nat.eq_of_beq_eq_true hc.1
             have hin : within i xs.length := hvc
             obtain ⟨hρ, _⟩ := hx
             obtain ⟨v, h1, h2, h3⟩ := I.row hl
             rw [hρ] at h1
             simp only [Option.some.injEq] at h1
             subst h1
             rcases h3 with ⟨_, h0⟩ | ⟨g, cap, cur, f, rfl, _⟩
             · exfalso
               rw [h0] at hin
               have := hin.1; have := hin.2; simp at this; omega
             · refine ⟨rfl, _, indexAt_run (.inr ⟨hu, cap, rfl⟩) hne hin, g, _, cap, hρ, ?_, ⟨(fun h => nomatch h), trivial⟩⟩
               simp only [pathOff, sizeT] at hs1 ⊢
               rw [hs1]
               simp
         · simp at h
       · rename_i l p o c start len n lit
         cases hc : Nat.beq c.size (sizeT P e) with
         | false => rw [hc] at h; simp at h
         | true =>
           rw [hc] at h; simp [owed] at h; subst h
           obtain ⟨b, cap, hρ, rfl, hlit, hsn, _, _⟩ := hx
           have hin : within i len := hvc
           have hcs := Nat.eq_of_beq_eq_true hc
           refine ⟨rfl, _, indexAt_run (.inr ⟨hu, cap, rfl⟩) hne hin, b, hρ, ?_, litOk_app p _ hlit (fun _ => by have := hin.2; have := hin.1; show start + i.toNat < n; omega)⟩
           rw [pathOff_app]
           simp only [sizeT] at hcs ⊢
           rw [hcs]
           congr 3
           rw [Nat.add_mul]; omega
       · rename_i l p o c start len n
         cases hc : Nat.beq c.size (sizeT P e) with
         | false => rw [hc] at h; simp at h
         | true =>
           rw [hc] at h; simp [owed] at h; subst h
           obtain ⟨b, m, c0, cap, hρ, rfl, hlit, hsn, _, _⟩ := hx
           have hin : within i len := hvc
           have hcs := Nat.eq_of_beq_eq_true hc
           refine ⟨rfl, _, indexAt_run (.inr ⟨hu, cap, rfl⟩) hne hin, b, m, c0, hρ, ?_, litOk_app p _ hlit (fun h => nomatch h)⟩
           rw [pathOff_app]
           simp only [sizeT] at hcs ⊢
           rw [hcs]
           congr 3
           rw [Nat.add_mul]; omega
       · split at h
         · rename_i c xs vc hs
           cases hc : Nat.beq c.size (sizeT P e) with
           | false => rw [hc] at h; simp at h
           | true =>
             rw [hc] at h; simp [owed] at h; subst h
             have hin : within i xs.length := hvc
             have hcs := Nat.eq_of_beq_eq_true hc
             have hsl := imm_of hs rfl hx
             rcases hsl.2 with ⟨h0, _⟩ | ⟨b, o, cap, cs, rfl, hlc, hrow, hci⟩
             · exfalso
               simp only at h0
               rw [h0] at hin
               have := hin.1; have := hin.2; simp at this; omega
             · obtain ⟨ds, h1, h2⟩ := elt_addr hrow hci (i := i.toNat) (by show i.toNat < xs.length; have := hin.2; have := hin.1; omega)
               refine ⟨rfl, _, indexAt_run (.inr ⟨hu, cap, rfl⟩) hne hin, b, _, ds, rfl, h1, ?_⟩
               rw [sizeT] at hcs
               rwa [← hcs]
         · simp at h
   · simp at h
 · simp at h

theorem indexLitO_sound {t : TypeId} {x i : SV} {r : Res} (h : indexLitO P t x i = some r) (hvc : vcT r.vc) {vx vi : Value} (hx : svRel H ρ x vx) (hi : svRel H ρ i vi) :
 r.upd = [] ∧ ∃ v, (Instr.indexAt t vx vi).run P w = .ok v w ∧ slRel H ρ a r.out v := by
 unfold indexLitO at h
 split at h
 · rename_i i l p o n e hu
   cases hb : Nat.beq (sizeT P e) 0 with
   | true => rw [hb] at h; simp at h
   | false =>
     rw [hb] at h; simp [owed] at h; subst h
     have hne : P.cellsOf e ≠ 0 := fun e => by simp [sizeT, e] at hb
     obtain ⟨rfl, _⟩ := hi
     obtain ⟨b, hρ, rfl, hlit⟩ := hx
     have hin : within i n := hvc
     refine ⟨rfl, _, indexAt_run (.inl ⟨hu, rfl⟩) hne hin, b, hρ, ?_, hlit⟩
     simp [sizeT, Nat.add_assoc]
 · cases h

theorem idxI_sound {x : SV} {n : Int} (h : idxI x = some n) {v : Value} (hv : svRel H ρ x v) : ∃ k, v = .int k n := by
 cases x with
 | dv d =>
   cases d with
   | i64 i =>
     simp [idxI] at h; subst h
     exact ⟨_, hv.1⟩
   | u8 i => simp only [idxI, Option.some.injEq] at h; subst h; exact ⟨_, hv⟩
   | u16 i => simp only [idxI, Option.some.injEq] at h; subst h; exact ⟨_, hv⟩
   | u32 i => simp only [idxI, Option.some.injEq] at h; subst h; exact ⟨_, hv⟩
   | u64 i => simp only [idxI, Option.some.injEq] at h; subst h; exact ⟨_, hv⟩
   | _ => simp [idxI] at h
 | _ => simp [idxI] at h
theorem indexO_sound {t : TypeId} {x i : SV} {r : Res} (h : indexO P t x i = some r) (hvc : vcT r.vc) {vx vi : Value} (hx : svRel H ρ x vx) (hi : svRel H ρ i vi) :
 r.upd = [] ∧ ∃ v, (Instr.index t vx vi).run P w = .ok v w ∧ slRel H ρ a r.out v := by
 unfold indexO at h
 split at h
 · rename_i i hidx
   obtain ⟨_, rfl⟩ := idxI_sound hidx hi
   split at h
   · rename_i l
     cases hb : isStrT P t with
     | false => rw [hb] at h; simp at h
     | true =>
       rw [hb] at h; simp [owed] at h; subst h
       have hu : P.underlying t = some .string := by
        unfold isStrT at hb
        split at hb
        · assumption
        · simp at hb
       obtain ⟨rfl, _⟩ := hx
       have hin : within i l.length := hvc
       have h0 := hin.1
       have hlt : i.toNat < l.length := by have := hin.2; omega
       refine ⟨rfl, .int .u8 ((l.getD i.toNat 0#8).toNat : Int), ?_, rfl⟩
       have hg : (toBA l)[i.toNat]? = some (UInt8.ofBitVec l[i.toNat]) := by
        have hsz : i.toNat < (toBA l).size := by rw [toBA_size]; exact hlt
        rw [getElem?_pos (toBA l) i.toNat hsz]
        show some ((toBA l).data[i.toNat]'hsz) = _
        simp [toBA]
       simp [Instr.index, asIntOf, run_underlying hu, h0, hg, List.getD, hlt]
   · rename_i c m xs rest
     split at h
     · rename_i n e hu
       cases hc : (Nat.beq c.size (sizeT P e) && Nat.ble n m && !Nat.beq (sizeT P e) 0) with
       | false => rw [hc] at h; simp at h
       | true =>
         rw [hc] at h; simp only [cond_true] at h
         simp only [Bool.and_eq_true, Bool.not_eq_true'] at hc
         have hne : P.cellsOf e ≠ 0 := fun e => by have := hc.2; simp [sizeT, e] at this
         split at h
         · rename_i v hof
           simp [owed] at h; subst h
           obtain ⟨vs, rfl, ⟨A, B, rfl, ⟨hl, hrow⟩, _⟩⟩ := hx
           have hin : within i n := hvc
           have hnm := Nat.le_of_ble_eq_true hc.1.2
           have hcs := Nat.eq_of_beq_eq_true hc.1.1
           obtain ⟨A2, M, C2, rfl, hA2, hM, _⟩ := rowRel_at (eltRel_length c) hrow (i := i.toNat) (by have := hin.2; have := hin.1; omega) c.dflt
           obtain ⟨bb, hagg, hone, hsv⟩ := ofCells_sound (ρ := ρ) hof (scsRel_ofRuns.2 ((enc_rel c _ _).2 hM))
           rw [sizeT] at hcs
           have hp := run_part (P := P) (w := w) hagg (A := A2) (v := M) (X := C2 ++ B) (off := i.toNat * P.cellsOf e) (by rw [hA2, hcs]) (by rw [eltRel_length c _ _ hM, hcs]) hone
           refine ⟨rfl, _, ?_, hsv⟩
           simp only [List.append_assoc] at hp ⊢
           simp [Instr.index, asIntOf, run_underlying hu, hin.1, hin.2, cells_info hne, hp]
         · simp at h
     · simp at h
   · simp at h
 · simp at h

def intOpt : Option Int → Option Value → Prop
 | none, none => True
 | some m, some u => u = .int .i64 m
 | _, _ => False

theorem run_bound {i : Int} {y : Nat} {code : BoundsCode} (h : 0 ≤ i ∧ i ≤ (y : Int)) : (Instr.sliceBound (.int .i64 i) y code).run P w = .ok i.toNat w := by
 simp [Instr.sliceBound, asIntOf, h.1, h.2]

theorem cut_run {isSlice : Bool} {len cap : Nat} (hlc : len ≤ cap) {lo hi : Option Int} {vc : Option Prop} {p q : Nat} (h : cutVC len lo hi = (vc, p, q)) (hvc : vcT vc) {vlo vhi : Option Value}
 (h1 : intOpt lo vlo) (h2 : intOpt hi vhi) :
 p ≤ q ∧ q ≤ len ∧ (Instr.sliceBounds isSlice len cap vlo vhi none).run P w = .ok (p, q, cap) w := by
 unfold cutVC at h
 cases lo <;> cases hi <;> simp only [Prod.mk.injEq] at h <;> obtain ⟨rfl, rfl, rfl⟩ := h <;> cases vlo <;> cases vhi <;> simp only [intOpt] at h1 h2 <;> try (exact h1.elim) <;> try (exact h2.elim)
 · exact ⟨Nat.zero_le _, Nat.le_refl _, by simp [Instr.sliceBounds]⟩
 · subst h2
   have hh := hvc
   simp only [vcT, leP] at hh
   refine ⟨Nat.zero_le _, by omega, ?_⟩
   simp only [Instr.sliceBounds, Sem.run_bind, Sem.run_pure, Result.andThen_ok, run_bound (P := P) (w := w) (y := cap) ⟨hh.1, by omega⟩]
 · subst h1
   have hh := hvc
   simp only [vcT, leP] at hh
   refine ⟨by omega, Nat.le_refl _, ?_⟩
   simp only [Instr.sliceBounds, Sem.run_bind, Sem.run_pure, Result.andThen_ok, run_bound (P := P) (w := w) (y := len) hh]
 · subst h1; subst h2
   have hh := hvc
   simp only [vcT, leP] at hh
   refine ⟨by omega, by omega, ?_⟩
   simp only [Instr.sliceBounds, Sem.run_bind, Sem.run_pure, Result.andThen_ok, run_bound (P := P) (w := w) (y := cap) ⟨Int.le_trans hh.1 hh.2.1, by omega⟩]
   rw [run_bound (P := P) (w := w) ⟨hh.1, by omega⟩]
   rfl

end Go.Vse
