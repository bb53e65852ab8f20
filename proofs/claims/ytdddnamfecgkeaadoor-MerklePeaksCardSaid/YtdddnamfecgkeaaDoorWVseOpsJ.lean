/- Operands, two-place operations, choices, calls: each operation's step. -/
import Derived.Test.YtdddnamfecgkeaaDoorWVseOpsI
import Derived.Laws.StructEq
namespace Go.Vse
variable {P : Program} {E : Env} {H : Mem} {ρ : Lab} {hp : List (Nat × SObj)} {lab : Nat} {N : Nat → Prop} {w : World}

def slotsRel (H : Mem) (ρ : Lab) (tmps : List Sl) (a : Array Value) : Prop :=
 tmps.length = a.size ∧ ∀ t, slRel H ρ a (nth .un tmps t) (a.getD t undef)

theorem ofValue_rel (H : Mem) (ρ : Lab) (v : Value) : svRel H ρ (ofValue v) v := by
 have hbv : ∀ (m : Nat) (n : Int), 0 ≤ n → n < 2 ^ m → ((BitVec.ofInt m n).toNat : Int) = n := by
  intro m n h0 h1
  rw [BitVec.toNat_ofInt]
  have : n % (2 ^ m : Nat) = n := Int.emod_eq_of_lt h0 (by rw [pow_toNat]; exact h1)
  rw [this]; omega
 unfold ofValue
 split
 · rfl
 · rename_i n
   cases h : (decide (-9223372036854775808 ≤ n) && decide (n ≤ 9223372036854775807)) with
   | false => trivial
   | true => simp at h; exact ⟨rfl, h⟩
 · rename_i n
   cases h : (decide (0 ≤ n) && decide (n < 256)) with
   | false => trivial
   | true => simp at h; show _ = _; rw [hbv 8 n h.1 h.2]
 · rename_i n
   cases h : (decide (0 ≤ n) && decide (n < 65536)) with
   | false => trivial
   | true => simp at h; show _ = _; rw [hbv 16 n h.1 h.2]
 · rename_i n
   cases h : (decide (0 ≤ n) && decide (n < 4294967296)) with
   | false => trivial
   | true => simp at h; show _ = _; rw [hbv 32 n h.1 h.2]
 · rename_i n
   cases h : (decide (0 ≤ n) && decide (n < 18446744073709551616)) with
   | false => trivial
   | true => simp at h; show _ = _; rw [hbv 64 n h.1 h.2]
 · rename_i s
   cases h : Nat.ble s.data.toList.length 1048576 with
   | false => trivial
   | true =>
     have hl := Nat.le_of_ble_eq_true h
     refine ⟨?_, ?_⟩
     · congr 1
       apply WideShapes.bytes_inj
       rw [toBA_data]
       simp only [bytesOf, List.map_map]
       rw [show (UInt8.ofBitVec ∘ fun x => x.toBitVec) = id from funext fun x => rfl]
       simp
     · simp [bytesOf, LIM] at hl ⊢; omega
 · exact ⟨rfl, rfl⟩
 · exact ⟨rfl, rfl⟩
 · exact ⟨rfl, rfl⟩
 · exact ⟨rfl, rfl⟩
 · trivial

variable {S : SState} {a : Act}

theorem normB_eq (s : Sl) : normB s = s ∨ ∃ q, s = .sv (.dv (.cst (.bool q))) ∧ normB s = .sv (.dv (.bool q)) := by
 unfold normB
 split
 · exact .inr ⟨_, rfl, rfl⟩
 · exact .inl rfl
theorem normB_rel {s : Sl} {v : Value} (h : slRel H ρ a.tmps s v) : slRel H ρ a.tmps (normB s) v := by
 rcases normB_eq s with e | ⟨q, e, e2⟩
 · rw [e]; exact h
 · rw [e2]
   rw [e] at h
   exact h.1
theorem get_rel (hs : slotsRel H ρ S.tmps a.tmps) (t : Nat) : slRel H ρ a.tmps (S.get t) (a.tmps.getD t undef) := normB_rel (hs.2 t)
theorem evalO_sound (hs : slotsRel H ρ S.tmps a.tmps) (x : Operand) : slRel H ρ a.tmps (evalO S x) (a.eval x) := by
 cases x with
 | tmp t => exact get_rel hs t
 | const v => exact ofValue_rel H ρ v
 | func f => exact rfl
 | global g => trivial
theorem ev_sound (hs : slotsRel H ρ S.tmps a.tmps) {x : Operand} {s : SV} (h : ev S x = some s) : svRel H ρ s (a.eval x) := by
 have := evalO_sound hs x
 unfold ev svOf at h
 split at h
 · rename_i v hv; rw [hv] at this; simp at h; subst h; exact this
 · simp at h
theorem evs_sound (hs : slotsRel H ρ S.tmps a.tmps) : ∀ {xs : List Operand} {l : List SV}, evs S xs = some l → svsRel H ρ l (xs.map a.eval)
 | [], l, h => by simp [evs, optMap] at h; subst h; rfl
 | x :: r, l, h => by
   simp only [evs, optMap] at h
   split at h
   · simp at h
   · rename_i y hy
     split at h
     · simp at h
     · rename_i ys hys
       simp at h; subst h
       exact ⟨_, _, rfl, ev_sound hs hy, evs_sound hs hys⟩
theorem evP_sound (hs : slotsRel H ρ S.tmps a.tmps) : ∀ {xs : List (Nat × Operand)} {l : List (Nat × SV)}, evP S xs = some l → partsRel H ρ l (xs.map fun p => (p.1, a.eval p.2))
 | [], l, h => by simp [evP, optMap] at h; subst h; rfl
 | x :: r, l, h => by
   simp only [evP, optMap] at h
   split at h
   · simp at h
   · rename_i y hy
     split at h
     · simp at h
     · rename_i ys hys
       simp at h; subst h
       split at hy
       · rename_i v hv
         simp at hy; subst hy
         exact ⟨_, _, rfl, ev_sound hs hv, evP_sound hs hys⟩
       · simp at hy
theorem evO_sound (hs : slotsRel H ρ S.tmps a.tmps) {x : Option Operand} {s : Option SV} (h : evO S x = some s) : optRel H ρ s (x.map a.eval) := by
 cases x with
 | none => simp [evO] at h; subst h; simp [optRel]
 | some x =>
   simp only [evO] at h
   split at h
   · rename_i v hv; simp at h; subst h; simpa [optRel] using ev_sound hs hv
   · simp at h

theorem argsOf_sound : ∀ {ts : List TypeId} {vs : List SV} {xs : List Value}, svsRel H ρ vs xs → svsRel H ρ (argsOf P ts vs) xs
 | [], _, _, h => by cases ‹List SV› <;> exact h
 | _ :: _, [], _, h => h
 | t :: ts, v :: vs, _, ⟨x, xs, e, h1, h2⟩ => ⟨x, xs, e, nilFor_sound h1, argsOf_sound h2⟩

theorem eqVals_sound {t : TypeId} {op : BinOp} {q : Option Bool} {r : Res} (h : eqVals op q = some r) {x y : Value} (hxy : ∀ b, q = some b → (binOp .eql t x y).run P w = .ok (.bool b) w ∧ (binOp .neq t x y).run P w = .ok (.bool (!b)) w) {a : Array Value} :
 r.upd = [] ∧ ∃ v, (binOp op t x y).run P w = .ok v w ∧ slRel H ρ a r.out v := by
 unfold eqVals at h
 split at h
 · simp [dval] at h; subst h; exact ⟨rfl, _, (hxy _ rfl).1, rfl⟩
 · simp [dval] at h; subst h; exact ⟨rfl, _, (hxy _ rfl).2, rfl⟩
 · simp at h

theorem guard_pure {op : BinOp} {t : TypeId} {x y : Operand} {u v : Value} (h : ∀ us vs, u = .agg us → v = .agg vs → P.eqGuardType P.depth t = false) (h2 : u ≠ .nilIface) :
 (eqGuard op t x y u v).run P w = .ok () w := by
 by_cases hu : ∃ us vs, u = .agg us ∧ v = .agg vs
 · obtain ⟨us, vs, rfl, rfl⟩ := hu
   exact run_eqGuard_agg w op t x y us vs (h us vs rfl rfl)
 · cases u with
   | nilIface => exact absurd rfl h2
   | agg us =>
     cases v with
     | agg vs => exact absurd ⟨us, vs, rfl, rfl⟩ hu
     | _ => cases op <;> simp [eqGuard]
   | _ => cases op <;> simp [eqGuard]

theorem nilPtr_sound {t : TypeId} {v : Value} (h : nilPtr P t v = true) : (∃ e, P.underlying t = some (.pointer e)) ∧ v = .pointer none := by
 unfold nilPtr at h
 split at h
 · exact ⟨⟨_, ‹_›⟩, rfl⟩
 · simp at h
theorem nilMap_sound {t : TypeId} {v : Value} (h : nilMap P t v = true) : (∃ k e, P.underlying t = some (.map k e)) ∧ v = .map none := by
 unfold nilMap at h
 split at h
 · exact ⟨⟨_, _, ‹_›⟩, rfl⟩
 · simp at h

theorem eq_run {t : TypeId} {u v : Value} {b : Bool} (h : ∀ D, (Op.equalIn (D + 1) t u v).run P w = .ok b w) (hb : binOp .eql t u v = (do pure (.bool (← Op.equal t u v)))) (hn : binOp .neq t u v = (do pure (.bool (!(← Op.equal t u v))))) :
 (binOp .eql t u v).run P w = .ok (.bool b) w ∧ (binOp .neq t u v).run P w = .ok (.bool (!b)) w := by
 have h1 : (Op.equal t u v).run P w = .ok b w := h 9999
 rw [hb, hn]
 constructor <;> (rw [Sem.run_bind, h1]; rfl)

theorem binO_ok (I : MInv E H ρ hp N w) {op : BinOp} {t : TypeId} {x y : SV} {r : Res} (h : binO P op t x y = some r) (hvc : vcT r.vc) {vx vy : Value} (hx : svRel H ρ x vx) (hy : svRel H ρ y vy) {ox oy : Operand} {a : Array Value} :
 OpOk P E H ρ hp N lab w a (do pure (.value (← (do eqGuard op t ox oy vx vy; binOp op t vx vy)))) r := by
 suffices hh : (∀ us vs, vx = .agg us → vy = .agg vs → P.eqGuardType P.depth t = false) ∧ vx ≠ .nilIface ∧ (r.upd = [] ∧ ∃ v, (binOp op t vx vy).run P w = .ok v w ∧ slRel H ρ a r.out v) by
  obtain ⟨h1, h2, h3, v, h4, h5⟩ := hh
  refine OpOk.pure I ⟨h3, v, ?_, h5⟩
  rw [Sem.run_bind, guard_pure h1 h2]
  exact h4
 unfold binO at h
 split at h
 · -- shl
   have hxi : ∃ k m, vx = .int k m := by
    unfold shiftOp at h
    split at h
    · simp at h
    · split at h
      · exact ⟨_, _, hx⟩
      · exact ⟨_, _, hx⟩
      · exact ⟨_, _, hx⟩
      · exact ⟨_, _, hx⟩
      · exact ⟨_, _, hx.1⟩
      · simp at h
   obtain ⟨k, m, rfl⟩ := hxi
   exact ⟨by simp, by simp, shiftOp_sound (left := true) rfl h hvc hx hy t⟩
 · have hxi : ∃ k m, vx = .int k m := by
     unfold shiftOp at h
     split at h
     · simp at h
     · split at h
       · exact ⟨_, _, hx⟩
       · exact ⟨_, _, hx⟩
       · exact ⟨_, _, hx⟩
       · exact ⟨_, _, hx⟩
       · exact ⟨_, _, hx.1⟩
       · simp at h
   obtain ⟨k, m, rfl⟩ := hxi
   exact ⟨by simp, by simp, shiftOp_sound (left := false) rfl h hvc hx hy t⟩
 · split at h
   · have e1 : vx = _ := hx
     have e2 : vy = _ := hy
     subst e1; subst e2
     exact ⟨by simp, by simp, bvOp_sound .u8 rfl DV.u8 (fun _ _ => Iff.rfl) h hvc t⟩
   · have e1 : vx = _ := hx
     have e2 : vy = _ := hy
     subst e1; subst e2
     exact ⟨by simp, by simp, bvOp_sound .u16 rfl DV.u16 (fun _ _ => Iff.rfl) h hvc t⟩
   · have e1 : vx = _ := hx
     have e2 : vy = _ := hy
     subst e1; subst e2
     exact ⟨by simp, by simp, bvOp_sound .u32 rfl DV.u32 (fun _ _ => Iff.rfl) h hvc t⟩
   · have e1 : vx = _ := hx
     have e2 : vy = _ := hy
     subst e1; subst e2
     exact ⟨by simp, by simp, bvOp_sound .u64 rfl DV.u64 (fun _ _ => Iff.rfl) h hvc t⟩
   · obtain ⟨rfl, h1⟩ := hx
     obtain ⟨rfl, h2⟩ := hy
     exact ⟨by simp, by simp, i64Op_sound h hvc h1 h2 t⟩
   · rename_i b c
     have e1 : vx = _ := hx
     have e2 : vy = _ := hy
     subst e1; subst e2
     cases hb : isBoolT P t with
     | false => rw [hb] at h; simp at h
     | true =>
       rw [hb] at h; simp only [cond_true] at h
       have hu : P.underlying t = some .bool := by
        unfold isBoolT at hb
        split at hb
        · assumption
        · simp at hb
       refine ⟨by simp, by simp, eqVals_sound (t := t) h fun q hq => ?_⟩
       simp at hq; subst hq
       exact eq_run (fun D => by simp [Op.equalIn, run_underlying hu]) rfl rfl
   · obtain ⟨rfl, h1⟩ := hx
     obtain ⟨rfl, h2⟩ := hy
     exact ⟨by simp, by simp, strOp_sound h hvc t⟩
   · rename_i cs ds
     obtain ⟨us, rfl, h1⟩ := hx
     obtain ⟨vs, rfl, h2⟩ := hy
     cases hq : eqAgg P t cs ds with
     | none => rw [hq] at h; unfold eqVals at h; split at h <;> simp_all
     | some q =>
       obtain ⟨hg, hrun⟩ := eqAgg_sound (w := w) hq h1 h2
       refine ⟨fun _ _ _ _ => hg, by simp, ?_⟩
       rw [hq] at h
       refine eqVals_sound (t := t) h fun q' hq' => ?_
       simp at hq'; subst hq'
       exact ⟨by rw [run_eql_struct, hrun]; rfl, by rw [run_neq_struct, hrun]; rfl⟩
   · rename_i v
     obtain ⟨b, h1, rfl, _⟩ := hx
     cases hn : nilPtr P t v with
     | false => rw [hn] at h; simp at h
     | true =>
       rw [hn] at h; simp only [cond_true] at h
       obtain ⟨⟨e, hu⟩, rfl⟩ := nilPtr_sound hn
       obtain ⟨rfl, _⟩ := hy
       refine ⟨by simp, by simp, eqVals_sound (t := t) h fun q hq => ?_⟩
       simp at hq; subst hq
       exact eq_run (fun D => by simp [Op.equalIn, run_underlying hu]) rfl rfl
   · rename_i v
     obtain ⟨b, h1, rfl⟩ := hx
     cases hn : nilMap P t v with
     | false => rw [hn] at h; simp at h
     | true =>
       rw [hn] at h; simp only [cond_true] at h
       obtain ⟨⟨k, e, hu⟩, rfl⟩ := nilMap_sound hn
       obtain ⟨rfl, _⟩ := hy
       refine ⟨by simp, by simp, eqVals_sound (t := t) h fun q hq => ?_⟩
       simp at hq; subst hq
       exact eq_run (fun D => by simp [Op.equalIn, run_underlying hu]) rfl rfl
   · rename_i u v
     obtain ⟨rfl, _⟩ := hx
     obtain ⟨rfl, _⟩ := hy
     cases hn : (nilPtr P t vx && nilPtr P t vy || nilMap P t vx && nilMap P t vy) with
     | false => rw [hn] at h; simp at h
     | true =>
       rw [hn] at h; simp only [cond_true] at h
       simp only [Bool.or_eq_true, Bool.and_eq_true] at hn
       rcases hn with ⟨h1, h2⟩ | ⟨h1, h2⟩
       · obtain ⟨⟨e, hu⟩, rfl⟩ := nilPtr_sound h1
         obtain ⟨_, rfl⟩ := nilPtr_sound h2
         refine ⟨by simp, by simp, eqVals_sound (t := t) h fun q hq => ?_⟩
         simp at hq; subst hq
         exact eq_run (fun D => by simp [Op.equalIn, run_underlying hu]) rfl rfl
       · obtain ⟨⟨k, e, hu⟩, rfl⟩ := nilMap_sound h1
         obtain ⟨_, rfl⟩ := nilMap_sound h2
         refine ⟨by simp, by simp, eqVals_sound (t := t) h fun q hq => ?_⟩
         simp at hq; subst hq
         exact eq_run (fun D => by simp [Op.equalIn, run_underlying hu]) rfl rfl
   · simp at h

theorem armOf_sound (hs : slotsRel H ρ S.tmps a.tmps) {g : Nat} {want : Bool} {x : Operand} {v : Bool} (h : armOf S g want x = some v) (hg : a.tmps[g]? = some (.bool want)) : a.eval x = .bool v := by
 have he := evalO_sound hs x
 unfold armOf at h
 split at h
 · rename_i b hb
   rw [hb] at he
   simp at h; subst h
   exact he
 · rename_i g' want' b hb
   rw [hb] at he
   cases hc : (Nat.beq g g' && (want == want')) with
   | false => rw [hc] at h; simp at h
   | true =>
     rw [hc] at h; simp at h; subst h
     simp only [Bool.and_eq_true, beq_iff_eq] at hc
     obtain ⟨h1, rfl⟩ := hc
     have := Nat.eq_of_beq_eq_true h1; subst this
     exact he.1 hg
 · simp at h

theorem pickO_sound (hs : slotsRel H ρ S.tmps a.tmps) {c x y : Operand} {r : Res} (h : pickO S c x y = some r) :
 r.upd = [] ∧ ∃ v, (do pure (if ← asBool (a.eval c) then a.eval x else a.eval y) : Sem Value).run P w = .ok v w ∧ slRel H ρ a.tmps r.out v := by
 unfold pickO at h
 split at h
 · rename_i g
   split at h
   · rename_i cb va vb hc hx hy
     have hcv : a.eval (.tmp g) = .bool cb := by
      have := evalO_sound hs (.tmp g)
      rw [hc] at this; exact this
     have hget : a.tmps[g]? = some (.bool cb) := by
      simp only [Act.eval, Array.getD_eq_getD_getElem?] at hcv
      cases hh : a.tmps[g]? with
      | none => rw [hh] at hcv; simp [undef] at hcv
      | some u => rw [hh] at hcv; simp at hcv; rw [hcv]
     have hrun : ∀ (q : Bool), (if cb then va else vb) = q → (do pure (if ← asBool (a.eval (.tmp g)) then a.eval x else a.eval y) : Sem Value).run P w = .ok (.bool q) w := by
      rintro q rfl
      rw [hcv]
      cases cb
      · simp [asBool, armOf_sound hs hy hget]
      · simp [asBool, armOf_sound hs hx hget]
     split at h
     · simp [dval] at h; subst h
       have : va = true := by simpa [armOf, evalO, ofValue] using hx.symm
       subst this
       exact ⟨rfl, _, hrun _ (by cases cb <;> simp), rfl⟩
     · simp [dval] at h; subst h
       have : vb = false := by simpa [armOf, evalO, ofValue] using hy.symm
       subst this
       exact ⟨rfl, _, hrun _ (by cases cb <;> simp), rfl⟩
     · simp [dval] at h; subst h
       exact ⟨rfl, _, hrun _ (by cases cb <;> simp), rfl⟩
   · simp at h
 · simp at h

theorem nthO_sound : ∀ {ss : List SV} {vs : List Value} {i : Nat} {s : SV}, nthO ss i = some s → svsRel H ρ ss vs → ∃ v, vs[i]? = some v ∧ svRel H ρ s v
 | [], _, _, _, h, _ => by simp [nthO] at h
 | x :: r, _, 0, s, h, ⟨v, w, e, h1, h2⟩ => by simp [nthO] at h; subst h; subst e; exact ⟨v, rfl, h1⟩
 | x :: r, _, n + 1, s, h, ⟨v, w, e, h1, h2⟩ => by
   subst e
   simpa using nthO_sound (i := n) (by simpa [nthO] using h) h2

end Go.Vse
