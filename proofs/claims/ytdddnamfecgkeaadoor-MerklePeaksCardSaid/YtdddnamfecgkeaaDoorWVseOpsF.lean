/- Slices: cut, made, appended to, copied. -/
import Derived.Test.YtdddnamfecgkeaaDoorWVseOpsE
namespace Go.Vse
variable {P : Program} {E : Env} {H : Mem} {ρ : Lab} {hp : List (Nat × SObj)} {lab : Nat} {N : Nat → Prop} {w : World} {a : Array Value}

def optRel (H : Mem) (ρ : Lab) : Option SV → Option Value → Prop
 | none, none => True
 | some s, some u => svRel H ρ s u
 | _, _ => False
theorem bound_of {v : Option SV} {n : Option Int} (h : natOf v = some n) {x : Option Value} (hx : optRel H ρ v x) :
 intOpt n x := by
 unfold natOf at h
 split at h <;> simp only [Option.some.injEq, reduceCtorEq] at h <;> subst h
 · cases x with
   | none => trivial
   | some u => simp [optRel] at hx
 · cases x with
   | none => simp [optRel] at hx
   | some u => exact hx.1

theorem slice_cut {c : T} {xs : List c.den} {v : Value} (h : sliceRel H (eltRel H c) xs v) {p q : Nat} (hpq : p ≤ q) (hq : q ≤ xs.length) :
 ∃ len cap b, v = .slice b len cap ∧ len = xs.length ∧ len ≤ cap ∧
  ∀ m, q ≤ m → m ≤ cap → sliceRel H (eltRel H c) ((xs.take q).drop p) (.slice (if m = p then b else b.map (·.add (p * c.size))) (q - p) (m - p)) := by
 obtain ⟨hL, h⟩ := h
 have hlen : ((xs.take q).drop p).length = q - p := by simp; omega
 rcases h with ⟨rfl, rfl | ⟨a0, rfl⟩⟩ | ⟨b, o, cap, cs, rfl, hlc, hrow, hci⟩
 · simp at hq
   have : p = 0 := by omega
   subst this; subst hq
   refine ⟨0, 0, none, rfl, rfl, Nat.le_refl _, fun m _ hm => ⟨by simp [LIM], .inl ⟨by simp, .inl ?_⟩⟩⟩
   have : m = 0 := by omega
   subst this; rfl
 · simp at hq
   have : p = 0 := by omega
   subst this; subst hq
   refine ⟨0, 0, some a0, rfl, rfl, Nat.le_refl _, fun m _ hm => ⟨by simp [LIM], .inl ⟨by simp, .inr ⟨a0, ?_⟩⟩⟩⟩
   have : m = 0 := by omega
   subst this; rfl
 · refine ⟨_, cap, some ⟨b, o, none⟩, rfl, rfl, hlc, fun m hm _ => ⟨by rw [hlen]; omega, .inr ?_⟩⟩
   have hs := eltRel_length (H := H) c
   have h1 := (rowRel_take hs hrow q).1
   have h2 := (rowRel_take hs h1 p).2
   by_cases hmp : m = p
   · subst hmp
     have : q = m := by omega
     subst this
     refine ⟨b, o, 0, (cs.take (q * c.size)).drop (q * c.size), by simp, by simp, h2, ?_⟩
     have he : (cs.take (q * c.size)).drop (q * c.size) = [] := by simp
     rw [he]; intro i hi; simp at hi
   · refine ⟨b, o + p * c.size, m - p, _, by simp [hlen, hmp, add_at], by rw [hlen]; omega, h2, ?_⟩
     have hk : p * c.size ≤ (cs.take (q * c.size)).length := by
      rw [rowRel_length hs h1]; simp; exact Nat.mul_le_mul_right _ (by omega)
     have hci' : cellsIn H b o ((cs.take (q * c.size)).take (p * c.size) ++ (cs.take (q * c.size)).drop (p * c.size)) := by
      rw [List.take_append_drop]
      have := hci
      rw [← List.take_append_drop (q * c.size) cs] at this
      exact cellsIn_take this
     have := cellsIn_drop hci'
     rwa [List.length_take, Nat.min_eq_left hk] at this

theorem run_max {i : Int} {y : Nat} (h : i = (y : Int)) {cap : Nat} (hy : y ≤ cap) {code : BoundsCode} : (Instr.sliceBound (.int .i64 i) cap code).run P w = .ok y w := by
 subst h
 rw [run_bound ⟨by omega, by omega⟩]; simp

theorem cut_run3 {len cap : Nat} (hlc : len ≤ cap) {lo hi : Option Int} {vc : Option Prop} {p q : Nat} (h : cutVC len lo hi = (vc, p, q)) (hvc : vcT vc) {m : Int} (hm : m = (q : Int)) {vlo vhi : Option Value}
 (h1 : intOpt lo vlo) (h2 : intOpt hi vhi) (hh : hi ≠ none) :
 p ≤ q ∧ q ≤ len ∧ (Instr.sliceBounds true len cap vlo vhi (some (.int .i64 m))).run P w = .ok (p, q, q) w := by
 unfold cutVC at h
 cases lo <;> cases hi <;> simp only [Prod.mk.injEq] at h <;> obtain ⟨rfl, rfl, rfl⟩ := h <;> cases vlo <;> cases vhi <;> simp only [intOpt] at h1 h2 <;> try (exact h1.elim) <;> try (exact h2.elim)
 · exact absurd rfl hh
 · subst h2
   have hv := hvc
   simp only [vcT, leP] at hv
   refine ⟨Nat.zero_le _, by omega, ?_⟩
   simp only [Instr.sliceBounds, Sem.run_bind, Sem.run_pure]
   rw [run_max (P := P) (w := w) hm (by omega)]
   simp only [Result.andThen_ok]
   rw [run_bound (P := P) (w := w) ⟨hv.1, by omega⟩]
   rfl
 · exact absurd rfl hh
 · subst h1; subst h2
   have hv := hvc
   simp only [vcT, leP] at hv
   refine ⟨by omega, by omega, ?_⟩
   simp only [Instr.sliceBounds, Sem.run_bind, Sem.run_pure]
   rw [run_max (P := P) (w := w) hm (by omega)]
   simp only [Result.andThen_ok]
   rw [run_bound (P := P) (w := w) ⟨by omega, by omega⟩]
   simp only [Result.andThen_ok]
   rw [run_bound (P := P) (w := w) ⟨hv.1, by omega⟩]
   rfl

theorem sliceO_sound {t : TypeId} {x : SV} {lo hi mx : Option SV} {r : Res} (h : sliceO P hp t x lo hi mx = some r) (hvc : vcT r.vc) {vx : Value} {vlo vhi vmx : Option Value} (hx : svRel H ρ x vx)
 (h1 : optRel H ρ lo vlo) (h2 : optRel H ρ hi vhi) (h3 : optRel H ρ mx vmx) : r.upd = [] ∧ ∃ v, (Instr.sliceAt t vx vlo vhi vmx).run P w = .ok v w ∧ slRel H ρ a r.out v := by
 unfold sliceO at h
 split at h
 · rename_i lo' hi' mx' hl hh hm
   have b1 := bound_of hl h1
   have b2 := bound_of hh h2
   have b3 := bound_of hm h3
   split at h
   · -- a text
     rename_i l
     cases hb : isStrT P t with
     | false => rw [hb] at h; simp at h
     | true =>
       rw [hb] at h; simp only [cond_true] at h
       have hu : P.underlying t = some .string := by
        unfold isStrT at hb
        split at hb
        · assumption
        · simp at hb
       split at h
       · rename_i vc p q hc
         simp at h; subst h
         obtain ⟨rfl, hL⟩ := hx
         cases vmx with
         | some u => simp [intOpt] at b3
         | none =>
         obtain ⟨hpq, hq, hrun⟩ := cut_run (P := P) (w := w) (isSlice := false) (Nat.le_refl _) hc hvc b1 b2
         refine ⟨rfl, .string ((toBA l).extract p q), ?_, ?_, ?_⟩
         · rw [← toBA_size] at hrun
           simp only [Instr.sliceAt, Sem.run_bind, run_underlying hu, Result.andThen_ok, Instr.slice]
           simp [hrun]
         · congr 1
           apply WideShapes.bytes_inj
           rw [toBA_data]
           simp [toBA, ByteArray.data_extract, List.map_drop, List.map_take, List.drop_take]
         · simp; omega
       · simp at h
   · rename_i l p o
     split at h
     · rename_i n e hu
       split at h
       · rename_i vc p' q c hc hcode
         cases hb : (Nat.ble n 4194304 && Nat.ble 1 n) with
         | false => rw [hb] at h; simp at h
         | true =>
           rw [hb] at h; simp only [cond_true, Option.some.injEq] at h; subst h
           simp only [Bool.and_eq_true] at hb
           have hn1 := Nat.le_of_ble_eq_true hb.2
           obtain ⟨hvc, hvp⟩ := vcT_and hvc
           obtain ⟨b, hρ, rfl, hlit⟩ := hx
           cases vmx with
           | some u => simp [intOpt] at b3
           | none =>
           obtain ⟨hpq, hq, hrun⟩ := cut_run (P := P) (w := w) (isSlice := false) (Nat.le_refl n) hc hvc b1 b2
           obtain ⟨⟨i, z, hi, hz, _, hs⟩, hco⟩ := code_sound hcode
           have hn := Nat.le_of_ble_eq_true hb.1
           have hpn : p' < n := by
            cases lo' with
            | none =>
              have : p' = 0 := by unfold cutVC at hc; cases hi' <;> simp at hc <;> omega
              omega
            | some m => exact hvp
           refine ⟨rfl, .slice (some (if n = p' then ⟨b, pathOff p + o, none⟩ else (⟨b, pathOff p + o, none⟩ : Addr).add (p' * c.size))) (q - p') (n - p'), ?_, b, n - p', hρ, ?_, hlit, by omega, by omega, by unfold LIM; omega⟩
           · simp only [Instr.sliceAt, Sem.run_bind, run_underlying hu, Result.andThen_ok, Instr.sureAddr, Sem.run_pure, hrun]
             simp [sizeOf, typeInfo, hi, hs]
           · rw [if_neg (by omega), add_at]
       · simp at h
     · simp at h
   · rename_i l p o
     split at h
     · rename_i n e hu
       split at h
       · rename_i vc p' q c hc hcode
         cases hb : (Nat.ble n 4194304 && Nat.ble 1 n) with
         | false => rw [hb] at h; simp at h
         | true =>
           rw [hb] at h; simp only [cond_true, Option.some.injEq] at h; subst h
           simp only [Bool.and_eq_true] at hb
           have hn1 := Nat.le_of_ble_eq_true hb.2
           obtain ⟨hvc, hvp⟩ := vcT_and hvc
           obtain ⟨b, m0, c0, hρ, rfl, hlit⟩ := hx
           cases vmx with
           | some u => simp [intOpt] at b3
           | none =>
           obtain ⟨hpq, hq, hrun⟩ := cut_run (P := P) (w := w) (isSlice := false) (Nat.le_refl n) hc hvc b1 b2
           obtain ⟨⟨i, z, hi, hz, _, hs⟩, hco⟩ := code_sound hcode
           have hn := Nat.le_of_ble_eq_true hb.1
           have hpn : p' < n := by
            cases lo' with
            | none =>
              have : p' = 0 := by unfold cutVC at hc; cases hi' <;> simp at hc <;> omega
              omega
            | some m => exact hvp
           refine ⟨rfl, .slice (some (if n = p' then ⟨b, pathOff p + o, none⟩ else (⟨b, pathOff p + o, none⟩ : Addr).add (p' * c.size))) (q - p') (n - p'), ?_, b, m0, c0, n - p', hρ, ?_, hlit, by omega, by omega, by unfold LIM; omega⟩
           · simp only [Instr.sliceAt, Sem.run_bind, run_underlying hu, Result.andThen_ok, Instr.sureAddr, Sem.run_pure, hrun]
             simp [sizeOf, typeInfo, hi, hs]
           · rw [if_neg (by omega), add_at]
       · simp at h
     · simp at h
   · rename_i c m xs rest
     split at h
     · rename_i n e hu
       split at h
       · rename_i c' hcode
         split at h
         · rename_i hcc
           subst hcc
           cases hb : (Nat.ble n 4194304 && Nat.beq m n) with
           | false => rw [hb] at h; simp at h
           | true =>
             rw [hb] at h; simp only [cond_true, Option.some.injEq] at h; subst h
             simp only [Bool.and_eq_true] at hb
             have hn := Nat.le_of_ble_eq_true hb.1
             have hmn := Nat.eq_of_beq_eq_true hb.2
             subst hmn
             obtain ⟨b, off, cs, rfl, ⟨A, B, rfl, ⟨hxl, hrow⟩, _⟩, hci⟩ := hx
             cases vlo with
             | some u => simp [intOpt] at b1
             | none =>
             cases vhi with
             | some u => simp [intOpt] at b2
             | none =>
             cases vmx with
             | some u => simp [intOpt] at b3
             | none =>
             refine ⟨rfl, .slice (some ⟨b, off, none⟩) m m, ?_, by rw [hxl]; unfold LIM; omega, .inr ⟨b, off, m, A, by rw [hxl], by rw [hxl]; exact Nat.le_refl _, hrow, cellsIn_take hci⟩⟩
             obtain ⟨⟨i, z, hi, hz, _, hs⟩, hco⟩ := code_sound hcode
             simp only [Instr.sliceAt, Sem.run_bind, run_underlying hu, Result.andThen_ok, Instr.sureAddr, Sem.run_pure, Instr.sliceBounds]
             simp [sizeOf, typeInfo, hi, hs, Addr.add]
         · simp at h
       · simp at h
     · simp at h
   · split at h
     · rename_i c xs vc' hs
       split at h
       · rename_i e hu
         cases hcs : Nat.beq c.size (sizeT P e) && !Nat.beq (sizeT P e) 0 with
         | false => rw [hcs] at h; simp at h
         | true =>
           rw [hcs] at h; simp only [cond_true] at h
           simp only [Bool.and_eq_true, Bool.not_eq_true'] at hcs
           have hce := Nat.eq_of_beq_eq_true hcs.1
           have hne : P.cellsOf e ≠ 0 := fun e => by have := hcs.2; simp [sizeT, e] at this
           have hsl := imm_of hs rfl hx
           split at h
           · rename_i vc p q hc
             simp at h; subst h
             cases vmx with
             | some u => simp [intOpt] at b3
             | none =>
             have hx0 := hsl.2
             obtain ⟨hpq, hq, _⟩ := cut_run (P := P) (w := w) (isSlice := true) (Nat.le_refl _) hc hvc b1 b2
             obtain ⟨len, cap, bb, rfl, hlen, hlc, hcut⟩ := slice_cut hsl hpq hq
             simp only at hlen
             subst hlen
             obtain ⟨_, _, hrun⟩ := cut_run (P := P) (w := w) (isSlice := true) hlc hc hvc b1 b2
             refine ⟨rfl, .slice (if cap = p then bb else bb.map (·.add (p * c.size))) (q - p) (cap - p), ?_, hcut cap (by omega) (Nat.le_refl _)⟩
             simp only [Instr.sliceAt, Sem.run_bind, run_underlying hu, Result.andThen_ok, Instr.slice, hrun, cells_info hne]
             rw [sizeT] at hce
             simp [hce]
           · rename_i vc p q m hc
             cases hhi : hi' with
             | none => rw [hhi] at h; simp at h
             | some hv' =>
               rw [hhi] at h; simp at h; subst h
               obtain ⟨hv1, hv2⟩ := vcT_and hvc
               cases vmx with
               | none => simp [intOpt] at b3
               | some u =>
               simp only [intOpt] at b3; subst b3
               obtain ⟨hpq, hq, _⟩ := cut_run3 (P := P) (w := w) (Nat.le_refl _) hc hv1 hv2 b1 b2 (by rw [hhi]; simp)
               obtain ⟨len, cap, bb, rfl, hlen, hlc, hcut⟩ := slice_cut hsl hpq hq
               simp only at hlen
               subst hlen
               obtain ⟨_, _, hrun⟩ := cut_run3 (P := P) (w := w) hlc hc hv1 hv2 b1 b2 (by rw [hhi]; simp)
               have hr := hcut q (Nat.le_refl _) (by omega)
               refine ⟨rfl, .slice (if q = p then bb else bb.map (·.add (p * c.size))) (q - p) (q - p), ?_, hr, ?_⟩
               · simp only [Instr.sliceAt, Sem.run_bind, run_underlying hu, Result.andThen_ok, Instr.slice, hrun, cells_info hne]
                 rw [sizeT] at hce
                 simp [hce]
               · intro ad n' c' e'
                 simp at e'
                 omega
       · simp at h
     · simp at h
 · simp at h

end Go.Vse
