/- Maps. -/
import Derived.Test.YtmjkknlkgkjigaaQVseOpsL
import Derived.MapKept
namespace Go.Vse
variable {P : Program} {E : Env} {H : Mem} {ρ ρ' : Lab} {hp : List (Nat × SObj)} {lab : Nat} {N : Nat → Prop} {w : World} {S : SState} {a : Array Value}

theorem eqVs_eq' {x y : List Value} (h : eqVs x y = true) : x = y := eqVs_eq h

/-- where a key stands -/
def midx (k : T) {v : Type} : List (k.den × v) → k.den → Option Nat
  | [], _ => none
  | p :: r, x => haveI := k.deq; bif decide (x = p.1) then some 0 else (midx k r x).map (· + 1)

theorem midx_none {k : T} {v : Type} : ∀ {es : List (k.den × v)} {x : k.den}, midx k es x = none → mget k es x = none ∧ (∀ y, mput k es x y = es ++ [(x, y)]) ∧ mdel k es x = es
  | [], _, _ => ⟨rfl, fun _ => rfl, rfl⟩
  | p :: r, x, h => by
    simp only [midx] at h
    cases hd : (haveI := k.deq; decide (x = p.1)) with
    | true => simp only [hd] at h; cases h
    | false =>
      simp only [hd, cond_false, Option.map_eq_none_iff] at h
      obtain ⟨h1, h2, h3⟩ := midx_none h
      refine ⟨?_, fun y => ?_, ?_⟩
      · simp only [mget, hd, cond_false, h1]
      · simp only [mput, hd, cond_false, h2, List.cons_append]
      · simp only [mdel, hd, cond_false, h3]
theorem midx_some {k : T} {v : Type} : ∀ {es : List (k.den × v)} {x : k.den} {j : Nat}, midx k es x = some j → ∃ y, es[j]? = some (x, y) ∧ mget k es x = some y ∧ (∀ y', mput k es x y' = es.set j (x, y')) ∧ mdel k es x = es.eraseIdx j
  | [], _, _, h => by simp [midx] at h
  | p :: r, x, j, h => by
    simp only [midx] at h
    cases hd : (haveI := k.deq; decide (x = p.1)) with
    | true =>
      simp only [hd, cond_true, Option.some.injEq] at h
      subst h
      have hx : x = p.1 := by
        letI := k.deq
        exact of_decide_eq_true hd
      refine ⟨p.2, by rw [hx]; rfl, ?_, fun y' => ?_, ?_⟩
      · simp only [mget, hd, cond_true]
      · simp only [mput, hd, cond_true, List.set_cons_zero]
        rw [hx]
      · simp only [mdel, hd, cond_true, List.eraseIdx_cons_zero]
    | false =>
      simp only [hd, cond_false, Option.map_eq_some_iff] at h
      obtain ⟨i, hi, rfl⟩ := h
      obtain ⟨y, h1, h2, h3, h4⟩ := midx_some hi
      refine ⟨y, by simpa using h1, ?_, fun y' => ?_, ?_⟩
      · simp only [mget, hd, cond_false, h2]
      · simp only [mput, hd, cond_false, h3, List.set_cons_succ]
      · simp only [mdel, hd, cond_false, h4, List.eraseIdx_cons_succ]

theorem scalar_now {e : TypeId} {c : T} (h : scalarT P e c = true) : ∃ d, P.underlying e = some d ∧ (∀ x : c.den, MapKept.IsKey d (cellOf c x)) ∧ ∀ x y : c.den, Instr.sameNow d (cellOf c x) (cellOf c y) = some (haveI := c.deq; decide (x = y)) := by
  have hb : ∀ (n : Nat) (x y : BitVec n), ((x.toNat : Int) == y.toNat) = decide (x = y) := by
    intro n x y
    rw [Bool.eq_iff_iff, beq_iff_eq, decide_eq_true_iff]
    exact ⟨fun e => BitVec.eq_of_toNat_eq (by omega), fun e => by rw [e]⟩
  unfold scalarT at h
  split at h <;> first | (simp at h; done) | skip
  · rename_i hu; exact ⟨_, hu, fun _ => rfl, fun x y => by simp only [cellOf, Instr.sameNow, if_true]; rw [hb 8 x y]; rfl⟩
  · rename_i hu; exact ⟨_, hu, fun _ => rfl, fun x y => by simp only [cellOf, Instr.sameNow, if_true]; rw [hb 16 x y]; rfl⟩
  · rename_i hu; exact ⟨_, hu, fun _ => rfl, fun x y => by simp only [cellOf, Instr.sameNow, if_true]; rw [hb 32 x y]; rfl⟩
  · rename_i hu; exact ⟨_, hu, fun _ => rfl, fun x y => by simp only [cellOf, Instr.sameNow, if_true]; rw [hb 64 x y]; rfl⟩
  · rename_i hu; exact ⟨_, hu, fun _ => rfl, fun x y => by simp only [cellOf, Instr.sameNow, if_true]; rfl⟩
  · rename_i hu; exact ⟨_, hu, fun _ => trivial, fun x y => by simp only [cellOf, Instr.sameNow]; cases x <;> cases y <;> rfl⟩
  · rename_i hu
    refine ⟨_, hu, fun _ => trivial, fun x y => ?_⟩
    simp only [cellOf, Instr.sameNow]
    congr 1
    rw [Bool.eq_iff_iff, MapKept.bytes_beq, decide_eq_true_iff]
    refine ⟨fun e => ?_, fun e => by rw [e]⟩
    have := congrArg ByteArray.toList e
    rw [toBA_list, toBA_list] at this
    exact map_ofBV_inj.1 this

/-- a scalar key's cell -/
theorem key_cell {e : TypeId} {c : T} (h : scalarT P e c = true) {x : c.den} {v : Value} (hx : datV H false c x v) : v = cellOf c x := by
  obtain ⟨cs, h1, h2⟩ := hx
  simp only [Bool.false_eq_true, if_false] at h2
  have := scalar_cell h x cs h1
  rw [h2] at this
  simpa using this

theorem find_run {kty : TypeId} {kt vt : T} {va : Bool} {d : TypeDesc} (hsame : ∀ x y : kt.den, Instr.sameNow d (cellOf kt x) (cellOf kt y) = some (haveI := kt.deq; decide (x = y))) (hsc : scalarT P kty kt = true) (x : kt.den) :
    ∀ {es : List (kt.den × vt.den)} {en : List MapEntry} (_ : entRel H false kt va vt es en) (i : Nat), ∃ r, Instr.findNow d (cellOf kt x) en i = some r ∧
      match midx kt es x with
      | none => r = none
      | some j => ∃ e y, r = some (i + j, e.val) ∧ en[j]? = some e ∧ es[j]? = some (x, y) ∧ e.key = cellOf kt x ∧ datV H va vt y e.val
  | [], [], _, i => ⟨none, rfl, rfl⟩
  | p :: r, e :: s, ⟨h1, h2, h3⟩, i => by
    have hk := key_cell hsc h1
    have hs := hsame x p.1
    rw [← hk] at hs
    cases hd : (haveI := kt.deq; decide (x = p.1)) with
    | true =>
      have hx : x = p.1 := by
        letI := kt.deq
        exact of_decide_eq_true hd
      rw [hd] at hs
      refine ⟨some (i, e.val), by simp only [Instr.findNow, hs], ?_⟩
      simp only [midx, hd, cond_true]
      exact ⟨e, p.2, by simp, rfl, by rw [hx]; rfl, by rw [hk, hx], h2⟩
    | false =>
      rw [hd] at hs
      obtain ⟨q, g1, g2⟩ := find_run hsame hsc x h3 (i + 1)
      refine ⟨q, by simp only [Instr.findNow, hs, g1], ?_⟩
      simp only [midx, hd, cond_false]
      cases hm : midx kt r x with
      | none => rw [hm] at g2; exact g2
      | some j =>
        rw [hm] at g2
        obtain ⟨e', y, k1, k2, k3, k4, k5⟩ := g2
        exact ⟨e', y, by rw [k1, show i + 1 + j = i + (j + 1) by omega], by simpa using k2, by simpa using k3, k4, k5⟩
  | [], _ :: _, h, _ => h.elim
  | _ :: _, [], h, _ => h.elim

theorem entRel_append {ka : Bool} {kt : T} {va : Bool} {vt : T} {x : kt.den} {y : vt.den} {e : MapEntry} (h1 : datV H ka kt x e.key) (h2 : datV H va vt y e.val) : ∀ {es : List (kt.den × vt.den)} {en : List MapEntry}, entRel H ka kt va vt es en → entRel H ka kt va vt (es ++ [(x, y)]) (en ++ [e])
  | [], [], _ => ⟨h1, h2, trivial⟩
  | _ :: _, _ :: _, ⟨g1, g2, g3⟩ => ⟨g1, g2, entRel_append h1 h2 g3⟩
  | [], _ :: _, h => h.elim
  | _ :: _, [], h => h.elim
theorem entRel_set {ka : Bool} {kt : T} {va : Bool} {vt : T} {x : kt.den} {y : vt.den} {f : MapEntry → MapEntry} : ∀ {j : Nat} {es : List (kt.den × vt.den)} {en : List MapEntry}, entRel H ka kt va vt es en → (∀ e, en[j]? = some e → datV H ka kt x (f e).key ∧ datV H va vt y (f e).val) → entRel H ka kt va vt (es.set j (x, y)) (en.modify j f)
  | _, [], [], _, _ => by simp [entRel]
  | 0, _ :: _, e :: _, ⟨_, _, g3⟩, h => by
    obtain ⟨h1, h2⟩ := h e rfl
    simp only [List.set_cons_zero, List.modify_zero_cons]
    exact ⟨h1, h2, g3⟩
  | j + 1, _ :: _, _ :: _, ⟨g1, g2, g3⟩, h => by
    simp only [List.set_cons_succ, List.modify_succ_cons]
    exact ⟨g1, g2, entRel_set g3 (fun e he => h e (by simpa using he))⟩
  | _, [], _ :: _, h, _ => h.elim
  | _, _ :: _, [], h, _ => h.elim
theorem entRel_erase {ka : Bool} {kt : T} {va : Bool} {vt : T} : ∀ {j : Nat} {es : List (kt.den × vt.den)} {en : List MapEntry}, entRel H ka kt va vt es en → entRel H ka kt va vt (es.eraseIdx j) (en.eraseIdx j)
  | _, [], [], _ => by simp [entRel]
  | 0, _ :: _, _ :: _, ⟨_, _, g3⟩ => g3
  | j + 1, _ :: _, _ :: _, ⟨g1, g2, g3⟩ => ⟨g1, g2, entRel_erase g3⟩
  | _, [], _ :: _, h => h.elim
  | _, _ :: _, [], h => h.elim
theorem entRel_length {ka : Bool} {kt : T} {va : Bool} {vt : T} : ∀ {es : List (kt.den × vt.den)} {en : List MapEntry}, entRel H ka kt va vt es en → en.length = es.length
  | [], [], _ => rfl
  | _ :: _, _ :: _, ⟨_, _, g⟩ => by simp [entRel_length g]
  | [], _ :: _, h => h.elim
  | _ :: _, [], h => h.elim

theorem plainOf_sound (I : MInv E H ρ hp N w) {t : T} {s : SV} {x : t.den} (h : plainOf hp t s = some x) {v : Value} (hv : svRel H ρ s v) : datV H false t x v := by
  unfold plainOf at h
  split at h
  · rename_i d
    split at h
    · rename_i y hd
      simp at h; subst h
      unfold decSV at hd
      split at hd
      · rename_i dd hdd
        split at hd
        · rename_i cs hcs
          split at hd
          · rename_i z hz
            simp only [Option.some.injEq, Dec.mk.injEq] at hd
            obtain ⟨rfl, hu, hvc⟩ := hd
            have hdv : dd.v = .dv d ∨ ∃ t', d = .nils t' := by
              cases d <;> simp only [asData, Option.some.injEq] at hdd <;> subst hdd <;> first | exact .inl rfl | exact .inr ⟨_, rfl⟩
            rcases hdv with hdv | ⟨t', rfl⟩
            · rw [hdv] at hcs
              have := decAll_sound (ρ := ρ) hz (toCells_sound hcs hv)
              exact ⟨_, this, by simp only [Bool.false_eq_true, if_false]; rw [(dv_one hv).2]⟩
            · simp only [asData, Option.some.injEq] at hdd
              subst hdd
              have hv' : svRel H ρ (.dv (.imm t' [])) v := ⟨by simp [LIM], .inl ⟨rfl, .inl hv⟩⟩
              have := decAll_sound (ρ := ρ) hz (toCells_sound hcs hv')
              exact ⟨_, this, by simp only [Bool.false_eq_true, if_false]; rw [(dv_one (H := H) (d := .nils t') hv).2]⟩
          · simp at hd
        · simp at hd
      · simp at hd
    · simp at h
  · simp at h

theorem mapOk_spec {kty ety : TypeId} {ka : Bool} {kt : T} {va : Bool} {vt : T} (h : mapOk P kty ety ka kt va vt = true) : ka = false ∧ scalarT P kty kt = true ∧ isAggT P ety = some va ∧ P.cellsOf ety = vt.size ∧
    ∃ z, (∀ w, (zeroValue ety).run P w = .ok z w) ∧ datV H va vt vt.dflt z := by
  unfold mapOk at h
  simp only [Bool.and_eq_true, Bool.not_eq_true'] at h
  obtain ⟨⟨h1, h2⟩, h3⟩ := h
  split at h3
  · rename_i b i hb hi
    simp only [Bool.and_eq_true, beq_iff_eq] at h3
    obtain ⟨⟨rfl, h4⟩, h5⟩ := h3
    split at h5
    · rename_i z hz
      refine ⟨h1, h2, hb, Nat.eq_of_beq_eq_true h4, z, fun w => by simp [zeroValue, typeInfo, hi, hz], zeroL vt, dflt_rel H vt, ?_⟩
      unfold zeroFits at h5
      split at h5
      · rename_i a
        simp only [Bool.and_eq_true] at h5
        rw [if_pos h5.1, ← eqVs_eq h5.2]
      · split at h5
        · rename_i u _ hl
          simp only [Bool.false_eq_true, if_false]
          rw [hl, eqV_eq h5]
        · cases h5
    · cases h5
  · cases h3

theorem valOf_dat {ety : TypeId} {va : Bool} {vt : T} (hagg : isAggT P ety = some va) {y : vt.den} {u : Value} (h : datV H va vt y u) {s : SV} (hs : ofCells P ety (ofRuns (enc vt y)) = some s) : svRel H ρ s u := by
  obtain ⟨cs, h1, h2⟩ := h
  obtain ⟨b, hb, _, hrel⟩ := ofCells_sound (ρ := ρ) hs (scsRel_ofRuns.2 ((enc_rel vt y cs).2 h1))
  rw [hagg] at hb
  simp only [Option.some.injEq] at hb
  subst hb
  unfold valOf at hrel
  rw [hagg] at hrel
  cases va with
  | true =>
    simp only [if_true] at h2
    subst h2
    exact hrel
  | false =>
    simp only [Bool.false_eq_true, if_false] at h2
    subst h2
    exact hrel

theorem lookupO_sound (I : MInv E H ρ hp N w) {t : TypeId} {x i : SV} {ok : Bool} {r : Res} (h : lookupO P hp t x i ok = some r) {vx vi : Value} (hx : svRel H ρ x vx) (hi : svRel H ρ i vi) :
    r.upd = [] ∧ ∃ v, (Instr.lookup t vx vi ok).run P w = .ok v w ∧ slRel H ρ a r.out v := by
  unfold lookupO at h
  split at h
  · rename_i l kty ety hu
    split at h
    · rename_i ka kt va vt es hl
      cases hm : mapOk P kty ety ka kt va vt with
      | false => rw [hm] at h; simp at h
      | true =>
        rw [hm] at h; simp only [cond_true] at h
        split at h
        · rename_i k hk
          split at h
          · rename_i v hv
            simp only [Option.some.injEq] at h; subst h
            obtain ⟨rfl, hsc, hagg, hsz, z, hz, hzd⟩ := mapOk_spec (H := H) hm
            have hobj := I.objs l
            rw [hl] at hobj
            obtain ⟨b, en, clock, hρ, hblk, hent, _, _, _⟩ := hobj
            obtain ⟨b', hρ', rfl⟩ := hx
            rw [hρ] at hρ'; simp at hρ'; subst hρ'
            have hkey := key_cell hsc (plainOf_sound I hk hi)
            subst hkey
            obtain ⟨d, hd, hisk, hsame⟩ := scalar_now hsc
            obtain ⟨q, g1, g2⟩ := find_run (P := P) hsame hsc k hent 0
            have hck : ∀ em, (Instr.checkKey em 10000 kty (cellOf kt k)).run P w = .ok () w := fun em => MapKept.run_checkKey hd (hisk k) em 9999
            have key : ∀ u o, datV H va vt ((mget kt es k).getD vt.dflt) u → (mget kt es k).isSome = o → slRel H ρ a (bif ok then .tup [v, .dv (.bool (mget kt es k).isSome)] else .sv v) (if ok then .tuple #[u, .bool o] else u) := by
              intro u o hu ho
              have hs := valOf_dat (ρ := ρ) hagg hu hv
              cases ok with
              | true => exact ⟨[u, .bool o], rfl, u, _, rfl, hs, _, _, rfl, by rw [ho]; rfl, rfl⟩
              | false => exact hs
            cases hmi : midx kt es k with
            | none =>
              rw [hmi] at g2
              simp only at g2
              subst g2
              obtain ⟨m1, _, _⟩ := midx_none hmi
              refine ⟨rfl, _, ?_, key z false (by rw [m1]; exact hzd) (by rw [m1]; rfl)⟩
              simp [Instr.lookup, run_underlying hu, MapKept.run_getObj_map hblk, hck, MapKept.run_findKey hd g1, hz]
            | some j =>
              rw [hmi] at g2
              obtain ⟨e, y, rfl, k2, k3, k4, k5⟩ := g2
              obtain ⟨y', m1, m2, _, _⟩ := midx_some hmi
              rw [k3] at m1
              simp only [Option.some.injEq, Prod.mk.injEq, true_and] at m1
              subst m1
              refine ⟨rfl, _, ?_, key e.val true (by rw [m2]; exact k5) (by rw [m2]; rfl)⟩
              simp [Instr.lookup, run_underlying hu, MapKept.run_getObj_map hblk, hck, MapKept.run_findKey hd g1]
          · simp at h
        · simp at h
    · simp at h
  · simp at h

theorem makeMapO_ok (I : MInv E H ρ hp N w) (hN : N lab) {t : TypeId} {r : Res} (h : makeMapO P t lab none = some r) :
    OpOk P E H ρ hp N lab w a (do pure (.value (← Instr.makeMap t none))) r := by
  unfold makeMapO at h
  split at h
  · rename_i kty ety _ hu
    split at h
    · rename_i kt vt va _ _ _
      cases hm : mapOk P kty ety false kt va vt with
      | false => rw [hm] at h; simp at h
      | true =>
        rw [hm] at h; simp at h; subst h
        have hlab := setLab_le (v := .map (some w.heap.size)) (I.bound lab hN)
        refine ⟨.map (some w.heap.size), w.alloc (.map #[] 0), H, setLab ρ lab (.map (some w.heap.size)), .inl (by simp [Instr.makeMap]), Mem.le_refl H, hlab, (I.same (Same.alloc w _)).label hN ⟨w.heap.size, #[], 0, by simp [setLab], heap_alloc_new w _, trivial, by simp, by simp, fun o => I.memLt (Nat.le_refl _)⟩ ?_, w.heap.size, by simp [setLab], rfl⟩
        intro b hb
        simp [blk] at hb
        subst hb
        exact ⟨.inl I.grow, fun l hl e => Nat.lt_irrefl _ (base_lt I hl e)⟩
    · simp at h
  · simp at h

theorem setObj_change (I : MInv E H ρ hp N w) {l r : Nat} {en : Array MapEntry} {clock : Nat} {ka va : Bool} {kt vt : T} {es es' : List (kt.den × vt.den)} {en' : Array MapEntry} {clock' : Nat} (hl : look l hp = .mp ka kt va vt es) (hρ : ρ l = some (.map (some r)))
    (hblk : w.heap[r]? = some (.map en clock)) (hent : entRel H ka kt va vt es' en'.toList) (h1 : (en'.toList.map (·.born)).Nodup) (h2 : ∀ e ∈ en'.toList, e.born < clock') (hH : ∀ o, H r o = none) :
    MInv E H ρ (put l (.mp ka kt va vt es') hp) N { w with heap := w.heap.setIfInBounds r (.map en' clock') } := by
  obtain ⟨g1, g2⟩ := MapKept.heap_set (o' := .map en' clock') hblk
  exact I.change (l := l) (b := r) (by rw [hl]; simp) (by simp [baseOf, hρ, blk]) hH g2 (by simp) rfl rfl rfl ⟨r, en', clock', hρ, g1, hent, h1, h2, hH⟩

theorem datSV_dat (I : MInv E H ρ hp N w) {va : Bool} {s : SV} (hs : datSV va s = true) {vt : T} {y : vt.den} {vc : Option Prop} (h : decSV hp vt s = some ⟨y, [], vc⟩) (hvc : vcT vc) {v : Value} (hv : svRel H ρ s v) : ∃ H', H.le H' ∧ MInv E H' ρ hp N w ∧ datV H' va vt y v := by
  obtain ⟨H', h1, h2, _, h4⟩ := decSV_sound I h hvc hv
  refine ⟨H', h1, h2, _, h4, ?_⟩
  unfold datSV at hs
  split at hs
  · rename_i d
    simp only [Bool.not_eq_true'] at hs
    subst hs
    simp only [Bool.false_eq_true, if_false]
    rw [(dv_one (H := H) (d := d) hv).2]
  · subst hs
    obtain ⟨vs, rfl, _⟩ := hv
    simp [Value.cells]
  · cases hs

theorem mapUpdateO_ok (I : MInv E H ρ hp N w) {t : TypeId} {m k v : SV} {r : Res} (h : mapUpdateO P hp t m k v = some r) (hvc : vcT r.vc) {vm vk vv : Value} (hm : svRel H ρ m vm) (hk : svRel H ρ k vk) (hv : svRel H ρ v vv) :
    OpOk P E H ρ hp N lab w a (do Instr.mapUpdate t vm vk vv; Pure.pure .skip) r := by
  unfold mapUpdateO at h
  split at h
  · rename_i l kty ety hu
    split at h
    · rename_i ka kt va vt es hl
      cases hmk : (mapOk P kty ety ka kt va vt && datSV va v) with
      | false => rw [hmk] at h; simp at h
      | true =>
        rw [hmk] at h; simp only [cond_true] at h
        simp only [Bool.and_eq_true] at hmk
        split at h
        · rename_i x y vc hx hy
          simp only [Option.some.injEq] at h; subst h
          obtain ⟨rfl, hsc, hagg, hsz, _⟩ := mapOk_spec (H := H) hmk.1
          obtain ⟨H', hle, I', hdat⟩ := datSV_dat I hmk.2 hy hvc hv
          obtain ⟨b, hρ, rfl⟩ := hm
          have hobj := I'.objs l
          rw [hl] at hobj
          obtain ⟨b', en, clock, hρ', hblk, hent, hnd, hlt, hH⟩ := hobj
          rw [hρ] at hρ'; simp at hρ'; subst hρ'
          have hkd := plainOf_sound I hx hk
          have hkey := key_cell hsc hkd
          subst hkey
          obtain ⟨d, hd, hisk, hsame⟩ := scalar_now hsc
          obtain ⟨q, g1, g2⟩ := find_run (P := P) hsame hsc x hent 0
          have hck : (Instr.checkKey false 10000 kty (cellOf kt x)).run P w = .ok () w := MapKept.run_checkKey hd (hisk x) false 9999
          have hkd' := datV_mono hle hkd
          cases hmi : midx kt es x with
          | none =>
            rw [hmi] at g2
            simp only at g2
            subst g2
            obtain ⟨_, m2, _⟩ := midx_none hmi
            have hrun : (Instr.mapUpdate t (.map (some b)) (cellOf kt x) vv).run P w = .ok () { w with heap := w.heap.setIfInBounds b (.map (en.push { key := cellOf kt x, val := vv, born := clock }) (clock + 1)) } := by
              simp [Instr.mapUpdate, run_underlying hu, MapKept.run_getObj_map hblk, hck, MapKept.run_findKey hd g1, MapKept.run_setObj_map _ hblk, Result.andThen]
            refine ⟨undef, _, H', ρ, .inr ⟨by rw [Sem.run_bind, hrun]; rfl, rfl⟩, hle, Lab.le_refl ρ, (setObj_change I' hl hρ hblk (es' := mput kt es x y) ?_ ?_ ?_ hH).later but_le, trivial⟩
            · rw [m2, Array.toList_push]
              exact entRel_append hkd' hdat hent
            · rw [Array.toList_push, List.map_append]
              refine List.nodup_append.2 ⟨hnd, by simp, ?_⟩
              intro c hc c' hc' e
              obtain ⟨e0, he0, rfl⟩ := List.mem_map.1 hc
              simp at hc'
              have := hlt e0 he0
              omega
            · intro e he
              rw [Array.toList_push] at he
              rcases List.mem_append.1 he with he | he
              · have := hlt e he; omega
              · simp at he; subst he; simp
          | some j =>
            rw [hmi] at g2
            obtain ⟨e, y0, rfl, k2, k3, k4, k5⟩ := g2
            obtain ⟨_, _, _, m3, _⟩ := midx_some hmi
            have hget : ((en[j]?).map (·.key)).getD (cellOf kt x) = cellOf kt x := by
              have : en[j]? = some e := by simpa using k2
              rw [this]; simpa using k4
            have hrun : (Instr.mapUpdate t (.map (some b)) (cellOf kt x) vv).run P w = .ok () { w with heap := w.heap.setIfInBounds b (.map (en.modify j fun e => { e with key := cellOf kt x, val := vv }) clock) } := by
              simp [Instr.mapUpdate, run_underlying hu, MapKept.run_getObj_map hblk, hck, MapKept.run_findKey hd g1, hget, MapKept.run_keyThatStays (hisk x), MapKept.run_setObj_map _ hblk, Result.andThen]
            refine ⟨undef, _, H', ρ, .inr ⟨by rw [Sem.run_bind, hrun]; rfl, rfl⟩, hle, Lab.le_refl ρ, (setObj_change I' hl hρ hblk (es' := mput kt es x y) ?_ ?_ ?_ hH).later but_le, trivial⟩
            · rw [m3, Array.toList_modify]
              exact entRel_set hent fun e he => ⟨hkd', hdat⟩
            · rw [Array.toList_modify]
              have : (en.toList.modify j fun e => { e with key := cellOf kt x, val := vv }).map (·.born) = en.toList.map (·.born) := by
                apply List.ext_getElem?
                intro i
                simp only [List.getElem?_map, List.getElem?_modify]
                cases en.toList[i]? with
                | none => rfl
                | some e => by_cases hij : j = i <;> simp [hij]
              rw [this]; exact hnd
            · intro e he
              rw [Array.toList_modify] at he
              obtain ⟨i, hi⟩ := List.mem_iff_getElem?.1 he
              rw [List.getElem?_modify] at hi
              cases hei : en.toList[i]? with
              | none => rw [hei] at hi; simp at hi
              | some e0 =>
                rw [hei] at hi
                have := hlt e0 (List.mem_of_getElem? hei)
                by_cases hij : j = i
                · simp [hij] at hi; rw [← hi]; exact this
                · simp [hij] at hi; rw [← hi]; exact this
        · simp at h
    · simp at h
  · simp at h

theorem deleteO_ok (I : MInv E H ρ hp N w) {t t2 : TypeId} {m k : SV} {r : Res} (h : deleteO P hp t m k = some r) {vm vk : Value} (hm : svRel H ρ m vm) (hk : svRel H ρ k vk) (tys : Array TypeId) (htys : tys = #[t, t2]) (ty : TypeId) :
    OpOk P E H ρ hp N lab w a (do pure (.value (← Builtin.delete_ tys ty #[vm, vk]))) r := by
  subst htys
  unfold deleteO at h
  split at h
  · rename_i l kty ety hu
    split at h
    · rename_i ka kt va vt es hl
      cases hmk : mapOk P kty ety ka kt va vt with
      | false => rw [hmk] at h; simp at h
      | true =>
        rw [hmk] at h; simp only [cond_true] at h
        split at h
        · rename_i x hx
          simp only [Option.some.injEq] at h; subst h
          obtain ⟨rfl, hsc, hagg, hsz, _⟩ := mapOk_spec (H := H) hmk
          obtain ⟨b, hρ, rfl⟩ := hm
          have hobj := I.objs l
          rw [hl] at hobj
          obtain ⟨b', en, clock, hρ', hblk, hent, hnd, hlt, hH⟩ := hobj
          rw [hρ] at hρ'; simp at hρ'; subst hρ'
          have hkd := plainOf_sound I hx hk
          have hkey := key_cell hsc hkd
          subst hkey
          obtain ⟨d, hd, hisk, hsame⟩ := scalar_now hsc
          obtain ⟨q, g1, g2⟩ := find_run (P := P) hsame hsc x hent 0
          have hck : ∀ em, (Instr.checkKey em 10000 kty (cellOf kt x)).run P w = .ok () w := fun em => MapKept.run_checkKey hd (hisk x) em 9999
          cases hmi : midx kt es x with
          | none =>
            rw [hmi] at g2
            simp only at g2
            subst g2
            obtain ⟨_, _, m3⟩ := midx_none hmi
            have hrun : (Builtin.delete_ #[t, t2] ty #[.map (some b), cellOf kt x]).run P w = .ok (.tuple #[]) { w with heap := w.heap.setIfInBounds b (.map en clock) } := by
              simp [Builtin.delete_, run_underlying hu, MapKept.run_getObj_map hblk, hck, MapKept.run_findKey hd g1, MapKept.run_setObj_map _ hblk, Result.andThen]
            refine ⟨_, _, H, ρ, .inl (by rw [Sem.run_bind, hrun]; rfl), Mem.le_refl H, Lab.le_refl ρ, (setObj_change I hl hρ hblk (es' := mdel kt es x) ?_ hnd hlt hH).later but_le, trivial⟩
            rw [m3]; exact hent
          | some j =>
            rw [hmi] at g2
            obtain ⟨e, y0, rfl, k2, k3, k4, k5⟩ := g2
            obtain ⟨_, _, _, _, m4⟩ := midx_some hmi
            have hrun : (Builtin.delete_ #[t, t2] ty #[.map (some b), cellOf kt x]).run P w = .ok (.tuple #[]) { w with heap := w.heap.setIfInBounds b (.map (en.eraseIdxIfInBounds j) clock) } := by
              simp [Builtin.delete_, run_underlying hu, MapKept.run_getObj_map hblk, hck, MapKept.run_findKey hd g1, MapKept.run_setObj_map _ hblk, Result.andThen]
            have hel : (en.eraseIdxIfInBounds j).toList = en.toList.eraseIdx j := by simp
            refine ⟨_, _, H, ρ, .inl (by rw [Sem.run_bind, hrun]; rfl), Mem.le_refl H, Lab.le_refl ρ, (setObj_change I hl hρ hblk (es' := mdel kt es x) ?_ ?_ ?_ hH).later but_le, trivial⟩
            · rw [m4, hel]; exact entRel_erase hent
            · rw [hel]
              exact List.Nodup.sublist ((List.eraseIdx_sublist _ _).map _) hnd
            · intro e' he'
              rw [hel] at he'
              exact hlt e' ((List.eraseIdx_sublist _ _).mem he')
        · simp at h
    · simp at h
  · simp at h

end Go.Vse
