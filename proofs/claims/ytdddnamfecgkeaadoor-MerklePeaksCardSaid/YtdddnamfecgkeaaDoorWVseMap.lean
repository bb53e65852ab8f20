/- Maps. -/
import Derived.Test.YtdddnamfecgkeaaDoorWVseKey
namespace Go.Vse
variable {P : Program} {E : Env} {H : Mem} {ρ ρ' : Lab} {hp : List (Nat × SObj)} {lab : Nat} {N : Nat → Prop} {w : World} {S : SState} {a : Array Value}

theorem entRel_append {ka : Bool} {kt : T} {va : Bool} {vt : T} {x : kt.den} {y : vt.den} {e : MapEntry} (h1 : datV H ka kt x e.key) (h2 : datV H va vt y e.val) : ∀ {es : List (kt.den × vt.den)} {en : List MapEntry}, entRel H ka kt va vt es en → entRel H ka kt va vt (es ++ [(x, y)]) (en ++ [e])
 | [], [], _ => ⟨h1, h2, trivial⟩
 | _ :: _, _ :: _, ⟨g1, g2, g3⟩ => ⟨g1, g2, entRel_append h1 h2 g3⟩
 | [], _ :: _, h => h.elim
 | _ :: _, [], h => h.elim
theorem entRel_set {ka : Bool} {kt : T} {va : Bool} {vt : T} {x : kt.den} {y : vt.den} {f : MapEntry → MapEntry} : ∀ {j : Nat} {es : List (kt.den × vt.den)} {en : List MapEntry}, entRel H ka kt va vt es en → (∀ e, en[j]? = some e → datV H ka kt x (f e).key ∧ datV H va vt y (f e).val) → entRel H ka kt va vt (es.set j (x, y)) (en.modify j f)
 | _, [], [], _, _ => by simp [entRel]
 | 0, _ :: _, e :: _, ⟨_, _, g3⟩, h => by
   obtain ⟨h1, h2⟩ := h e rfl
   simp only [List.set_cons_zero, List.modify_zero_cons]
   exact ⟨h1, h2, g3⟩
 | j + 1, _ :: _, _ :: _, ⟨g1, g2, g3⟩, h => by
   simp only [List.set_cons_succ, List.modify_succ_cons]
   exact ⟨g1, g2, entRel_set g3 (fun e he => h e (by simpa using he))⟩
 | _, [], _ :: _, h, _ => h.elim
 | _, _ :: _, [], h, _ => h.elim
theorem entRel_erase {ka : Bool} {kt : T} {va : Bool} {vt : T} : ∀ {j : Nat} {es : List (kt.den × vt.den)} {en : List MapEntry}, entRel H ka kt va vt es en → entRel H ka kt va vt (es.eraseIdx j) (en.eraseIdx j)
 | _, [], [], _ => by simp [entRel]
 | 0, _ :: _, _ :: _, ⟨_, _, g3⟩ => g3
 | j + 1, _ :: _, _ :: _, ⟨g1, g2, g3⟩ => ⟨g1, g2, entRel_erase g3⟩
 | _, [], _ :: _, h => h.elim
 | _, _ :: _, [], h => h.elim
theorem mput_perm {k : T} {v : Type} (x : k.den) (y : v) : ∀ {es : List (k.den × v)}, (es.map (·.1)).Nodup → (mput k es x y).Perm ((x, y) :: es.filter fun p => haveI := k.deq; !decide (x = p.1))
 | [], _ => by simp [mput]
 | p :: r, h => by
   letI := k.deq
   have h' := List.nodup_cons.1 (by simpa using h : (p.1 :: r.map (·.1)).Nodup)
   by_cases hq : x = p.1
   · have e1 : mput k (p :: r) x y = (p.1, y) :: r := by simp only [mput, hq, decide_true, cond_true]
     have e2 : (p :: r).filter (fun p => !decide (x = p.1)) = r := by
      rw [List.filter_cons_of_neg (by simp [hq])]
      refine List.filter_eq_self.2 fun a ha => ?_
      have : p.1 ≠ a.1 := fun e => h'.1 (List.mem_map.2 ⟨a, ha, e.symm⟩)
      simp [hq, this]
     show (mput k (p :: r) x y).Perm ((x, y) :: (p :: r).filter (fun p => !decide (x = p.1)))
     rw [e1, e2, hq]
   · have e1 : mput k (p :: r) x y = p :: mput k r x y := by simp only [mput, hq, decide_false, cond_false]
     have e2 : (p :: r).filter (fun p => !decide (x = p.1)) = p :: r.filter (fun p => !decide (x = p.1)) := List.filter_cons_of_pos (by simp [hq])
     show (mput k (p :: r) x y).Perm ((x, y) :: (p :: r).filter (fun p => !decide (x = p.1)))
     rw [e1, e2]
     exact ((mput_perm x y h'.2).cons p).trans (List.Perm.swap _ _ _)
theorem mdel_perm {k : T} {v : Type} (x : k.den) : ∀ {es : List (k.den × v)}, (es.map (·.1)).Nodup → mdel k es x = es.filter fun p => haveI := k.deq; !decide (x = p.1)
 | [], _ => rfl
 | p :: r, h => by
   letI := k.deq
   have h' := List.nodup_cons.1 (by simpa using h : (p.1 :: r.map (·.1)).Nodup)
   by_cases hq : x = p.1
   · have e1 : mdel k (p :: r) x = r := by simp only [mdel, hq, decide_true, cond_true]
     have e2 : (p :: r).filter (fun p => !decide (x = p.1)) = r := by
      rw [List.filter_cons_of_neg (by simp [hq])]
      refine List.filter_eq_self.2 fun a ha => ?_
      have : p.1 ≠ a.1 := fun e => h'.1 (List.mem_map.2 ⟨a, ha, e.symm⟩)
      simp [hq, this]
     rw [e1, e2]
   · have e1 : mdel k (p :: r) x = p :: mdel k r x := by simp only [mdel, hq, decide_false, cond_false]
     have e2 : (p :: r).filter (fun p => !decide (x = p.1)) = p :: r.filter (fun p => !decide (x = p.1)) := List.filter_cons_of_pos (by simp [hq])
     rw [e1, e2, mdel_perm x h'.2]
theorem mget_mem {k : T} {v : Type} {x : k.den} {y : v} : ∀ {es : List (k.den × v)}, (es.map (·.1)).Nodup → (mget k es x = some y ↔ (x, y) ∈ es)
 | [], _ => by simp [mget]
 | p :: r, h => by
   letI := k.deq
   have h' := List.nodup_cons.1 (by simpa using h : (p.1 :: r.map (·.1)).Nodup)
   by_cases hq : x = p.1
   · have e1 : mget k (p :: r) x = some p.2 := by simp only [mget, hq, decide_true, cond_true]
     rw [e1]
     constructor
     · intro e; simp only [Option.some.injEq] at e; subst e; subst hq; exact List.mem_cons_self
     · intro hm
       rcases List.mem_cons.1 hm with rfl | hm
       · rfl
       · exact absurd (List.mem_map.2 ⟨_, hm, hq⟩) h'.1
   · have e1 : mget k (p :: r) x = mget k r x := by simp only [mget, hq, decide_false, cond_false]
     rw [e1, mget_mem h'.2]
     constructor
     · exact fun hm => List.mem_cons_of_mem _ hm
     · intro hm
       rcases List.mem_cons.1 hm with rfl | hm
       · exact absurd rfl hq
       · exact hm
theorem mget_eq {k : T} {v : Type} {x : k.den} {es fs : List (k.den × v)} (hp : fs.Perm es) (hn : (es.map (·.1)).Nodup) : mget k fs x = mget k es x := by
 have hn' : (fs.map (·.1)).Nodup := (hp.map _).nodup_iff.2 hn
 cases h : mget k es x with
 | some y => exact (mget_mem hn').2 (hp.mem_iff.2 ((mget_mem hn).1 h))
 | none =>
   cases h2 : mget k fs x with
   | none => rfl
   | some y => rw [(mget_mem hn).2 (hp.mem_iff.1 ((mget_mem hn').1 h2))] at h; cases h
theorem mput_nodup {k : T} {v : Type} {x : k.den} {y : v} {es : List (k.den × v)} (hn : (es.map (·.1)).Nodup) : ((mput k es x y).map (·.1)).Nodup := by
 letI := k.deq
 rw [((mput_perm x y hn).map _).nodup_iff, List.map_cons]
 refine List.nodup_cons.2 ⟨fun hm => ?_, List.Nodup.sublist (List.filter_sublist.map _) hn⟩
 obtain ⟨p, hp, e⟩ := List.mem_map.1 hm
 have := (List.mem_filter.1 hp).2
 simp [e] at this
theorem mdel_nodup {k : T} {v : Type} {x : k.den} {es : List (k.den × v)} (hn : (es.map (·.1)).Nodup) : ((mdel k es x).map (·.1)).Nodup := by
 rw [mdel_perm x hn]
 exact List.Nodup.sublist (List.filter_sublist.map _) hn
theorem mput_eq {k : T} {v : Type} {x : k.den} {y : v} {es fs : List (k.den × v)} (hp : fs.Perm es) (hn : (es.map (·.1)).Nodup) : (mput k fs x y).Perm (mput k es x y) :=
 (mput_perm x y ((hp.map _).nodup_iff.2 hn)).trans (((hp.filter _).cons _).trans (mput_perm x y hn).symm)
theorem mdel_eq {k : T} {v : Type} {x : k.den} {es fs : List (k.den × v)} (hp : fs.Perm es) (hn : (es.map (·.1)).Nodup) : (mdel k fs x).Perm (mdel k es x) := by
 rw [mdel_perm x hn, mdel_perm x ((hp.map _).nodup_iff.2 hn)]
 exact hp.filter _

theorem plainOf_sound (I : MInv E H ρ hp N w) {ka : Bool} {t : T} {s : SV} {x : t.den} (h : plainOf hp ka t s = some x) {v : Value} (hv : svRel H ρ s v) : datV H ka t x v := by
 unfold plainOf at h
 split at h
 · rename_i d
   split at h
   · rename_i y hd
     simp at h; subst h
     unfold decSV at hd
     split at hd
     · rename_i dd hdd
       split at hd
       · rename_i cs hcs
         split at hd
         · rename_i z hz
           simp only [Option.some.injEq, Dec.mk.injEq] at hd
           obtain ⟨rfl, hu, hvc⟩ := hd
           have hdv : dd.v = .dv d ∨ ∃ t', d = .nils t' := by
            cases d <;> simp only [asData, Option.some.injEq] at hdd <;> subst hdd <;> first | exact .inl rfl | exact .inr ⟨_, rfl⟩
           rcases hdv with hdv | ⟨t', rfl⟩
           · rw [hdv] at hcs
             have := decAll_sound (ρ := ρ) hz (toCells_sound hcs hv)
             exact ⟨_, this, by simp only [Bool.false_eq_true, if_false]; rw [(dv_one hv).2]⟩
           · simp only [asData, Option.some.injEq] at hdd
             subst hdd
             have hv' : svRel H ρ (.dv (.imm t' [])) v := ⟨by simp [LIM], .inl ⟨rfl, .inl hv⟩⟩
             have := decAll_sound (ρ := ρ) hz (toCells_sound hcs hv')
             exact ⟨_, this, by simp only [Bool.false_eq_true, if_false]; rw [(dv_one (H := H) (d := .nils t') hv).2]⟩
         · simp at hd
       · simp at hd
     · simp at hd
   · simp at h
 · rename_i cs
   obtain ⟨vs, rfl, hcs⟩ := hv
   have := decAll_sound (ρ := ρ) h hcs
   exact ⟨_, this, by simp⟩
 · simp at h

theorem mapOk_spec {kty ety : TypeId} {ka : Bool} {kt : T} {va : Bool} {vt : T} (h : mapOk P kty ety ka kt va vt = true) : KeyOk P kty ka kt ∧ isAggT P ety = some va ∧ P.cellsOf ety = vt.size ∧
 ∃ z, (∀ w, (zeroValue ety).run P w = .ok z w) ∧ datV H va vt vt.dflt z := by
 unfold mapOk at h
 simp only [Bool.and_eq_true] at h
 obtain ⟨h1, h3⟩ := h
 split at h3
 · rename_i b i hb hi
   simp only [Bool.and_eq_true, beq_iff_eq] at h3
   obtain ⟨⟨rfl, h4⟩, h5⟩ := h3
   split at h5
   · rename_i z hz
     refine ⟨keyOk_of h1, hb, Nat.eq_of_beq_eq_true h4, z, fun w => by simp [zeroValue, typeInfo, hi, hz], zeroL vt, dflt_rel H vt, ?_⟩
     unfold zeroFits at h5
     split at h5
     · rename_i a
       simp only [Bool.and_eq_true] at h5
       rw [if_pos h5.1, ← eqVs_eq h5.2]
     · split at h5
       · rename_i u _ hl
         simp only [Bool.false_eq_true, if_false]
         rw [hl, eqV_eq h5]
       · cases h5
   · cases h5
 · cases h3

theorem valOf_dat {ety : TypeId} {va : Bool} {vt : T} (hagg : isAggT P ety = some va) {y : vt.den} {u : Value} (h : datV H va vt y u) {s : SV} (hs : ofCells P ety (ofRuns (enc vt y)) = some s) : svRel H ρ s u := by
 obtain ⟨cs, h1, h2⟩ := h
 obtain ⟨b, hb, _, hrel⟩ := ofCells_sound (ρ := ρ) hs (scsRel_ofRuns.2 ((enc_rel vt y cs).2 h1))
 rw [hagg] at hb
 simp only [Option.some.injEq] at hb
 subst hb
 unfold valOf at hrel
 rw [hagg] at hrel
 cases va with
 | true =>
   simp only [if_true] at h2
   subst h2
   exact hrel
 | false =>
   simp only [Bool.false_eq_true, if_false] at h2
   subst h2
   exact hrel

theorem lookupO_sound (I : MInv E H ρ hp N w) {t : TypeId} {x i : SV} {ok : Bool} {r : Res} (h : lookupO P hp t x i ok = some r) {vx vi : Value} (hx : svRel H ρ x vx) (hi : svRel H ρ i vi) :
 r.upd = [] ∧ ∃ v, (Instr.lookup t vx vi ok).run P w = .ok v w ∧ slRel H ρ a r.out v := by
 unfold lookupO at h
 split at h
 · rename_i l kty ety hu
   split at h
   · rename_i ka kt va vt es hl
     cases hm : mapOk P kty ety ka kt va vt with
     | false => rw [hm] at h; simp at h
     | true =>
       rw [hm] at h; simp only [cond_true] at h
       split at h
       · rename_i k hk
         split at h
         · rename_i v hv
           simp only [Option.some.injEq] at h; subst h
           obtain ⟨K, hagg, hsz, z, hz, hzd⟩ := mapOk_spec (H := H) hm
           have hobj := I.objs l
           rw [hl] at hobj
           obtain ⟨b, en, clock, hρ, hblk, ⟨hnk, es0, hpm, hent⟩, _, _, _⟩ := hobj
           rw [← mget_eq hpm hnk] at hv ⊢
           generalize es = es1 at hpm hnk hl
           generalize es0 = es at *
           obtain ⟨b', hρ', rfl⟩ := hx
           rw [hρ] at hρ'; simp at hρ'; subst hρ'
           have hkd := plainOf_sound I hk hi
           obtain ⟨q, g1, g2⟩ := K.find w hkd hent
           have hck : ∀ em, (Instr.checkKey em 10000 kty vi).run P w = .ok () w := fun em => K.check w em hkd
           have key : ∀ u o, datV H va vt ((mget kt es k).getD vt.dflt) u → (mget kt es k).isSome = o → slRel H ρ a (bif ok then .tup [v, .dv (.bool (mget kt es k).isSome)] else .sv v) (if ok then .tuple #[u, .bool o] else u) := by
            intro u o hu ho
            have hs := valOf_dat (ρ := ρ) hagg hu hv
            cases ok with
            | true => exact ⟨[u, .bool o], rfl, u, _, rfl, hs, _, _, rfl, by rw [ho]; rfl, rfl⟩
            | false => exact hs
           cases hmi : midx kt es k with
           | none =>
             rw [hmi] at g2
             simp only at g2
             subst g2
             obtain ⟨m1, _, _⟩ := midx_none hmi
             refine ⟨rfl, _, ?_, key z false (by rw [m1]; exact hzd) (by rw [m1]; rfl)⟩
             simp [Instr.lookup, run_underlying hu, MapKept.run_getObj_map hblk, hck, g1, hz]
           | some j =>
             rw [hmi] at g2
             obtain ⟨e, y, rfl, k2, k3, k4, k5⟩ := g2
             obtain ⟨y', m1, m2, _, _⟩ := midx_some hmi
             rw [k3] at m1
             simp only [Option.some.injEq, Prod.mk.injEq, true_and] at m1
             subst m1
             refine ⟨rfl, _, ?_, key e.val true (by rw [m2]; exact k5) (by rw [m2]; rfl)⟩
             simp [Instr.lookup, run_underlying hu, MapKept.run_getObj_map hblk, hck, g1]
         · simp at h
       · simp at h
   · simp at h
 · simp at h

theorem makeMapO_ok (I : MInv E H ρ hp N w) (hN : N lab) {t : TypeId} {r : Res} (h : makeMapO P t lab none = some r) :
 OpOk P E H ρ hp N lab w a (do pure (.value (← Instr.makeMap t none))) r := by
 unfold makeMapO at h
 split at h
 · rename_i kty ety _ hu
   split at h
   · rename_i kt vt va ka _ _ _ _
     cases hm : mapOk P kty ety ka kt va vt with
     | false => rw [hm] at h; simp at h
     | true =>
       rw [hm] at h; simp at h; subst h
       have hlab := setLab_le (v := .map (some w.heap.size)) (I.bound lab hN)
       refine ⟨.map (some w.heap.size), w.alloc (.map #[] 0), H, setLab ρ lab (.map (some w.heap.size)), .inl (by simp [Instr.makeMap]), Mem.le_refl H, hlab, (I.same (Same.alloc w _)).label hN ⟨w.heap.size, #[], 0, by simp [setLab], heap_alloc_new w _, ⟨by simp, [], List.Perm.refl _, trivial⟩, by simp, by simp, fun o => I.memLt (Nat.le_refl _)⟩ ?_, w.heap.size, by simp [setLab], rfl⟩
       intro b hb
       simp [blk] at hb
       subst hb
       exact ⟨.inl I.grow, fun l hl e => Nat.lt_irrefl _ (base_lt I hl e)⟩
   · simp at h
 · simp at h

theorem setObj_change (I : MInv E H ρ hp N w) {l r : Nat} {en : Array MapEntry} {clock : Nat} {ka va : Bool} {kt vt : T} {es es' : List (kt.den × vt.den)} {en' : Array MapEntry} {clock' : Nat} (hl : look l hp = .mp ka kt va vt es) (hρ : ρ l = some (.map (some r)))
 (hblk : w.heap[r]? = some (.map en clock)) (hent : entsRel H ka kt va vt es' en'.toList) (h1 : (en'.toList.map (·.born)).Nodup) (h2 : ∀ e ∈ en'.toList, e.born < clock') (hH : ∀ o, H r o = none) :
 MInv E H ρ (put l (.mp ka kt va vt es') hp) N { w with heap := w.heap.setIfInBounds r (.map en' clock') } := by
 obtain ⟨g1, g2⟩ := MapKept.heap_set (o' := .map en' clock') hblk
 exact I.change (l := l) (b := r) (by rw [hl]; simp) (by simp [baseOf, hρ, blk]) hH g2 (by simp) rfl rfl rfl ⟨r, en', clock', hρ, g1, hent, h1, h2, hH⟩

theorem datSV_dat (I : MInv E H ρ hp N w) {va : Bool} {s : SV} (hs : datSV va s = true) {vt : T} {y : vt.den} {vc : Option Prop} (h : decSV hp vt s = some ⟨y, [], vc⟩) (hvc : vcT vc) {v : Value} (hv : svRel H ρ s v) : ∃ H', H.le H' ∧ MInv E H' ρ hp N w ∧ datV H' va vt y v := by
 obtain ⟨H', h1, h2, _, h4⟩ := decSV_sound I h hvc hv
 refine ⟨H', h1, h2, _, h4, ?_⟩
 unfold datSV at hs
 split at hs
 · rename_i d
   simp only [Bool.not_eq_true'] at hs
   subst hs
   simp only [Bool.false_eq_true, if_false]
   rw [(dv_one (H := H) (d := d) hv).2]
 · subst hs
   obtain ⟨vs, rfl, _⟩ := hv
   simp [Value.cells]
 · cases hs

theorem mapUpdateO_ok (I : MInv E H ρ hp N w) {t : TypeId} {m k v : SV} {r : Res} (h : mapUpdateO P hp t m k v = some r) (hvc : vcT r.vc) {vm vk vv : Value} (hm : svRel H ρ m vm) (hk : svRel H ρ k vk) (hv : svRel H ρ v vv) :
 OpOk P E H ρ hp N lab w a (do Instr.mapUpdate t vm vk vv; Pure.pure .skip) r := by
 unfold mapUpdateO at h
 split at h
 · rename_i l kty ety hu
   split at h
   · rename_i ka kt va vt es hl
     cases hmk : (mapOk P kty ety ka kt va vt && datSV va v) with
     | false => rw [hmk] at h; simp at h
     | true =>
       rw [hmk] at h; simp only [cond_true] at h
       simp only [Bool.and_eq_true] at hmk
       split at h
       · rename_i x y vc hx hy
         simp only [Option.some.injEq] at h; subst h
         obtain ⟨K, hagg, hsz, _⟩ := mapOk_spec (H := H) hmk.1
         obtain ⟨H', hle, I', hdat⟩ := datSV_dat I hmk.2 hy hvc hv
         obtain ⟨b, hρ, rfl⟩ := hm
         have hobj := I'.objs l
         rw [hl] at hobj
         obtain ⟨b', en, clock, hρ', hblk, ⟨hnk, es0, hpm, hent⟩, hnd, hlt, hH⟩ := hobj
         rw [hρ] at hρ'; simp at hρ'; subst hρ'
         have hkd := plainOf_sound I hx hk
         obtain ⟨q, g1, g2⟩ := K.find w (K.free hkd) hent
         have hck : (Instr.checkKey false 10000 kty vk).run P w = .ok () w := K.check w false hkd
         have hkd' := datV_mono hle hkd
         cases hmi : midx kt es0 x with
         | none =>
           rw [hmi] at g2
           simp only at g2
           subst g2
           obtain ⟨_, m2, _⟩ := midx_none hmi
           have hrun : (Instr.mapUpdate t (.map (some b)) vk vv).run P w = .ok () { w with heap := w.heap.setIfInBounds b (.map (en.push { key := vk, val := vv, born := clock }) (clock + 1)) } := by
            simp [Instr.mapUpdate, run_underlying hu, MapKept.run_getObj_map hblk, hck, g1, MapKept.run_setObj_map _ hblk, Result.andThen]
           refine ⟨undef, _, H', ρ, .inr ⟨by rw [Sem.run_bind, hrun]; rfl, rfl⟩, hle, Lab.le_refl ρ, (setObj_change I' hl hρ hblk (es' := mput kt es x y) ?_ ?_ ?_ hH).later but_le, trivial⟩
           · refine ⟨mput_nodup hnk, _, mput_eq hpm hnk, ?_⟩
             rw [m2, Array.toList_push]
             exact entRel_append hkd' hdat hent
           · rw [Array.toList_push, List.map_append]
             refine List.nodup_append.2 ⟨hnd, by simp, ?_⟩
             intro c hc c' hc' e
             obtain ⟨e0, he0, rfl⟩ := List.mem_map.1 hc
             simp at hc'
             have := hlt e0 he0
             omega
           · intro e he
             rw [Array.toList_push] at he
             rcases List.mem_append.1 he with he | he
             · have := hlt e he; omega
             · simp at he; subst he; simp
         | some j =>
           rw [hmi] at g2
           obtain ⟨e, y0, rfl, k2, k3, k4, k5⟩ := g2
           obtain ⟨_, _, _, m3, _⟩ := midx_some hmi
           have hget : ((en[j]?).map (·.key)).getD vk = vk := by
            have : en[j]? = some e := by simpa using k2
            rw [this]; simpa using k4
           have hrun : (Instr.mapUpdate t (.map (some b)) vk vv).run P w = .ok () { w with heap := w.heap.setIfInBounds b (.map (en.modify j fun e => { e with key := vk, val := vv }) clock) } := by
            simp [Instr.mapUpdate, run_underlying hu, MapKept.run_getObj_map hblk, hck, g1, hget, K.stays w hkd, MapKept.run_setObj_map _ hblk, Result.andThen]
           refine ⟨undef, _, H', ρ, .inr ⟨by rw [Sem.run_bind, hrun]; rfl, rfl⟩, hle, Lab.le_refl ρ, (setObj_change I' hl hρ hblk (es' := mput kt es x y) ?_ ?_ ?_ hH).later but_le, trivial⟩
           · refine ⟨mput_nodup hnk, _, mput_eq hpm hnk, ?_⟩
             rw [m3, Array.toList_modify]
             exact entRel_set hent fun e he => ⟨hkd', hdat⟩
           · rw [Array.toList_modify]
             have : (en.toList.modify j fun e => { e with key := vk, val := vv }).map (·.born) = en.toList.map (·.born) := by
              apply List.ext_getElem?
              intro i
              simp only [List.getElem?_map, List.getElem?_modify]
              cases en.toList[i]? with
              | none => rfl
              | some e => by_cases hij : j = i <;> simp [hij]
             rw [this]; exact hnd
           · intro e he
             rw [Array.toList_modify] at he
             obtain ⟨i, hi⟩ := List.mem_iff_getElem?.1 he
             rw [List.getElem?_modify] at hi
             cases hei : en.toList[i]? with
             | none => rw [hei] at hi; simp at hi
             | some e0 =>
               rw [hei] at hi
               have := hlt e0 (List.mem_of_getElem? hei)
               by_cases hij : j = i
               · simp [hij] at hi; rw [← hi]; exact this
               · simp [hij] at hi; rw [← hi]; exact this
       · simp at h
   · simp at h
 · simp at h

theorem deleteO_ok (I : MInv E H ρ hp N w) {t t2 : TypeId} {m k : SV} {r : Res} (h : deleteO P hp t m k = some r) {vm vk : Value} (hm : svRel H ρ m vm) (hk : svRel H ρ k vk) (tys : Array TypeId) (htys : tys = #[t, t2]) (ty : TypeId) :
 OpOk P E H ρ hp N lab w a (do pure (.value (← Builtin.delete_ tys ty #[vm, vk]))) r := by
 subst htys
 unfold deleteO at h
 split at h
 · rename_i l kty ety hu
   split at h
   · rename_i ka kt va vt es hl
     cases hmk : mapOk P kty ety ka kt va vt with
     | false => rw [hmk] at h; simp at h
     | true =>
       rw [hmk] at h; simp only [cond_true] at h
       split at h
       · rename_i x hx
         simp only [Option.some.injEq] at h; subst h
         obtain ⟨K, hagg, hsz, _⟩ := mapOk_spec (H := H) hmk
         obtain ⟨b, hρ, rfl⟩ := hm
         have hobj := I.objs l
         rw [hl] at hobj
         obtain ⟨b', en, clock, hρ', hblk, ⟨hnk, es0, hpm, hent⟩, hnd, hlt, hH⟩ := hobj
         rw [hρ] at hρ'; simp at hρ'; subst hρ'
         have hkd := plainOf_sound I hx hk
         obtain ⟨q, g1, g2⟩ := K.find w hkd hent
         have hck : ∀ em, (Instr.checkKey em 10000 kty vk).run P w = .ok () w := fun em => K.check w em hkd
         cases hmi : midx kt es0 x with
         | none =>
           rw [hmi] at g2
           simp only at g2
           subst g2
           obtain ⟨_, _, m3⟩ := midx_none hmi
           have hrun : (Builtin.delete_ #[t, t2] ty #[.map (some b), vk]).run P w = .ok (.tuple #[]) { w with heap := w.heap.setIfInBounds b (.map en clock) } := by
            simp [Builtin.delete_, run_underlying hu, MapKept.run_getObj_map hblk, hck, g1, MapKept.run_setObj_map _ hblk, Result.andThen]
           refine ⟨_, _, H, ρ, .inl (by rw [Sem.run_bind, hrun]; rfl), Mem.le_refl H, Lab.le_refl ρ, (setObj_change I hl hρ hblk (es' := mdel kt es x) ?_ hnd hlt hH).later but_le, trivial⟩
           refine ⟨mdel_nodup hnk, _, mdel_eq hpm hnk, ?_⟩
           rw [m3]; exact hent
         | some j =>
           rw [hmi] at g2
           obtain ⟨e, y0, rfl, k2, k3, k4, k5⟩ := g2
           obtain ⟨_, _, _, _, m4⟩ := midx_some hmi
           have hrun : (Builtin.delete_ #[t, t2] ty #[.map (some b), vk]).run P w = .ok (.tuple #[]) { w with heap := w.heap.setIfInBounds b (.map (en.eraseIdxIfInBounds j) clock) } := by
            simp [Builtin.delete_, run_underlying hu, MapKept.run_getObj_map hblk, hck, g1, MapKept.run_setObj_map _ hblk, Result.andThen]
           have hel : (en.eraseIdxIfInBounds j).toList = en.toList.eraseIdx j := by simp
           refine ⟨_, _, H, ρ, .inl (by rw [Sem.run_bind, hrun]; rfl), Mem.le_refl H, Lab.le_refl ρ, (setObj_change I hl hρ hblk (es' := mdel kt es x) ?_ ?_ ?_ hH).later but_le, trivial⟩
           · refine ⟨mdel_nodup hnk, _, mdel_eq hpm hnk, ?_⟩
             rw [m4, hel]; exact entRel_erase hent
           · rw [hel]
             exact List.Nodup.sublist ((List.eraseIdx_sublist _ _).map _) hnd
           · intro e' he'
             rw [hel] at he'
             exact hlt e' ((List.eraseIdx_sublist _ _).mem he')
       · simp at h
   · simp at h
 · simp at h

end Go.Vse
