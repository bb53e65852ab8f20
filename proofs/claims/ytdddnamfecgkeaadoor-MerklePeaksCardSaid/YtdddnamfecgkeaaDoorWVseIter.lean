/- Ranges over maps. -/
import Derived.Test.YtdddnamfecgkeaaDoorWVseMap
namespace Go.Vse
open Go.ChangeMaps (setBlock)
variable {P : Program} {E : Env} {H : Mem} {ρ ρ' : Lab} {hp : List (Nat × SObj)} {lab : Nat} {N : Nat → Prop} {w : World} {S : SState} {a : Array Value}

theorem datS_rel {agg : Bool} {t : T} {x : t.den} {v : Value} (h : datV H agg t x v) : svRel H ρ (datS agg t x) v := by
 obtain ⟨cs, h1, h2⟩ := h
 unfold datS
 cases agg with
 | true =>
   simp only [if_true] at h2
   subst h2
   rw [cond_true]
   exact ⟨cs, rfl, scsRel_ofRuns.2 ((enc_rel _ _ _).2 h1)⟩
 | false =>
   simp only [Bool.false_eq_true, if_false] at h2
   subst h2
   rw [cond_false]
   split
   · rename_i d hd
     have h3 := (enc_rel t x [v]).2 h1
     rw [hd] at h3
     obtain ⟨p, q, e, h4, h5⟩ := h3
     simp only [runsRel] at h5
     subst h5
     obtain ⟨u, rfl, h4⟩ := h4
     simp at e
     subst e
     exact h4
   · trivial
theorem ghost_look {g : Gh} : ∀ {L : List (Nat × SObj)}, ghostIn hp L = some g → ∃ l ka kt va vt es, look l hp = .mpi ka kt va vt es g
 | [], h => by cases h
 | (l, o) :: r, h => by
   simp only [ghostIn] at h
   split at h
   · rename_i hl
     simp only [Option.some.injEq] at h; subst h
     exact ⟨_, _, _, _, _, _, hl⟩
   · exact ghost_look h
theorem entRel_split {ka : Bool} {kt : T} {va : Bool} {vt : T} {e : MapEntry} : ∀ {fs : List (kt.den × vt.den)} {en : List MapEntry}, entRel H ka kt va vt fs en → e ∈ en → (en.map (·.born)).Nodup →
 ∃ f1 p f2, fs = f1 ++ p :: f2 ∧ datV H ka kt p.1 e.key ∧ datV H va vt p.2 e.val ∧ entRel H ka kt va vt (f1 ++ f2) (en.filter fun x => !(x.born == e.born))
 | [], [], _, h, _ => by cases h
 | p :: r, x :: en, ⟨h1, h2, h3⟩, h, hn => by
   have hn' := List.nodup_cons.1 (by simpa using hn : (x.born :: en.map (·.born)).Nodup)
   by_cases hx : x = e
   · subst hx
     refine ⟨[], p, r, rfl, h1, h2, ?_⟩
     rw [List.filter_cons_of_neg (by simp), List.filter_eq_self.2 fun y hy => ?_]
     · exact h3
     · have : y.born ≠ x.born := fun e => hn'.1 (e ▸ List.mem_map.2 ⟨y, hy, rfl⟩)
       simpa using this
   · have he : e ∈ en := by rcases List.mem_cons.1 h with h | h
                            · exact absurd h.symm hx
                            · exact h
     obtain ⟨f1, q, f2, e1, e2, e3, e4⟩ := entRel_split h3 he hn'.2
     have hb : x.born ≠ e.born := fun e' => hn'.1 (e' ▸ List.mem_map.2 ⟨e, he, rfl⟩)
     refine ⟨p :: f1, q, f2, by rw [e1]; rfl, e2, e3, ?_⟩
     rw [List.filter_cons_of_pos (by simpa using hb)]
     exact ⟨h1, h2, e4⟩
 | [], _ :: _, h, _, _ => h.elim
 | _ :: _, [], h, _, _ => h.elim
theorem leftOf_push {en : Array MapEntry} {seen : Array Nat} {b : Nat} : (leftOf en (seen.push b)).toList = (leftOf en seen).toList.filter fun x => !(x.born == b) := by
 unfold leftOf
 simp only [Array.toList_filter, List.filter_filter]
 refine List.filter_congr fun x _ => ?_
 simp only [Array.contains_push, Bool.not_or]
 rw [Bool.and_comm]
theorem leftOf_none {en : Array MapEntry} : (leftOf en #[]).toList = en.toList := by
 unfold leftOf
 simp

theorem rangeO_ok (I : MInv E H ρ hp N w) (hN : N lab) {t : TypeId} {x : SV} {d : DrawR} (h : rangeO P hp lab t x = some d) {vx : Value} (hx : svRel H ρ x vx) :
 ∃ f g, d = .range f ∧ OpOk P E H ρ hp N lab w a (do pure (.value (← Instr.range t vx))) (f g) := by
 unfold rangeO at h
 split at h
 case h_2 => cases h
 rename_i l kty ety hu
 split at h
 case h_2 => cases h
 rename_i ka kt va vt es hl
 simp only [Option.some.injEq] at h; subst h
 have hobj := I.objs l
 rw [hl] at hobj
 obtain ⟨r, en, clock, hρ, hblk, hent, hnd, hlt, hH⟩ := hobj
 obtain ⟨b, hρ', rfl⟩ := hx
 rw [hρ] at hρ'; simp at hρ'; subst hρ'
 refine ⟨_, ⟨r, en, clock⟩, rfl, ?_⟩
 have I1 : MInv E H ρ (put l (.mpi ka kt va vt es ⟨r, en, clock⟩) hp) N w :=
  I.change (l := l) (b := r) (by rw [hl]; simp) (by simp [baseOf, hρ, blk]) hH (fun _ _ => rfl) rfl rfl rfl rfl ⟨hρ, hblk, hent, hnd, hlt, hH⟩
 have hlab := setLab_le (v := .pointer (some ⟨w.heap.size, 0, none⟩)) (I.bound lab hN)
 obtain ⟨hk, fs, hpm, he⟩ := hent
 refine ⟨.pointer (some ⟨w.heap.size, 0, none⟩), w.alloc (.mapIter (some r) clock #[] clock), H, setLab ρ lab (.pointer (some ⟨w.heap.size, 0, none⟩)), .inl ?_, Mem.le_refl H, hlab, (I1.same (Same.alloc w _)).label hN ⟨w.heap.size, #[], by simp [setLab], heap_alloc_new w _, ⟨fs, hpm, by rw [leftOf_none]; exact he⟩, trivial, fun o => I.memLt (Nat.le_refl _)⟩ ?_, w.heap.size, by simp [setLab], rfl, trivial⟩
 · rw [Sem.run_bind, run_range_map w t kty ety r en clock hu hblk]; rfl
 · intro b hb
   simp [blk] at hb
   subst hb
   exact ⟨.inl I.grow, fun l hl e => Nat.lt_irrefl _ (base_lt I1 hl e)⟩

theorem nextO_ok (I : MInv E H ρ hp N w) {x : SV} {d : DrawR} (h : nextO hp x = some d) {vx : Value} (hx : svRel H ρ x vx) (ty : TypeId) :
 ∃ vc r kt vt left f, d = .next vc r kt vt left f ∧ (∀ n, okOut n r.out = true) ∧ (∀ n x y m, okOut n (f x y m).out = true) ∧ (vc → (left = [] ∧ OpOk P E H ρ hp N lab w a (do pure (.value (← Instr.next vx false ty))) r) ∨ ∃ x y m, left.Perm ((x, y) :: m) ∧ OpOk P E H ρ hp N lab w a (do pure (.value (← Instr.next vx false ty))) (f x y m)) := by
 unfold nextO at h
 split at h
 case h_2 => cases h
 rename_i l g hg
 split at h
 case h_2 => cases h
 rename_i ka kt va vt left c g' hl
 simp only [Option.some.injEq] at h; subst h
 refine ⟨_, _, _, _, _, _, rfl, fun n => by cases n <;> rfl, fun n x y m => by cases n <;> rfl, fun hvc => ?_⟩
 have hvc : g = g' := hvc
 subst hvc
 obtain ⟨lm, ka', kt', va', vt', es', hlm⟩ := ghost_look hg
 have hm := I.objs lm
 rw [hlm] at hm
 obtain ⟨_, hblk, _, hnd, hlt, _⟩ := hm
 have hi := I.objs l
 rw [hl] at hi
 obtain ⟨b, seen, hρ, hit, ⟨fs, hpm, he⟩, _, hH⟩ := hi
 obtain ⟨b', hρ', rfl, _⟩ := hx
 rw [hρ] at hρ'; simp at hρ'; subst hρ'
 rcases run_next_at (P := P) w ty b g.r g.clock g.clock seen g.en g.clock hit hblk hlt (Nat.le_refl _) with ⟨h0, hrun⟩ | ⟨e, hm, w1, hw1, hrun⟩
 · left
   have h1 : (leftOf g.en seen).toList = [] := by
    rw [← List.length_eq_zero_iff, Array.length_toList]; exact h0
   rw [h1] at he
   have hf : fs = [] := by
    cases fs with
    | nil => rfl
    | cons p r => exact he.elim
   refine ⟨by rw [hf] at hpm; exact List.nil_perm.1 hpm, .tuple #[.bool false], w, H, ρ, .inl ?_, Mem.le_refl H, Lab.le_refl ρ, I.later but_le, [.bool false], rfl, _, _, rfl, ⟨rfl, rfl⟩, rfl⟩
   simp only [pathOff, Nat.zero_add, Nat.add_zero] at hrun ⊢
   rw [Sem.run_bind, hrun]; rfl
 · right
   have hnl : ((leftOf g.en seen).toList.map (·.born)).Nodup := by
    unfold leftOf
    rw [Array.toList_filter]
    exact List.Nodup.sublist (List.filter_sublist.map _) hnd
   obtain ⟨f1, p, f2, e1, e2, e3, e4⟩ := entRel_split he hm hnl
   have hmem : e ∈ g.en.toList := by
    unfold leftOf at hm
    rw [Array.toList_filter] at hm
    exact (List.mem_filter.1 hm).1
   have I1 : MInv E H ρ hp N w1 := by
    rcases hw1 with rfl | rfl
    · exact I
    · exact I.same (Same.drew w)
   have hit1 : w1.heap[b]? = some (.mapIter (some g.r) g.clock seen g.clock) := by rcases hw1 with rfl | rfl <;> exact hit
   have hbl := (Array.getElem?_eq_some_iff.1 hit1).1
   refine ⟨p.1, p.2, f1 ++ f2, hpm.symm.trans (by rw [e1]; exact List.perm_middle), .tuple #[.bool true, e.key, e.val], setBlock w1 b (.mapIter (some g.r) g.clock (seen.push e.born) g.clock), H, ρ, .inl ?_, Mem.le_refl H, Lab.le_refl ρ,
    (I1.change (l := l) (b := b) (w' := setBlock w1 b (.mapIter (some g.r) g.clock (seen.push e.born) g.clock)) (o' := .it ka kt va vt (f1 ++ f2) (some (p.1, p.2)) g) (by rw [hl]; simp) (by simp [baseOf, hρ, blk]) hH (fun k hk => ?_) (by simp [setBlock]) rfl rfl rfl ⟨b, seen.push e.born, hρ, ?_, ⟨f1 ++ f2, List.Perm.refl _, by rw [leftOf_push]; exact e4⟩, ⟨e, seen, hmem, rfl, e2, e3⟩, hH⟩).later but_le,
    [.bool true, e.key, e.val], rfl, _, _, rfl, ⟨rfl, rfl⟩, _, _, rfl, datS_rel e2, _, _, rfl, datS_rel e3, rfl⟩
   · simp only [pathOff, Nat.zero_add, Nat.add_zero] at hrun ⊢
     rw [Sem.run_bind, hrun]; rfl
   · simp only [setBlock]
     rw [Array.getElem?_setIfInBounds_ne (fun e => hk e.symm)]
   · simp only [setBlock]
     rw [Array.getElem?_setIfInBounds_self_of_lt hbl]

theorem entryO_ok (I : MInv E H ρ hp N w) {x : SV} {d : DrawR} (h : entryO hp x = some d) {vx : Value} (hx : svRel H ρ x vx) :
 ∃ r, d = .entry r ∧ (vcT r.vc → OpOk P E H ρ hp N lab w a (do pure (.value (← Instr.entry vx))) r) := by
 unfold entryO at h
 split at h
 case h_2 => cases h
 rename_i l g hg
 split at h
 case h_2 => cases h
 rename_i ka kt va vt left cx cy g' hl
 simp only [Option.some.injEq] at h; subst h
 refine ⟨_, rfl, fun hvc => ?_⟩
 have hvc : g = g' := hvc
 subst hvc
 obtain ⟨lm, ka', kt', va', vt', es', hlm⟩ := ghost_look hg
 have hm := I.objs lm
 rw [hlm] at hm
 obtain ⟨_, hblk, _, hnd, hlt, _⟩ := hm
 have hi := I.objs l
 rw [hl] at hi
 obtain ⟨b, seen, hρ, hit, _, ⟨e, s, hmem, rfl, e2, e3⟩, hH⟩ := hi
 obtain ⟨b', hρ', rfl, _⟩ := hx
 rw [hρ] at hρ'; simp at hρ'; subst hρ'
 have hrun := run_entry_at (P := P) w b g.r g.clock s g.en g.clock e hit hblk hmem hnd
 refine ⟨.tuple #[e.key, e.val], w, H, ρ, .inl ?_, Mem.le_refl H, Lab.le_refl ρ, I.later but_le, [e.key, e.val], rfl, _, _, rfl, datS_rel e2, _, _, rfl, datS_rel e3, rfl⟩
 simp only [pathOff, Nat.zero_add, Nat.add_zero] at hrun ⊢
 rw [Sem.run_bind, hrun]; rfl
end Go.Vse
