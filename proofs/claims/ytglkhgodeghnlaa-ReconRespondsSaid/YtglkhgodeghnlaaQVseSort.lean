/- Library functions that turn a row in place: sorting, and what follows one another alike. -/
import Derived.Test.YtglkhgodeghnlaaQVseObj
import Derived.Sort.Grow
import Derived.Lib.SlicesCompact
namespace Go.Vse
open Go.Sort (grow putRow putCells onCells mapBlock Holds)
variable {P : Program} {H : Mem} {ρ : Lab} {w : World}

theorem heap_turn (g q : Nat) (F : Array Value) (os : Array Obj) (w : World) (b : Nat) (hb : b < w.heap.size) :
 (grow (putRow id (Go.Sort.ahead w q) g 0 F) os).heap[b]? = if b = g then (w.heap[g]?).map (onCells (putCells id 0 F)) else w.heap[b]? := by
 show ((w.heap.modify g (onCells (putCells id 0 F))) ++ os)[b]? = _
 rw [Array.getElem?_append_left (by simpa using hb), Array.getElem?_modify]
 by_cases e : g = b
 · subst e; simp
 · rw [if_neg e, if_neg (fun h => e h.symm)]
theorem size_turn (g q : Nat) (F : Array Value) (os : Array Obj) (w : World) : w.heap.size ≤ (grow (putRow id (Go.Sort.ahead w q) g 0 F) os).heap.size := by
 show w.heap.size ≤ ((w.heap.modify g (onCells (putCells id 0 F))) ++ os).size
 simp
theorem lt_of_heap {b : Nat} {o : Obj} (h : w.heap[b]? = some o) : b < w.heap.size := by
 rcases Nat.lt_or_ge b w.heap.size with h' | h'
 · exact h'
 · rw [Array.getElem?_eq_none h'] at h; cases h

theorem turn_row {g q : Nat} {cur : Array Value} {e : TypeId} {f : Nat × Nat} {news : List Value} {os : Array Obj}
 (hg : w.heap[g]? = some (.cells cur e f)) (hn : news.length ≤ cur.size) (hH : ∀ o, H g o = none) (hm : memOk H w) :
 memOk H (grow (putRow id (Go.Sort.ahead w q) g 0 news.toArray) os) ∧ SameBs (fun b => b = g) w (grow (putRow id (Go.Sort.ahead w q) g 0 news.toArray) os) ∧
  ∃ cur', (grow (putRow id (Go.Sort.ahead w q) g 0 news.toArray) os).heap[g]? = some (.cells cur' e f) ∧ cur'.size = cur.size ∧ cur'.toList.take news.length = news := by
 have hgl := lt_of_heap hg
 refine ⟨fun b o v hb => ?_, ⟨fun b hb hne => ?_, size_turn g q _ os w, rfl, rfl, rfl, Nat.le_add_right _ _⟩, putCells id 0 news.toArray cur, ?_, by simp [putCells], ?_⟩
 · have hne : b ≠ g := fun e => by rw [e, hH] at hb; cases hb
   have h0 := hm b o v hb
   unfold World.cell? at h0 ⊢
   have hlt : b < w.heap.size := by
    rcases Nat.lt_or_ge b w.heap.size with h' | h'
    · exact h'
    · simp only [Array.getElem?_eq_none h'] at h0; cases h0
   simp only at h0 ⊢
   rw [heap_turn g q _ os w b hlt, if_neg hne]
   exact h0
 · rw [heap_turn g q _ os w b hb, if_neg hne]
 · rw [heap_turn g q _ os w g hgl, if_pos rfl, hg]; rfl
 · apply List.ext_getElem?
   intro k
   rw [List.getElem?_take]
   by_cases hk : k < news.length
   · rw [if_pos hk]
     have : (putCells id 0 news.toArray cur).toList[k]? = (putCells id 0 news.toArray cur)[k]? := by rw [Array.getElem?_toList]
     rw [this]
     unfold putCells
     rw [Array.getElem?_mapIdx, Array.getElem?_eq_getElem (by omega : k < cur.size)]
     simp only [Option.map_some, Nat.zero_le, Nat.zero_add, List.size_toArray, hk, and_self, if_true, id, Nat.sub_zero]
     rw [List.getElem?_eq_getElem hk, getElem!_pos _ k (by simpa using hk)]
     simp
   · rw [if_neg hk, List.getElem?_eq_none (by omega)]

theorem rowI {xs : List Int} {cs : List Value} : rowRel (eltRel H .i64) xs cs ↔ cs = xs.map (Value.int .i64) ∧ ∀ x ∈ xs, inI64 x := by
 induction xs generalizing cs with
 | nil => simp [rowRel]
 | cons x r ih =>
   simp only [rowRel]
   constructor
   · rintro ⟨a, b, rfl, ⟨rfl, hx⟩, h⟩
     obtain ⟨rfl, h2⟩ := ih.1 h
     refine ⟨rfl, fun y hy => ?_⟩
     rcases List.mem_cons.1 hy with rfl | hy
     · exact hx
     · exact h2 y hy
   · rintro ⟨rfl, h⟩
     exact ⟨[.int .i64 x], _, rfl, ⟨rfl, h x (List.mem_cons_self ..)⟩, ih.2 ⟨rfl, fun y hy => h y (List.mem_cons_of_mem _ hy)⟩⟩
theorem putRow_ints (w : World) (g : Nat) (zs : List Int) : putRow (Value.int .i64) w g 0 zs.toArray = putRow id w g 0 (zs.map (Value.int .i64)).toArray := by
 unfold putRow
 refine Go.Sort.mapBlock_congr _ _ _ _ fun c _ _ _ => ?_
 unfold putCells
 apply Array.ext_getElem?
 intro k
 simp only [Array.getElem?_mapIdx]
 cases c[k]? with
 | none => rfl
 | some y =>
   simp only [Option.map_some, List.size_toArray, List.length_map, Nat.zero_le, true_and, Nat.zero_add, Nat.sub_zero, id]
   by_cases hk : k < zs.length
   · rw [if_pos hk, if_pos hk, getElem!_pos _ k (by simpa using hk), getElem!_pos _ k (by simpa using hk)]
     simp
   · rw [if_neg hk, if_neg hk]
theorem holds_row {g : Nat} {cur : Array Value} {e : TypeId} {f : Nat × Nat} {zs : List Int} (hg : w.heap[g]? = some (.cells cur e f)) (hf : farF f cur.size) (hz : cur.toList.take zs.length = zs.map (Value.int .i64)) (hn : zs.length ≤ cur.size) :
 Holds (Value.int .i64) w g 0 zs.toArray := by
 intro j hj
 have hj : j < zs.length := by simpa using hj
 constructor
 · unfold World.cell?
   simp only [hg, Option.isSome_none, Bool.false_eq_true, if_false, Nat.zero_add]
   have h1 : (cur.toList.take zs.length)[j]? = cur[j]? := by rw [List.getElem?_take, if_pos hj, Array.getElem?_toList]
   rw [← h1, hz, List.getElem?_map, List.getElem?_eq_getElem hj, getElem!_pos _ j (by simpa using hj)]
   simp
 · unfold World.frozen?
   obtain ⟨lo, hi⟩ := f
   simp only [hg, Nat.zero_add]
   have := hf j (by omega)
   simp only at this
   cases h1 : decide (lo ≤ j) with
   | false => rfl
   | true =>
     have h1 := of_decide_eq_true h1
     have : ¬ j < hi := fun h2 => this ⟨h1, h2⟩
     simp [this]

def leI (x y : Int) : Bool := decide (x ≤ y)
def sortL (xs : List Int) : List Int := xs.mergeSort leI
theorem rowArg_val {e : TypeId} {t : T} {xs : List t.den} {heap : List (Nat × SObj)} {p : SV} {vs : List Value} (h : rowArg e t p heap = some xs) (hrel : svsRel H ρ [p] vs) (hok : GraphOk H ρ heap w) :
 ∃ v, vs = [v] ∧ heap = [(1, .row e t.size t xs false)] ∧ ρ 1 = some v ∧ rowOwn H w e t.size t xs v false := by
 obtain ⟨rfl, rfl⟩ := rowArg_eq h
 obtain ⟨v, w', rfl, ⟨h1, _⟩, rfl⟩ := hrel
 obtain ⟨v', h2, h3⟩ := hok.objs 1
 rw [h1] at h2
 obtain rfl := Option.some.inj h2
 exact ⟨v, rfl, rfl, h1, h3⟩
theorem bases_row {e : TypeId} {s : Nat} {t : T} {xs : List t.den} {ro : Bool} {g n c : Nat} (hρ : ρ 1 = some (.slice (some ⟨g, 0, none⟩) n c)) (b : Nat) : basesOf ρ [(1, .row e s t xs ro)] b ↔ b = g := by
 constructor
 · rintro ⟨i, hi, hb⟩
   have h1 : i = 1 := by
    simp only [look] at hi
    by_cases h : i = 1
    · exact h
    · rw [beq_false (fun e => h e.symm)] at hi; exact absurd rfl hi
   subst h1
   unfold baseOf at hb
   rw [hρ] at hb
   simpa [blk] using hb.symm
 · rintro rfl
   refine ⟨1, by simp [look], ?_⟩
   unfold baseOf
   rw [hρ]; rfl

def c_sortI (e : TypeId) : PC := gR e .i64 [] fun xs _ => ⟨some (xs.length < 4611686018427387904), .tup [], [(1, .row e T.i64.size .i64 (sortL xs) false)]⟩
theorem sortL_perm (xs : List Int) : (sortL xs).Perm xs := List.mergeSort_perm xs leI
theorem spec_sortI (e : TypeId) {f : FuncId} (hfn : ∃ fn b, P.funcs[f]? = some fn ∧ fn.body = some b ∧ (fn.name == "runtime.NumGoroutine") = false)
 (hS : ∀ (g cap : Nat) (zs : List Int) (w : World), Holds (Value.int .i64) w g 0 zs.toArray → g < w.heap.size → zs.length < 4611686018427387904 →
  Calls P f #[.slice (some ⟨g, 0, none⟩) zs.length cap] w fun e w' => e = .returned (.tuple #[]) ∧ ∃ n os, w' = grow (putRow (Value.int .i64) (Go.Sort.ahead w n) g 0 (sortL zs).toArray) os)
 (h0 : ∀ w : World, Calls P f #[.slice none 0 0] w fun e w' => e = .returned (.tuple #[]) ∧ w' = w) : Spec P f (c_sortI e) := by
 refine ⟨hfn, fun H w ins vs g r hct => (by cases hct), fun fl g' hg H w ρ heap ins vs r hgr hvc hrel hok hfree hmem => ?_⟩
 replace hg : (c_sortI e).gr = some (fl, g') := by rcases hg with hg | hg
                                                   · exact hg
                                                   · cases hg
 unfold c_sortI gR at hg
 simp only [Option.some.injEq, Prod.mk.injEq] at hg
 obtain ⟨rfl, rfl⟩ := hg
 simp only at hgr
 split at hgr
 case h_2 => cases hgr
 rename_i p data
 split at hgr
 case h_2 => cases hgr
 rename_i xs x hx hd
 simp only [Option.some.injEq] at hgr; subst hgr
 have hdata := decs_eq hd
 simp only [svsOf] at hdata
 subst hdata
 obtain ⟨v, rfl, rfl, hρ, _, hv⟩ := rowArg_val hx hrel hok
 have hvc : xs.length < 4611686018427387904 := hvc
 unfold GAnswers
 rcases hv with ⟨rfl, rfl⟩ | ⟨g, cap, cur, fr, rfl, hf, hg, hle, hmax, hsz, hrow, hH⟩
 · refine Calls.mono (h0 w) ?_
   rintro e' w' ⟨rfl, rfl⟩
   refine ⟨.tuple #[], H, ρ, rfl, Mem.le_refl H, hmem, ⟨fun _ _ _ => rfl, Nat.le_refl _, rfl, rfl, rfl, Nat.le_refl _⟩, fun _ _ _ _ => rfl, fun _ _ _ => rfl, ?_, fun i b hi hb => .inr ⟨i, ?_, hb⟩, fun a => ⟨[], rfl, rfl⟩⟩
   · have e1 : sortL [] = [] := by simp [sortL]
     rw [e1]; exact hok
   · have e1 : sortL [] = [] := by simp [sortL]
     rw [e1] at hi; exact hi
 · have hH := hH rfl
   have hs : T.i64.size = 1 := rfl
   rw [hs, Nat.mul_one] at hrow
   rw [hs, Nat.mul_one] at hsz
   obtain ⟨hcs, hin⟩ := rowI.1 hrow
   have hn : xs.length ≤ cur.size := by omega
   have hgl := lt_of_heap hg
   refine Calls.mono (hS g cap xs w (holds_row hg hf hcs hn) hgl hvc) ?_
   rintro e' w' ⟨rfl, q, os, rfl⟩
   rw [putRow_ints]
   have hlen : (sortL xs).length = xs.length := (sortL_perm xs).length_eq
   obtain ⟨m1, m2, cur', m3, m4, m5⟩ := turn_row (q := q) (os := os) (news := (sortL xs).map (Value.int .i64)) hg (by rw [List.length_map, hlen]; exact hn) hH hmem
   have hb := bases_row (e := e) (s := T.i64.size) (t := .i64) (xs := xs) (ro := false) hρ
   refine ⟨.tuple #[], H, ρ, rfl, Mem.le_refl H, m1, ⟨fun b hb' hne => m2.heap b hb' fun e => hne ((hb b).2 e), m2.size, m2.os, m2.tape, m2.output⟩, fun _ _ _ _ => rfl, fun _ _ _ => rfl, ⟨fun i => ?_, fun i j b hi hj hij => ?_⟩, fun i b hi hb' => .inr ⟨i, ?_, hb'⟩, fun a => ⟨[], rfl, rfl⟩⟩
   · by_cases hi : i = 1
     · subst hi
       simp only [look, Nat.beq_refl, cond_true]
       refine ⟨_, hρ, rfl, .inr ⟨g, cap, cur', fr, by rw [hlen], by rw [m4]; exact hf, m3, by rw [hlen]; exact hle, hmax, by rw [m4, hsz, hs, Nat.mul_one], ?_, fun _ => hH⟩⟩
       rw [hs, Nat.mul_one]
       have h5 : cur'.toList.take (sortL xs).length = (sortL xs).map (Value.int .i64) := by rw [List.length_map] at m5; exact m5
       rw [h5]
       exact rowI.2 ⟨rfl, fun x hx => hin x ((sortL_perm xs).mem_iff.1 hx)⟩
     · simp only [look, beq_false (fun e => hi e.symm), cond_false]
       trivial
   · exfalso
     have k1 : ∀ k, look k [(1, SObj.row e T.i64.size .i64 (sortL xs) false)] ≠ .gone → k = 1 := fun k hk => by
      by_cases h : k = 1
      · exact h
      · simp only [look, beq_false (fun e => h e.symm), cond_false] at hk; exact absurd rfl hk
     exact hij ((k1 i hi).trans (k1 j hj).symm)
   · by_cases h : i = 1
     · subst h; simp [look]
     · simp only [look, beq_false (fun e => h e.symm), cond_false] at hi; exact absurd rfl hi

def c_compactI (e : TypeId) : PC := gR e .i64 [] fun xs _ => ⟨some (xs.length ≤ 4611686018427387904), .sv (.dv (.imm .i64 (Lib.compact xs))), []⟩

theorem take_take_min {α : Type} (l : List α) {n m : Nat} (h : n ≤ m) : (l.take m).take n = l.take n := by rw [List.take_take, Nat.min_eq_left h]
theorem compact_len (zs : List Int) : (Lib.compact zs).length ≤ zs.length := by
 unfold Lib.compact Lib.compactUpTo
 rw [List.length_map]
 exact Nat.le_trans (List.length_filter_le _ _) (by simp)
theorem compact_mem (zs : List Int) : ∀ x ∈ Lib.compact zs, x ∈ zs := by
 intro x hx
 unfold Lib.compact Lib.compactUpTo at hx
 obtain ⟨i, hi, rfl⟩ := List.mem_map.1 hx
 have hi := List.mem_range.1 ((List.mem_filter.1 hi).1)
 rw [getElem!_pos _ i (by simpa using hi)]
 simp
theorem spec_compactI (e : TypeId) {f : FuncId} (hfn : ∃ fn b, P.funcs[f]? = some fn ∧ fn.body = some b ∧ (fn.name == "runtime.NumGoroutine") = false)
 (hS : ∀ (g cap : Nat) (zs : List Int) (w : World), Holds (Value.int .i64) w g 0 zs.toArray → zs.length ≤ 9223372036854775807 → zs.length ≤ cap →
  Calls P f #[.slice (some ⟨g, 0, none⟩) zs.length cap] w fun e w' => e = .returned (.slice (some ⟨g, 0, none⟩) (Lib.compact zs).length cap) ∧ ∃ q, w' = putRow (Value.int .i64) (Go.Sort.ahead w q) g 0 (Lib.compact zs ++ List.replicate (zs.length - (Lib.compact zs).length) 0).toArray)
 (h0 : ∀ w : World, Calls P f #[.slice none 0 0] w fun e w' => e = .returned (.slice none 0 0) ∧ w' = w) : Spec P f (c_compactI e) := by
 refine ⟨hfn, fun H w ins vs g r hct => (by cases hct), fun fl g' hg H w ρ heap ins vs r hgr hvc hrel hok hfree hmem => ?_⟩
 replace hg : (c_compactI e).gr = some (fl, g') := by rcases hg with hg | hg
                                                      · exact hg
                                                      · cases hg
 unfold c_compactI gR at hg
 simp only [Option.some.injEq, Prod.mk.injEq] at hg
 obtain ⟨rfl, rfl⟩ := hg
 simp only at hgr
 split at hgr
 case h_2 => cases hgr
 rename_i p data
 split at hgr
 case h_2 => cases hgr
 rename_i xs x hx hd
 simp only [Option.some.injEq] at hgr; subst hgr
 have hdata := decs_eq hd
 simp only [svsOf] at hdata
 subst hdata
 obtain ⟨v, rfl, rfl, hρ, _, hv⟩ := rowArg_val hx hrel hok
 have hvc : xs.length ≤ 4611686018427387904 := hvc
 unfold GAnswers
 rcases hv with ⟨rfl, rfl⟩ | ⟨g, cap, cur, fr, rfl, hf, hg, hle, hmax, hsz, hrow, hH⟩
 · refine Calls.mono (h0 w) ?_
   rintro e' w' ⟨rfl, rfl⟩
   refine ⟨_, H, ρ, rfl, Mem.le_refl H, hmem, ⟨fun _ _ _ => rfl, Nat.le_refl _, rfl, rfl, rfl, Nat.le_refl _⟩, fun _ _ _ _ => rfl, fun _ _ _ => rfl, ⟨fun _ => trivial, fun i j b hi => absurd rfl hi⟩, fun i b hi => absurd rfl hi, fun a => ⟨by simp [Lib.compact, Lib.compactUpTo], .inl ⟨by simp [Lib.compact, Lib.compactUpTo], .inl rfl⟩⟩⟩
 · have hH := hH rfl
   have hs : T.i64.size = 1 := rfl
   rw [hs, Nat.mul_one] at hrow
   rw [hs, Nat.mul_one] at hsz
   obtain ⟨hcs, hin⟩ := rowI.1 hrow
   have hn : xs.length ≤ cur.size := by omega
   have hgl := lt_of_heap hg
   refine Calls.mono (hS g cap xs w (holds_row hg hf hcs hn) (by omega) hle) ?_
   rintro e' w' ⟨rfl, q, rfl⟩
   have hc := compact_len xs
   rw [← Go.Sort.grow_empty (putRow _ _ _ _ _), putRow_ints]
   generalize hz : (Lib.compact xs ++ List.replicate (xs.length - (Lib.compact xs).length) 0) = zs
   have hzl : zs.length = xs.length := by rw [← hz, List.length_append, List.length_replicate]; omega
   obtain ⟨m1, m2, cur', m3, m4, m5⟩ := turn_row (q := q) (os := #[]) (news := zs.map (Value.int .i64)) hg (by rw [List.length_map, hzl]; exact hn) hH hmem
   have hb := bases_row (e := e) (s := T.i64.size) (t := .i64) (xs := xs) (ro := false) hρ
   generalize hW : grow (putRow id (Go.Sort.ahead w q) g 0 (zs.map (Value.int .i64)).toArray) #[] = W at m1 m2 m3
   have hk : (Lib.compact xs).map (Value.int .i64) = cur'.toList.take (Lib.compact xs).length := by
    rw [List.length_map, hzl] at m5
    rw [← take_take_min _ hc, m5, ← hz, List.map_append, List.take_left' (by rw [List.length_map])]
   refine ⟨_, extH H g (Lib.compact xs).length cur'.toList, ρ, rfl, fun b o v h => ?_, fun b o v h => ?_, ⟨fun b hb' hne => m2.heap b hb' fun e => hne ((hb b).2 e), m2.size, m2.os, m2.tape, m2.output⟩, fun b hb' hne o => ?_, fun i hi hj => absurd rfl hj, ⟨fun _ => trivial, fun i j b hi => absurd rfl hi⟩, fun i b hi => absurd rfl hi, fun a => ?_⟩
   · unfold extH
     rw [if_neg fun e => by rw [e.1, hH] at h; cases h]
     exact h
   · unfold extH at h
     by_cases e : b = g ∧ o < (Lib.compact xs).length
     · rw [if_pos e] at h
       obtain ⟨rfl, e2⟩ := e
       unfold World.cell?
       simp only [m3, Option.isSome_none, Bool.false_eq_true, if_false]
       rw [← h, Array.getElem?_toList]
     · rw [if_neg e] at h
       exact m1 b o v h
   · unfold extH
     rw [if_neg fun e => hne ((hb b).2 e.1)]
   · refine ⟨by unfold LIM; omega, .inr ⟨g, 0, cap, (Lib.compact xs).map (Value.int .i64), rfl, by omega, rowI.2 ⟨rfl, fun x hx => hin x (compact_mem xs x hx)⟩, fun i hi => ?_⟩⟩
     rw [List.length_map] at hi
     unfold extH
     rw [if_pos ⟨rfl, by omega⟩, hk, List.getElem?_take, if_pos hi, Nat.zero_add]

end Go.Vse
