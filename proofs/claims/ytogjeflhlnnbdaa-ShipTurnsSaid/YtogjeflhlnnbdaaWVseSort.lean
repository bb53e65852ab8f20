/- Library functions that turn a row in place: sorting, and what follows one another alike. -/
import Derived.Test.YtogjeflhlnnbdaaWVseObj
import Derived.Sort.Grow
import Derived.Lib.SlicesCompact
namespace Go.Vse
open Go.Sort (grow putRow putCells onCells mapBlock Holds)
variable {P : Program} {H : Mem} {ρ : Lab} {w : World}

theorem heap_turn (g q : Nat) (F : Array Value) (os : Array Obj) (w : World) (b : Nat) (hb : b < w.heap.size) :
 (grow (putRow id (Go.Sort.ahead w q) g 0 F) os).heap[b]? = if b = g then (w.heap[g]?).map (onCells (putCells id 0 F)) else w.heap[b]? := by
 show ((w.heap.modify g (onCells (putCells id 0 F))) ++ os)[b]? = _
 rw [Array.getElem?_append_left (by simpa using hb), Array.getElem?_modify]
 by_cases e : g = b
 · subst e; simp
 · rw [if_neg e, if_neg (fun h => e h.symm)]
theorem size_turn (g q : Nat) (F : Array Value) (os : Array Obj) (w : World) : w.heap.size ≤ (grow (putRow id (Go.Sort.ahead w q) g 0 F) os).heap.size := by
 show w.heap.size ≤ ((w.heap.modify g (onCells (putCells id 0 F))) ++ os).size
 simp
theorem lt_of_heap {b : Nat} {o : Obj} (h : w.heap[b]? = some o) : b < w.heap.size := by
 rcases Nat.lt_or_ge b w.heap.size with h' | h'
 · exact h'
 · rw [Array.getElem?_eq_none h'] at h; cases h

theorem turn_row {g q : Nat} {cur : Array Value} {e : TypeId} {f : Nat × Nat} {news : List Value} {os : Array Obj}
 (hg : w.heap[g]? = some (.cells cur e f)) (hn : news.length ≤ cur.size) (hH : ∀ o, H g o = none) (hm : memOk H w) :
 memOk H (grow (putRow id (Go.Sort.ahead w q) g 0 news.toArray) os) ∧ SameBs (fun b => b = g) w (grow (putRow id (Go.Sort.ahead w q) g 0 news.toArray) os) ∧
  ∃ cur', (grow (putRow id (Go.Sort.ahead w q) g 0 news.toArray) os).heap[g]? = some (.cells cur' e f) ∧ cur'.size = cur.size ∧ cur'.toList.take news.length = news := by
 have hgl := lt_of_heap hg
 refine ⟨fun b o v hb => ?_, ⟨fun b hb hne => ?_, size_turn g q _ os w, rfl, rfl, rfl, Nat.le_add_right _ _⟩, putCells id 0 news.toArray cur, ?_, by simp [putCells], ?_⟩
 · have hne : b ≠ g := fun e => by rw [e, hH] at hb; cases hb
   have h0 := hm b o v hb
   unfold World.cell? at h0 ⊢
   have hlt : b < w.heap.size := by
    rcases Nat.lt_or_ge b w.heap.size with h' | h'
    · exact h'
    · simp only [Array.getElem?_eq_none h'] at h0; cases h0
   simp only at h0 ⊢
   rw [heap_turn g q _ os w b hlt, if_neg hne]
   exact h0
 · rw [heap_turn g q _ os w b hb, if_neg hne]
 · rw [heap_turn g q _ os w g hgl, if_pos rfl, hg]; rfl
 · apply List.ext_getElem?
   intro k
   rw [List.getElem?_take]
   by_cases hk : k < news.length
   · rw [if_pos hk]
     have : (putCells id 0 news.toArray cur).toList[k]? = (putCells id 0 news.toArray cur)[k]? := by rw [Array.getElem?_toList]
     rw [this]
     unfold putCells
     rw [Array.getElem?_mapIdx, Array.getElem?_eq_getElem (by omega : k < cur.size)]
     simp only [Option.map_some, Nat.zero_le, Nat.zero_add, List.size_toArray, hk, and_self, if_true, id, Nat.sub_zero]
     rw [List.getElem?_eq_getElem hk, getElem!_pos _ k (by simpa using hk)]
     simp
   · rw [if_neg hk, List.getElem?_eq_none (by omega)]

theorem rowArg_val {e : TypeId} {t : T} {xs : List t.den} {heap : List (Nat × SObj)} {p : SV} {vs : List Value} (h : rowArg e t p heap = some xs) (hrel : svsRel H ρ [p] vs) (hok : GraphOk H ρ heap w) :
 ∃ v, vs = [v] ∧ heap = [(1, .row e t.size t xs false)] ∧ ρ 1 = some v ∧ rowOwn H w e t.size t xs v false := by
 obtain ⟨rfl, rfl⟩ := rowArg_eq h
 obtain ⟨v, w', rfl, ⟨h1, _⟩, rfl⟩ := hrel
 obtain ⟨v', h2, h3⟩ := hok.objs 1
 rw [h1] at h2
 obtain rfl := Option.some.inj h2
 exact ⟨v, rfl, rfl, h1, h3⟩
theorem bases_row {e : TypeId} {s : Nat} {t : T} {xs : List t.den} {ro : Bool} {g n c : Nat} (hρ : ρ 1 = some (.slice (some ⟨g, 0, none⟩) n c)) (b : Nat) : basesOf ρ [(1, .row e s t xs ro)] b ↔ b = g := by
 constructor
 · rintro ⟨i, hi, hb⟩
   have h1 : i = 1 := by
    simp only [look] at hi
    by_cases h : i = 1
    · exact h
    · rw [beq_false (fun e => h e.symm)] at hi; exact absurd rfl hi
   subst h1
   unfold baseOf at hb
   rw [hρ] at hb
   simpa [blk] using hb.symm
 · rintro rfl
   refine ⟨1, by simp [look], ?_⟩
   unfold baseOf
   rw [hρ]; rfl

end Go.Vse
