/- slices.SortFunc, at elements of many cells: a row that is sorted in place by a function that keeps a plain contract. -/
import Derived.Test.YtogjeflhlnnbdaaWVseSort
import Derived.Test.YtogjeflhlnnbdaaWVseClose
import Derived.Shelf.SlSortCmp.WholeK
namespace Go.Vse
open Go.Sort (grow putRow putCells onCells mapBlock Holds SWO)
open Go.Proofs (ltOf CmpLays)
variable {P : Program} {H : Mem} {ρ : Lab} {w : World}

abbrev EltC (H : Mem) (t : T) := { p : t.den × List Value // eltRel H t p.1 p.2 }
def EltC.cells {t : T} (p : EltC H t) : List Value := p.1.2
theorem elts_of {t : T} : ∀ {xs : List t.den} {cs : List Value}, rowRel (eltRel H t) xs cs → ∃ ps : List (EltC H t), ps.map (fun p => p.1.1) = xs ∧ (ps.map EltC.cells).flatten = cs
 | [], cs, h => ⟨[], rfl, by simp only [rowRel] at h; rw [h]; rfl⟩
 | x :: r, cs, ⟨a, b, e, h1, h2⟩ => by
   obtain ⟨ps, e1, e2⟩ := elts_of h2
   exact ⟨⟨(x, a), h1⟩ :: ps, by simp [e1], by simp [EltC.cells, e, ← e2]⟩
theorem elts_row {t : T} : ∀ ps : List (EltC H t), rowRel (eltRel H t) (ps.map fun p => p.1.1) (ps.map EltC.cells).flatten
 | [] => rfl
 | p :: r => ⟨p.1.2, (r.map EltC.cells).flatten, by simp [EltC.cells], p.2, elts_row r⟩
theorem flat_get {α : Type} (enc : α → List Value) (k : Nat) (hk : ∀ x, (enc x).length = k) : ∀ (l : List α) (i j : Nat) (hi : i < l.length), j < k → ((l.map enc).flatten)[i * k + j]? = (enc l[i])[j]?
 | x :: r, 0, j, _, hj => by
   simp only [List.map_cons, List.flatten_cons, Nat.zero_mul, Nat.zero_add]
   rw [List.getElem?_append_left (by rw [hk]; exact hj)]; rfl
 | x :: r, i + 1, j, hi, hj => by
   simp only [List.map_cons, List.flatten_cons]
   rw [List.getElem?_append_right (by rw [hk, Nat.succ_mul]; omega), hk, show (i + 1) * k + j - k = i * k + j by rw [Nat.succ_mul]; omega]
   rw [flat_get enc k hk r i j (by simpa using hi) hj]; rfl
theorem flat_length {α : Type} (enc : α → List Value) (k : Nat) (hk : ∀ x, (enc x).length = k) (l : List α) : ((l.map enc).flatten).length = l.length * k := by
 induction l with
 | nil => simp
 | cons x r ih => simp only [List.map_cons, List.flatten_cons, List.length_append, ih, hk, List.length_cons, Nat.succ_mul]; omega
theorem flatK_list {α : Type} [Inhabited α] (enc : α → List Value) (k : Nat) (hk : ∀ x, (enc x).length = k) (l : List α) : Go.Sort.flatK enc k l.toArray = ((l.map enc).flatten).toArray := by
 apply Array.ext_getElem?
 intro i
 by_cases hi : i < l.length * k
 · have k0 : 0 < k := by rcases Nat.eq_zero_or_pos k with h | h
                         · subst h; simp at hi
                         · exact h
   have hd : i / k < l.length := (Nat.div_lt_iff_lt_mul k0).2 hi
   have hm : i % k < k := Nat.mod_lt _ k0
   have e1 := flat_get enc k hk l (i / k) (i % k) hd hm
   rw [Nat.div_add_mod' i k] at e1
   have h1 : i < (Go.Sort.flatK enc k l.toArray).size := by simpa using hi
   rw [Array.getElem?_eq_getElem h1, List.getElem?_toArray, e1]
   have e2 := Go.Sort.get_flatK enc k l.toArray i (by simpa using hi)
   rw [getElem!_pos _ i h1] at e2
   rw [e2, getElem!_pos _ (i / k) (by simpa using hd)]
   rw [List.getElem_toArray, List.getElem?_eq_getElem (by rw [hk]; exact hm), getElem!_pos _ (i % k) (by rw [hk]; exact hm)]
 · rw [Array.getElem?_eq_none (by simpa using hi), Array.getElem?_eq_none (by rw [List.size_toArray, flat_length enc k hk]; omega)]

theorem holdsK_row {α : Type} [Inhabited α] (enc : α → List Value) (k : Nat) (hk : ∀ x, (enc x).length = k) (l : List α) {g : Nat} {cur : Array Value} {e : TypeId} {f : Nat × Nat} (hg : w.heap[g]? = some (.cells cur e f)) (hf : farF f cur.size)
 (hz : cur.toList.take (l.length * k) = (l.map enc).flatten) (hn : l.length * k ≤ cur.size) : Go.Sort.HoldsK enc k w g 0 l.toArray := by
 unfold Go.Sort.HoldsK
 rw [flatK_list enc k hk]
 intro j hj
 have hj : j < l.length * k := by rw [List.size_toArray, flat_length enc k hk] at hj; exact hj
 constructor
 · unfold World.cell?
   simp only [hg, Option.isSome_none, Bool.false_eq_true, if_false, Nat.zero_add]
   have h1 : (cur.toList.take (l.length * k))[j]? = cur[j]? := by rw [List.getElem?_take, if_pos hj, Array.getElem?_toList]
   rw [← h1, hz]
   have hj2 : j < ((l.map enc).flatten).length := by rw [flat_length enc k hk]; exact hj
   rw [List.getElem?_eq_getElem hj2, getElem!_pos _ j (by simpa using hj2)]
   simp
 · unfold World.frozen?
   obtain ⟨lo, hi⟩ := f
   simp only [hg, Nat.zero_add]
   have := hf j (by omega)
   simp only at this
   cases h1 : decide (lo ≤ j) with
   | false => rfl
   | true =>
     have h1 := of_decide_eq_true h1
     have : ¬ j < hi := fun h2 => this ⟨h1, h2⟩
     simp [this]
theorem grown_eq {w w' : World} (h : SameBut none w w') : ∃ q os, w' = grow (w.drewN q) os := by
 refine ⟨w'.drawn - w.drawn, w'.heap.extract w.heap.size w'.heap.size, ?_⟩
 have hh : w'.heap = w.heap ++ w'.heap.extract w.heap.size w'.heap.size := by
  apply Array.ext_getElem?
  intro i
  by_cases hi : i < w.heap.size
  · rw [Array.getElem?_append_left hi]; exact h.heap i hi (by simp)
  · rw [Array.getElem?_append_right (by omega), Array.getElem?_extract]
    have := h.size
    by_cases hi2 : i < w'.heap.size
    · rw [if_pos (by omega)]; congr 1; omega
    · rw [if_neg (by omega), Array.getElem?_eq_none (by omega)]
 obtain ⟨hp, tp, dr, os, out⟩ := w'
 obtain ⟨hp0, tp0, dr0, os0, out0⟩ := w
 have h1 : os = os0 := h.os
 have h2 : tp = tp0 := h.tape
 have h3 : out = out0 := h.output.1
 have h4 : dr0 ≤ dr := h.output.2
 have hh : hp = hp0 ++ hp.extract hp0.size hp.size := hh
 show World.mk hp tp dr os out = World.mk (hp0 ++ hp.extract hp0.size hp.size) tp0 (dr0 + (dr - dr0)) os0 out0
 rw [← hh, h1, h2, h3, show dr0 + (dr - dr0) = dr by omega]

def leF {α : Type} (cf : α → α → Int) (x y : α) : Bool := !decide (cf y x < 0)
def sortF {α : Type} (cf : α → α → Int) (xs : List α) : List α := xs.mergeSort (leF cf)
theorem sortF_perm {α : Type} (cf : α → α → Int) (xs : List α) : (sortF cf xs).Perm xs := List.mergeSort_perm xs (leF cf)
def antiF {α : Type} (cf : α → α → Int) (xs : List α) : Prop := ∀ x ∈ xs, ∀ y ∈ xs, ¬ cf x y < 0 → ¬ cf y x < 0 → x = y
def c_sortF (e : TypeId) (t : T) (g : FuncId) (cf : t.den → t.den → Int) : PC := { ptr := false, ct := fun _ => none, gr := some ([false, true], fun ins heap => match ins with
 | [p, .clo g' []] => bif Nat.beq g' g then (match rowArg e t p heap with
   | some xs => some ⟨some (xs.length < 4611686018427387904 ∧ antiF cf xs), .tup [], [(1, .row e t.size t (sortF cf xs) false)]⟩
   | none => none) else none
 | _ => none) }
theorem svOfT_agg {t : T} (ht : aggK t = true) {x : t.den} {cs : List Value} (h : eltRel H t x cs) (ρ : Lab) : svRel H ρ (svOfT t x) (.agg cs.toArray) := by
 cases t with
 | arr n u => exact ⟨cs, rfl, scsRel_ofRuns.2 ((enc_rel _ _ _).2 h)⟩
 | pair a b => exact ⟨cs, rfl, scsRel_ofRuns.2 ((enc_rel _ _ _).2 h)⟩
 | _ => cases ht
end Go.Vse
namespace Go.Vse
open Go.Sort (grow putRow putCells onCells mapBlock Holds SWO)
open Go.Proofs (ltOf CmpLays)
variable {P : Program} {H : Mem} {ρ : Lab} {w : World}

def SortsK (P : Program) (f g : FuncId) (k : Nat) : Prop := ∀ (α : Type) [Inhabited α] (enc : α → List Value) (_ : ∀ x, (enc x).length = k) (_ : ∀ x, ∀ v ∈ enc x, v.oneCell' = true) (cf : α → α → Int) (_ : SWO (ltOf cf)) (blk cap : Nat) (d : Array α) (w : World),
 CmpLays P g #[] enc k cf blk 0 d.size w → Go.Sort.HoldsK enc k w blk 0 d → blk < w.heap.size → d.size < 4611686018427387904 →
 Calls P f #[.slice (some ⟨blk, 0, none⟩) d.size cap, .func (.func g) #[] #[]] w fun e w' => e = .returned (.tuple #[]) ∧ ∃ d' n os, Go.Sort.PermIn 0 d.size d d' ∧ Go.Sort.SortedIn (ltOf cf) 0 d.size d' ∧ w' = Go.Proofs.sortWorldK enc k w blk 0 n d' os
theorem look_row {e : TypeId} {t : T} {xs : List t.den} {ro : Bool} {k : Nat} (h : look k [(1, SObj.row e t.size t xs ro)] ≠ .gone) : k = 1 := by
 by_cases h1 : k = 1
 · exact h1
 · simp only [look, beq_false (fun e => h1 e.symm), cond_false] at h; exact absurd rfl h
set_option maxHeartbeats 2000000 in
theorem spec_sortF {e : TypeId} {t : T} (ht : aggK t = true) (hs0 : 0 < t.size) {f g : FuncId} {cf : t.den → t.den → Int} (hsp : Spec P g (D [t, t] [.i64] (fun _ => none) (fun x => (cf x.1 x.2.1, ())))) (hO : SWO (fun x y => decide (cf x y < 0)))
 (hfn : ∃ fn b, P.funcs[f]? = some fn ∧ fn.body = some b ∧ (fn.name == "runtime.NumGoroutine") = false) (hS : SortsK P f g t.size)
 (h0 : ∀ (p : Option Addr) (cap : Nat) (fv : Value) (w : World), Calls P f #[.slice p 0 cap, fv] w fun e w' => e = .returned (.tuple #[]) ∧ w' = w) : Spec P f (c_sortF e t g cf) := by
 refine ⟨hfn, fun H w ins vs g r hct => (by cases hct), fun fl g' hg H w ρ heap ins vs r hgr hvc hrel hok hfree hmem => ?_⟩
 replace hg : (c_sortF e t g cf).gr = some (fl, g') := by rcases hg with hg | hg
                                                          · exact hg
                                                          · cases hg
 unfold c_sortF at hg
 simp only [Option.some.injEq, Prod.mk.injEq] at hg
 obtain ⟨rfl, rfl⟩ := hg
 simp only at hgr
 split at hgr
 case h_2 => cases hgr
 rename_i p gg
 cases hgg : Nat.beq gg g with
 | false => rw [hgg] at hgr; cases hgr
 | true =>
 rw [hgg, cond_true] at hgr
 have hgg := Nat.eq_of_beq_eq_true hgg
 subst hgg
 split at hgr
 case h_2 => cases hgr
 rename_i xs hx
 simp only [Option.some.injEq] at hgr; subst hgr
 obtain ⟨v, vr, rfl, hv1, vf, vr2, rfl, hv2, hv3⟩ := hrel
 simp only [svsRel] at hv3
 subst hv3
 have hv2 : vf = .func (.func gg) #[] #[] := hv2
 subst hv2
 obtain ⟨v', e1, rfl, hρ, _, hv⟩ := rowArg_val hx (vs := [v]) ⟨v, [], rfl, hv1, rfl⟩ hok
 obtain rfl : v = v' := by simpa using e1
 obtain ⟨hlen0, hanti⟩ : xs.length < 4611686018427387904 ∧ antiF cf xs := hvc
 unfold GAnswers
 have done : ∀ (he : xs = []), v = .slice none 0 0 ∨ (∃ a c, v = .slice a 0 c) → Calls P f [v, .func (.func gg) #[] #[]].toArray w fun e' w' => ∃ v H' ρ', e' = .returned v ∧ H.le H' ∧ memOk H' w' ∧ SameBs (basesOf ρ [(1, SObj.row e t.size t xs false)]) w w' ∧ (∀ b, b < w.heap.size → ¬ basesOf ρ [(1, SObj.row e t.size t xs false)] b → ∀ o, H' b o = H b o) ∧
  (∀ i, look i [(1, SObj.row e t.size t xs false)] ≠ .gone → look i [(1, SObj.row e t.size t (sortF cf xs) false)] ≠ .gone → ρ' i = ρ i) ∧ GraphOk H' ρ' [(1, SObj.row e t.size t (sortF cf xs) false)] w' ∧ (∀ i b, look i [(1, SObj.row e t.size t (sortF cf xs) false)] ≠ .gone → baseOf ρ' i = some b → w.heap.size ≤ b ∨ basesOf ρ [(1, SObj.row e t.size t xs false)] b) ∧ ∀ a, slRel H' ρ' a (.tup []) v := by
  intro he hv0
  have hv0 : ∃ a c, v = .slice a 0 c := by rcases hv0 with h | h
                                           · exact ⟨none, 0, h⟩
                                           · exact h
  obtain ⟨a, c, rfl⟩ := hv0
  refine Calls.mono (h0 a c (.func (.func gg) #[] #[]) w) ?_
  rintro e' w' ⟨rfl, rfl⟩
  have e2 : sortF cf xs = xs := by rw [he]; simp [sortF]
  rw [e2]
  exact ⟨.tuple #[], H, ρ, rfl, Mem.le_refl H, hmem, ⟨fun _ _ _ => rfl, Nat.le_refl _, rfl, rfl, rfl, Nat.le_refl _⟩, fun _ _ _ _ => rfl, fun _ _ _ => rfl, hok, fun i b hi hb => .inr ⟨i, hi, hb⟩, fun a => ⟨[], rfl, rfl⟩⟩
 rcases hv with ⟨rfl, he⟩ | ⟨g0, cap, cur, fr, rfl, hf, hg, hle, hmax, hsz, hrow, hH⟩
 · exact done he (.inl rfl)
 by_cases hnil : xs = []
 · exact done hnil (.inr ⟨_, cap, by rw [hnil]; rfl⟩)
 have hH := hH rfl
 obtain ⟨ps, hp1, hp2⟩ := elts_of hrow
 have hpl : ps.length = xs.length := by rw [← hp1, List.length_map]
 have hk : ∀ p : EltC H t, (EltC.cells p).length = t.size := fun p => eltRel_length t p.1.1 p.1.2 p.2
 have h1 : ∀ p : EltC H t, ∀ v ∈ EltC.cells p, v.oneCell' = true := fun p => elt_one t p.1.1 p.1.2 p.2
 have hne : ps ≠ [] := fun e => by rw [e] at hpl; exact hnil (List.length_eq_zero_iff.1 hpl.symm)
 haveI : Inhabited (EltC H t) := ⟨ps.head hne⟩
 have hgl := lt_of_heap hg
 have hn : ps.length * t.size ≤ cur.size := by rw [hpl, hsz]; exact Nat.mul_le_mul_right _ hle
 have hz : cur.toList.take (ps.length * t.size) = (ps.map EltC.cells).flatten := by rw [hpl]; exact hp2.symm
 let cfA : EltC H t → EltC H t → Int := fun x y => cf x.1.1 y.1.1
 have hOA : SWO (ltOf cfA) := ⟨fun x => hO.irrefl _, fun x y z => hO.trans _ _ _, fun x y z => hO.ntrans _ _ _⟩
 have turn : ∀ (m : Nat) (os : Array Obj) (l : List (EltC H t)), l.length = ps.length → memOk H (Go.Proofs.sortWorldK EltC.cells t.size w g0 0 m l.toArray os) ∧ SameBs (fun b => b = g0) w (Go.Proofs.sortWorldK EltC.cells t.size w g0 0 m l.toArray os) ∧
  ∃ cur', (Go.Proofs.sortWorldK EltC.cells t.size w g0 0 m l.toArray os).heap[g0]? = some (.cells cur' e fr) ∧ cur'.size = cur.size ∧ cur'.toList.take (l.map EltC.cells).flatten.length = (l.map EltC.cells).flatten := by
  intro m os l hl
  unfold Go.Proofs.sortWorldK Go.Sort.putRowK
  rw [flatK_list EltC.cells t.size hk]
  exact turn_row hg (by rw [flat_length EltC.cells t.size hk, hl]; exact hn) hH hmem
 have hcmp : CmpLays P gg #[] EltC.cells t.size cfA g0 0 ps.toArray.size w := by
  intro m os dk hdk x y
  have hdk : dk.toList.length = ps.length := by simpa using hdk
  obtain ⟨m1, _, _⟩ := turn m os dk.toList hdk
  have edk : dk.toList.toArray = dk := by simp
  rw [edk] at m1
  generalize Go.Proofs.sortWorldK EltC.cells t.size w g0 0 m dk os = W at m1 ⊢
  have hct : (D [t, t] [.i64] (fun _ => none) (fun x => (cf x.1 x.2.1, ()))).ct (svsOf [t, t] (x.1.1, y.1.1, ())) = some ⟨none, .sv (.dv (.i64 (cf x.1.1 y.1.1))), none, none⟩ := by
   simp only [D, cFn]
   rw [decs_of [t, t] (fun c hc => by simp at hc; subst hc; intro e; rw [e] at ht; cases ht)]
   rfl
  have h := hsp.does H W (svsOf [t, t] (x.1.1, y.1.1, ())) [.agg x.cells.toArray, .agg y.cells.toArray] none _ hct trivial ⟨rfl, _, _, rfl, fun ρ => svOfT_agg ht x.2 ρ, _, _, rfl, fun ρ => svOfT_agg ht y.2 ρ, rfl⟩ m1
  unfold Answers at h
  refine Calls.mono (show Calls P gg (#[.agg x.cells.toArray, .agg y.cells.toArray] ++ #[]) W _ from h) ?_
  rintro e' w' ⟨v, H', u, rfl, _, hsame, _, _, _, _, hout⟩
  have ho := hout (fun _ => u) #[] rfl
  have ho : v = .int .i64 (cf x.1.1 y.1.1) ∧ inI64 (cf x.1.1 y.1.1) := ho
  rw [ho.1]
  exact ⟨rfl, grown_eq hsame⟩
 have hcall := hS (EltC H t) EltC.cells hk h1 cfA hOA g0 cap ps.toArray w hcmp (holdsK_row EltC.cells t.size hk ps hg hf hz hn) hgl (by rw [List.size_toArray, hpl]; exact hlen0)
 rw [List.size_toArray, hpl] at hcall
 refine Calls.mono hcall ?_
 rintro e' w' ⟨rfl, d', q, os, hperm, hsort, rfl⟩
 rw [← hpl] at hperm hsort
 obtain ⟨hd1, _, hd3⟩ := hperm
 have hdl : d'.toList.length = ps.length := by simpa using hd1
 have hpm : d'.toList.Perm ps := by
  have e1 : d'.extract 0 ps.length = d' := by rw [show ps.length = d'.size by simpa using hdl.symm]; exact Array.extract_size
  have e2 : ps.toArray.extract 0 ps.length = ps.toArray := by
   have := Array.extract_size (xs := ps.toArray); rwa [List.size_toArray] at this
  rw [e1, e2] at hd3
  simpa using hd3
 have hys : (d'.toList.map fun p => p.1.1) = sortF cf xs := by
  refine List.Perm.eq_of_pairwise (le := fun x y => leF cf x y = true) ?_ ?_ ?_ (((hpm.map (fun p => p.1.1)).trans (by rw [hp1])).trans (sortF_perm cf xs).symm)
  · intro a b ha hb h1 h2
    have ha : a ∈ xs := by rw [← hp1]; exact (hpm.map (fun p : EltC H t => p.1.1)).mem_iff.1 ha
    have hb : b ∈ xs := (sortF_perm cf xs).mem_iff.1 hb
    unfold leF at h1 h2
    exact hanti a ha b hb (by simpa using h2) (by simpa using h1)
  · rw [List.pairwise_map]
    refine List.pairwise_iff_getElem.2 fun i j hi hj hij => ?_
    have := hsort i j (Nat.zero_le _) hij (by omega)
    unfold leF
    rw [getElem!_pos _ i (by simpa using hi), getElem!_pos _ j (by simpa using hj)] at this
    have : decide (cf (d'.toList[j]).1.1 (d'.toList[i]).1.1 < 0) = false := this
    rw [this]; rfl
  · have := List.pairwise_mergeSort (le := leF cf) (fun a b c h1 h2 => by
      unfold leF at *
      have := hO.ntrans c b a (by simpa using h2) (by simpa using h1)
      rw [this]; rfl) (fun a b => by
      unfold leF
      cases h1 : decide (cf b a < 0) with
      | false => rfl
      | true =>
        cases h2 : decide (cf a b < 0) with
        | false => rfl
        | true => have := hO.irrefl a; rw [hO.trans a b a h2 h1] at this; cases this) xs
    exact this
 have ed' : d'.toList.toArray = d' := by simp
 obtain ⟨m1, m2, cur', m3, m4, m5⟩ := turn q os d'.toList hdl
 rw [ed'] at m1 m2 m3
 have hb := bases_row (e := e) (s := t.size) (t := t) (xs := xs) (ro := false) hρ
 have hsl : (sortF cf xs).length = xs.length := (sortF_perm cf xs).length_eq
 refine ⟨.tuple #[], H, ρ, rfl, Mem.le_refl H, m1, ⟨fun b hb' hne => m2.heap b hb' fun e => hne ((hb b).2 e), m2.size, m2.os, m2.tape, m2.output⟩, fun _ _ _ _ => rfl, fun _ _ _ => rfl, ⟨fun i => ?_, fun i j b hi hj hij => ?_⟩, fun i b hi hb' => .inr ⟨i, ?_, hb'⟩, fun a => ⟨[], rfl, rfl⟩⟩
 · by_cases hi : i = 1
   · subst hi
     simp only [look, Nat.beq_refl, cond_true]
     refine ⟨_, hρ, rfl, .inr ⟨g0, cap, cur', fr, by rw [hsl], by rw [m4]; exact hf, m3, by rw [hsl]; exact hle, hmax, by rw [m4, hsz], ?_, fun _ => hH⟩⟩
     rw [flat_length EltC.cells t.size hk, hdl, hpl, ← hsl] at m5
     rw [m5, ← hys]
     exact elts_row _
   · simp only [look, beq_false (fun e => hi e.symm), cond_false]
     trivial
 · exact absurd ((look_row hi).trans (look_row hj).symm) hij
 · rw [look_row hi]; simp [look]
end Go.Vse
