/- Contracts of ship.Missing, ship.Rising and of what they call. -/
import Derived.Test.YtogjeflhlnnbdaaWCShip2
import Derived.Test.YtogjeflhlnnbdaaWVseSortF
import Derived.Test.YtogjeflhlnnbdaaWVseGx
import Derived.Test.YtogjeflhlnnbdaaWSalMac
import Derived.Test.YtogjeflhlnnbdaaWCLay
set_option maxRecDepth 100000
namespace Go.Sal
open Go.Vse Go.Sal.Nm

abbrev OFm : List OF := [.mp T_Dig false .bool]
def hadM (es : List (DigP × Bool)) (d : DigP) : Bool := (mget T_Dig es d).getD false
def c_CloneW : PC := gF [.slc T_Dig] fun x => ⟨some (x.1.length ≤ 100000000), .sv (.ref (.row 10)), [(10, .row t_api_Digest 32 T_Dig x.1 false)]⟩
def an_CloneW : Ann := { at_ := fun _ _ => none, pins := [], prune := 1, rows := [1003] }
def c_sortDig : PC := c_sortF t_api_Digest T_Dig f_ship_compare cmpV
def c_Compact : PC := gR t_api_Digest T_Dig [] fun xs _ => ⟨some (xs.length ≤ 100000000), .sv (.ref (.row 2)), [(2, .row t_api_Digest 32 T_Dig (onceV xs) false)]⟩
def wrI (xs : List DigP) (i : Nat) : List DigP := onceI xs i ++ xs.drop (onceI xs i).length
def an_CompactL (xs : List DigP) : Nat → SState → Option LoopAnn
 | 4, _ => some { X := Nat, slots := fun k => [(3, .sv (.dv (.i64 (ofN k))))], objs := fun _ => [], inv := fun k => 1 ≤ k ∧ k ≤ xs.length ∧ onceI xs k = xs.take k, meas := fun k => xs.length - k }
 | 9, S => some { X := Nat, slots := fun k2 => [(5, .sv (.dv (.i64 (ofN k2)))), (3, .sv (.dv (.i64 (ofN (onceI xs ((x_int S 3).toNat + k2)).length))))], objs := fun k2 => [(1, .row t_api_Digest 32 T_Dig (wrI xs ((x_int S 3).toNat + k2)) false)], inv := fun k2 => 1 ≤ k2 ∧ (x_int S 3).toNat + k2 ≤ xs.length ∧ (onceI xs ((x_int S 3).toNat + k2)).length < (x_int S 3).toNat + k2, meas := fun k2 => xs.length - k2 }
 | _, _ => none
def an_Compact (xs : List DigP) : Ann := { at_ := an_CompactL xs, pins := [1], prune := 1, rows := [hRow + 1021, hRow + 1030, hRow + 1034] }
def rd_f1 (ins : List SV) (heap : List (Nat × SObj)) : Option (DigP × ofds OFm) := match ins, heap with
 | [s, .ref (.cell 1 [] 0)], (1, .cells cs false) :: hp => match decArg T_Dig s, dObj OFm 2 cs hp with
   | some d, some m => some (d, m)
   | _, _ => none
 | _, _ => none
def c_f1 : PC := keepG [1, 2] (gX [true, false] rd_f1 fun x => ⟨none, .sv (.dv (.bool (hadM x.2.1 x.1))), oObj OFm 2 x.2⟩)
def rd_del (ins : List SV) (heap : List (Nat × SObj)) : Option (List DigP × ofds OFm) := match ins, heap with
 | [p, .clr g [.ref (.cell 2 [] 0)]], (l, o) :: (2, .cells cs false) :: hp => bif Nat.beq g f_ship_Missing_f1 then (match rowArg t_api_Digest T_Dig p [(l, o)], dObj OFm 3 cs hp with
   | some xs, some m => some (xs, m)
   | _, _ => none) else none
 | _, _ => none
def x_delHp (x : List DigP × ofds OFm) : List (Nat × SObj) := (1, .row t_api_Digest 32 T_Dig x.1 false) :: oAt OFm 2 3 x.2
def x_delIn : List SV := [.ref (.row 1), .clr f_ship_Missing_f1 [.ref (.cell 2 [] 0)]]
def firstHad (es : List (DigP × Bool)) (xs : List DigP) : Int := if xs.any (hadM es) then ((xs.findIdx (hadM es) : Nat) : Int) else -1
def c_Index : PC := keepG [1, 2, 3] (gX [false, false] rd_del fun x => ⟨some (x.1.length ≤ 100000000), .sv (.dv (.i64 (firstHad x.2.1 x.1))), x_delHp x⟩)
def an_IndexL (es : List (DigP × Bool)) (xs : List DigP) : Nat → SState → Option LoopAnn
 | 2, _ => some { X := Nat, slots := fun i => [(8, .sv (.dv (.i64 (ofN i))))], objs := fun _ => [], inv := fun i => i ≤ xs.length ∧ (xs.take i).any (hadM es) = false, meas := fun i => xs.length - i }
 | _, _ => none
def an_Index (es : List (DigP × Bool)) (xs : List DigP) : Ann := { at_ := an_IndexL es xs, pins := [1, 2, 3], prune := 1 }
def keptI (es : List (DigP × Bool)) (xs : List DigP) (i : Nat) : List DigP := (xs.take i).filter fun d => !hadM es d
def wrD (es : List (DigP × Bool)) (xs : List DigP) (i : Nat) : List DigP := keptI es xs i ++ xs.drop (keptI es xs i).length
def c_Delete : PC := gX [false, false] rd_del fun x => ⟨some (x.1.length ≤ 100000000), .sv (.ref (.row 4)), (4, .row t_api_Digest 32 T_Dig (keptI x.2.1 x.1 x.1.length) false) :: oAt OFm 2 3 x.2⟩
def an_DeleteL (es : List (DigP × Bool)) (xs : List DigP) : Nat → SState → Option LoopAnn
 | 5, _ => some { X := Nat, slots := fun j => [(6, .sv (.dv (.i64 (ofN j)))), (5, .sv (.dv (.i64 (ofN (keptI es xs j).length))))], objs := fun j => [(1, .row t_api_Digest 32 T_Dig (wrD es xs j) false)], inv := fun j => j ≤ xs.length ∧ (keptI es xs j).length < j, meas := fun j => xs.length - j }
 | _, _ => none
def an_Delete (es : List (DigP × Bool)) (xs : List DigP) : Ann := { at_ := an_DeleteL es xs, pins := [1, 2, 3], prune := 1, rows := [hRow + 1016, hRow + 1020] }
def c_RisingW : PC := gF [.slc T_Dig] fun x => ⟨some (x.1.length ≤ 100000000), .sv (.ref (.row 10)), [(10, .row t_api_Digest 32 T_Dig (risV x.1) false)]⟩
def c_RisingD : PC := D [.slc T_Dig] [.slc T_Dig] (fun x => some (x.1.length ≤ 100000000)) (fun x => (risV x.1, ()))
def an_pin12 : Ann := { at_ := fun _ _ => none, pins := [1, 2] }
def an_pin0 : Ann := { at_ := fun _ _ => none, pins := [] }
def thereI (l : List DigP) (k : Nat) : List (DigP × Bool) := (l.take k).foldl (fun es d => mput T_Dig es d true) []
def c_Missing : PC := D [.slc T_Dig, .slc T_Dig, .i64] [.slc T_Dig] (fun x => some (x.1.length ≤ 100000000 ∧ x.2.1.length ≤ 100000000)) (fun x => (missV x.1 x.2.1 x.2.2.1, ()))
def an_MissingL (l : List DigP) : Nat → SState → Option LoopAnn
 | 3, _ => some { X := Nat, slots := fun k => [(14, .sv (.dv (.i64 (ofN k))))], objs := fun k => [(1001, .mp true T_Dig false .bool (thereI l k))], inv := fun k => k ≤ l.length, meas := fun k => l.length - k }
 | _, _ => none
def an_Missing (l : List DigP) : Ann := { at_ := an_MissingL l, rows := [1010 + STRIDE * 11] }

theorem ltN20 {x n : Nat} (h : decide (ofN x < ofN n) = true) : x < n := by have h : (x : Int) < (n : Int) := of_decide_eq_true h; omega
theorem geN20 {x n : Nat} (h : decide (ofN x < ofN n) = false) : n ≤ x := by have h : ¬ (x : Int) < (n : Int) := of_decide_eq_false h; omega
theorem wN20 {x n : Nat} (h : x < n) : within (ofN x) n := ⟨by show (0 : Int) ≤ (x : Int); omega, by show (x : Int) < (n : Int); omega⟩
theorem inN20 {x : Nat} (h : x < 9223372036854775807) : inI64 (ofN x + 1) := by show inI64 ((x : Int) + 1); unfold inI64; omega
theorem toN20 (x : Nat) : Int.toNat (ofN x) = x := Int.toNat_natCast x
theorem predN20 {x : Nat} (h : 1 ≤ x) : Int.toNat (ofN x - 1) = x - 1 := by show Int.toNat ((x : Int) - 1) = x - 1; omega
theorem leF_iff {a b : DigP} : leF cmpV a b = true ↔ upB a b := by
 unfold leF upB
 rw [Bool.not_eq_true', ← cmp_less]
theorem merge_up (ys : List DigP) : (List.mergeSort ys (leF cmpV)).Pairwise upB := by
 have h := List.pairwise_mergeSort (le := leF cmpV) (fun a b c h1 h2 => leF_iff.2 (lessL_lele (leF_iff.1 h1) (leF_iff.1 h2))) (fun a b => by
  cases h : leF cmpV a b with
  | true => rfl
  | false =>
    have h1 : lessL b a = true := by
     unfold leF at h
     rw [Bool.not_eq_false', cmp_less] at h
     exact h
    have : leF cmpV b a = true := leF_iff.2 (lessL_asym h1)
    rw [this]; rfl) ys
 exact h.imp fun h => leF_iff.1 h
theorem once_mem {l : List DigP} (h : l.Pairwise upB) (a : DigP) : a ∈ onceV l ↔ a ∈ l := by
 obtain ⟨_, _, h3, h4⟩ := once_rises h l.length (Nat.le_refl _)
 constructor
 · exact h4 a
 · intro h
   obtain ⟨k, hk, rfl⟩ := List.getElem_of_mem h
   have := h3 k hk
   rwa [getD_lt hk] at this
theorem once_sort (ys : List DigP) : onceV (List.mergeSort ys (leF cmpV)) = risV ys := by
 refine rises_ext (once_rises (merge_up ys) _ (Nat.le_refl _)).1 (ris_rises ys) fun a => ?_
 rw [once_mem (merge_up ys), ris_mem]
 exact List.mem_mergeSort
theorem keep_iff {xs : List DigP} {i : Nat} (h : 1 ≤ i) : keepB xs i = !(xs.getD i dig0 == xs.getD (i - 1) dig0) := by
 unfold keepB
 rw [decide_eq_false (by omega), Bool.false_or]
theorem wr_len {xs : List DigP} {i : Nat} (h : (onceI xs i).length ≤ xs.length) : (wrI xs i).length = xs.length := by
 unfold wrI
 rw [List.length_append, List.length_drop]; omega
theorem wr_get {xs : List DigP} {i k : Nat} (h : (onceI xs i).length ≤ k) : (wrI xs i).getD k dig0 = xs.getD k dig0 := by
 unfold wrI
 rw [List.getD_eq_getElem?_getD, List.getElem?_append_right h, List.getElem?_drop, List.getD_eq_getElem?_getD]
 congr 2; omega
theorem wr_set {xs : List DigP} {i : Nat} (h1 : (onceI xs i).length < xs.length) (hk : keepB xs i = true) : (wrI xs i).set (onceI xs i).length (xs.getD i dig0) = wrI xs (i + 1) := by
 unfold wrI
 rw [onceI_succ, if_pos hk, List.set_append_right _ _ (Nat.le_refl _), Nat.sub_self, List.drop_eq_getElem_cons h1, List.set_cons_zero, List.length_append, List.length_cons, List.length_nil, List.append_assoc]
 rfl
theorem once_all {xs : List DigP} (h : onceI xs xs.length = xs.take xs.length) : xs = onceV xs := by
 unfold onceV
 rw [h, List.take_length]

theorem swoD : Go.Sort.SWO (fun x y : DigP => decide (cmpV x y < 0)) := by
 have e : (fun x y : DigP => decide (cmpV x y < 0)) = fun x y => lessL x y := by
  funext x y; exact cmp_less _ _
 rw [e]
 exact ⟨fun x => lessL_irr _, fun x y z h k => lessL_trans h k, fun x y z h k => lessL_lele k h⟩
theorem firstHad_at {es : List (DigP × Bool)} {xs : List DigP} {x : Nat} (hx : x < xs.length) (h : (xs.take x).any (hadM es) = false) (hh : hadM es (xs.getD x dig0) = true) : firstHad es xs = ofN x := by
 have hg : hadM es xs[x] = true := by rw [← getD_lt hx]; exact hh
 unfold firstHad
 rw [if_pos (List.any_eq_true.2 ⟨_, List.getElem_mem hx, hg⟩)]
 have : xs.findIdx (hadM es) = x := by
  rw [List.findIdx_eq hx]
  refine ⟨hg, fun j hj => ?_⟩
  rw [List.any_eq_false] at h
  have := h xs[j] (List.mem_take_iff_getElem.2 ⟨j, by omega, rfl⟩)
  simpa using this
 rw [this]
theorem firstHad_none {es : List (DigP × Bool)} {xs : List DigP} (h : xs.any (hadM es) = false) : firstHad es xs = -1 := by
 unfold firstHad
 rw [if_neg (by rw [h]; decide)]
theorem firstHad_cases (es : List (DigP × Bool)) (xs : List DigP) : (firstHad es xs = -1 ∧ xs.any (hadM es) = false) ∨ ∃ i, i < xs.length ∧ firstHad es xs = ofN i ∧ hadM es (xs.getD i dig0) = true ∧ (xs.take i).any (hadM es) = false := by
 cases h : xs.any (hadM es) with
 | false => exact .inl ⟨firstHad_none h, rfl⟩
 | true =>
   refine .inr ?_
   obtain ⟨x, hx, hp⟩ := List.any_eq_true.1 h
   have hlt := List.findIdx_lt_length_of_exists ⟨x, hx, hp⟩
   have hg : hadM es (xs.getD (xs.findIdx (hadM es)) dig0) = true := by
    rw [getD_lt hlt]
    exact List.findIdx_getElem (w := hlt)
   have ht : (xs.take (xs.findIdx (hadM es))).any (hadM es) = false := by
    rw [List.any_eq_false]
    intro a ha
    obtain ⟨j, hj, rfl⟩ := List.mem_take_iff_getElem.1 ha
    have := List.not_of_lt_findIdx (p := hadM es) (xs := xs) (i := j) (by omega)
    simpa using this
   exact ⟨_, hlt, firstHad_at hlt ht hg, hg, ht⟩
theorem kept_le (es : List (DigP × Bool)) (xs : List DigP) (i : Nat) : (keptI es xs i).length ≤ i ∧ (keptI es xs i).length ≤ xs.length := by
 unfold keptI
 have h1 := List.length_filter_le (fun d => !hadM es d) (xs.take i)
 have h2 := List.length_take_le i xs
 have h3 := List.length_take_le' i xs
 omega
theorem kept_succ {es : List (DigP × Bool)} {xs : List DigP} {i : Nat} (h : i < xs.length) : keptI es xs (i + 1) = if hadM es (xs.getD i dig0) = true then keptI es xs i else keptI es xs i ++ [xs.getD i dig0] := by
 unfold keptI
 rw [take_snoc' (d := dig0) h, List.filter_append]
 generalize xs.getD i dig0 = d
 cases hb : hadM es d with
 | true => simp [hb]
 | false => simp [hb]
theorem kept_none {es : List (DigP × Bool)} {xs : List DigP} {i : Nat} (h : (xs.take i).any (hadM es) = false) : keptI es xs i = xs.take i := by
 unfold keptI
 rw [List.filter_eq_self]
 rw [List.any_eq_false] at h
 intro a ha
 have := h a ha
 simpa using this
theorem wrD_len (es : List (DigP × Bool)) (xs : List DigP) (i : Nat) : (wrD es xs i).length = xs.length := by
 have := (kept_le es xs i).2
 unfold wrD
 rw [List.length_append, List.length_drop]; omega
theorem wrD_get {es : List (DigP × Bool)} {xs : List DigP} {i k : Nat} (h : (keptI es xs i).length ≤ k) : (wrD es xs i).getD k dig0 = xs.getD k dig0 := by
 unfold wrD
 rw [List.getD_eq_getElem?_getD, List.getElem?_append_right h, List.getElem?_drop, List.getD_eq_getElem?_getD]
 congr 2; omega
theorem wrD_set {es : List (DigP × Bool)} {xs : List DigP} {i : Nat} (h0 : i < xs.length) (h1 : (keptI es xs i).length < xs.length) (hk : hadM es (xs.getD i dig0) = false) : (wrD es xs i).set (keptI es xs i).length (xs.getD i dig0) = wrD es xs (i + 1) := by
 unfold wrD
 rw [kept_succ h0, if_neg (by rw [hk]; decide), List.set_append_right _ _ (Nat.le_refl _), Nat.sub_self, List.drop_eq_getElem_cons h1, List.set_cons_zero, List.length_append, List.length_cons, List.length_nil, List.append_assoc]
 rfl
theorem any_succ {es : List (DigP × Bool)} {xs : List DigP} {i : Nat} (h : i < xs.length) (h1 : (xs.take i).any (hadM es) = false) (h2 : hadM es (xs.getD i dig0) = false) : (xs.take (i + 1)).any (hadM es) = false := by
 rw [take_snoc' (d := dig0) h, List.any_append, h1]
 generalize xs.getD i dig0 = d at h2
 simp [h2]

theorem there_succ {l : List DigP} {k : Nat} (h : k < l.length) : thereI l (k + 1) = mput T_Dig (thereI l k) (l.getD k dig0) true := by
 unfold thereI
 rw [take_snoc' (d := dig0) h, List.foldl_append]; rfl
theorem mput_get {k : T} {v : Type} (x : k.den) (y : v) (z : k.den) : ∀ (es : List (k.den × v)), mget k (mput k es x y) z = (haveI := k.deq; if z = x then some y else mget k es z)
 | [] => by
   letI := k.deq
   simp only [mput, mget]
   by_cases h : z = x
   · rw [decide_eq_true h, if_pos h]; rfl
   · rw [decide_eq_false h, if_neg h]; rfl
 | p :: r => by
   letI := k.deq
   have ih : mget k (mput k r x y) z = if z = x then some y else mget k r z := mput_get x y z r
   simp only [mput, mget]
   by_cases h : x = p.1
   · rw [decide_eq_true h, cond_true]
     simp only [mget]
     by_cases hz : z = p.1
     · rw [decide_eq_true hz, cond_true, if_pos (hz.trans h.symm)]
     · rw [decide_eq_false hz, cond_false, if_neg (fun e => hz (e.trans h)), cond_false]
   · rw [decide_eq_false h, cond_false]
     simp only [mget]
     rw [ih]
     by_cases hz : z = p.1
     · rw [decide_eq_true hz, cond_true, if_neg (fun e => h (e.symm.trans hz)), cond_true]
     · rw [decide_eq_false hz]; rfl
theorem had_there (l : List DigP) (d : DigP) : ∀ k, k ≤ l.length → hadM (thereI l k) d = inD (l.take k) d
 | 0, _ => by simp [thereI, hadM, mget, inD]
 | k + 1, h => by
   have ih := had_there l d k (by omega)
   unfold hadM at ih ⊢
   rw [there_succ (by omega), mput_get, take_snoc' (d := dig0) (by omega), inD_app]
   by_cases e : d = l.getD k dig0
   · rw [if_pos e]
     have : inD [l.getD k dig0] d = true := inD_iff.2 (by rw [e]; simp)
     rw [this]; simp
   · rw [if_neg e, ih]
     have : inD [l.getD k dig0] d = false := by
      cases hb : inD [l.getD k dig0] d with
      | false => rfl
      | true => exact absurd (by simpa using inD_iff.1 hb) e
     rw [this]; simp
theorem kept_there (need hv : List DigP) : keptI (thereI hv hv.length) (risV need) (risV need).length = lackV need hv := by
 unfold keptI lackV
 rw [List.take_length]
 congr 1
 funext d
 rw [had_there hv d hv.length (Nat.le_refl _), List.take_length]
theorem cut_miss {α : Type} (l : List α) (most : Int) : l.take (max 0 (min most (ofN l.length))).toNat = l.take most.toNat := by
 have e : (ofN l.length) = ((l.length : Nat) : Int) := rfl
 rw [e]
 by_cases h : most ≤ (l.length : Int)
 · congr 1; omega
 · rw [List.take_of_length_le (by omega), List.take_of_length_le (by omega)]

theorem slices_CloneW_vc (xs : List DigP) (hl : xs.length ≤ 100000000) :
 ∀ (q : Bool),
  (q = true → xs = nilOf (T.den (T.arr 32 T.u8))) →
  ((q == true) = true → xs = nilOf (List (BitVec 8))) ∧ ((q == true) = false → List.length (nilOf (List (BitVec 8))) + List.length xs ≤ ROOM ∧ nilOf (List (BitVec 8)) ++ xs = xs) := by
 intro q hq
 refine ⟨fun h => ?_, fun h => ⟨?_, rfl⟩⟩
 · exact hq (by simpa using h)
 · show 0 + xs.length ≤ ROOM
   unfold ROOM; omega

theorem slices_Compact_vc (xs : List DigP) (hl : xs.length ≤ 100000000) :
 (decide (ofN (List.length xs) < 2) = true → xs = onceV xs) ∧
  (decide (ofN (List.length xs) < 2) = false →
  (∃ (x : Nat), (1 ≤ x ∧ x ≤ List.length xs ∧ onceI xs x = List.take x xs) ∧ 1 = ofN x) ∧
  ∀ (x : Nat),
  1 ≤ x ∧ x ≤ List.length xs ∧ onceI xs x = List.take x xs →
  (decide (ofN x < ofN (List.length xs)) = true →
  within (ofN x) (List.length xs) ∧
  Int.toNat (ofN x) < List.length xs ∧
  inI64 (ofN x - 1) ∧
  within (ofN x - 1) (List.length xs) ∧
  Int.toNat (ofN x - 1) < List.length xs ∧
  (eqL T.u8 (List.getD xs (Int.toNat (ofN x)) (T.dflt (T.arr 32 T.u8))) (List.getD xs (Int.toNat (ofN x - 1)) (T.dflt (T.arr 32 T.u8))) = true →
  (0 ≤ ofN x ∧ ofN x < ofN (List.length xs)) ∧
  (∃ (x_1 : Nat),
  (1 ≤ x_1 ∧ Int.toNat (ofN x) + x_1 ≤ List.length xs ∧ List.length (onceI xs (Int.toNat (ofN x) + x_1)) < Int.toNat (ofN x) + x_1) ∧
  (1 = ofN x_1 ∧ ofN x = ofN (List.length (onceI xs (Int.toNat (ofN x) + x_1)))) ∧ xs = wrI xs (Int.toNat (ofN x) + x_1)) ∧
  ∀ (x_1 : Nat),
  1 ≤ x_1 ∧ Int.toNat (ofN x) + x_1 ≤ List.length xs ∧ List.length (onceI xs (Int.toNat (ofN x) + x_1)) < Int.toNat (ofN x) + x_1 →
  (decide (ofN x_1 < ofN (List.length xs - Int.toNat (ofN x))) = true →
  within (ofN x_1) (List.length xs - Int.toNat (ofN x)) ∧
  Int.toNat (ofN x) + Int.toNat (ofN x_1) < List.length (wrI xs (Int.toNat (ofN x) + x_1)) ∧
  inI64 (ofN x_1 - 1) ∧
  within (ofN x_1 - 1) (List.length xs - Int.toNat (ofN x)) ∧
  Int.toNat (ofN x) + Int.toNat (ofN x_1 - 1) < List.length (wrI xs (Int.toNat (ofN x) + x_1)) ∧
  ((!eqL T.u8 (List.getD (wrI xs (Int.toNat (ofN x) + x_1)) (Int.toNat (ofN x) + Int.toNat (ofN x_1)) (T.dflt (T.arr 32 T.u8)))
  (List.getD (wrI xs (Int.toNat (ofN x) + x_1)) (Int.toNat (ofN x) + Int.toNat (ofN x_1 - 1)) (T.dflt (T.arr 32 T.u8)))) =
  true →
  within (ofN x_1) (List.length xs - Int.toNat (ofN x)) ∧
  Int.toNat (ofN x) + Int.toNat (ofN x_1) < List.length (wrI xs (Int.toNat (ofN x) + x_1)) ∧
  within (ofN (List.length (onceI xs (Int.toNat (ofN x) + x_1)))) (List.length (wrI xs (Int.toNat (ofN x) + x_1))) ∧
  Int.toNat (ofN (List.length (onceI xs (Int.toNat (ofN x) + x_1)))) < List.length (wrI xs (Int.toNat (ofN x) + x_1)) ∧
  inI64 (ofN (List.length (onceI xs (Int.toNat (ofN x) + x_1))) + 1) ∧
  inI64 (ofN x_1 + 1) ∧
  ∃ (x' : Nat),
  (1 ≤ x' ∧ Int.toNat (ofN x) + x' ≤ List.length xs ∧ List.length (onceI xs (Int.toNat (ofN x) + x')) < Int.toNat (ofN x) + x') ∧
  List.length xs - x' < List.length xs - x_1 ∧
  (ofN x_1 + 1 = ofN x' ∧
  ofN (List.length (onceI xs (Int.toNat (ofN x) + x_1))) + 1 = ofN (List.length (onceI xs (Int.toNat (ofN x) + x')))) ∧
  List.set (wrI xs (Int.toNat (ofN x) + x_1)) (Int.toNat (ofN (List.length (onceI xs (Int.toNat (ofN x) + x_1)))))
  (List.getD (wrI xs (Int.toNat (ofN x) + x_1)) (Int.toNat (ofN x) + Int.toNat (ofN x_1)) (T.dflt (T.arr 32 T.u8))) =
  wrI xs (Int.toNat (ofN x) + x')) ∧
  ((!eqL T.u8 (List.getD (wrI xs (Int.toNat (ofN x) + x_1)) (Int.toNat (ofN x) + Int.toNat (ofN x_1)) (T.dflt (T.arr 32 T.u8)))
  (List.getD (wrI xs (Int.toNat (ofN x) + x_1)) (Int.toNat (ofN x) + Int.toNat (ofN x_1 - 1)) (T.dflt (T.arr 32 T.u8)))) =
  false →
  inI64 (ofN x_1 + 1) ∧
  ∃ (x' : Nat),
  (1 ≤ x' ∧ Int.toNat (ofN x) + x' ≤ List.length xs ∧ List.length (onceI xs (Int.toNat (ofN x) + x')) < Int.toNat (ofN x) + x') ∧
  List.length xs - x' < List.length xs - x_1 ∧
  (ofN x_1 + 1 = ofN x' ∧ ofN (List.length (onceI xs (Int.toNat (ofN x) + x_1))) = ofN (List.length (onceI xs (Int.toNat (ofN x) + x')))) ∧
  wrI xs (Int.toNat (ofN x) + x_1) = wrI xs (Int.toNat (ofN x) + x'))) ∧
  (decide (ofN x_1 < ofN (List.length xs - Int.toNat (ofN x))) = false →
  (0 ≤ ofN (List.length (onceI xs (Int.toNat (ofN x) + x_1))) ∧
  ofN (List.length (onceI xs (Int.toNat (ofN x) + x_1))) < ofN (List.length (wrI xs (Int.toNat (ofN x) + x_1)))) ∧
  Int.toNat (ofN (List.length (onceI xs (Int.toNat (ofN x) + x_1)))) +
  (List.length (wrI xs (Int.toNat (ofN x) + x_1)) - Int.toNat (ofN (List.length (onceI xs (Int.toNat (ofN x) + x_1))))) ≤
  List.length (wrI xs (Int.toNat (ofN x) + x_1)) ∧
  (0 ≤ ofN (List.length (onceI xs (Int.toNat (ofN x) + x_1))) ∧
  ofN (List.length (onceI xs (Int.toNat (ofN x) + x_1))) ≤
  ofN
  (List.length
  (List.take (Int.toNat (ofN (List.length (onceI xs (Int.toNat (ofN x) + x_1))))) (wrI xs (Int.toNat (ofN x) + x_1)) ++
  (List.replicate (List.length (wrI xs (Int.toNat (ofN x) + x_1)) - Int.toNat (ofN (List.length (onceI xs (Int.toNat (ofN x) + x_1)))))
  (T.dflt (T.arr 32 T.u8)) ++
  List.drop
  (Int.toNat (ofN (List.length (onceI xs (Int.toNat (ofN x) + x_1)))) +
  (List.length (wrI xs (Int.toNat (ofN x) + x_1)) - Int.toNat (ofN (List.length (onceI xs (Int.toNat (ofN x) + x_1))))))
  (wrI xs (Int.toNat (ofN x) + x_1))))) ∧
  0 <
  List.length
  (List.take (Int.toNat (ofN (List.length (onceI xs (Int.toNat (ofN x) + x_1))))) (wrI xs (Int.toNat (ofN x) + x_1)) ++
  (List.replicate (List.length (wrI xs (Int.toNat (ofN x) + x_1)) - Int.toNat (ofN (List.length (onceI xs (Int.toNat (ofN x) + x_1)))))
  (T.dflt (T.arr 32 T.u8)) ++
  List.drop
  (Int.toNat (ofN (List.length (onceI xs (Int.toNat (ofN x) + x_1)))) +
  (List.length (wrI xs (Int.toNat (ofN x) + x_1)) - Int.toNat (ofN (List.length (onceI xs (Int.toNat (ofN x) + x_1))))))
  (wrI xs (Int.toNat (ofN x) + x_1))))) ∧
  List.take (Int.toNat (ofN (List.length (onceI xs (Int.toNat (ofN x) + x_1)))))
  (List.take (Int.toNat (ofN (List.length (onceI xs (Int.toNat (ofN x) + x_1))))) (wrI xs (Int.toNat (ofN x) + x_1)) ++
  (List.replicate (List.length (wrI xs (Int.toNat (ofN x) + x_1)) - Int.toNat (ofN (List.length (onceI xs (Int.toNat (ofN x) + x_1)))))
  (T.dflt (T.arr 32 T.u8)) ++
  List.drop
  (Int.toNat (ofN (List.length (onceI xs (Int.toNat (ofN x) + x_1)))) +
  (List.length (wrI xs (Int.toNat (ofN x) + x_1)) - Int.toNat (ofN (List.length (onceI xs (Int.toNat (ofN x) + x_1))))))
  (wrI xs (Int.toNat (ofN x) + x_1)))) =
  onceV xs)) ∧
  (eqL T.u8 (List.getD xs (Int.toNat (ofN x)) (T.dflt (T.arr 32 T.u8))) (List.getD xs (Int.toNat (ofN x - 1)) (T.dflt (T.arr 32 T.u8))) = false →
  inI64 (ofN x + 1) ∧ ∃ (x' : Nat), (1 ≤ x' ∧ x' ≤ List.length xs ∧ onceI xs x' = List.take x' xs) ∧ List.length xs - x' < List.length xs - x ∧ ofN x + 1 = ofN x')) ∧
  (decide (ofN x < ofN (List.length xs)) = false → xs = onceV xs)) := by
 refine ⟨fun q => ?_, fun q => ?_⟩
 · match xs, q with
   | [], _ => rfl
   | [x], _ => rfl
   | x :: y :: r, q =>
     exfalso
     have h : (((x :: y :: r).length : Nat) : Int) < 2 := of_decide_eq_true q
     simp only [List.length_cons] at h
     omega
 · have h2 : 2 ≤ xs.length := by have h : ¬ ((xs.length : Nat) : Int) < 2 := of_decide_eq_false q; omega
   refine ⟨⟨1, ⟨Nat.le_refl _, by omega, ?_⟩, rfl⟩, fun x hx => ⟨fun q1 => ?_, fun q1 => ?_⟩⟩
   · match xs, h2 with
     | x :: y :: r, _ => rfl
   · obtain ⟨x1, x2, x3⟩ := hx
     have hlt := ltN20 q1
     rw [toN20, predN20 x1, eqL_u8]
     have hk := keep_iff (xs := xs) x1
     refine ⟨wN20 hlt, hlt, by show inI64 ((x : Int) - 1); unfold inI64; omega, ⟨by show (0 : Int) ≤ (x : Int) - 1; omega, by show (x : Int) - 1 < _; omega⟩, by omega, fun q2 => ?_, fun q2 => ?_⟩
     · have q2 : (xs.getD x dig0 == xs.getD (x - 1) dig0) = true := q2
       rw [q2] at hk
       have e1 : onceI xs (x + 1) = xs.take x := by rw [onceI_succ, if_neg (by rw [hk]; decide), x3]
       have l1 : (onceI xs (x + 1)).length = x := by rw [e1, List.length_take]; omega
       refine ⟨⟨by show (0 : Int) ≤ (x : Int); omega, by show (x : Int) < ((xs.length : Nat) : Int); omega⟩, ⟨1, ⟨Nat.le_refl _, by omega, by omega⟩, ⟨rfl, by rw [l1]⟩, ?_⟩, fun j hj => ?_⟩
       · unfold wrI
         rw [l1, e1, List.take_append_drop]
       obtain ⟨j1, j2, j3⟩ := hj
       have hwl : (onceI xs (x + j)).length ≤ xs.length := by omega
       have hL := wr_len hwl
       rw [hL]
       refine ⟨fun q3 => ?_, fun q3 => ?_⟩
       · have hj := ltN20 q3
         have hi : x + j < xs.length := by omega
         rw [toN20, predN20 j1, toN20]
         have g1 : (wrI xs (x + j)).getD (x + j) (T.dflt (T.arr 32 T.u8)) = xs.getD (x + j) dig0 := wr_get (by omega)
         have g2 : (wrI xs (x + j)).getD (x + (j - 1)) (T.dflt (T.arr 32 T.u8)) = xs.getD (x + j - 1) dig0 := by
          rw [show x + j - 1 = x + (j - 1) by omega]
          exact wr_get (by omega)
         have hk2 := keep_iff (xs := xs) (i := x + j) (by omega)
         rw [g1, g2, eqL_u8, ← hk2]
         have hw : within (ofN (onceI xs (x + j)).length) xs.length := wN20 (by omega)
         refine ⟨wN20 hj, hi, by show inI64 ((j : Int) - 1); unfold inI64; omega, ⟨by show (0 : Int) ≤ (j : Int) - 1; omega, by show (j : Int) - 1 < _; omega⟩, by omega, fun q4 => ?_, fun q4 => ?_⟩
         · have e4 : onceI xs (x + (j + 1)) = onceI xs (x + j) ++ [xs.getD (x + j) dig0] := by
             rw [show x + (j + 1) = x + j + 1 by omega, onceI_succ, if_pos q4]
           have l4 : (onceI xs (x + (j + 1))).length = (onceI xs (x + j)).length + 1 := by rw [e4]; simp
           refine ⟨wN20 hj, hi, hw, by omega, inN20 (by omega), inN20 (by omega), j + 1, ⟨by omega, by omega, by omega⟩, by omega, ⟨rfl, by rw [l4]; rfl⟩, ?_⟩
           rw [show x + (j + 1) = x + j + 1 by omega]
           exact wr_set (by omega) q4
         · have e4 : onceI xs (x + (j + 1)) = onceI xs (x + j) := by
             rw [show x + (j + 1) = x + j + 1 by omega, onceI_succ, if_neg (by rw [q4]; decide)]
           refine ⟨inN20 (by omega), j + 1, ⟨by omega, by omega, by rw [e4]; omega⟩, by omega, ⟨rfl, by rw [e4]⟩, ?_⟩
           unfold wrI
           rw [e4]
       · have hje : x + j = xs.length := by have := geN20 q3; omega
         rw [toN20]
         have hlw : (List.take (onceI xs (x + j)).length (wrI xs (x + j))) = onceI xs (x + j) := by
          unfold wrI
          rw [List.take_left']; rfl
         generalize hA : (List.replicate (xs.length - (onceI xs (x + j)).length) (T.dflt (T.arr 32 T.u8)) ++ List.drop ((onceI xs (x + j)).length + (xs.length - (onceI xs (x + j)).length)) (wrI xs (x + j))) = A
         have hAl : A.length = xs.length - (onceI xs (x + j)).length := by
          rw [← hA, List.length_append, List.length_replicate, List.length_drop, hL]; omega
         rw [hlw]
         have hT : (onceI xs (x + j) ++ A).length = xs.length := by rw [List.length_append, hAl]; omega
         rw [hT]
         refine ⟨⟨by show (0 : Int) ≤ (((onceI xs (x + j)).length : Nat) : Int); omega, by show (((onceI xs (x + j)).length : Nat) : Int) < ((xs.length : Nat) : Int); omega⟩, by omega, ⟨by show (0 : Int) ≤ (((onceI xs (x + j)).length : Nat) : Int); omega, by show (((onceI xs (x + j)).length : Nat) : Int) ≤ ((xs.length : Nat) : Int); omega, by omega⟩, ?_⟩
         rw [List.take_left' rfl, hje]
         rfl
     · have q2 : (xs.getD x dig0 == xs.getD (x - 1) dig0) = false := q2
       rw [q2] at hk
       refine ⟨inN20 (by omega), x + 1, ⟨by omega, by omega, ?_⟩, by omega, rfl⟩
       rw [onceI_succ, if_pos (by rw [hk]; rfl), x3, take_snoc' (d := dig0) hlt]
   · have : x = xs.length := by have := geN20 q1; omega
     subst this
     exact once_all hx.2.2

theorem ship_Mf1_vc (d : DigP) (es : List (DigP × Bool)) (_ : d.length = 32) :
 Option.getD (mget (T.arr 32 T.u8) es d) (T.dflt T.bool) = hadM es d ∧ List.Perm es es := by
 trivial

theorem slices_Index_vc (es : List (DigP × Bool)) (xs : List DigP) (hl : xs.length ≤ 100000000) :
 (∃ (x : Nat), (x ≤ List.length xs ∧ List.any (List.take x xs) (hadM es) = false) ∧ 0 = ofN x) ∧
  ∀ (x : Nat),
  x ≤ List.length xs ∧ List.any (List.take x xs) (hadM es) = false →
  (decide (ofN x < ofN (List.length xs)) = true →
  within (ofN x) (List.length xs) ∧
  Int.toNat (ofN x) < List.length xs ∧
  (SObj.cells [SC.ref (Ref.map 2)] false =
  SObj.cells
  [SC.ref
  (Ref.map
  (match 1 with
  | 0 => 0
  | n => n + 1))]
  false ∧
  SObj.mp true (T.arr 32 T.u8) false T.bool es = SObj.mp true (T.arr 32 T.u8) false T.bool es) ∧
  (hadM es (List.getD xs (Int.toNat (ofN x)) (T.dflt (T.arr 32 T.u8))) = true → ofN x = firstHad es xs ∧ xs = xs ∧ List.Perm es es) ∧
  (hadM es (List.getD xs (Int.toNat (ofN x)) (T.dflt (T.arr 32 T.u8))) = false →
  inI64 (ofN x + 1) ∧ ∃ (x' : Nat), (x' ≤ List.length xs ∧ List.any (List.take x' xs) (hadM es) = false) ∧ List.length xs - x' < List.length xs - x ∧ ofN x + 1 = ofN x')) ∧
  (decide (ofN x < ofN (List.length xs)) = false → -1 = firstHad es xs ∧ xs = xs ∧ List.Perm es es) := by
 refine ⟨⟨0, ⟨Nat.zero_le _, rfl⟩, rfl⟩, fun x hx => ⟨fun q => ?_, fun q => ?_⟩⟩
 · have hlt := ltN20 q
   rw [toN20]
   refine ⟨wN20 hlt, hlt, ⟨rfl, rfl⟩, fun h => ⟨(firstHad_at hlt hx.2 h).symm, rfl, List.Perm.refl _⟩, fun h => ⟨inN20 (by omega), x + 1, ⟨by omega, any_succ hlt hx.2 h⟩, by omega, rfl⟩⟩
 · have e : x = xs.length := by have := geN20 q; omega
   have h := hx.2
   rw [e, List.take_length] at h
   exact ⟨(firstHad_none h).symm, rfl, List.Perm.refl _⟩

theorem slices_Delete_vc (es : List (DigP × Bool)) (xs : List DigP) (hl : xs.length ≤ 100000000) :
 (List.length xs ≤ 100000000 ∧
  SObj.row 24 32 (T.arr 32 T.u8) xs false = SObj.row 24 32 (T.arr 32 T.u8) xs false ∧
  SObj.cells [SC.ref (Ref.map 3)] false =
  SObj.cells
  [SC.ref
  (Ref.map
  (match
  match 1 with
  | 0 => 0
  | n => n + 1 with
  | 0 => 0
  | n => n + 1))]
  false ∧
  SObj.mp true (T.arr 32 T.u8) false T.bool es = SObj.mp true (T.arr 32 T.u8) false T.bool es) ∧
  ((firstHad es xs == -1) = true → xs = keptI es xs (List.length xs) ∧ List.Perm es es) ∧
  ((firstHad es xs == -1) = false →
  inI64 (firstHad es xs + 1) ∧
  (∃ (x : Nat), (x ≤ List.length xs ∧ List.length (keptI es xs x) < x) ∧ (firstHad es xs + 1 = ofN x ∧ firstHad es xs = ofN (List.length (keptI es xs x))) ∧ xs = wrD es xs x) ∧
  ∀ (x : Nat),
  x ≤ List.length xs ∧ List.length (keptI es xs x) < x →
  (decide (ofN x < ofN (List.length (wrD es xs x))) = true →
  within (ofN x) (List.length (wrD es xs x)) ∧
  Int.toNat (ofN x) < List.length (wrD es xs x) ∧
  (SObj.cells [SC.ref (Ref.map 2)] false =
  SObj.cells
  [SC.ref
  (Ref.map
  (match 1 with
  | 0 => 0
  | n => n + 1))]
  false ∧
  SObj.mp true (T.arr 32 T.u8) false T.bool es = SObj.mp true (T.arr 32 T.u8) false T.bool es) ∧
  ((!hadM es (List.getD (wrD es xs x) (Int.toNat (ofN x)) (T.dflt (T.arr 32 T.u8)))) = true →
  within (ofN (List.length (keptI es xs x))) (List.length (wrD es xs x)) ∧
  Int.toNat (ofN (List.length (keptI es xs x))) < List.length (wrD es xs x) ∧
  inI64 (ofN (List.length (keptI es xs x)) + 1) ∧
  inI64 (ofN x + 1) ∧
  ∃ (x' : Nat),
  (x' ≤ List.length xs ∧ List.length (keptI es xs x') < x') ∧
  List.length xs - x' < List.length xs - x ∧
  (ofN x + 1 = ofN x' ∧ ofN (List.length (keptI es xs x)) + 1 = ofN (List.length (keptI es xs x'))) ∧
  List.set (wrD es xs x) (Int.toNat (ofN (List.length (keptI es xs x)))) (List.getD (wrD es xs x) (Int.toNat (ofN x)) (T.dflt (T.arr 32 T.u8))) =
  wrD es xs x') ∧
  ((!hadM es (List.getD (wrD es xs x) (Int.toNat (ofN x)) (T.dflt (T.arr 32 T.u8)))) = false →
  inI64 (ofN x + 1) ∧
  ∃ (x' : Nat),
  (x' ≤ List.length xs ∧ List.length (keptI es xs x') < x') ∧
  List.length xs - x' < List.length xs - x ∧
  (ofN x + 1 = ofN x' ∧ ofN (List.length (keptI es xs x)) = ofN (List.length (keptI es xs x'))) ∧ wrD es xs x = wrD es xs x')) ∧
  (decide (ofN x < ofN (List.length (wrD es xs x))) = false →
  (0 ≤ ofN (List.length (keptI es xs x)) ∧ ofN (List.length (keptI es xs x)) < ofN (List.length (wrD es xs x))) ∧
  Int.toNat (ofN (List.length (keptI es xs x))) + (List.length (wrD es xs x) - Int.toNat (ofN (List.length (keptI es xs x)))) ≤ List.length (wrD es xs x) ∧
  (0 ≤ ofN (List.length (keptI es xs x)) ∧
  ofN (List.length (keptI es xs x)) ≤
  ofN
  (List.length
  (List.take (Int.toNat (ofN (List.length (keptI es xs x)))) (wrD es xs x) ++
  (List.replicate (List.length (wrD es xs x) - Int.toNat (ofN (List.length (keptI es xs x)))) (T.dflt (T.arr 32 T.u8)) ++
  List.drop (Int.toNat (ofN (List.length (keptI es xs x))) + (List.length (wrD es xs x) - Int.toNat (ofN (List.length (keptI es xs x))))) (wrD es xs x)))) ∧
  0 <
  List.length
  (List.take (Int.toNat (ofN (List.length (keptI es xs x)))) (wrD es xs x) ++
  (List.replicate (List.length (wrD es xs x) - Int.toNat (ofN (List.length (keptI es xs x)))) (T.dflt (T.arr 32 T.u8)) ++
  List.drop (Int.toNat (ofN (List.length (keptI es xs x))) + (List.length (wrD es xs x) - Int.toNat (ofN (List.length (keptI es xs x))))) (wrD es xs x)))) ∧
  List.take (Int.toNat (ofN (List.length (keptI es xs x))))
  (List.take (Int.toNat (ofN (List.length (keptI es xs x)))) (wrD es xs x) ++
  (List.replicate (List.length (wrD es xs x) - Int.toNat (ofN (List.length (keptI es xs x)))) (T.dflt (T.arr 32 T.u8)) ++
  List.drop (Int.toNat (ofN (List.length (keptI es xs x))) + (List.length (wrD es xs x) - Int.toNat (ofN (List.length (keptI es xs x))))) (wrD es xs x))) =
  keptI es xs (List.length xs) ∧
  List.Perm es es)) := by
 refine ⟨⟨hl, rfl, rfl, rfl⟩, fun q => ?_, fun q => ?_⟩
 · rcases firstHad_cases es xs with ⟨_, h⟩ | ⟨i, _, h, _⟩
   · refine ⟨?_, List.Perm.refl _⟩
     rw [kept_none (by rw [List.take_length]; exact h), List.take_length]
   · rw [h, beq_iff_eq] at q
     have q : (i : Int) = -1 := q
     omega
 · rcases firstHad_cases es xs with ⟨h, _⟩ | ⟨i, hi, he, hh, ht⟩
   · rw [h] at q; exact absurd q (by decide)
   rw [he]
   have k1 : keptI es xs (i + 1) = xs.take i := by rw [kept_succ hi, if_pos hh, kept_none ht]
   have l1 : (keptI es xs (i + 1)).length = i := by rw [k1, List.length_take]; omega
   refine ⟨inN20 (by omega), ⟨i + 1, ⟨by omega, by omega⟩, ⟨rfl, by rw [l1]⟩, ?_⟩, fun j hj => ?_⟩
   · unfold wrD
     rw [l1, k1, List.take_append_drop]
   obtain ⟨j1, j2⟩ := hj
   have hL := wrD_len es xs j
   rw [hL]
   refine ⟨fun q3 => ?_, fun q3 => ?_⟩
   · have hj := ltN20 q3
     rw [toN20, toN20]
     have g1 : (wrD es xs j).getD j (T.dflt (T.arr 32 T.u8)) = xs.getD j dig0 := wrD_get (by omega)
     rw [g1]
     have hw : within (ofN (keptI es xs j).length) xs.length := wN20 (by omega)
     refine ⟨wN20 hj, hj, ⟨rfl, rfl⟩, fun q4 => ?_, fun q4 => ?_⟩
     · have q4 : hadM es (xs.getD j dig0) = false := by simpa using q4
       have e4 : (keptI es xs (j + 1)).length = (keptI es xs j).length + 1 := by
        rw [kept_succ hj, if_neg (by rw [q4]; decide)]; simp
       refine ⟨hw, by omega, inN20 (by omega), inN20 (by omega), j + 1, ⟨by omega, by omega⟩, by omega, ⟨rfl, by rw [e4]; rfl⟩, ?_⟩
       exact wrD_set hj (by omega) q4
     · have q4 : hadM es (xs.getD j dig0) = true := by simpa using q4
       have e4 : keptI es xs (j + 1) = keptI es xs j := by rw [kept_succ hj, if_pos q4]
       refine ⟨inN20 (by omega), j + 1, ⟨by omega, by rw [e4]; omega⟩, by omega, ⟨rfl, by rw [e4]⟩, ?_⟩
       unfold wrD
       rw [e4]
   · have hje : j = xs.length := by have := geN20 q3; omega
     rw [toN20]
     have hlw : List.take (keptI es xs j).length (wrD es xs j) = keptI es xs j := by
      unfold wrD
      rw [List.take_left']; rfl
     generalize hA : (List.replicate (xs.length - (keptI es xs j).length) (T.dflt (T.arr 32 T.u8)) ++ List.drop ((keptI es xs j).length + (xs.length - (keptI es xs j).length)) (wrD es xs j)) = A
     have hAl : A.length = xs.length - (keptI es xs j).length := by
      rw [← hA, List.length_append, List.length_replicate, List.length_drop, hL]; omega
     rw [hlw]
     have hT : (keptI es xs j ++ A).length = xs.length := by rw [List.length_append, hAl]; omega
     rw [hT]
     refine ⟨⟨by show (0 : Int) ≤ (((keptI es xs j).length : Nat) : Int); omega, by show (((keptI es xs j).length : Nat) : Int) < ((xs.length : Nat) : Int); omega⟩, by omega, ⟨by show (0 : Int) ≤ (((keptI es xs j).length : Nat) : Int); omega, by show (((keptI es xs j).length : Nat) : Int) ≤ ((xs.length : Nat) : Int); omega, by omega⟩, ?_, List.Perm.refl _⟩
     rw [List.take_left' rfl, hje]

theorem ship_RisingW_vc (l : List DigP) (hl : l.length ≤ 100000000) :
 List.length l ≤ 100000000 ∧
  (List.length l < 4611686018427387904 ∧ ∀ (x : List (BitVec 8)), List.Mem x l → ∀ (y : List (BitVec 8)), List.Mem y l → ¬cmpV x y < 0 → ¬cmpV y x < 0 → x = y) ∧
  List.length (List.mergeSort l (leF cmpV)) ≤ 100000000 ∧ onceV (List.mergeSort l (leF cmpV)) = risV l := by
 refine ⟨hl, ⟨by omega, fun x _ y _ h1 h2 => ?_⟩, by rw [List.length_mergeSort]; exact hl, once_sort l⟩
 have h3 := cmp_pos x y
 have h4 := cmp_pos y x
 have h5 := cmp_less x y
 have h6 := cmp_less y x
 refine (cmp_zero x y).1 ?_
 rw [← h6] at h3
 have h3 : ¬ (0 < cmpV x y) := by
  intro h
  rw [decide_eq_true h, eq_comm, decide_eq_true_eq] at h3
  exact h2 h3
 omega

theorem ship_RisingD_vc (l : List DigP) (hl : l.length ≤ 100000000) :
 List.length l ≤ 100000000 ∧
  (List.length l < 4611686018427387904 ∧ ∀ (x : List (BitVec 8)), List.Mem x l → ∀ (y : List (BitVec 8)), List.Mem y l → ¬cmpV x y < 0 → ¬cmpV y x < 0 → x = y) ∧
  List.length (List.mergeSort l (leF cmpV)) ≤ 100000000 ∧ onceV (List.mergeSort l (leF cmpV)) = risV l := by
 refine ⟨hl, ⟨by omega, fun x _ y _ h1 h2 => ?_⟩, by rw [List.length_mergeSort]; exact hl, once_sort l⟩
 have h3 := cmp_pos x y
 have h4 := cmp_pos y x
 have h5 := cmp_less x y
 have h6 := cmp_less y x
 refine (cmp_zero x y).1 ?_
 rw [← h6] at h3
 have h3 : ¬ (0 < cmpV x y) := by
  intro h
  rw [decide_eq_true h, eq_comm, decide_eq_true_eq] at h3
  exact h2 h3
 omega

theorem ship_Missing_vc (need hv : List DigP) (most : Int) (hl : need.length ≤ 100000000) (h2 : hv.length ≤ 100000000) :
 (∃ (x : Nat), x ≤ List.length hv ∧ 0 = ofN x ∧ List.Perm (nilOf (List (BitVec 8) × Bool)) (thereI hv x)) ∧
  ∀ (x : Nat),
  x ≤ List.length hv →
  (decide (ofN x < ofN (List.length hv)) = true →
  within (ofN x) (List.length hv) ∧
  inI64 (ofN x + 1) ∧
  ∃ (x' : Nat),
  x' ≤ List.length hv ∧
  List.length hv - x' < List.length hv - x ∧
  ofN x + 1 = ofN x' ∧ List.Perm (mput (T.arr 32 T.u8) (thereI hv x) (List.getD hv (Int.toNat (ofN x)) (T.dflt (T.arr 32 T.u8))) true) (thereI hv x')) ∧
  (decide (ofN x < ofN (List.length hv)) = false →
  List.length need ≤ 100000000 ∧
  List.length (risV need) ≤ 100000000 ∧
  (0 ≤ max 0 (min most (ofN (List.length (keptI (thereI hv x) (risV need) (List.length (risV need)))))) ∧
  max 0 (min most (ofN (List.length (keptI (thereI hv x) (risV need) (List.length (risV need)))))) ≤ ofN (List.length (keptI (thereI hv x) (risV need) (List.length (risV need))))) ∧
  List.drop 0
  (List.take (Int.toNat (max 0 (min most (ofN (List.length (keptI (thereI hv x) (risV need) (List.length (risV need))))))))
  (keptI (thereI hv x) (risV need) (List.length (risV need)))) =
  missV need hv most) := by
 refine ⟨⟨0, Nat.zero_le _, rfl, List.Perm.refl _⟩, fun x hx => ⟨fun q => ?_, fun q => ?_⟩⟩
 · have hlt := ltN20 q
   refine ⟨wN20 hlt, inN20 (by omega), x + 1, by omega, by omega, rfl, ?_⟩
   rw [toN20, there_succ hlt]
 · have e : x = hv.length := by have := geN20 q; omega
   subst e
   rw [kept_there, cut_miss, List.drop_zero]
   have := ris_len need
   refine ⟨hl, by omega, ⟨by omega, ?_⟩, rfl⟩
   show max 0 (min most (((lackV need hv).length : Nat) : Int)) ≤ (((lackV need hv).length : Nat) : Int)
   omega

theorem slices_CloneW_spec : Vse.Spec P f_slices_Clone_Digest c_CloneW := spec_gf (l := []) trivial h_slices_Clone_Digest rfl rfl fun x h _ => bodyG_ok an_CloneW (slices_CloneW_vc x.1 (got h)) (by kernel_rfl)

theorem slices_SortFunc_spec : Vse.Spec P f_slices_SortFunc_Digest c_sortDig :=
 spec_sortF rfl (by decide) ship_compare_spec swoD ⟨_, _, h_slices_SortFunc_Digest, rfl, rfl⟩
  (fun α _ enc hk h1 cf hO blk cap d w hc hH hb hd => Go.Proofs.AnyQ.slices_SortFunc Go.Proofs.Try.sortDig 32 Go.Proofs.Try.isAgg24 Go.Proofs.Try.sizeOf24 enc hk h1 cf hO f_ship_compare #[] blk 0 cap d w (Go.Proofs.enters_of Go.Proofs.Try.func50 (by kernel_rfl) rfl) hc hH hb hd)
  (fun p cap fv w => Go.Proofs.AnyF.slices_SortFunc_none Go.Proofs.Try.sortDig p cap fv w)

theorem slices_Compact_spec : Vse.Spec P f_slices_Compact_Digest c_Compact := spec_gr (l := []) trivial h_slices_Compact_Digest rfl rfl fun xs _ h _ _ => bodyG_ok (an_Compact xs) (slices_Compact_vc xs (got h)) (by kernel_rfl)

theorem rd_f1_eq (ins : List SV) (heap : List (Nat × SObj)) (x : DigP × ofds OFm) (h : rd_f1 ins heap = some x) : ins = [svOfT T_Dig x.1, .ref (.cell 1 [] 0)] ∧ heap = oObj OFm 2 x.2 ∧ (labelsOf heap).Nodup := by
 unfold rd_f1 at h
 split at h
 · split at h
   · rename_i d m hd hm
     simp only [Option.some.injEq] at h; subst h
     obtain ⟨e1, e2⟩ := dObj_eq hm
     rw [decArg_eq hd, e1, e2]
     exact ⟨rfl, rfl, oObj_nodup⟩
   · cases h
 · cases h

theorem ship_Mf1_spec : Vse.Spec P f_ship_Missing_f1 c_f1 := spec_keep [1, 2] <| spec_gx (l := []) trivial h_ship_Missing_f1 rfl rfl rd_f1_eq fun x _ hok _ => by
 obtain ⟨d, es, _⟩ := x
 exact bodyG_ok an_pin12 (ship_Mf1_vc d es hok.1.1.1) (by kernel_rfl)

theorem rd_del_eq (ins : List SV) (heap : List (Nat × SObj)) (x : List DigP × ofds OFm) (h : rd_del ins heap = some x) : ins = x_delIn ∧ heap = x_delHp x ∧ (labelsOf heap).Nodup := by
 unfold rd_del at h
 split at h
 · rename_i p g l o cs hp
   cases hb : Nat.beq g f_ship_Missing_f1 with
   | false => rw [hb] at h; cases h
   | true =>
     rw [hb, cond_true] at h
     have hg := Nat.eq_of_beq_eq_true hb
     subst hg
     split at h
     · rename_i xs m hx hm
       simp only [Option.some.injEq] at h; subst h
       obtain ⟨e1, e2⟩ := dObj_eq hm
       obtain ⟨e3, e4⟩ := rowArg_eq hx
       simp only [List.cons.injEq, and_true, Prod.mk.injEq] at e4
       obtain ⟨e4, e5⟩ := e4
       subst e1; subst e2; subst e3; subst e4; subst e5
       exact ⟨rfl, rfl, by simp [labelsOf, oHeap]⟩
     · cases h
 · cases h

theorem slices_Index_spec : Vse.Spec P f_slices_IndexFunc_Digest c_Index := spec_keep [1, 2, 3] <| spec_gx (l := [(f_ship_Missing_f1, c_f1)]) ⟨ship_Mf1_spec, trivial⟩ h_slices_IndexFunc_Digest rfl rfl rd_del_eq fun x h _ _ => by
 obtain ⟨xs, es, _⟩ := x
 exact bodyG_ok (an_Index es xs) (slices_Index_vc es xs (got h)) (by kernel_rfl)

theorem slices_Delete_spec : Vse.Spec P f_slices_DeleteFunc_Digest c_Delete := spec_gx (l := [(f_ship_Missing_f1, c_f1), (f_slices_IndexFunc_Digest, c_Index)]) ⟨ship_Mf1_spec, slices_Index_spec, trivial⟩ h_slices_DeleteFunc_Digest rfl rfl rd_del_eq fun x h _ _ => by
 obtain ⟨xs, es, _⟩ := x
 exact bodyG_ok (an_Delete es xs) (slices_Delete_vc es xs (got h)) (by kernel_rfl)

theorem ship_RisingW_spec : Vse.Spec P f_ship_Rising c_RisingW := spec_gf (l := [(f_slices_Clone_Digest, c_CloneW), (f_slices_SortFunc_Digest, c_sortDig), (f_slices_Compact_Digest, c_Compact)]) ⟨slices_CloneW_spec, slices_SortFunc_spec, slices_Compact_spec, trivial⟩ h_ship_Rising rfl rfl fun x h _ => bodyG_ok an_pin0 (ship_RisingW_vc x.1 (got h)) (by kernel_rfl)

theorem ship_RisingD_spec : Vse.Spec P f_ship_Rising c_RisingD := spec_fn (l := [(f_slices_Clone_Digest, c_CloneW), (f_slices_SortFunc_Digest, c_sortDig), (f_slices_Compact_Digest, c_Compact)]) ⟨slices_CloneW_spec, slices_SortFunc_spec, slices_Compact_spec, trivial⟩ h_ship_Rising rfl rfl fun x h _ => body_ok an_none (ship_RisingD_vc x.1 (got h)) (by kernel_rfl)

theorem ship_Missing_spec : Vse.Spec P f_ship_Missing c_Missing := spec_fn (l := [(f_ship_Rising, c_RisingW), (f_slices_DeleteFunc_Digest, c_Delete)]) ⟨ship_RisingW_spec, slices_Delete_spec, trivial⟩ h_ship_Missing rfl rfl fun x h _ => body_ok (an_Missing x.2.1) (ship_Missing_vc x.1 x.2.1 x.2.2.1 (got h).1 (got h).2) (by kernel_rfl)

end Go.Sal
