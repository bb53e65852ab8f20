/- Contracts of recon: summaries, parts, items; rows sorted, each once. -/
import Derived.Test.YtglkhgodeghnlaaWCRcn
import Derived.Test.YtglkhgodeghnlaaWVseSortF
import Derived.Test.YtglkhgodeghnlaaWCLay
set_option maxRecDepth 100000
namespace Go.Sal
open Go.Vse Go.Sal.Nm

def c_CloneW : PC := gF [.slc T_Dig] fun x => ⟨some (x.1.length ≤ 100000000), .sv (.ref (.row 10)), [(10, .row t_api_Digest 32 T_Dig x.1 false)]⟩
def an_CloneW : Ann := { at_ := fun _ _ => none, pins := [], prune := 1, rows := [1003] }
def c_ofF : PC := ⟨false, fun ins => match ins with
 | [s, r, .ipt [.one (.imm t xs), .one (.cst (.func (.func f) a b))]] => match decArg T_Dig s, decArg T_Dig r with
   | some d, some e => bif Nat.beq f f_recon_compare && noL a && noL b then some ⟨none, .sv (.dv (.bool (cmpV d e == 0))), none, none⟩ else none
   | _, _ => none
 | _ => none, none, none, []⟩
def c_Compact : PC := { ptr := false, ct := fun _ => none, gr := some ([false, true], fun ins heap => match ins with
 | [p, .clo g [[.one (.imm _ _), .one (.cst (.func (.func f) a b))]]] => bif Nat.beq g f_recon_rowarapi_Digest_of_f1 && Nat.beq f f_recon_compare && noL a && noL b then (match rowArg t_api_Digest T_Dig p heap with
   | some xs => some ⟨some (xs.length ≤ 100000000), .sv (.ref (.row 2)), [(2, .row t_api_Digest 32 T_Dig (onceV xs) false)]⟩
   | none => none) else none
 | _ => none) }
def wrI (xs : List DigP) (i : Nat) : List DigP := onceI xs i ++ xs.drop (onceI xs i).length
def an_CompactL (xs : List DigP) : Nat → SState → Option LoopAnn
 | 4, _ => some { X := Nat, slots := fun k => [(5, .sv (.dv (.i64 (ofN k))))], objs := fun _ => [], inv := fun k => 1 ≤ k ∧ k ≤ xs.length ∧ onceI xs k = xs.take k, meas := fun k => xs.length - k }
 | 9, S => some { X := Nat, slots := fun k2 => [(7, .sv (.dv (.i64 (ofN k2)))), (5, .sv (.dv (.i64 (ofN (onceI xs ((x_int S 5).toNat + k2)).length))))], objs := fun k2 => [(1, .row t_api_Digest 32 T_Dig (wrI xs ((x_int S 5).toNat + k2)) false)], inv := fun k2 => 1 ≤ k2 ∧ (x_int S 5).toNat + k2 ≤ xs.length ∧ (onceI xs ((x_int S 5).toNat + k2)).length < (x_int S 5).toNat + k2, meas := fun k2 => xs.length - k2 }
 | _, _ => none
def an_Compact (xs : List DigP) : Ann := { at_ := an_CompactL xs, pins := [1], prune := 1, rows := [hRow + 1022, hRow + 1031, hRow + 1035] }

def c_CloneD : PC := D [.slc T_Dig] [.slc T_Dig] (fun x => some (x.1.length ≤ 100000000)) (fun x => (x.1, ()))
def allI (l : List DigP) (k : Nat) : List (BitVec 8) := (l.take k).flatten
def okB (l : List DigP) (p : Pre) : Prop := ascV l = true ∧ rightB p = true ∧ l.length ≤ 1000000
def c_summary : PC := D [.slc T_Dig, T_Pre] [T_Item] (fun x => some (okB x.1 x.2.1)) (fun x => (sumV x.1 x.2.1, ()))
def an_summary (l : List DigP) (p : Pre) : Nat → SState → Option LoopAnn
 | 4, S => some { X := Nat, slots := fun k => [(14, .sv (.dv (.i64 (ofN k)))), (6, .sv (.own 10 .u8 (allI (belowV l p) k)))], objs := fun _ => [(10, .tok t_uint8 1), (x_tok S 6, .gone)], inv := fun k => k ≤ (belowV l p).length, meas := fun k => (belowV l p).length - k }
 | _, _ => none
def moreN (p : Pre) : Nat := if p.1 = 255 then 1 else 2
def pbitI (p : Pre) (v : Nat) : Nat → DigP
 | 0 => p.2
 | i + 1 => if v / 2 ^ (moreN p - 1 - i) % 2 = 1 then setB (pbitI p v i) (p.1.toNat + i) else pbitI p v i
def partI (p : Pre) (v : Nat) : List Pre := (List.range v).map fun k => (p.1 + (moreN p : Int), pbitI p k (moreN p))
def c_parts : PC := D [T_Pre] [.slc T_Pre] (fun x => some (rightB x.1 = true)) (fun x => (partsV x.1, ()))
def an_parts (p : Pre) : Nat → SState → Option LoopAnn
 | 6, S => some { X := Nat, slots := fun v => [(17, .sv (.dv (.i64 (ofN v)))), (4, .sv (.own 10 T_Pre (partI p v)))], objs := fun _ => [(10, .tok t_api_Prefix 33), (x_tok S 4, .gone)], inv := fun v => v ≤ 2 ^ moreN p, meas := fun v => 2 ^ moreN p - v }
 | 10, S => some { X := Nat, slots := fun i => [(28, .sv (.dv (.i64 (ofN i))))], objs := fun i => [(x_labAt S 6, .cells [.run (.one (.i64 (p.1 + x_int S 3))), .run (.many .u8 32 (pbitI p (x_int S 5).toNat i))] false)], inv := fun i => i ≤ moreN p, meas := fun i => moreN p - i }
 | _, _ => none
def c_Good : PC := D [T_Item] [.i64] (fun _ => none) (fun x => (goodV x.1, ()))
def beginW (l : List DigP) : List Item × Int := bif checkS l == 0 then ([sumV l (0, zeroD)], 0) else ([], checkS l)
def c_Begin : PC := D [.slc T_Dig] [.slc T_Item, .i64] (fun _ => none) (fun x => ((beginW x.1).1, (beginW x.1).2, ()))
def c_rowOf : PC := c_R1 [.slc T_Dig] fun _ x => ⟨some (x.1.length ≤ 100000000), .sv (.dv (.imm T_Dig (risV x.1))), none, none⟩
def c_sortDig : PC := c_sortF t_api_Digest T_Dig f_recon_compare cmpV

theorem allI_succ {l : List DigP} {k : Nat} (h : k < l.length) : allI l (k + 1) = allI l k ++ l.getD k dig0 := by
 unfold allI
 rw [take_snoc' (d := dig0) h, List.flatten_append]; simp
theorem all_len {l : List DigP} (h : ∀ d ∈ l, d.length = 32) : ∀ k, (allI l k).length ≤ 32 * k
 | 0 => by simp [allI]
 | k + 1 => by
   by_cases hk : k < l.length
   · rw [allI_succ hk, List.length_append]
     have hm : l.getD k dig0 ∈ l := by rw [getD_lt hk]; exact List.getElem_mem _
     have := h _ hm
     have := all_len h k
     omega
   · have e : allI l (k + 1) = allI l k := by
       unfold allI
       rw [List.take_of_length_le (by omega), List.take_of_length_le (by omega)]
     rw [e]
     have := all_len h k
     omega
theorem root_right : rightB ((0 : Int), zeroD) = true := by decide +kernel
theorem leF_iff {a b : DigP} : leF cmpV a b = true ↔ upB a b := by
 unfold leF upB
 rw [Bool.not_eq_true', ← cmp_less]
theorem merge_up (ys : List DigP) : (List.mergeSort ys (leF cmpV)).Pairwise upB := by
 have h := List.pairwise_mergeSort (le := leF cmpV) (fun a b c h1 h2 => leF_iff.2 (lessL_lele (leF_iff.1 h1) (leF_iff.1 h2))) (fun a b => by
  cases h : leF cmpV a b with
  | true => rfl
  | false =>
    have h1 : lessL b a = true := by
     unfold leF at h
     rw [Bool.not_eq_false', cmp_less] at h
     exact h
    have : leF cmpV b a = true := leF_iff.2 (lessL_asym h1)
    rw [this]; rfl) ys
 exact h.imp fun h => leF_iff.1 h
theorem once_mem {l : List DigP} (h : l.Pairwise upB) (a : DigP) : a ∈ onceV l ↔ a ∈ l := by
 obtain ⟨_, _, h3, h4⟩ := once_rises h l.length (Nat.le_refl _)
 constructor
 · exact h4 a
 · intro h
   obtain ⟨k, hk, rfl⟩ := List.getElem_of_mem h
   have := h3 k hk
   rwa [getD_lt hk] at this
theorem once_sort (ys : List DigP) : onceV (List.mergeSort ys (leF cmpV)) = risV ys := by
 refine rises_ext (once_rises (merge_up ys) _ (Nat.le_refl _)).1 (ris_rises ys) fun a => ?_
 rw [once_mem (merge_up ys), ris_mem]
 exact List.mem_mergeSort

theorem beq_dec {α : Type} [BEq α] [LawfulBEq α] [DecidableEq α] (a b : α) : (a == b) = decide (a = b) := by
 rw [Bool.eq_iff_iff, beq_iff_eq, decide_eq_true_eq]
theorem parts_test {m x i : Nat} (hm : m = 1 ∨ m = 2) (hx : x < 2 ^ m) (hi : i < m) : (BitVec.toInt (BitVec.ofInt 64 (Int.fdiv (ofN x) (2 ^ Int.toNat (ofN m - 1 - ofN i))) &&& 1#64) == 1) = decide (x / 2 ^ (m - 1 - i) % 2 = 1) := by
 rcases hm with rfl | rfl
 · obtain rfl : i = 0 := by omega
   have : x = 0 ∨ x = 1 := by omega
   rcases this with rfl | rfl <;> decide
 · have h1 : i = 0 ∨ i = 1 := by omega
   have : x = 0 ∨ x = 1 ∨ x = 2 ∨ x = 3 := by omega
   rcases h1 with rfl | rfl <;> rcases this with rfl | rfl | rfl | rfl <;> decide
theorem parts_all {p : Pre} (hne : ¬ p.1 = (256 : Int)) (h : moreN p = 1 ∧ p.1 = (255 : Int) ∨ moreN p = 2 ∧ ¬ p.1 = (255 : Int)) : partI p (2 ^ moreN p) = partsV p := by
 unfold partsV
 rw [if_neg hne]
 rcases h with ⟨e, h5⟩ | ⟨e, h5⟩
 · rw [if_pos h5]
   unfold partI
   rw [e, h5]
   simp only [show List.range (2 ^ 1) = [0, 1] from rfl, List.map_cons, List.map_nil, pbitI, e]
   have e2 : p.1.toNat = 255 := by rw [h5]; rfl
   rw [e2]
   rfl
 · rw [if_neg h5]
   unfold partI
   rw [e]
   simp only [show List.range (2 ^ 2) = [0, 1, 2, 3] from rfl, List.map_cons, List.map_nil, pbitI, e]
   rfl
theorem len0 {α : Type} (l : List α) : (ofN (List.length l) == 0) = decide (l.length = 0) := by
 rw [Bool.eq_iff_iff, beq_iff_eq, decide_eq_true_eq]
 show ((l.length : Nat) : Int) = 0 ↔ _
 omega
theorem lenEq {α β : Type} (l : List α) (m : List β) : (ofN (List.length l) == ofN (List.length m)) = decide (l.length = m.length) := by
 rw [Bool.eq_iff_iff, beq_iff_eq, decide_eq_true_eq]
 show ((l.length : Nat) : Int) = ((m.length : Nat) : Int) ↔ _
 omega
theorem two_way (b : Bool) : ((!b) = true → 280 = (bif b then (0 : Int) else 280)) ∧ ((!b) = false → 0 = (bif b then (0 : Int) else 280)) := by
 cases b
 · exact ⟨fun _ => rfl, fun h => (by cases h)⟩
 · exact ⟨fun h => (by cases h), fun _ => rfl⟩

theorem keep_iff {xs : List DigP} {i : Nat} (h : 1 ≤ i) : keepB xs i = !(xs.getD i dig0 == xs.getD (i - 1) dig0) := by
 unfold keepB
 rw [decide_eq_false (by omega), Bool.false_or]
theorem cmp_beq (a b : DigP) : (cmpV a b == 0) = (a == b) := by
 rw [Bool.eq_iff_iff, beq_iff_eq, beq_iff_eq]
 exact cmp_zero a b
theorem wr_len {xs : List DigP} {i : Nat} (h : (onceI xs i).length ≤ xs.length) : (wrI xs i).length = xs.length := by
 unfold wrI
 rw [List.length_append, List.length_drop]; omega
theorem wr_get {xs : List DigP} {i k : Nat} (h : (onceI xs i).length ≤ k) : (wrI xs i).getD k dig0 = xs.getD k dig0 := by
 unfold wrI
 rw [List.getD_eq_getElem?_getD, List.getElem?_append_right h, List.getElem?_drop, List.getD_eq_getElem?_getD]
 congr 2; omega
theorem wr_set {xs : List DigP} {i : Nat} (h1 : (onceI xs i).length < xs.length) (hk : keepB xs i = true) : (wrI xs i).set (onceI xs i).length (xs.getD i dig0) = wrI xs (i + 1) := by
 unfold wrI
 rw [onceI_succ, if_pos hk, List.set_append_right _ _ (Nat.le_refl _), Nat.sub_self, List.drop_eq_getElem_cons h1, List.set_cons_zero, List.length_append, List.length_cons, List.length_nil, List.append_assoc]
 rfl
theorem once_all {xs : List DigP} (h : onceI xs xs.length = xs.take xs.length) : xs = onceV xs := by
 unfold onceV
 rw [h, List.take_length]

theorem slices_CloneW_vc (xs : List DigP) (hl : xs.length ≤ 100000000) :
 ∀ (q : Bool),
  (q = true → xs = nilOf (T.den (T.arr 32 T.u8))) →
  ((q == true) = true → xs = nilOf (List (BitVec 8))) ∧ ((q == true) = false → List.length (nilOf (List (BitVec 8))) + List.length xs ≤ ROOM ∧ nilOf (List (BitVec 8)) ++ xs = xs) := by
 intro q hq
 refine ⟨fun h => ?_, fun h => ⟨?_, rfl⟩⟩
 · exact hq (by simpa using h)
 · show 0 + xs.length ≤ ROOM
   unfold ROOM; omega

theorem recon_ofF_vc (d e : DigP) (t : T) (xs : List t.den) :
 (cmpV d e == 0) = (cmpV d e == 0) := by
 rfl

theorem slices_Compact_vc (xs : List DigP) (t : T) (ys : List t.den) (hl : xs.length ≤ 100000000) :
 (decide (ofN (List.length xs) < 2) = true → xs = onceV xs) ∧
  (decide (ofN (List.length xs) < 2) = false →
  (∃ (x : Nat), (1 ≤ x ∧ x ≤ List.length xs ∧ onceI xs x = List.take x xs) ∧ 1 = ofN x) ∧
  ∀ (x : Nat),
  1 ≤ x ∧ x ≤ List.length xs ∧ onceI xs x = List.take x xs →
  (decide (ofN x < ofN (List.length xs)) = true →
  within (ofN x) (List.length xs) ∧
  Int.toNat (ofN x) < List.length xs ∧
  inI64 (ofN x - 1) ∧
  within (ofN x - 1) (List.length xs) ∧
  Int.toNat (ofN x - 1) < List.length xs ∧
  ((cmpV (List.getD xs (Int.toNat (ofN x)) (T.dflt (T.arr 32 T.u8))) (List.getD xs (Int.toNat (ofN x - 1)) (T.dflt (T.arr 32 T.u8))) == 0) = true →
  (0 ≤ ofN x ∧ ofN x < ofN (List.length xs)) ∧
  (∃ (x_1 : Nat),
  (1 ≤ x_1 ∧ Int.toNat (ofN x) + x_1 ≤ List.length xs ∧ List.length (onceI xs (Int.toNat (ofN x) + x_1)) < Int.toNat (ofN x) + x_1) ∧
  (1 = ofN x_1 ∧ ofN x = ofN (List.length (onceI xs (Int.toNat (ofN x) + x_1)))) ∧ xs = wrI xs (Int.toNat (ofN x) + x_1)) ∧
  ∀ (x_1 : Nat),
  1 ≤ x_1 ∧ Int.toNat (ofN x) + x_1 ≤ List.length xs ∧ List.length (onceI xs (Int.toNat (ofN x) + x_1)) < Int.toNat (ofN x) + x_1 →
  (decide (ofN x_1 < ofN (List.length xs - Int.toNat (ofN x))) = true →
  within (ofN x_1) (List.length xs - Int.toNat (ofN x)) ∧
  Int.toNat (ofN x) + Int.toNat (ofN x_1) < List.length (wrI xs (Int.toNat (ofN x) + x_1)) ∧
  inI64 (ofN x_1 - 1) ∧
  within (ofN x_1 - 1) (List.length xs - Int.toNat (ofN x)) ∧
  Int.toNat (ofN x) + Int.toNat (ofN x_1 - 1) < List.length (wrI xs (Int.toNat (ofN x) + x_1)) ∧
  ((!cmpV (List.getD (wrI xs (Int.toNat (ofN x) + x_1)) (Int.toNat (ofN x) + Int.toNat (ofN x_1)) (T.dflt (T.arr 32 T.u8)))
  (List.getD (wrI xs (Int.toNat (ofN x) + x_1)) (Int.toNat (ofN x) + Int.toNat (ofN x_1 - 1)) (T.dflt (T.arr 32 T.u8))) ==
  0) =
  true →
  within (ofN x_1) (List.length xs - Int.toNat (ofN x)) ∧
  Int.toNat (ofN x) + Int.toNat (ofN x_1) < List.length (wrI xs (Int.toNat (ofN x) + x_1)) ∧
  within (ofN (List.length (onceI xs (Int.toNat (ofN x) + x_1)))) (List.length (wrI xs (Int.toNat (ofN x) + x_1))) ∧
  Int.toNat (ofN (List.length (onceI xs (Int.toNat (ofN x) + x_1)))) < List.length (wrI xs (Int.toNat (ofN x) + x_1)) ∧
  inI64 (ofN (List.length (onceI xs (Int.toNat (ofN x) + x_1))) + 1) ∧
  inI64 (ofN x_1 + 1) ∧
  ∃ (x' : Nat),
  (1 ≤ x' ∧ Int.toNat (ofN x) + x' ≤ List.length xs ∧ List.length (onceI xs (Int.toNat (ofN x) + x')) < Int.toNat (ofN x) + x') ∧
  List.length xs - x' < List.length xs - x_1 ∧
  (ofN x_1 + 1 = ofN x' ∧
  ofN (List.length (onceI xs (Int.toNat (ofN x) + x_1))) + 1 = ofN (List.length (onceI xs (Int.toNat (ofN x) + x')))) ∧
  List.set (wrI xs (Int.toNat (ofN x) + x_1)) (Int.toNat (ofN (List.length (onceI xs (Int.toNat (ofN x) + x_1)))))
  (List.getD (wrI xs (Int.toNat (ofN x) + x_1)) (Int.toNat (ofN x) + Int.toNat (ofN x_1)) (T.dflt (T.arr 32 T.u8))) =
  wrI xs (Int.toNat (ofN x) + x')) ∧
  ((!cmpV (List.getD (wrI xs (Int.toNat (ofN x) + x_1)) (Int.toNat (ofN x) + Int.toNat (ofN x_1)) (T.dflt (T.arr 32 T.u8)))
  (List.getD (wrI xs (Int.toNat (ofN x) + x_1)) (Int.toNat (ofN x) + Int.toNat (ofN x_1 - 1)) (T.dflt (T.arr 32 T.u8))) ==
  0) =
  false →
  inI64 (ofN x_1 + 1) ∧
  ∃ (x' : Nat),
  (1 ≤ x' ∧ Int.toNat (ofN x) + x' ≤ List.length xs ∧ List.length (onceI xs (Int.toNat (ofN x) + x')) < Int.toNat (ofN x) + x') ∧
  List.length xs - x' < List.length xs - x_1 ∧
  (ofN x_1 + 1 = ofN x' ∧ ofN (List.length (onceI xs (Int.toNat (ofN x) + x_1))) = ofN (List.length (onceI xs (Int.toNat (ofN x) + x')))) ∧
  wrI xs (Int.toNat (ofN x) + x_1) = wrI xs (Int.toNat (ofN x) + x'))) ∧
  (decide (ofN x_1 < ofN (List.length xs - Int.toNat (ofN x))) = false →
  (0 ≤ ofN (List.length (onceI xs (Int.toNat (ofN x) + x_1))) ∧
  ofN (List.length (onceI xs (Int.toNat (ofN x) + x_1))) < ofN (List.length (wrI xs (Int.toNat (ofN x) + x_1)))) ∧
  Int.toNat (ofN (List.length (onceI xs (Int.toNat (ofN x) + x_1)))) +
  (List.length (wrI xs (Int.toNat (ofN x) + x_1)) - Int.toNat (ofN (List.length (onceI xs (Int.toNat (ofN x) + x_1))))) ≤
  List.length (wrI xs (Int.toNat (ofN x) + x_1)) ∧
  (0 ≤ ofN (List.length (onceI xs (Int.toNat (ofN x) + x_1))) ∧
  ofN (List.length (onceI xs (Int.toNat (ofN x) + x_1))) ≤
  ofN
  (List.length
  (List.take (Int.toNat (ofN (List.length (onceI xs (Int.toNat (ofN x) + x_1))))) (wrI xs (Int.toNat (ofN x) + x_1)) ++
  (List.replicate (List.length (wrI xs (Int.toNat (ofN x) + x_1)) - Int.toNat (ofN (List.length (onceI xs (Int.toNat (ofN x) + x_1)))))
  (T.dflt (T.arr 32 T.u8)) ++
  List.drop
  (Int.toNat (ofN (List.length (onceI xs (Int.toNat (ofN x) + x_1)))) +
  (List.length (wrI xs (Int.toNat (ofN x) + x_1)) - Int.toNat (ofN (List.length (onceI xs (Int.toNat (ofN x) + x_1))))))
  (wrI xs (Int.toNat (ofN x) + x_1))))) ∧
  0 <
  List.length
  (List.take (Int.toNat (ofN (List.length (onceI xs (Int.toNat (ofN x) + x_1))))) (wrI xs (Int.toNat (ofN x) + x_1)) ++
  (List.replicate (List.length (wrI xs (Int.toNat (ofN x) + x_1)) - Int.toNat (ofN (List.length (onceI xs (Int.toNat (ofN x) + x_1)))))
  (T.dflt (T.arr 32 T.u8)) ++
  List.drop
  (Int.toNat (ofN (List.length (onceI xs (Int.toNat (ofN x) + x_1)))) +
  (List.length (wrI xs (Int.toNat (ofN x) + x_1)) - Int.toNat (ofN (List.length (onceI xs (Int.toNat (ofN x) + x_1))))))
  (wrI xs (Int.toNat (ofN x) + x_1))))) ∧
  List.take (Int.toNat (ofN (List.length (onceI xs (Int.toNat (ofN x) + x_1)))))
  (List.take (Int.toNat (ofN (List.length (onceI xs (Int.toNat (ofN x) + x_1))))) (wrI xs (Int.toNat (ofN x) + x_1)) ++
  (List.replicate (List.length (wrI xs (Int.toNat (ofN x) + x_1)) - Int.toNat (ofN (List.length (onceI xs (Int.toNat (ofN x) + x_1)))))
  (T.dflt (T.arr 32 T.u8)) ++
  List.drop
  (Int.toNat (ofN (List.length (onceI xs (Int.toNat (ofN x) + x_1)))) +
  (List.length (wrI xs (Int.toNat (ofN x) + x_1)) - Int.toNat (ofN (List.length (onceI xs (Int.toNat (ofN x) + x_1))))))
  (wrI xs (Int.toNat (ofN x) + x_1)))) =
  onceV xs)) ∧
  ((cmpV (List.getD xs (Int.toNat (ofN x)) (T.dflt (T.arr 32 T.u8))) (List.getD xs (Int.toNat (ofN x - 1)) (T.dflt (T.arr 32 T.u8))) == 0) = false →
  inI64 (ofN x + 1) ∧ ∃ (x' : Nat), (1 ≤ x' ∧ x' ≤ List.length xs ∧ onceI xs x' = List.take x' xs) ∧ List.length xs - x' < List.length xs - x ∧ ofN x + 1 = ofN x')) ∧
  (decide (ofN x < ofN (List.length xs)) = false → xs = onceV xs)) := by
 refine ⟨fun q => ?_, fun q => ?_⟩
 · match xs, q with
   | [], _ => rfl
   | [x], _ => rfl
   | x :: y :: r, q =>
     exfalso
     have h : (((x :: y :: r).length : Nat) : Int) < 2 := of_decide_eq_true q
     simp only [List.length_cons] at h
     omega
 · have h2 : 2 ≤ xs.length := by have h : ¬ ((xs.length : Nat) : Int) < 2 := of_decide_eq_false q; omega
   refine ⟨⟨1, ⟨Nat.le_refl _, by omega, ?_⟩, rfl⟩, fun x hx => ⟨fun q1 => ?_, fun q1 => ?_⟩⟩
   · match xs, h2 with
     | x :: y :: r, _ => rfl
   · obtain ⟨x1, x2, x3⟩ := hx
     have hlt := ltN28 q1
     rw [toN28, predN28 x1, cmp_beq]
     have hk := keep_iff (xs := xs) x1
     refine ⟨wN28 hlt, hlt, by show inI64 ((x : Int) - 1); unfold inI64; omega, ⟨by show (0 : Int) ≤ (x : Int) - 1; omega, by show (x : Int) - 1 < _; omega⟩, by omega, fun q2 => ?_, fun q2 => ?_⟩
     · have q2 : (xs.getD x dig0 == xs.getD (x - 1) dig0) = true := q2
       rw [q2] at hk
       have e1 : onceI xs (x + 1) = xs.take x := by rw [onceI_succ, if_neg (by rw [hk]; decide), x3]
       have l1 : (onceI xs (x + 1)).length = x := by rw [e1, List.length_take]; omega
       refine ⟨⟨by show (0 : Int) ≤ (x : Int); omega, by show (x : Int) < ((xs.length : Nat) : Int); omega⟩, ⟨1, ⟨Nat.le_refl _, by omega, by omega⟩, ⟨rfl, by rw [l1]⟩, ?_⟩, fun j hj => ?_⟩
       · unfold wrI
         rw [l1, e1, List.take_append_drop]
       obtain ⟨j1, j2, j3⟩ := hj
       have hwl : (onceI xs (x + j)).length ≤ xs.length := by omega
       have hL := wr_len hwl
       rw [hL]
       refine ⟨fun q3 => ?_, fun q3 => ?_⟩
       · have hj := ltN28 q3
         have hi : x + j < xs.length := by omega
         rw [toN28, predN28 j1, toN28]
         have g1 : (wrI xs (x + j)).getD (x + j) (T.dflt (T.arr 32 T.u8)) = xs.getD (x + j) dig0 := wr_get (by omega)
         have g2 : (wrI xs (x + j)).getD (x + (j - 1)) (T.dflt (T.arr 32 T.u8)) = xs.getD (x + j - 1) dig0 := by
          rw [show x + j - 1 = x + (j - 1) by omega]
          exact wr_get (by omega)
         have hk2 := keep_iff (xs := xs) (i := x + j) (by omega)
         rw [g1, g2, cmp_beq, ← hk2]
         have hw : within (ofN (onceI xs (x + j)).length) xs.length := wN28 (by omega)
         refine ⟨wN28 hj, hi, by show inI64 ((j : Int) - 1); unfold inI64; omega, ⟨by show (0 : Int) ≤ (j : Int) - 1; omega, by show (j : Int) - 1 < _; omega⟩, by omega, fun q4 => ?_, fun q4 => ?_⟩
         · have e4 : onceI xs (x + (j + 1)) = onceI xs (x + j) ++ [xs.getD (x + j) dig0] := by
             rw [show x + (j + 1) = x + j + 1 by omega, onceI_succ, if_pos q4]
           have l4 : (onceI xs (x + (j + 1))).length = (onceI xs (x + j)).length + 1 := by rw [e4]; simp
           refine ⟨wN28 hj, hi, hw, by omega, inN28 (by omega), inN28 (by omega), j + 1, ⟨by omega, by omega, by omega⟩, by omega, ⟨rfl, by rw [l4]; rfl⟩, ?_⟩
           rw [show x + (j + 1) = x + j + 1 by omega]
           exact wr_set (by omega) q4
         · have e4 : onceI xs (x + (j + 1)) = onceI xs (x + j) := by
             rw [show x + (j + 1) = x + j + 1 by omega, onceI_succ, if_neg (by rw [q4]; decide)]
           refine ⟨inN28 (by omega), j + 1, ⟨by omega, by omega, by rw [e4]; omega⟩, by omega, ⟨rfl, by rw [e4]⟩, ?_⟩
           unfold wrI
           rw [e4]
       · have hje : x + j = xs.length := by have := geN28 q3; omega
         rw [toN28]
         have hlw : (List.take (onceI xs (x + j)).length (wrI xs (x + j))) = onceI xs (x + j) := by
          unfold wrI
          rw [List.take_left']; rfl
         generalize hA : (List.replicate (xs.length - (onceI xs (x + j)).length) (T.dflt (T.arr 32 T.u8)) ++ List.drop ((onceI xs (x + j)).length + (xs.length - (onceI xs (x + j)).length)) (wrI xs (x + j))) = A
         have hAl : A.length = xs.length - (onceI xs (x + j)).length := by
          rw [← hA, List.length_append, List.length_replicate, List.length_drop, hL]; omega
         rw [hlw]
         have hT : (onceI xs (x + j) ++ A).length = xs.length := by rw [List.length_append, hAl]; omega
         rw [hT]
         refine ⟨⟨by show (0 : Int) ≤ (((onceI xs (x + j)).length : Nat) : Int); omega, by show (((onceI xs (x + j)).length : Nat) : Int) < ((xs.length : Nat) : Int); omega⟩, by omega, ⟨by show (0 : Int) ≤ (((onceI xs (x + j)).length : Nat) : Int); omega, by show (((onceI xs (x + j)).length : Nat) : Int) ≤ ((xs.length : Nat) : Int); omega, by omega⟩, ?_⟩
         rw [List.take_left' rfl, hje]
         rfl
     · have q2 : (xs.getD x dig0 == xs.getD (x - 1) dig0) = false := q2
       rw [q2] at hk
       refine ⟨inN28 (by omega), x + 1, ⟨by omega, by omega, ?_⟩, by omega, rfl⟩
       rw [onceI_succ, if_pos (by rw [hk]; rfl), x3, take_snoc' (d := dig0) hlt]
   · have : x = xs.length := by have := geN28 q1; omega
     subst this
     exact once_all hx.2.2

theorem slices_CloneD_vc (xs : List DigP) (hl : xs.length ≤ 100000000) :
 ∀ (q : Bool),
  (q = true → xs = nilOf (T.den (T.arr 32 T.u8))) →
  ((q == true) = true → nilOf (List (BitVec 8)) = xs) ∧ ((q == true) = false → List.length (nilOf (List (BitVec 8))) + List.length xs ≤ ROOM ∧ nilOf (List (BitVec 8)) ++ xs = xs) := by
 intro q hq
 refine ⟨fun h => ?_, fun h => ⟨?_, rfl⟩⟩
 · exact (hq (by simpa using h)).symm
 · show 0 + xs.length ≤ ROOM
   unfold ROOM; omega

theorem recon_summary_vc (l : List DigP) (p : Pre) (h : okB l p) (h32 : ∀ d ∈ l, d.length = 32) :
 (ascV l = true ∧ rightB p = true ∧ List.length l ≤ 1000000) ∧
  (∃ (x : Nat), x ≤ List.length (belowV l p) ∧ 0 = ofN x ∧ allI (belowV l p) x = nilOf (BitVec 8)) ∧
  ∀ (x : Nat),
  x ≤ List.length (belowV l p) →
  (decide (ofN x < ofN (List.length (belowV l p))) = true →
  within (ofN x) (List.length (belowV l p)) ∧
  List.length (allI (belowV l p) x) + List.length (List.take 32 (List.drop 0 (List.getD (belowV l p) (Int.toNat (ofN x)) (T.dflt (T.arr 32 T.u8))))) ≤ ROOM ∧
  inI64 (ofN x + 1) ∧
  ∃ (x' : Nat),
  x' ≤ List.length (belowV l p) ∧
  List.length (belowV l p) - x' < List.length (belowV l p) - x ∧
  ofN x + 1 = ofN x' ∧ allI (belowV l p) x ++ List.take 32 (List.drop 0 (List.getD (belowV l p) (Int.toNat (ofN x)) (T.dflt (T.arr 32 T.u8)))) = allI (belowV l p) x') ∧
  (decide (ofN x < ofN (List.length (belowV l p))) = false →
  List.length (List.flatten [allI (belowV l p) x]) ≤ 1073741824 ∧
  1 = (sumV l p).1 ∧
  p.1 = (sumV l p).2.1 ∧
  p.2 = (sumV l p).2.2.1 ∧
  ofN (List.length (belowV l p)) = (sumV l p).2.2.2.1 ∧ sha (List.flatten [allI (belowV l p) x]) = (sumV l p).2.2.2.2.1 ∧ nilOf (List (BitVec 8)) = (sumV l p).2.2.2.2.2) := by
 have hl := belowV_le l p
 have hlen : ∀ x, x ≤ (belowV l p).length → (allI (belowV l p) x).length ≤ 32 * x := fun x hx => all_len (fun d hd => h32 d (List.mem_filter.1 hd).1) x
 refine ⟨h, ⟨0, Nat.zero_le _, rfl, rfl⟩, fun x hx => ⟨fun q => ?_, fun q => ?_⟩⟩
 · have hlt := ltN28 q
   have hm : (belowV l p).getD x dig0 ∈ belowV l p := by rw [getD_lt hlt]; exact List.getElem_mem _
   have h3 := h32 _ (List.mem_filter.1 hm).1
   rw [toN28, List.drop_zero, List.take_of_length_le (by rw [h3]; omega)]
   refine ⟨wN28 hlt, ?_, inN28 (by have := h.2.2; omega), x + 1, by omega, by omega, rfl, (allI_succ hlt).symm⟩
   have := hlen x hx
   have := h.2.2
   show _ + ((belowV l p).getD x dig0).length ≤ _
   rw [h3]
   unfold ROOM; omega
 · have hxe : x = (belowV l p).length := by have := geN28 q; omega
   have h1 := hlen x hx
   have h2 := h.2.2
   have e : List.flatten [allI (belowV l p) x] = (belowV l p).flatten := by
    subst hxe
    unfold allI
    rw [List.take_length]; simp
   refine ⟨?_, rfl, rfl, rfl, rfl, ?_, rfl⟩
   · simp only [List.flatten_cons, List.flatten_nil, List.append_nil]
     omega
   · rw [e]; rfl

theorem recon_parts_vc (p : Pre) (h : rightB p = true) (hd : p.2.length = 32) :
 inI64 (256 - p.1) ∧
  ((min 2 (256 - p.1) == 0) = true → nilOf (Int × List (BitVec 8)) = partsV p) ∧
  ((min 2 (256 - p.1) == 0) = false →
  (0 ≤ min 2 (256 - p.1) ∧ Int.toNat (min 2 (256 - p.1)) ≤ 62 ∧ inI64 (1 * 2 ^ Int.toNat (min 2 (256 - p.1)))) ∧
  (∃ (x : Nat), x ≤ 2 ^ moreN p ∧ 0 = ofN x ∧ partI p x = nilOf (Int × List (BitVec 8))) ∧
  ∀ (x : Nat),
  x ≤ 2 ^ moreN p →
  (decide (ofN x < 1 * 2 ^ Int.toNat (min 2 (256 - p.1))) = true →
  inI64 (p.1 + min 2 (256 - p.1)) ∧
  (∃ (x_1 : Nat), x_1 ≤ moreN p ∧ 0 = ofN x_1 ∧ p.1 + min 2 (256 - p.1) = p.1 + min 2 (256 - p.1) ∧ p.2 = pbitI p (Int.toNat (ofN x)) x_1) ∧
  ∀ (x_1 : Nat),
  x_1 ≤ moreN p →
  (decide (ofN x_1 < min 2 (256 - p.1)) = true →
  inI64 (min 2 (256 - p.1) - 1) ∧
  inI64 (min 2 (256 - p.1) - 1 - ofN x_1) ∧
  (0 ≤ min 2 (256 - p.1) - 1 - ofN x_1 ∧ Int.toNat (min 2 (256 - p.1) - 1 - ofN x_1) ≤ 64) ∧
  ((BitVec.toInt (BitVec.ofInt 64 (Int.fdiv (ofN x) (2 ^ Int.toNat (min 2 (256 - p.1) - 1 - ofN x_1))) &&& 1#64) == 1) = true →
  inI64 (p.1 + ofN x_1) ∧
  (ofN 8 ≠ 0 ∧ inI64 (Int.tdiv (p.1 + ofN x_1) 8)) ∧
  within (Int.tdiv (p.1 + ofN x_1) 8) 32 ∧
  ofN 8 ≠ 0 ∧
  0 ≤ Int.tmod (p.1 + ofN x_1) 8 ∧
  within (Int.tdiv (p.1 + ofN x_1) 8) 32 ∧
  inI64 (ofN x_1 + 1) ∧
  ∃ (x' : Nat),
  x' ≤ moreN p ∧
  moreN p - x' < moreN p - x_1 ∧
  ofN x_1 + 1 = ofN x' ∧
  p.1 + min 2 (256 - p.1) = p.1 + min 2 (256 - p.1) ∧
  List.set (pbitI p (Int.toNat (ofN x)) x_1) (Int.toNat (Int.tdiv (p.1 + ofN x_1) 8))
  (List.getD (pbitI p (Int.toNat (ofN x)) x_1) (Int.toNat (Int.tdiv (p.1 + ofN x_1) 8)) 0#8 |||
  128#8 >>> Int.toNat (Int.tmod (p.1 + ofN x_1) 8)) =
  pbitI p (Int.toNat (ofN x)) x') ∧
  ((BitVec.toInt (BitVec.ofInt 64 (Int.fdiv (ofN x) (2 ^ Int.toNat (min 2 (256 - p.1) - 1 - ofN x_1))) &&& 1#64) == 1) = false →
  inI64 (ofN x_1 + 1) ∧
  ∃ (x' : Nat),
  x' ≤ moreN p ∧
  moreN p - x' < moreN p - x_1 ∧
  ofN x_1 + 1 = ofN x' ∧ p.1 + min 2 (256 - p.1) = p.1 + min 2 (256 - p.1) ∧ pbitI p (Int.toNat (ofN x)) x_1 = pbitI p (Int.toNat (ofN x)) x')) ∧
  (decide (ofN x_1 < min 2 (256 - p.1)) = false →
  List.length (partI p x) + List.length [(p.1 + min 2 (256 - p.1), pbitI p (Int.toNat (ofN x)) x_1)] ≤ ROOM ∧
  inI64 (ofN x + 1) ∧
  ∃ (x' : Nat),
  x' ≤ 2 ^ moreN p ∧
  2 ^ moreN p - x' < 2 ^ moreN p - x ∧ ofN x + 1 = ofN x' ∧ partI p x ++ [(p.1 + min 2 (256 - p.1), pbitI p (Int.toNat (ofN x)) x_1)] = partI p x')) ∧
  (decide (ofN x < 1 * 2 ^ Int.toNat (min 2 (256 - p.1))) = false → partI p x = partsV p)) := by
 obtain ⟨r1, r2, _⟩ := (right_iff hd).1 h
 obtain ⟨N, hN0⟩ : ∃ N : Nat, (N : Int) = p.1 := ⟨p.1.toNat, by omega⟩
 have hN : @Eq Int p.1 (N : Int) := hN0.symm
 have hN2 : N ≤ 256 := by omega
 refine ⟨by rw [hN]; unfold inI64; omega, fun q => ?_, fun q => ?_⟩
 · have : @Eq Int p.1 256 := by
     have q : min 2 ((256 : Int) - p.1) = 0 := by simpa using q
     omega
   unfold partsV
   rw [if_pos (show p.1 = 256 from this)]
 · have hne : ¬ @Eq Int p.1 256 := fun e => by rw [e] at q; exact absurd q (by decide)
   have hm2 : moreN p = 1 ∧ N = 255 ∨ moreN p = 2 ∧ N < 255 := by
    unfold moreN
    split
    · rename_i h5
      have h5 : @Eq Int p.1 255 := h5
      exact .inl ⟨rfl, by omega⟩
    · rename_i h5
      have h5 : ¬ @Eq Int p.1 255 := h5
      exact .inr ⟨rfl, by omega⟩
   have hm : min 2 ((256 : Int) - p.1) = ofN (moreN p) := by
    show min 2 ((256 : Int) - p.1) = ((moreN p : Nat) : Int)
    rcases hm2 with ⟨e, h5⟩ | ⟨e, h5⟩ <;> rw [e] <;> omega
   have hpow : (1 : Int) * 2 ^ moreN p = ((2 ^ moreN p : Nat) : Int) := by
    rcases hm2 with ⟨e, h5⟩ | ⟨e, h5⟩ <;> rw [e] <;> decide
   have hp4 : 2 ^ moreN p ≤ 4 := by rcases hm2 with ⟨e, h5⟩ | ⟨e, h5⟩ <;> rw [e] <;> decide
   have hmle : 1 ≤ moreN p ∧ moreN p ≤ 2 := by omega
   rw [hm, toN28, hpow]
   refine ⟨⟨by show (0 : Int) ≤ ((moreN p : Nat) : Int); omega, by omega, by unfold inI64; generalize 2 ^ moreN p = k at hp4; omega⟩, ⟨0, Nat.zero_le _, rfl, rfl⟩, fun x hx => ⟨fun q1 => ?_, fun q1 => ?_⟩⟩
   · have hx4 : x < 2 ^ moreN p := by have h : (x : Int) < ((2 ^ moreN p : Nat) : Int) := of_decide_eq_true q1; omega
     rw [toN28]
     refine ⟨by rw [hN]; show inI64 ((N : Int) + ((moreN p : Nat) : Int)); unfold inI64; omega, ⟨0, Nat.zero_le _, rfl, rfl, rfl⟩, fun i hi => ⟨fun q2 => ?_, fun q2 => ?_⟩⟩
     · have hi2 := ltN28 q2
       have eN : p.1 + ofN i = ((N + i : Nat) : Int) := by rw [hN]; show (N : Int) + (i : Int) = _; omega
       have htst := parts_test (by omega : moreN p = 1 ∨ moreN p = 2) hx4 hi2
       rw [htst, eN]
       have e1 : Int.tdiv ((N + i : Nat) : Int) 8 = (((N + i) / 8 : Nat) : Int) := by rw [Int.tdiv_eq_ediv_of_nonneg (by omega)]; omega
       have e2 : Int.tmod ((N + i : Nat) : Int) 8 = (((N + i) % 8 : Nat) : Int) := by rw [Int.tmod_eq_emod_of_nonneg (by omega)]; omega
       rw [e1, e2, Int.toNat_natCast, Int.toNat_natCast]
       have hin : N + i < 256 := by omega
       have w : within (((N + i) / 8 : Nat) : Int) 32 := ⟨by omega, by omega⟩
       have es : Int.toNat (ofN (moreN p) - 1 - ofN i) ≤ 64 ∧ (0 : Int) ≤ ofN (moreN p) - 1 - ofN i := by
        show Int.toNat (((moreN p : Nat) : Int) - 1 - (i : Int)) ≤ 64 ∧ (0 : Int) ≤ ((moreN p : Nat) : Int) - 1 - (i : Int)
        omega
       refine ⟨by show inI64 (((moreN p : Nat) : Int) - 1); unfold inI64; omega, by show inI64 (((moreN p : Nat) : Int) - 1 - (i : Int)); unfold inI64; omega, ⟨es.2, es.1⟩, fun q3 => ⟨by unfold inI64; omega, ⟨by decide, by unfold inI64; omega⟩, w, by decide, by omega, w, inN28 (by omega), i + 1, by omega, by omega, rfl, rfl, ?_⟩, fun q3 => ⟨inN28 (by omega), i + 1, by omega, by omega, rfl, rfl, ?_⟩⟩
       · have q3 := of_decide_eq_true q3
         show _ = (if x / 2 ^ (moreN p - 1 - i) % 2 = 1 then setB (pbitI p x i) (p.1.toNat + i) else pbitI p x i)
         rw [if_pos q3, hN, Int.toNat_natCast]
         rfl
       · have q3 := of_decide_eq_false q3
         show _ = (if x / 2 ^ (moreN p - 1 - i) % 2 = 1 then setB (pbitI p x i) (p.1.toNat + i) else pbitI p x i)
         rw [if_neg q3]
     · have hie : i = moreN p := by have := geN28 q2; omega
       subst hie
       have hlen : (partI p x).length = x := by unfold partI; simp
       refine ⟨?_, inN28 (by omega), x + 1, by omega, by omega, rfl, ?_⟩
       · show _ + 1 ≤ ROOM
         rw [hlen]; unfold ROOM; omega
       · unfold partI
         rw [List.range_succ, List.map_append]; rfl
   · have hxe : x = 2 ^ moreN p := by have h : ¬ (x : Int) < ((2 ^ moreN p : Nat) : Int) := of_decide_eq_false q1; omega
     rw [hxe]
     exact parts_all hne (by rcases hm2 with ⟨e, h5⟩ | ⟨e, h5⟩
                             · exact .inl ⟨e, by rw [hN, h5]; rfl⟩
                             · exact .inr ⟨e, fun h => by have h : @Eq Int p.1 255 := h; omega⟩)

theorem recon_Good_vc (x : Item) :
 ((rightV (x.2.1, x.2.2.1) != 0) = true → rightV (x.2.1, x.2.2.1) = goodV x) ∧
  ((rightV (x.2.1, x.2.2.1) != 0) = false →
  ((x.1 == 1) = true →
  ((!(decide (0 ≤ x.2.2.2.1) && decide (x.2.2.2.1 ≤ 65536) && ofN (List.length x.2.2.2.2.2) == 0)) = true → 280 = goodV x) ∧
  ((!(decide (0 ≤ x.2.2.2.1) && decide (x.2.2.2.1 ≤ 65536) && ofN (List.length x.2.2.2.2.2) == 0)) = false → 0 = goodV x)) ∧
  ((x.1 == 1) = false →
  ((x.1 == 2) = true →
  ((!(x.2.2.2.1 == 0 && eqL T.u8 x.2.2.2.2.1 (List.replicate 32 0#8) && ofN (List.length x.2.2.2.2.2) == 0)) = true → 280 = goodV x) ∧
  ((!(x.2.2.2.1 == 0 && eqL T.u8 x.2.2.2.2.1 (List.replicate 32 0#8) && ofN (List.length x.2.2.2.2.2) == 0)) = false → 0 = goodV x)) ∧
  ((x.1 == 2) = false →
  ((x.1 == 3) = true →
  ((x.2.2.2.1 == 0 && eqL T.u8 x.2.2.2.2.1 (List.replicate 32 0#8) && checkS x.2.2.2.2.2 == 0) = true →
  ascV x.2.2.2.2.2 = true ∧ rightB (x.2.1, x.2.2.1) = true ∧ List.length x.2.2.2.2.2 ≤ 1000000) ∧
  ((!(x.2.2.2.1 == 0 && eqL T.u8 x.2.2.2.2.1 (List.replicate 32 0#8) && checkS x.2.2.2.2.2 == 0 &&
  ofN (List.length (belowV x.2.2.2.2.2 (x.2.1, x.2.2.1))) == ofN (List.length x.2.2.2.2.2))) =
  true →
  280 = goodV x) ∧
  ((!(x.2.2.2.1 == 0 && eqL T.u8 x.2.2.2.2.1 (List.replicate 32 0#8) && checkS x.2.2.2.2.2 == 0 &&
  ofN (List.length (belowV x.2.2.2.2.2 (x.2.1, x.2.2.1))) == ofN (List.length x.2.2.2.2.2))) =
  false →
  0 = goodV x)) ∧
  ((x.1 == 3) = false →
  ((x.1 == 4) = true →
  ((x.2.2.2.1 == 0 && eqL T.u8 x.2.2.2.2.1 (List.replicate 32 0#8) && checkS x.2.2.2.2.2 == 0) = true →
  ascV x.2.2.2.2.2 = true ∧ rightB (x.2.1, x.2.2.1) = true ∧ List.length x.2.2.2.2.2 ≤ 1000000) ∧
  ((!(x.2.2.2.1 == 0 && eqL T.u8 x.2.2.2.2.1 (List.replicate 32 0#8) && checkS x.2.2.2.2.2 == 0 &&
  ofN (List.length (belowV x.2.2.2.2.2 (x.2.1, x.2.2.1))) == ofN (List.length x.2.2.2.2.2))) =
  true →
  280 = goodV x) ∧
  ((!(x.2.2.2.1 == 0 && eqL T.u8 x.2.2.2.2.1 (List.replicate 32 0#8) && checkS x.2.2.2.2.2 == 0 &&
  ofN (List.length (belowV x.2.2.2.2.2 (x.2.1, x.2.2.1))) == ofN (List.length x.2.2.2.2.2))) =
  false →
  0 = goodV x)) ∧
  ((x.1 == 4) = false → (true = true → 280 = goodV x) ∧ (true = false → 0 = goodV x)))))) := by
 have hz : (List.replicate 32 0#8 : DigP) = zeroD := rfl
 have hl : (ofN (List.length x.2.2.2.2.2) == 0) = decide ((iL x).length = 0) := len0 _
 have hN : (x.2.2.2.1 == 0) = decide (iN x = 0) := beq_dec _ _
 have hH : eqL T.u8 x.2.2.2.2.1 (List.replicate 32 0#8) = decide (iH x = zeroD) := by
  rw [eqL_u8]; exact beq_dec _ _
 have hC : (checkS x.2.2.2.2.2 == 0) = decide (checkS (iL x) = 0) := beq_dec _ _
 have hB : (ofN (List.length (belowV x.2.2.2.2.2 (x.2.1, x.2.2.1))) == ofN (List.length x.2.2.2.2.2)) = decide ((belowV (iL x) (iP x)).length = (iL x).length) := lenEq _ _
 rw [hl, hN, hH, hC, hB]
 have hP : (x.2.1, x.2.2.1) = iP x := rfl
 rw [hP]
 have hA : (decide (iN x = 0) && decide (iH x = zeroD) && decide (checkS (iL x) = 0)) = true → ascV x.2.2.2.2.2 = true ∧ rightB (iP x) = true ∨ rightB (iP x) = false := fun h => by
  simp only [Bool.and_eq_true, decide_eq_true_eq] at h
  cases rightB (iP x) with
  | true => exact .inl ⟨(checkS_zero.1 h.2).2, rfl⟩
  | false => exact .inr rfl
 have hA' : rightB (iP x) = true → (decide (iN x = 0) && decide (iH x = zeroD) && decide (checkS (iL x) = 0)) = true → ascV x.2.2.2.2.2 = true ∧ rightB (iP x) = true ∧ List.length x.2.2.2.2.2 ≤ 1000000 := fun hr h => by
  simp only [Bool.and_eq_true, decide_eq_true_eq] at h
  have := checkS_zero.1 h.2
  exact ⟨this.2, hr, Nat.le_trans this.1 (by omega)⟩
 unfold goodV goodB rightV
 cases hr : rightB (iP x) with
 | false => exact ⟨fun _ => rfl, fun q => (by cases q)⟩
 | true =>
   rw [show decide (0 ≤ x.2.2.2.1) = decide (0 ≤ iN x) from rfl, show decide (x.2.2.2.1 ≤ 65536) = decide (iN x ≤ 65536) from rfl]
   refine ⟨fun q => (by cases q), fun _ => ⟨fun q1 => ?_, fun q1 => ⟨fun q2 => ?_, fun q2 => ⟨fun q3 => ?_, fun q3 => ⟨fun q4 => ?_, fun q4 => ?_⟩⟩⟩⟩⟩
   · rw [q1]
     simp only [cond_true, Bool.true_and]
     exact two_way _
   · rw [q1, q2]
     simp only [cond_true, cond_false, Bool.true_and]
     exact two_way _
   · rw [q1, q2, q3]
     simp only [cond_false, Bool.true_and, Bool.true_or]
     exact ⟨fun h => ⟨(hA' hr h).1, trivial, (hA' hr h).2.2⟩, two_way _⟩
   · rw [q1, q2, q4]
     simp only [cond_false, Bool.true_and, Bool.or_true]
     exact ⟨fun h => ⟨(hA' hr h).1, trivial, (hA' hr h).2.2⟩, two_way _⟩
   · rw [q1, q2, q3, q4]
     exact ⟨fun _ => rfl, fun h => (by cases h)⟩

theorem recon_Begin_vc (l : List DigP) :
 ((checkS l != 0) = true → nilOf (Int × Int × List (BitVec 8) × Int × List (BitVec 8) × List (List (BitVec 8))) = (beginW l).1 ∧ checkS l = (beginW l).2) ∧
  ((checkS l != 0) = false → okB l (ofN 0, List.replicate 32 0#8) ∧ [sumV l (ofN 0, List.replicate 32 0#8)] = (beginW l).1 ∧ 0 = (beginW l).2) := by
 unfold beginW
 refine ⟨fun q => ?_, fun q => ?_⟩
 · have : (checkS l == 0) = false := by simpa using q
   rw [this]; exact ⟨rfl, rfl⟩
 · have h0 : checkS l = 0 := by simpa using q
   have hk := checkS_zero.1 h0
   refine ⟨⟨hk.2, root_right, by omega⟩, ?_⟩
   rw [h0]; exact ⟨rfl, rfl⟩

theorem recon_of_vc (xs ys : List DigP) (hl : ys.length ≤ 100000000) :
 List.length ys ≤ 100000000 ∧
  (List.length ys < 4611686018427387904 ∧ ∀ (x : List (BitVec 8)), List.Mem x ys → ∀ (y : List (BitVec 8)), List.Mem y ys → ¬cmpV x y < 0 → ¬cmpV y x < 0 → x = y) ∧
  List.length (List.mergeSort ys (leF cmpV)) ≤ 100000000 ∧ onceV (List.mergeSort ys (leF cmpV)) = risV ys := by
 have hm : (List.mergeSort ys (leF cmpV)).length = ys.length := (List.mergeSort_perm ys (leF cmpV)).length_eq
 refine ⟨hl, ⟨by omega, fun x _ y _ h1 h2 => ?_⟩, by omega, once_sort ys⟩
 have h1 : lessL x y = false := by
  rw [← cmp_less, decide_eq_false_iff_not]; exact h1
 have h2 : lessL y x = false := by
  rw [← cmp_less, decide_eq_false_iff_not]; exact h2
 exact lessL_tri h1 h2

theorem ofF_body (d e : DigP) (t : T) (xs : List t.den) : ∃ ann, bodyVC P (gam [(f_recon_compare, c_rcmp)]) ann b_recon_rowarapi_Digest_of_f1 false [svOfT T_Dig d, svOfT T_Dig e, .ipt [.one (.imm t xs), x_fn]] ⟨none, .sv (.dv (.bool (cmpV d e == 0))), none, none⟩ := body_ok an_none (recon_ofF_vc d e t xs) (by kernel_rfl)
theorem Compact_body (xs : List DigP) (t : T) (ys : List t.den) (h : xs.length ≤ 100000000) : ∃ ann, bodyG P (gam [(f_recon_rowarapi_Digest_of_f1, c_ofF)]) ann b_slices_CompactFunc_Digest [(1, .row t_api_Digest 32 T_Dig xs false)] [.ref (.row 1), .clo f_recon_rowarapi_Digest_of_f1 [[.one (.imm t ys), x_fn]]] ⟨some (xs.length ≤ 100000000), .sv (.ref (.row 2)), [(2, .row t_api_Digest 32 T_Dig (onceV xs) false)]⟩ := bodyG_ok (an_Compact xs) (slices_Compact_vc xs t ys h) (by kernel_rfl)

theorem slices_CloneW_spec : Vse.Spec P f_slices_Clone_Digest c_CloneW := spec_gf (l := []) trivial h_slices_Clone_Digest rfl rfl fun x h _ => bodyG_ok an_CloneW (slices_CloneW_vc x.1 (got h)) (by kernel_rfl)

theorem slices_CloneD_spec : Vse.Spec P f_slices_Clone_Digest c_CloneD := spec_fn (l := []) trivial h_slices_Clone_Digest rfl rfl fun x h _ => body_ok an_none (slices_CloneD_vc x.1 (got h)) (by kernel_rfl)

theorem recon_ofF_spec : Vse.Spec P f_recon_rowarapi_Digest_of_f1 c_ofF := by
 refine spec_of_body (gam_ok (l := [(f_recon_compare, c_rcmp)]) ⟨recon_compare_spec, trivial⟩) h_recon_rowarapi_Digest_of_f1 rfl rfl ⟨rfl, rfl⟩ (fun ins r hr => ?_) (fun ins r hr hvc hok => ?_)
 all_goals
  unfold c_ofF at hr
  simp only at hr
  split at hr
  case h_2 => cases hr
  rename_i s q t xs f a b
  split at hr
  case h_2 => cases hr
  rename_i d e hd he
  cases hb : (Nat.beq f f_recon_compare && noL a && noL b) with
  | false => rw [hb] at hr; cases hr
  | true =>
    rw [hb] at hr
    simp only [cond_true, Option.some.injEq] at hr; subst hr
    first
    | rfl
    | have e1 := decArg_eq hd
      have e2 := decArg_eq he
      simp only [Bool.and_eq_true] at hb
      have e3 := Nat.eq_of_beq_eq_true hb.1.1
      have e4 := noL_eq hb.1.2
      have e5 := noL_eq hb.2
      subst e1; subst e2; subst e3; subst e4; subst e5
      exact ofF_body d e t xs

theorem slices_Compact_spec : Vse.Spec P f_slices_CompactFunc_Digest c_Compact := by
 refine specG_of_body (gam_ok (l := [(f_recon_rowarapi_Digest_of_f1, c_ofF)]) ⟨recon_ofF_spec, trivial⟩) h_slices_CompactFunc_Digest rfl rfl fun ins heap r hr hvc hok hhp => ?_
 split at hr
 case h_2 => cases hr
 rename_i p g t ys f a b
 cases hb : (Nat.beq g f_recon_rowarapi_Digest_of_f1 && Nat.beq f f_recon_compare && noL a && noL b) with
 | false => rw [hb] at hr; cases hr
 | true =>
   rw [hb] at hr
   simp only [cond_true] at hr
   split at hr
   case h_2 => cases hr
   rename_i xs hx
   simp only [Option.some.injEq] at hr; subst hr
   simp only [Bool.and_eq_true] at hb
   have e1 := Nat.eq_of_beq_eq_true hb.1.1.1
   have e2 := Nat.eq_of_beq_eq_true hb.1.1.2
   have e3 := noL_eq hb.1.2
   have e4 := noL_eq hb.2
   obtain ⟨e5, e6⟩ := rowArg_eq hx
   subst e1; subst e2; subst e3; subst e4; subst e5; subst e6
   exact Compact_body xs t ys (got hvc)

theorem swoD : Go.Sort.SWO (fun x y : DigP => decide (cmpV x y < 0)) := by
 have e : (fun x y : DigP => decide (cmpV x y < 0)) = fun x y => lessL x y := by
  funext x y; exact cmp_less _ _
 rw [e]
 exact ⟨fun x => lessL_irr _, fun x y z h k => lessL_trans h k, fun x y z h k => lessL_lele k h⟩
theorem slices_SortFunc_spec : Vse.Spec P f_slices_SortFunc_Digest c_sortDig :=
 spec_sortF rfl (by decide) recon_compare_spec swoD ⟨_, _, h_slices_SortFunc_Digest, rfl, rfl⟩
  (fun α _ enc hk h1 cf hO blk cap d w hc hH hb hd => Go.Proofs.AnyQ.slices_SortFunc Go.Proofs.Try.sortDig 32 Go.Proofs.Try.isAgg42 Go.Proofs.Try.sizeOf42 enc hk h1 cf hO f_recon_compare #[] blk 0 cap d w (Go.Proofs.enters_of Go.Proofs.Try.func64 (by kernel_rfl) rfl) hc hH hb hd)
  (fun p cap fv w => Go.Proofs.AnyF.slices_SortFunc_none Go.Proofs.Try.sortDig p cap fv w)

theorem recon_of_spec : Vse.Spec P f_recon_rowarapi_Digest_of c_rowOf := spec_R1 (l := [(f_slices_Clone_Digest, c_CloneW), (f_slices_SortFunc_Digest, c_sortDig), (f_slices_CompactFunc_Digest, c_Compact)]) ⟨slices_CloneW_spec, slices_SortFunc_spec, slices_Compact_spec, trivial⟩ h_recon_rowarapi_Digest_of rfl rfl (fun _ _ => rfl) fun xs x h _ _ => body_ok an_none (recon_of_vc xs x.1 (got h)) (by kernel_rfl)

theorem recon_summary_spec : Vse.Spec P f_recon_summary c_summary := spec_fn (l := [(f_recon_below, c_rbelow), (f_sha_Sum, c_shaSum)]) ⟨recon_below_spec, sha_Sum_spec, trivial⟩ h_recon_summary rfl rfl fun x h ok => body_ok (an_summary x.1 x.2.1) (recon_summary_vc x.1 x.2.1 (got h) (okRow_slc ok.1).2) (by kernel_rfl)

theorem recon_parts_spec : Vse.Spec P f_recon_parts c_parts := spec_fn (l := []) trivial h_recon_parts rfl rfl fun x h ok => body_ok (an_parts x.1) (recon_parts_vc x.1 (got h) ok.1.2.1) (by kernel_rfl)

theorem recon_Good_spec : Vse.Spec P f_recon_Good c_Good := spec_fn (l := [(f_recon_Right, c_rRight), (f_recon_Check, c_rCheckS), (f_recon_below, c_rbelow)]) ⟨recon_Right_spec, recon_Check_spec, recon_below_spec, trivial⟩ h_recon_Good rfl rfl fun x _ _ => body_ok (annP an_none) (recon_Good_vc x.1) (by kernel_rfl)

theorem recon_Begin_spec : Vse.Spec P f_recon_Begin c_Begin := spec_fn (l := [(f_recon_Check, c_rCheckS), (f_recon_summary, c_summary)]) ⟨recon_Check_spec, recon_summary_spec, trivial⟩ h_recon_Begin rfl rfl fun x _ _ => body_ok an_none (recon_Begin_vc x.1) (by kernel_rfl)

end Go.Sal
