/- Contracts of the document's answer for recon. -/
import Derived.Test.YtglkhgodeghnlaaQCRcn3
set_option maxRecDepth 100000
namespace Go.Sal
open Go.Vse Go.Sal.Nm

def bitI (d : DigP) (i : Int) : Int := bif bitV d i.toNat then 1 else 0
def c_bit : PC := D [T_Dig, .i64] [.i64] (fun x => some (leP 0 x.2.1 ∧ leP x.2.1 255)) (fun x => (bitI x.1 x.2.1, ()))
def withV (d : DigP) (i b : Int) : DigP := bif b == 1 then setB d i.toNat else d
def c_with : PC := D [T_Dig, .i64, .i64] [T_Dig] (fun x => some (leP 0 x.2.1 ∧ leP x.2.1 255 ∧ (eqP (α := Int) x.2.2.1 0 ∨ eqP (α := Int) x.2.2.1 1) ∧ bitV x.1 x.2.1.toNat = false)) (fun x => (withV x.1 x.2.1 x.2.2.1, ()))
def c_RightR : PC := D [T_Pre] [.i64] (fun _ => none) (fun x => (rightV x.1, ()))
def an_RightR (p : Pre) : Nat → SState → Option LoopAnn
 | 4, _ => some { X := Nat, slots := fun i => [(3, .sv (.dv (.i64 (ofN i))))], objs := fun _ => [], inv := fun i => p.1.toNat ≤ i ∧ i ≤ 256 ∧ ∀ j, p.1.toNat ≤ j → j < i → bitV p.2 j = false, meas := fun i => 256 - i }
 | _, _ => none
def an_CheckR (l : List DigP) : Nat → SState → Option LoopAnn
 | 4, _ => some { X := Nat, slots := fun k => [(3, .sv (.dv (.i64 (ofN k))))], objs := fun _ => [], inv := fun k => 1 ≤ k ∧ (List.range (k - 1)).all (ascB l) = true ∧ (k ≤ l.length ∨ k = 1), meas := fun k => l.length - k }
 | _, _ => none
def c_Under : PC := D [T_Dig, T_Pre] [.bool] (fun x => some (leP x.2.1.1 256)) (fun x => (underV x.1 x.2.1, ()))
def an_Under (d : DigP) (p : Pre) : Nat → SState → Option LoopAnn
 | 2, _ => some { X := Nat, slots := fun i => [(5, .sv (.dv (.i64 (ofN i))))], objs := fun _ => [], inv := fun i => (i ≤ p.1.toNat) ∧ (List.range i).all (fun j => bitV d j == bitV p.2 j) = true, meas := fun i => p.1.toNat - i }
 | _, _ => none
def partR1 (p : Pre) (b : Int) : List Pre := bif p.1 == 255 then [(p.1 + 1, withV p.2 p.1 b)] else [(p.1 + 2, withV (withV p.2 p.1 b) (p.1 + 1) 0), (p.1 + 2, withV (withV p.2 p.1 b) (p.1 + 1) 1)]
def partR (p : Pre) (k : Nat) : List Pre := bif Nat.beq k 0 then [] else bif Nat.beq k 1 then partR1 p 0 else partR1 p 0 ++ partR1 p 1
def c_PartsR : PC := D [T_Pre] [.slc T_Pre, .i64] (fun _ => none) (fun x => ((partsW x.1).1, (partsW x.1).2, ()))
def an_PartsR (p : Pre) : Nat → SState → Option LoopAnn
 | 7, S => some { X := Nat, slots := fun b => [(5, .sv (.dv (.i64 (ofN b)))), (4, .sv (.own 10 T_Pre (partR p b)))], objs := fun _ => [(10, .tok t_api_Prefix 33), (x_tok S 4, .gone)], inv := fun b => b ≤ 2, meas := fun b => 2 - b }
 | 13, S => some { X := Nat, slots := fun c => [(7, .sv (.dv (.i64 (ofN c)))), (4, .sv (.own 10 T_Pre (partR p (x_int S 5).toNat ++ (partR1 p (x_int S 5)).take c)))], objs := fun _ => [(10, .tok t_api_Prefix 33)], inv := fun c => c ≤ 2, meas := fun c => 2 - c }
 | _, _ => none
def c_belowR : PC := D [.slc T_Dig, T_Pre] [.slc T_Dig] (fun x => some (leP x.2.1.1 256 ∧ x.1.length ≤ 100000000)) (fun x => (belowV x.1 x.2.1, ()))
def an_belowR (l : List DigP) (p : Pre) : Nat → SState → Option LoopAnn
 | 3, S => some { X := Nat, slots := fun k => [(6, .sv (.dv (.i64 (ofN k)))), (5, .sv (.own 10 T_Dig (belowV (l.take k) p)))], objs := fun _ => [(10, .tok t_api_Digest 32), (x_tok S 5, .gone)], inv := fun k => k ≤ l.length, meas := fun k => l.length - k }
 | _, _ => none
def c_allR : PC := D [.slc T_Dig] [.slc .u8] (fun x => some (x.1.length ≤ 10000000)) (fun x => (x.1.flatten, ()))
def an_allR (l : List DigP) : Nat → SState → Option LoopAnn
 | 3, S => some { X := Nat, slots := fun k => [(4, .sv (.dv (.i64 (ofN k)))), (3, .sv (.own 10 .u8 (allI l k)))], objs := fun _ => [(10, .tok t_uint8 1), (x_tok S 3, .gone)], inv := fun k => k ≤ l.length, meas := fun k => l.length - k }
 | _, _ => none
def c_sumR : PC := D [.slc T_Dig, T_Pre] [T_Item] (fun x => some (leP x.2.1.1 256 ∧ x.1.length ≤ 1000000)) (fun x => (sumV x.1 x.2.1, ()))
def c_In : PC := D [.slc T_Dig, T_Dig] [.bool] (fun _ => none) (fun x => (hasD x.1 x.2.1, ()))
def an_In (l : List DigP) (d : DigP) : Nat → SState → Option LoopAnn
 | 2, _ => some { X := Nat, slots := fun k => [(5, .sv (.dv (.i64 (ofN k))))], objs := fun _ => [], inv := fun k => k ≤ l.length ∧ hasD (l.take k) d = false, meas := fun k => l.length - k }
 | _, _ => none
def c_without : PC := D [.slc T_Dig, .slc T_Dig] [.slc T_Dig] (fun x => some (x.1.length ≤ 100000000)) (fun x => (lessV x.1 x.2.1, ()))
def an_without (a b : List DigP) : Nat → SState → Option LoopAnn
 | 3, S => some { X := Nat, slots := fun k => [(6, .sv (.dv (.i64 (ofN k)))), (5, .sv (.own 10 T_Dig (lessV (a.take k) b)))], objs := fun _ => [(10, .tok t_api_Digest 32), (x_tok S 5, .gone)], inv := fun k => k ≤ a.length, meas := fun k => a.length - k }
 | _, _ => none
def summedV (l : List DigP) (x : Item) : List Item := if toV l x = 0 then [] else if toV l x = 1 then [listI 3 (iP x) (belowV l (iP x))] else if toV l x = 2 then [listI 2 (iP x) []] else (partsV (iP x)).map (sumV l)
def c_summed : PC := D [.slc T_Dig, T_Item] [.slc T_Item] (fun x => some (rightB (iP x.2.1) = true ∧ x.1.length ≤ 1000000)) (fun x => (summedV x.1 x.2.1, ()))
def an_summed (l : List DigP) (x : Item) : Nat → SState → Option LoopAnn
 | 11, S => some { X := Nat, slots := fun k => [(9, .sv (.dv (.i64 (ofN k)))), (6, .sv (.own 10 T_Item (((partsV (iP x)).take k).map (sumV l))))], objs := fun _ => [(10, .tok t_api_Item 68), (x_tok S 6, .gone)], inv := fun k => k ≤ (partsV (iP x)).length, meas := fun k => (partsV (iP x)).length - k }
 | _, _ => none
def an_RespR (l : List DigP) (xs : List Item) : Nat → SState → Option LoopAnn
 | 4, _ => some { X := Nat, slots := fun k => [(8, .sv (.dv (.i64 (ofN k))))], objs := fun _ => [], inv := fun k => k ≤ xs.length ∧ (xs.take k).all goodB = true, meas := fun k => xs.length - k }
 | 11, S => some { X := Nat, slots := fun k => [(12, .sv (.dv (.i64 (ofN k)))), (9, .sv (.own 10 T_Item ((xs.take k).flatMap (outV l)))), (10, .sv (.own 11 T_Dig ((xs.take k).flatMap (lackV l)))), (11, .sv (.own 12 T_Dig ((xs.take k).flatMap (otherV l))))], objs := fun _ => [(10, .tok t_api_Item 68), (11, .tok t_api_Digest 32), (12, .tok t_api_Digest 32), (x_tok S 9, .gone), (x_tok S 10, .gone), (x_tok S 11, .gone)], inv := fun k => k ≤ xs.length, meas := fun k => xs.length - k }
 | _, _ => none
def an_MeetR (a b : List DigP) : Nat → SState → Option LoopAnn
 | 6, S => some { X := Nat, slots := fun k => [(12, .sv (.dv (.i64 (ofN k + 1)))), (8, .sv (.dv (.imm T_Item (stepsM a b k).way))), (10, .sv (.own 10 T_Dig (stepsM a b k).la)), (11, .sv (.own 11 T_Dig (stepsM a b k).lb))], objs := fun _ => [(10, .tok t_api_Digest 32), (11, .tok t_api_Digest 32), (x_tok S 10, .gone), (x_tok S 11, .gone)], inv := fun k => k ≤ 140 ∧ ∀ j, j ≤ k → (stepsM a b j).way ≠ [], meas := fun k => 2000 - k }
 | _, _ => none
def sameIs (a b : List Item) : Bool := haveI := (T.slc T_Item).deq; decide (a = b)
def c_SameAll : PC := D [.slc T_Item, .slc T_Item] [.bool] (fun _ => none) (fun x => (sameIs x.1 x.2.1, ()))
def an_SameAll (a b : List Item) : Nat → SState → Option LoopAnn
 | 4, _ => some { X := Nat, slots := fun i => [(5, .sv (.dv (.i64 (ofN i))))], objs := fun _ => [], inv := fun i => i ≤ a.length ∧ a.take i = b.take i, meas := fun i => a.length - i }
 | _, _ => none
def clashV (a b : List DigP) (d : DigP) (n : Nat) : Bool := !sameDg (belowV a ((n : Int), maskV d (n : Int) false)) (belowV b ((n : Int), maskV d (n : Int) false)) && decide (sha (belowV a ((n : Int), maskV d (n : Int) false)).flatten = sha (belowV b ((n : Int), maskV d (n : Int) false)).flatten)
def twiceK (a b : List DigP) (k : Nat) : Bool := ((a ++ b).take k).any fun d => (List.range 257).any (clashV a b d)
def twiceV (a b : List DigP) : Bool := twiceK a b (a ++ b).length
def c_Twice : PC := D [.slc T_Dig, .slc T_Dig] [.bool] (fun x => some (x.1.length ≤ 1000000 ∧ x.2.1.length ≤ 1000000)) (fun x => (twiceV x.1 x.2.1, ()))
def an_Twice (a b : List DigP) : Nat → SState → Option LoopAnn
 | 3, _ => some { X := Nat, slots := fun k => [(6, .sv (.dv (.i64 (ofN k))))], objs := fun _ => [], inv := fun k => k ≤ (a ++ b).length ∧ twiceK a b k = false, meas := fun k => (a ++ b).length - k }
 | 6, S => some { X := Nat, slots := fun n => [(7, .sv (.dv (.i64 (ofN n))))], objs := fun _ => [], inv := fun n => n ≤ 257 ∧ (List.range n).any (clashV a b ((a ++ b).getD (x_int S 6).toNat T_Dig.dflt)) = false, meas := fun n => 257 - n }
 | 10, S => some { X := Nat, slots := fun k => [(9, .sv (.dv (.i64 (ofN k))))], objs := fun k => [(x_labAt S 8, .cells [.run (.one (.i64 (x_int S 7))), .run (.many .u8 32 (maskV ((a ++ b).getD (x_int S 6).toNat T_Dig.dflt) (ofN k) false))] false)], inv := fun k => ofN k ≤ x_int S 7, meas := fun k => (x_int S 7).toNat - k }
 | _, _ => none

theorem nat_of {i : Int} (h : 0 ≤ i) : ∃ N : Nat, i = (N : Int) := ⟨i.toNat, by omega⟩
theorem shift28 : ∀ m : Fin 8, BitVec.toNat (BitVec.ofInt 64 (7 - ((m.val : Nat) : Int))) = 7 - m.val := by decide
theorem add28 : ∀ m : Fin 8, ∀ x : Fin 256, (BitVec.ofFin (w := 8) x).getLsbD (7 - m.val) = false → BitVec.ofFin (w := 8) x + BitVec.ofInt 8 (1 * 2 ^ (7 - m.val)) = BitVec.ofFin (w := 8) x ||| (128#8 >>> m.val) := by decide +kernel
theorem bitI_two (d : DigP) (i : Int) : bitI d i = 0 ∨ bitI d i = 1 := by
 unfold bitI
 cases bitV d i.toNat
 · exact .inl rfl
 · exact .inr rfl
theorem set_same {d : DigP} {i : Nat} : d.set i (d.getD i 0#8) = d := by
 apply List.ext_getElem?
 intro j
 rw [List.getElem?_set]
 split
 · rename_i e; subst e
   split
   · rename_i h; rw [getD_lt h, List.getElem?_eq_getElem h]
   · rename_i h; rw [List.getElem?_eq_none (by omega)]
 · rfl
theorem with0 (d : DigP) (i : Int) : withV d i 0 = d := rfl
theorem with1 (d : DigP) (i : Int) : withV d i 1 = setB d i.toNat := rfl
theorem not_right {p : Pre} (h : rightB p = false) : rightV p = 280 := by unfold rightV; rw [h]; rfl
theorem is_right {p : Pre} (h : rightB p = true) : rightV p = 0 := by unfold rightV; rw [h]; rfl
theorem partR1_a {p : Pre} (h : (p.1 == 255) = true) (b : Int) : partR1 p b = [(p.1 + 1, withV p.2 p.1 b)] := by unfold partR1; rw [h]; rfl
theorem partR1_b {p : Pre} (h : (p.1 == 255) = false) (b : Int) : partR1 p b = [(p.1 + 2, withV (withV p.2 p.1 b) (p.1 + 1) 0), (p.1 + 2, withV (withV p.2 p.1 b) (p.1 + 1) 1)] := by unfold partR1; rw [h]; rfl
theorem partR_all {p : Pre} (hr : rightB p = true) (hn : (p.1 == 256) = false) (hd : p.2.length = 32) : partR p 2 = partsV p := by
 have e : partR p 2 = partR1 p 0 ++ partR1 p 1 := rfl
 obtain ⟨(n : Int), (d : DigP)⟩ := p
 obtain ⟨r1, _, _⟩ := (right_iff (p := (n, d)) hd).1 hr
 have r1 : (0 : Int) ≤ n := r1
 have hn : (n == (256 : Int)) = false := hn
 have hn' : ¬ n = (256 : Int) := by simpa using hn
 rw [e]
 cases h5 : (n == (255 : Int)) with
 | true =>
   have h5' : n = (255 : Int) := by simpa using h5
   rw [partR1_a h5, partR1_a h5]
   subst h5'
   unfold partsV
   rw [if_neg hn', if_pos rfl]; rfl
 | false =>
   have h5' : ¬ n = (255 : Int) := by simpa using h5
   rw [partR1_b h5, partR1_b h5]
   unfold partsV
   rw [if_neg hn', if_neg h5']
   have e1 : Int.toNat (n + 1) = Int.toNat n + 1 := by omega
   show [((n : Int) + 2, d), (n + 2, setB d (Int.toNat (n + 1))), (n + 2, setB d (Int.toNat n)), (n + 2, setB (setB d (Int.toNat n)) (Int.toNat (n + 1)))] = _
   rw [e1]
theorem partR_le (p : Pre) (k : Nat) : (partR p k).length ≤ 4 := by
 have h1 : ∀ b, (partR1 p b).length ≤ 2 := fun b => by
  unfold partR1
  cases (p.1 == 255)
  · exact Nat.le_refl _
  · exact Nat.le_succ _
 unfold partR
 cases Nat.beq k 0
 · cases Nat.beq k 1
   · show (partR1 p 0 ++ partR1 p 1).length ≤ 4
     rw [List.length_append]
     have := h1 0
     have := h1 1
     omega
   · exact Nat.le_trans (h1 0) (by decide)
 · exact Nat.zero_le _
theorem belowV_snoc {l : List DigP} {p : Pre} {k : Nat} (h : k < l.length) : belowV (l.take (k + 1)) p = belowV (l.take k) p ++ (if underV (l.getD k dig0) p = true then [l.getD k dig0] else []) := by
 unfold belowV
 rw [take_snoc' (d := dig0) h, List.filter_append]
 congr 1
 cases hq : underV (l.getD k dig0) p with
 | true => rw [if_pos rfl, List.filter_cons_of_pos (by rw [hq])]; rfl
 | false => rw [if_neg (by decide), List.filter_cons_of_neg (by rw [hq]; decide)]; rfl
theorem le256 {p : Pre} (h : rightB p = true) : p.1 ≤ (256 : Int) := by
 unfold rightB at h
 simp only [Bool.and_eq_true, decide_eq_true_eq] at h
 exact h.1.2

theorem flat_len28 {l : List DigP} (h : ∀ d ∈ l, d.length = 32) (p : Pre) : (belowV l p).flatten.length ≤ 32 * l.length := by
 have h1 := all_len (l := belowV l p) (fun d hd => h d (List.mem_filter.1 hd).1) (belowV l p).length
 unfold allI at h1
 rw [List.take_length] at h1
 have := belowV_le l p
 omega
theorem below_two (l : List DigP) (p : Pre) : belowW l p = bif askedV l p == 0 then (belowV l p, 0) else ([], askedV l p) := rfl
theorem sum_two (l : List DigP) (p : Pre) : sumW l p = bif askedV l p == 0 then (sumV l p, 0) else (item0, askedV l p) := rfl
theorem asked_a {l : List DigP} {p : Pre} (h : ¬ checkS l = 0) : askedV l p = 281 := by
 have := (check_two l).resolve_left h
 unfold askedV
 rw [this]; rfl
theorem asked_b {l : List DigP} {p : Pre} (h : checkS l = 0) : askedV l p = rightV p := by
 unfold askedV
 rw [h]; rfl
theorem hasD_snoc {l : List DigP} {d : DigP} {k : Nat} (h : k < l.length) : hasD (l.take (k + 1)) d = (hasD (l.take k) d || (l.getD k dig0 == d)) := by
 rw [Bool.eq_iff_iff, Bool.or_eq_true, hasD_iff, hasD_iff, take_snoc' (d := dig0) h, List.mem_append, List.mem_singleton, beq_iff_eq, eq_comm (a := d)]

theorem sameIs_iff {a b : List Item} : sameIs a b = true ↔ a = b := ⟨fun h => @of_decide_eq_true (a = b) ((T.slc T_Item).deq a b) h, fun h => @decide_eq_true (a = b) ((T.slc T_Item).deq a b) h⟩
theorem sameIs_no {a b : List Item} (h : ¬ a = b) : sameIs a b = false := by
 cases hq : sameIs a b with
 | false => rfl
 | true => exact absurd (sameIs_iff.1 hq) h
theorem flat_leI {f : Item → List Item} {n : Nat} : ∀ {W : List Item}, (∀ x ∈ W, (f x).length ≤ n) → (W.flatMap f).length ≤ n * W.length
 | [], _ => Nat.le_refl _
 | x :: r, h => by
   have ih := flat_leI (f := f) (n := n) (W := r) fun y hy => h y (List.mem_cons_of_mem _ hy)
   have := h x (by simp)
   rw [List.flatMap_cons, List.length_append, List.length_cons, Nat.mul_add]
   omega
theorem flat_snoc {α : Type} {f : Item → List α} {xs : List Item} {k : Nat} (h : k < xs.length) : (xs.take (k + 1)).flatMap f = (xs.take k).flatMap f ++ f (xs.getD k T_Item.dflt) := by
 rw [take_snocI h, List.flatMap_append]; simp
theorem out_summed {l : List DigP} {x : Item} (h : x.1 = 1) : outV l x = summedV l x := by
 unfold outV summedV
 rw [if_neg (by rw [h]; decide), if_neg (by rw [h]; decide), if_neg (by rw [h]; decide)]
theorem mask0 (d : DigP) (hd : d.length = 32) : (List.replicate 32 0#8 : DigP) = maskV d 0 false := by
 refine dig_ext rfl (by rw [maskV_len, hd]) fun i hi => ?_
 rw [mask_bit hd hi, if_neg (by omega)]
 have : ((List.replicate 32 0#8 : DigP)).getD (i / 8) 0#8 = 0#8 := by
  rw [List.getD_eq_getElem?_getD, List.getElem?_replicate]
  split <;> rfl
 unfold bitV
 rw [this]; exact BitVec.getLsbD_zero
theorem mask_succ (d : DigP) (hd : d.length = 32) (n : Nat) (hn : n < 256) : withV (maskV d (n : Int) false) (n : Int) (bitI d (n : Int)) = maskV d ((n : Int) + 1) false := by
 have hm : (maskV d (n : Int) false).length = 32 := by rw [maskV_len, hd]
 have e1 : bitI d (n : Int) = bif bitV d n then 1 else 0 := rfl
 cases hb : bitV d n with
 | false =>
   rw [e1, hb, cond_false, with0]
   refine dig_ext hm (by rw [maskV_len, hd]) fun i hi => ?_
   rw [mask_bit hd hi, mask_bit hd hi]
   by_cases h : i = n
   · subst h; rw [if_neg (by omega), if_pos (by omega), hb]
   · by_cases h2 : (i : Int) < (n : Int)
     · rw [if_pos h2, if_pos (by omega)]
     · rw [if_neg h2, if_neg (by omega)]
 | true =>
   rw [e1, hb, cond_true, with1, Int.toNat_natCast]
   refine dig_ext (by rw [setB_len, hm]) (by rw [maskV_len, hd]) fun i hi => ?_
   rw [setB_bit hm hn, mask_bit hd hi, mask_bit hd hi]
   by_cases h : n = i
   · subst h; rw [decide_eq_true rfl, Bool.true_or, if_pos (by omega), hb]
   · rw [decide_eq_false h, Bool.false_or]
     by_cases h2 : (i : Int) < (n : Int)
     · rw [if_pos h2, if_pos (by omega)]
     · rw [if_neg h2, if_neg (by omega)]

theorem ref28_bit_vc (d : DigP) (i : Int) (hd : d.length = 32) (h : 0 ≤ i ∧ i ≤ 255) :
 (ofN 8 ≠ 0 ∧ inI64 (Int.tdiv i 8)) ∧
  within (Int.tdiv i 8) 32 ∧
  ofN 8 ≠ 0 ∧ inI64 (7 - Int.tmod i 8) ∧ ofN 2 ≠ 0 ∧ Int.tmod (ofN (BitVec.toNat (List.getD d (Int.toNat (Int.tdiv i 8)) 0#8 >>> BitVec.toNat (BitVec.ofInt 64 (7 - Int.tmod i 8))))) 2 = bitI d i := by
 obtain ⟨N, rfl⟩ := nat_of h.1
 have hN : N ≤ 255 := by have := h.2; omega
 have e1 : Int.tdiv (N : Int) 8 = ((N / 8 : Nat) : Int) := rfl
 have e2 : Int.tmod (N : Int) 8 = ((N % 8 : Nat) : Int) := rfl
 have e3 := shift28 ⟨N % 8, by omega⟩
 dsimp only at e3
 rw [e1, e2, e3, Int.toNat_natCast]
 refine ⟨⟨by decide, by unfold inI64; omega⟩, ⟨by omega, by omega⟩, by decide, by unfold inI64; omega, by decide, ?_⟩
 unfold bitI
 rw [Int.toNat_natCast]
 have e4 : bitV d N = decide ((d.getD (N / 8) 0#8).toNat / 2 ^ (7 - N % 8) % 2 = 1) := Nat.testBit_eq_decide_div_mod_eq
 rw [e4, BitVec.toNat_ushiftRight, Nat.shiftRight_eq_div_pow]
 generalize (d.getD (N / 8) 0#8).toNat / 2 ^ (7 - N % 8) = y
 show ((y % 2 : Nat) : Int) = _
 have : y % 2 = 0 ∨ y % 2 = 1 := by omega
 rcases this with h | h <;> rw [h] <;> rfl

theorem ref28_with_vc (d : DigP) (i b : Int) (hd : d.length = 32) (h : 0 ≤ i ∧ i ≤ 255) (hb : b = 0 ∨ b = 1) (hc : bitV d i.toNat = false) :
 (ofN 8 ≠ 0 ∧ inI64 (Int.tdiv i 8)) ∧
  (ofN 8 ≠ 0 ∧ inI64 (Int.tdiv i 8)) ∧
  within (Int.tdiv i 8) 32 ∧
  ofN 8 ≠ 0 ∧
  inI64 (7 - Int.tmod i 8) ∧
  (BitVec.toNat (BitVec.ofInt 64 (7 - Int.tmod i 8)) ≤ 62 ∧ inI64 (b * 2 ^ BitVec.toNat (BitVec.ofInt 64 (7 - Int.tmod i 8)))) ∧
  within (Int.tdiv i 8) 32 ∧
  List.set d (Int.toNat (Int.tdiv i 8)) (List.getD d (Int.toNat (Int.tdiv i 8)) 0#8 + BitVec.ofInt 8 (b * 2 ^ BitVec.toNat (BitVec.ofInt 64 (7 - Int.tmod i 8)))) = withV d i b := by
 obtain ⟨N, rfl⟩ := nat_of h.1
 have hN : N ≤ 255 := by have := h.2; omega
 have e1 : Int.tdiv (N : Int) 8 = ((N / 8 : Nat) : Int) := rfl
 have e2 : Int.tmod (N : Int) 8 = ((N % 8 : Nat) : Int) := rfl
 have e3 := shift28 ⟨N % 8, by omega⟩
 dsimp only at e3
 have hpow : (2 : Int) ^ (7 - N % 8) ≤ 128 ∧ 1 ≤ (2 : Int) ^ (7 - N % 8) := by
  have : N % 8 = 0 ∨ N % 8 = 1 ∨ N % 8 = 2 ∨ N % 8 = 3 ∨ N % 8 = 4 ∨ N % 8 = 5 ∨ N % 8 = 6 ∨ N % 8 = 7 := by omega
  rcases this with h | h | h | h | h | h | h | h <;> rw [h] <;> decide
 rw [e1, e2, e3, Int.toNat_natCast]
 rw [Int.toNat_natCast] at hc
 refine ⟨⟨by decide, by unfold inI64; omega⟩, ⟨by decide, by unfold inI64; omega⟩, ⟨by omega, by omega⟩, by decide, by unfold inI64; omega, ⟨by omega, ?_⟩, ⟨by omega, by omega⟩, ?_⟩
 · rcases hb with rfl | rfl
   · rw [Int.zero_mul]; unfold inI64; omega
   · rw [Int.one_mul]; unfold inI64; omega
 · rcases hb with rfl | rfl
   · rw [Int.zero_mul]
     have : d.getD (N / 8) 0#8 + BitVec.ofInt 8 0 = d.getD (N / 8) 0#8 := by
      rw [show BitVec.ofInt 8 0 = 0#8 by rfl]; exact BitVec.add_zero _
     rw [this, set_same]; rfl
   · rw [with1, Int.toNat_natCast]
     unfold setB
     have := add28 ⟨N % 8, by omega⟩ (d.getD (N / 8) 0#8).toFin hc
     rw [show d.getD (N / 8) 0#8 + BitVec.ofInt 8 (1 * 2 ^ (7 - N % 8)) = d.getD (N / 8) 0#8 ||| (128#8 >>> (N % 8)) from this]

theorem ref28_Right_vc (p : Pre) (hd : p.2.length = 32) :
 ((decide (p.1 < 0) || decide (256 < p.1)) = true → 280 = rightV p) ∧
  ((decide (p.1 < 0) || decide (256 < p.1)) = false →
  (∃ (x : Nat), (Int.toNat p.1 ≤ x ∧ x ≤ 256 ∧ ∀ (j : Nat), Int.toNat p.1 ≤ j → j < x → bitV p.2 j = false) ∧ p.1 = ofN x) ∧
  ∀ (x : Nat),
  (Int.toNat p.1 ≤ x ∧ x ≤ 256 ∧ ∀ (j : Nat), Int.toNat p.1 ≤ j → j < x → bitV p.2 j = false) →
  (decide (ofN x < 256) = true →
  (0 ≤ ofN x ∧ ofN x ≤ 255) ∧
  ((bitI p.2 (ofN x) != 0) = true → 280 = rightV p) ∧
  ((bitI p.2 (ofN x) != 0) = false →
  inI64 (ofN x + 1) ∧ ∃ (x' : Nat), (Int.toNat p.1 ≤ x' ∧ x' ≤ 256 ∧ ∀ (j : Nat), Int.toNat p.1 ≤ j → j < x' → bitV p.2 j = false) ∧ 256 - x' < 256 - x ∧ ofN x + 1 = ofN x')) ∧
  (decide (ofN x < 256) = false → 0 = rightV p)) := by
 have e1 : (decide ((p.1 : Int) < 0) || decide (256 < p.1) || !eqL T.u8 (maskV p.2 p.1 false) p.2) = !rightB p := right28 p.1 p.2
 refine ⟨fun q => ?_, fun q => ?_⟩
 · have q : (decide ((p.1 : Int) < 0) || decide (256 < p.1)) = true := q
   rw [q, Bool.true_or] at e1
   rw [not_right (by simpa using e1.symm)]
 · obtain ⟨(n : Int), (d : DigP)⟩ := p
   have q : (decide (n < 0) || decide (256 < n)) = false := q
   have hri := right_iff (p := (n, d)) hd
   simp only [Bool.or_eq_false_iff, decide_eq_false_iff_not] at q
   have q1 : ¬ n < (0 : Int) := q.1
   have q2 : ¬ (256 : Int) < n := q.2
   obtain ⟨N, rfl⟩ := nat_of (i := n) (by omega)
   have eN : Int.toNat (N : Int) = N := Int.toNat_natCast N
   refine ⟨⟨N, ⟨by show Int.toNat (N : Int) ≤ N; omega, by omega, fun j h1 h2 => ?_⟩, rfl⟩, fun x hx => ⟨fun q3 => ?_, fun q3 => ?_⟩⟩
   · have h1 : Int.toNat (N : Int) ≤ j := h1
     omega
   · obtain ⟨x1, x2, x3⟩ := hx
     have x1 : Int.toNat (N : Int) ≤ x := x1
     have q3 : (x : Int) < 256 := of_decide_eq_true q3
     have eb : bitI d (ofN x) = bif bitV d x then 1 else 0 := rfl
     refine ⟨⟨by show (0 : Int) ≤ (x : Int); omega, by show (x : Int) ≤ 255; omega⟩, fun q4 => ?_, fun q4 => ⟨inN28 (by omega), x + 1, ⟨by show Int.toNat (N : Int) ≤ x + 1; omega, by omega, fun j h1 h2 => ?_⟩, by omega, rfl⟩⟩
     · have hb : bitV d x = true := by
         cases hb : bitV d x with
         | true => rfl
         | false => rw [eb, hb] at q4; cases q4
       cases hr : rightB ((N : Int), d) with
       | false => rw [not_right hr]
       | true =>
         have := (hri.1 hr).2.2 x (by omega) (by show (x : Int) ≥ (N : Int); omega)
         rw [hb] at this; cases this
     · by_cases e : j = x
       · subst e
         cases hb : bitV d j with
         | false => rfl
         | true => rw [eb, hb] at q4; cases q4
       · exact x3 j h1 (by omega)
   · have q3 : ¬ (x : Int) < 256 := of_decide_eq_false q3
     rw [is_right (hri.2 ⟨by show (0 : Int) ≤ (N : Int); omega, by show (256 : Int) ≥ (N : Int); omega, fun i hi h => hx.2.2 i (by have h : (i : Int) ≥ (N : Int) := h; show Int.toNat (N : Int) ≤ i; omega) (by omega)⟩)]

theorem ref28_Check_vc (l : List DigP) (hl : l.length ≤ LIM) :
 (decide (65536 < ofN (List.length l)) = true → 281 = checkS l) ∧
  (decide (65536 < ofN (List.length l)) = false →
  (∃ (x : Nat), (1 ≤ x ∧ List.all (List.range (x - 1)) (ascB l) = true ∧ (x ≤ List.length l ∨ x = 1)) ∧ 1 = ofN x) ∧
  ∀ (x : Nat),
  1 ≤ x ∧ List.all (List.range (x - 1)) (ascB l) = true ∧ (x ≤ List.length l ∨ x = 1) →
  (decide (ofN x < ofN (List.length l)) = true →
  inI64 (ofN x - 1) ∧
  within (ofN x - 1) (List.length l) ∧
  within (ofN x) (List.length l) ∧
  ((!lessL (List.getD l (Int.toNat (ofN x - 1)) (T.dflt (T.arr 32 T.u8))) (List.getD l (Int.toNat (ofN x)) (T.dflt (T.arr 32 T.u8)))) = true → 281 = checkS l) ∧
  ((!lessL (List.getD l (Int.toNat (ofN x - 1)) (T.dflt (T.arr 32 T.u8))) (List.getD l (Int.toNat (ofN x)) (T.dflt (T.arr 32 T.u8)))) = false →
  inI64 (ofN x + 1) ∧
  ∃ (x' : Nat), (1 ≤ x' ∧ List.all (List.range (x' - 1)) (ascB l) = true ∧ (x' ≤ List.length l ∨ x' = 1)) ∧ List.length l - x' < List.length l - x ∧ ofN x + 1 = ofN x')) ∧
  (decide (ofN x < ofN (List.length l)) = false → 0 = checkS l)) := by
 unfold LIM at hl
 have e : decide (65536 < ofN (List.length l)) = decide (65536 < List.length l) := by
  rw [decide_eq_decide]
  show (65536 : Int) < ((l.length : Nat) : Int) ↔ _
  omega
 have ec : checkS l = bif decide (65536 < l.length) || !ascV l then 281 else 0 := rfl
 rw [e]
 refine ⟨fun q => by rw [ec, q]; rfl, fun q => ?_⟩
 rw [q, Bool.false_or] at ec
 refine ⟨⟨1, ⟨Nat.le_refl _, rfl, .inr rfl⟩, rfl⟩, fun x hx => ⟨fun q1 => ?_, fun q1 => ?_⟩⟩
 · have hlt := ltN28 q1
   obtain ⟨h1, h2, _⟩ := hx
   have hc : lessL (List.getD l (Int.toNat (ofN x - 1)) (T.dflt (T.arr 32 T.u8))) (List.getD l (Int.toNat (ofN x)) (T.dflt (T.arr 32 T.u8))) = ascB l (x - 1) := by
    rw [toN28, predN28 h1]
    unfold ascB
    rw [show x - 1 + 1 = x by omega, cmp_less]
   rw [hc]
   refine ⟨by show inI64 ((x : Int) - 1); unfold inI64; omega, ⟨by show (0 : Int) ≤ (x : Int) - 1; omega, by show (x : Int) - 1 < _; omega⟩, wN28 hlt, fun q2 => ?_, fun q2 => ⟨inN28 (by omega), x + 1, ⟨by omega, asc_step h1 h2 (by simpa using q2), .inl (by omega)⟩, by omega, rfl⟩⟩
   rw [ec, asc_no h1 hlt (by simpa using q2)]; rfl
 · rw [ec, asc_end hx.2.1 (geN28 q1)]; rfl

theorem ref28_Under_vc (d : DigP) (p : Pre) (h : p.1 ≤ 256) :
 (∃ (x : Nat), (x ≤ Int.toNat p.1 ∧ (List.all (List.range x) fun (j : Nat) => bitV d j == bitV (Prod.snd p) j) = true) ∧ 0 = ofN x) ∧
  ∀ (x : Nat),
  x ≤ Int.toNat p.1 ∧ (List.all (List.range x) fun (j : Nat) => bitV d j == bitV (Prod.snd p) j) = true →
  (decide (ofN x < p.1) = true →
  (0 ≤ ofN x ∧ ofN x ≤ 255) ∧
  (0 ≤ ofN x ∧ ofN x ≤ 255) ∧
  ((bitI d (ofN x) != bitI p.2 (ofN x)) = true → false = underV d p) ∧
  ((bitI d (ofN x) != bitI p.2 (ofN x)) = false →
  inI64 (ofN x + 1) ∧
  ∃ (x' : Nat),
  (x' ≤ Int.toNat p.1 ∧ (List.all (List.range x') fun (j : Nat) => bitV d j == bitV (Prod.snd p) j) = true) ∧ Int.toNat p.1 - x' < Int.toNat p.1 - x ∧ ofN x + 1 = ofN x')) ∧
  (decide (ofN x < p.1) = false → true = underV d p) := by
 obtain ⟨(n : Int), (e : DigP)⟩ := p
 have h : n ≤ (256 : Int) := h
 have eu : underV d (n, e) = (List.range (Int.toNat n)).all fun j => bitV d j == bitV e j := rfl
 refine ⟨⟨0, ⟨Nat.zero_le _, rfl⟩, rfl⟩, fun x hx => ⟨fun q => ?_, fun q => ?_⟩⟩
 · obtain ⟨x1, x2⟩ := hx
   have x1 : x ≤ Int.toNat n := x1
   have q : (x : Int) < n := of_decide_eq_true q
   have e1 : bitI d (ofN x) = bif bitV d x then 1 else 0 := rfl
   have e2 : bitI e (ofN x) = bif bitV e x then 1 else 0 := rfl
   have e3 : (bitI d (ofN x) != bitI e (ofN x)) = !(bitV d x == bitV e x) := by
    rw [e1, e2]
    cases bitV d x <;> cases bitV e x <;> rfl
   have w : (0 : Int) ≤ ofN x ∧ (ofN x : Int) ≤ 255 := ⟨by show (0 : Int) ≤ (x : Int); omega, by show (x : Int) ≤ 255; omega⟩
   dsimp only
   rw [e3]
   refine ⟨w, w, fun q2 => ?_, fun q2 => ⟨inN28 (by omega), x + 1, ⟨by show x + 1 ≤ Int.toNat n; omega, ?_⟩, by show Int.toNat n - (x + 1) < Int.toNat n - x; omega, rfl⟩⟩
   · cases hu : underV d (n, e) with
     | false => rfl
     | true =>
       rw [eu, List.all_eq_true] at hu
       have := hu x (List.mem_range.2 (by omega))
       rw [this] at q2; cases q2
   · have q2 : (bitV d x == bitV e x) = true := by simpa using q2
     have x2 : ((List.range x).all fun j => bitV d j == bitV e j) = true := x2
     rw [List.range_succ, List.all_append, List.all_cons, List.all_nil, q2]
     rw [x2]; rfl
 · have q : ¬ (x : Int) < n := of_decide_eq_false q
   have x1 : x ≤ Int.toNat n := hx.1
   have : x = Int.toNat n := by omega
   subst this
   exact hx.2.symm

theorem ref28_Parts_vc (p : Pre) (hd : p.2.length = 32) :
 ((rightV p != 0) = true → nilOf (Int × List (BitVec 8)) = (partsW p).1 ∧ 280 = (partsW p).2) ∧
  ((rightV p != 0) = false →
  ((p.1 == 256) = true → nilOf (Int × List (BitVec 8)) = (partsW p).1 ∧ 0 = (partsW p).2) ∧
  ((p.1 == 256) = false →
  (∃ (x : Nat), x ≤ 2 ∧ 0 = ofN x ∧ partR p x = nilOf (Int × List (BitVec 8))) ∧
  ∀ (x : Nat),
  x ≤ 2 →
  (decide (ofN x < 2) = true →
  inI64 (p.1 + 1) ∧
  (0 ≤ p.1 ∧ p.1 ≤ 255 ∧ (ofN x = 0 ∨ ofN x = 1) ∧ bitV p.2 (Int.toNat p.1) = false) ∧
  ((p.1 == 255) = true →
  List.length (partR p x) + List.length [(p.1 + 1, withV p.2 p.1 (ofN x))] ≤ ROOM ∧
  inI64 (ofN x + 1) ∧ ∃ (x' : Nat), x' ≤ 2 ∧ 2 - x' < 2 - x ∧ ofN x + 1 = ofN x' ∧ partR p x ++ [(p.1 + 1, withV p.2 p.1 (ofN x))] = partR p x') ∧
  ((p.1 == 255) = false →
  (∃ (x_1 : Nat), x_1 ≤ 2 ∧ 0 = ofN x_1 ∧ partR p x = partR p (Int.toNat (ofN x)) ++ List.take x_1 (partR1 p (ofN x))) ∧
  ∀ (x_1 : Nat),
  x_1 ≤ 2 →
  (decide (ofN x_1 < 2) = true →
  inI64 (p.1 + 2) ∧
  inI64 (p.1 + 1) ∧
  (0 ≤ p.1 + 1 ∧ p.1 + 1 ≤ 255 ∧ (ofN x_1 = 0 ∨ ofN x_1 = 1) ∧ bitV (withV p.2 p.1 (ofN x)) (Int.toNat (p.1 + 1)) = false) ∧
  List.length (partR p (Int.toNat (ofN x)) ++ List.take x_1 (partR1 p (ofN x))) + List.length [(p.1 + 2, withV (withV p.2 p.1 (ofN x)) (p.1 + 1) (ofN x_1))] ≤
  ROOM ∧
  inI64 (ofN x_1 + 1) ∧
  ∃ (x' : Nat),
  x' ≤ 2 ∧
  2 - x' < 2 - x_1 ∧
  ofN x_1 + 1 = ofN x' ∧
  partR p (Int.toNat (ofN x)) ++ List.take x_1 (partR1 p (ofN x)) ++ [(p.1 + 2, withV (withV p.2 p.1 (ofN x)) (p.1 + 1) (ofN x_1))] =
  partR p (Int.toNat (ofN x)) ++ List.take x' (partR1 p (ofN x))) ∧
  (decide (ofN x_1 < 2) = false →
  inI64 (ofN x + 1) ∧ ∃ (x' : Nat), x' ≤ 2 ∧ 2 - x' < 2 - x ∧ ofN x + 1 = ofN x' ∧ partR p (Int.toNat (ofN x)) ++ List.take x_1 (partR1 p (ofN x)) = partR p x'))) ∧
  (decide (ofN x < 2) = false → partR p x = (partsW p).1 ∧ 0 = (partsW p).2))) := by
 have ew : partsW p = bif rightB p then (partsV p, 0) else ([], 280) := rfl
 refine ⟨fun q => ?_, fun q => ⟨fun q1 => ?_, fun q1 => ?_⟩⟩
 · have hr : rightB p = false := by
     cases hr : rightB p with
     | false => rfl
     | true => rw [is_right hr] at q; cases q
   rw [ew, hr]
   exact ⟨rfl, rfl⟩
 · have hr : rightB p = true := rightV_zero.1 (by simpa using q)
   have h6 : p.1 = (256 : Int) := by simpa using q1
   rw [ew, hr]
   refine ⟨?_, rfl⟩
   show [] = partsV p
   unfold partsV
   rw [if_pos h6]
 · have hr : rightB p = true := rightV_zero.1 (by simpa using q)
   have hall := partR_all hr q1 hd
   rw [ew, hr, cond_true]
   have hri := (right_iff hd).1 hr
   have hle := partR_le p
   obtain ⟨(n : Int), (d : DigP)⟩ := p
   have h6 : ¬ n = (256 : Int) := by simpa using q1
   obtain ⟨r1, r2, r3⟩ := hri
   have r1 : (0 : Int) ≤ n := r1
   have r2 : (256 : Int) ≥ n := r2
   have r3 : ∀ i : Nat, i < 256 → (i : Int) ≥ n → bitV d i = false := r3
   have hd : d.length = 32 := hd
   obtain ⟨N, rfl⟩ := nat_of r1
   have hN : N ≤ 255 := by omega
   have in1 : inI64 ((N : Int) + 1) := by unfold inI64; omega
   refine ⟨⟨0, by omega, rfl, rfl⟩, fun x hx => ⟨fun q2 => ?_, fun q2 => ?_⟩⟩
   · have hx2 : x < 2 := by have h : (x : Int) < 2 := of_decide_eq_true q2; omega
     have hx01 : x = 0 ∨ x = 1 := by omega
     have hx01' : ofN x = 0 ∨ ofN x = 1 := hx01.elim (fun h => .inl (by rw [h]; rfl)) (fun h => .inr (by rw [h]; rfl))
     have hxi : inI64 (ofN x + 1) := inN28 (by omega)
     refine ⟨in1, ⟨r1, by show (N : Int) ≤ 255; omega, hx01', r3 N (by omega) (by omega)⟩, fun q3 => ⟨?_, hxi, x + 1, by omega, by omega, rfl, ?_⟩, fun q3 => ⟨⟨0, by omega, rfl, ?_⟩, fun c hc => ⟨fun q4 => ?_, fun q4 => ?_⟩⟩⟩
     · have := hle x
       show _ + 1 ≤ ROOM
       unfold ROOM; omega
     · have e1 := partR1_a (p := ((N : Int), d)) q3
       rcases hx01 with h | h <;> subst h
       · exact (e1 0).symm
       · show partR1 _ 0 ++ _ = partR1 _ 0 ++ partR1 _ 1
         congr 1
         exact (e1 1).symm
     · rw [toN28, List.take_zero, List.append_nil]
     · have hc2 : c < 2 := by have h : (c : Int) < 2 := of_decide_eq_true q4; omega
       have hc01 : c = 0 ∨ c = 1 := by omega
       have hc01' : ofN c = 0 ∨ ofN c = 1 := hc01.elim (fun h => .inl (by rw [h]; rfl)) (fun h => .inr (by rw [h]; rfl))
       have h5 : ¬ (N : Int) = 255 := by simpa using q3
       have e1 := partR1_b (p := ((N : Int), d)) q3 (ofN x)
       have hz : bitV (withV d (N : Int) (ofN x)) (Int.toNat ((N : Int) + 1)) = false := by
        have z := r3 (N + 1) (by omega) (by omega)
        rw [show Int.toNat ((N : Int) + 1) = N + 1 by omega]
        rcases hx01' with h | h
        · rw [h]; exact z
        · rw [h, with1, Int.toNat_natCast, setB_bit hd (by omega), z, decide_eq_false (by omega)]; rfl
       refine ⟨by show inI64 ((N : Int) + 2); unfold inI64; omega, in1, ⟨by show (0 : Int) ≤ (N : Int) + 1; omega, by show (N : Int) + 1 ≤ 255; omega, hc01', hz⟩, ?_, inN28 (by omega), c + 1, by omega, by omega, rfl, ?_⟩
       · have h1 := hle (Int.toNat (ofN x))
         rw [List.length_append, List.length_take]
         show _ + _ + 1 ≤ ROOM
         unfold ROOM; omega
       · rw [e1, List.append_assoc]
         congr 1
         rcases hc01 with h | h <;> subst h <;> rfl
     · have hc2 : ¬ c < 2 := by have h : ¬ (c : Int) < 2 := of_decide_eq_false q4; omega
       have : c = 2 := by omega
       subst this
       refine ⟨hxi, x + 1, by omega, by omega, rfl, ?_⟩
       have e1 := partR1_b (p := ((N : Int), d)) q3
       rw [toN28, List.take_of_length_le (by rw [e1]; exact Nat.le_refl _)]
       rcases hx01 with h | h <;> subst h <;> rfl
   · have hx2 : ¬ x < 2 := by have h : ¬ (x : Int) < 2 := of_decide_eq_false q2; omega
     have : x = 2 := by omega
     subst this
     exact ⟨hall, rfl⟩

theorem ref28_below_vc (l : List DigP) (p : Pre) (h : p.1 ≤ 256) (hl : l.length ≤ 100000000) :
 (∃ (x : Nat), x ≤ List.length l ∧ 0 = ofN x ∧ belowV (List.take x l) p = nilOf (List (BitVec 8))) ∧
  ∀ (x : Nat),
  x ≤ List.length l →
  (decide (ofN x < ofN (List.length l)) = true →
  within (ofN x) (List.length l) ∧
  p.1 ≤ 256 ∧
  (underV (List.getD l (Int.toNat (ofN x)) (T.dflt (T.arr 32 T.u8))) p = true →
  within (ofN x) (List.length l) ∧
  List.length (belowV (List.take x l) p) + List.length [List.getD l (Int.toNat (ofN x)) (T.dflt (T.arr 32 T.u8))] ≤ ROOM ∧
  inI64 (ofN x + 1) ∧
  ∃ (x' : Nat),
  x' ≤ List.length l ∧
  List.length l - x' < List.length l - x ∧
  ofN x + 1 = ofN x' ∧ belowV (List.take x l) p ++ [List.getD l (Int.toNat (ofN x)) (T.dflt (T.arr 32 T.u8))] = belowV (List.take x' l) p) ∧
  (underV (List.getD l (Int.toNat (ofN x)) (T.dflt (T.arr 32 T.u8))) p = false →
  inI64 (ofN x + 1) ∧ ∃ (x' : Nat), x' ≤ List.length l ∧ List.length l - x' < List.length l - x ∧ ofN x + 1 = ofN x' ∧ belowV (List.take x l) p = belowV (List.take x' l) p)) ∧
  (decide (ofN x < ofN (List.length l)) = false → belowV (List.take x l) p = belowV l p) := by
 refine ⟨⟨0, Nat.zero_le _, rfl, rfl⟩, fun x hx => ⟨fun q => ?_, fun q => ?_⟩⟩
 · have hlt := ltN28 q
   have hs := belowV_snoc (p := p) hlt
   have hn := belowV_le (l.take x) p
   rw [List.length_take] at hn
   rw [toN28]
   have hin : inI64 (ofN x + 1) := inN28 (by omega)
   refine ⟨wN28 hlt, h, fun q2 => ⟨wN28 hlt, ?_, hin, x + 1, hlt, by omega, rfl, ?_⟩, fun q2 => ⟨hin, x + 1, hlt, by omega, rfl, ?_⟩⟩
   · show _ + 1 ≤ ROOM
     unfold ROOM; omega
   · rw [hs, if_pos q2]
   · rw [hs, if_neg (fun h => by rw [h] at q2; cases q2), List.append_nil]
 · rw [List.take_of_length_le (geN28 q)]

theorem ref28_all_vc (l : List DigP) (hl : l.length ≤ 10000000) (h32 : ∀ d ∈ l, d.length = 32) :
 (∃ (x : Nat), x ≤ List.length l ∧ 0 = ofN x ∧ allI l x = nilOf (BitVec 8)) ∧
  ∀ (x : Nat),
  x ≤ List.length l →
  (decide (ofN x < ofN (List.length l)) = true →
  within (ofN x) (List.length l) ∧
  List.length (allI l x) + List.length (List.getD l (Int.toNat (ofN x)) (T.dflt (T.arr 32 T.u8))) ≤ ROOM ∧
  inI64 (ofN x + 1) ∧
  ∃ (x' : Nat), x' ≤ List.length l ∧ List.length l - x' < List.length l - x ∧ ofN x + 1 = ofN x' ∧ allI l x ++ List.getD l (Int.toNat (ofN x)) (T.dflt (T.arr 32 T.u8)) = allI l x') ∧
  (decide (ofN x < ofN (List.length l)) = false → allI l x = List.flatten l) := by
 refine ⟨⟨0, Nat.zero_le _, rfl, rfl⟩, fun x hx => ⟨fun q => ?_, fun q => ?_⟩⟩
 · have hlt := ltN28 q
   have hn := all_len h32 x
   have hs := allI_succ hlt
   have hm : l.getD x dig0 ∈ l := by rw [getD_lt hlt]; exact List.getElem_mem _
   have h1 := h32 _ hm
   have h1 : (l.getD x (T.dflt (T.arr 32 T.u8))).length = 32 := h1
   rw [toN28]
   refine ⟨wN28 hlt, ?_, inN28 (by omega), x + 1, hlt, by omega, rfl, hs.symm⟩
   rw [h1]
   unfold ROOM; omega
 · unfold allI
   rw [List.take_of_length_le (geN28 q)]

theorem ref28_sum_vc (l : List DigP) (p : Pre) (h : p.1 ≤ 256) (hl : l.length ≤ 1000000) (h32 : ∀ d ∈ l, d.length = 32) :
 (p.1 ≤ 256 ∧ List.length l ≤ 100000000) ∧
  List.length (belowV l p) ≤ 10000000 ∧
  List.length (List.flatten (belowV l p)) ≤ 1073741824 ∧
  1 = (sumV l p).1 ∧
  p.1 = (sumV l p).2.1 ∧
  p.2 = (sumV l p).2.2.1 ∧ ofN (List.length (belowV l p)) = (sumV l p).2.2.2.1 ∧ sha (List.flatten (belowV l p)) = (sumV l p).2.2.2.2.1 ∧ nilOf (List (BitVec 8)) = (sumV l p).2.2.2.2.2 := by
 have h1 := belowV_le l p
 have h2 := flat_len28 h32 p
 exact ⟨⟨h, by omega⟩, by omega, by omega, rfl, rfl, rfl, rfl, rfl, rfl⟩

theorem ref28_Below_vc (l : List DigP) (p : Pre) :
 ((checkS l != 0) = true → nilOf (List (BitVec 8)) = (belowW l p).1 ∧ 281 = (belowW l p).2) ∧
  ((checkS l != 0) = false →
  ((rightV p != 0) = true → nilOf (List (BitVec 8)) = (belowW l p).1 ∧ 280 = (belowW l p).2) ∧
  ((rightV p != 0) = false → (p.1 ≤ 256 ∧ List.length l ≤ 100000000) ∧ belowV l p = (belowW l p).1 ∧ 0 = (belowW l p).2)) := by
 rw [below_two]
 refine ⟨fun q => ?_, fun q => ⟨fun q1 => ?_, fun q1 => ?_⟩⟩
 · rw [asked_a (by simpa using q)]
   exact ⟨rfl, rfl⟩
 · have hr : rightV p = 280 := by
     cases hr : rightB p with
     | false => exact not_right hr
     | true => rw [is_right hr] at q1; cases q1
   rw [asked_b (by simpa using q), hr]
   exact ⟨rfl, rfl⟩
 · have hr : rightV p = 0 := by simpa using q1
   have hc : checkS l = 0 := by simpa using q
   have := (checkS_zero.1 hc).1
   rw [asked_b hc, hr]
   exact ⟨⟨le256 (rightV_zero.1 hr), by omega⟩, rfl, rfl⟩

theorem ref28_Sum_vc (l : List DigP) (p : Pre) :
 (((belowW l p).2 != 0) = true →
  (ofN 0 = (sumW l p).1.1 ∧
  ofN 0 = (sumW l p).1.2.1 ∧
  List.replicate 32 0#8 = (sumW l p).1.2.2.1 ∧ ofN 0 = (sumW l p).1.2.2.2.1 ∧ List.replicate 32 0#8 = (sumW l p).1.2.2.2.2.1 ∧ nilOf (List (BitVec 8)) = (sumW l p).1.2.2.2.2.2) ∧
  (belowW l p).2 = (sumW l p).2) ∧
  (((belowW l p).2 != 0) = false →
  (p.1 ≤ 256 ∧ List.length l ≤ 1000000) ∧
  ((sumV l p).1 = (sumW l p).1.1 ∧
  (sumV l p).2.1 = (sumW l p).1.2.1 ∧
  (sumV l p).2.2.1 = (sumW l p).1.2.2.1 ∧ (sumV l p).2.2.2.1 = (sumW l p).1.2.2.2.1 ∧ (sumV l p).2.2.2.2.1 = (sumW l p).1.2.2.2.2.1 ∧ (sumV l p).2.2.2.2.2 = (sumW l p).1.2.2.2.2.2) ∧
  0 = (sumW l p).2) := by
 rw [below_two, sum_two]
 refine ⟨fun q => ?_, fun q => ?_⟩
 · cases h : (askedV l p == 0) with
   | true => rw [h] at q; cases q
   | false => exact ⟨⟨rfl, rfl, rfl, rfl, rfl, rfl⟩, rfl⟩
 · cases h : (askedV l p == 0) with
   | false => rw [h, cond_false] at q
              have q : (askedV l p != 0) = false := q
              rw [bne, h] at q; cases q
   | true =>
     have h0 : askedV l p = 0 := by simpa using h
     obtain ⟨a1, a2⟩ := asked_zero.1 h0
     have := (checkS_zero.1 a1).1
     exact ⟨⟨le256 (rightV_zero.1 a2), by omega⟩, ⟨rfl, rfl, rfl, rfl, rfl, rfl⟩, rfl⟩

theorem ref28_Good_vc (x : Item) :
 ((rightV (x.2.1, x.2.2.1) == 0 && checkS x.2.2.2.2.2 == 0) = true → x.2.1 ≤ 256 ∧ List.length x.2.2.2.2.2 ≤ 100000000) ∧
  ((x.1 == 1) = true →
  ((!(rightV (x.2.1, x.2.2.1) == 0 && checkS x.2.2.2.2.2 == 0 && ofN (List.length (belowV x.2.2.2.2.2 (x.2.1, x.2.2.1))) == ofN (List.length x.2.2.2.2.2) && decide (0 ≤ x.2.2.2.1) &&
  decide (x.2.2.2.1 ≤ 65536) &&
  ofN (List.length x.2.2.2.2.2) == 0)) =
  true →
  280 = goodV x) ∧
  ((!(rightV (x.2.1, x.2.2.1) == 0 && checkS x.2.2.2.2.2 == 0 && ofN (List.length (belowV x.2.2.2.2.2 (x.2.1, x.2.2.1))) == ofN (List.length x.2.2.2.2.2) && decide (0 ≤ x.2.2.2.1) &&
  decide (x.2.2.2.1 ≤ 65536) &&
  ofN (List.length x.2.2.2.2.2) == 0)) =
  false →
  0 = goodV x)) ∧
  ((x.1 == 1) = false →
  ((x.1 == 2 || (x.1 == 3 || x.1 == 4)) = true →
  ((!(rightV (x.2.1, x.2.2.1) == 0 && checkS x.2.2.2.2.2 == 0 && ofN (List.length (belowV x.2.2.2.2.2 (x.2.1, x.2.2.1))) == ofN (List.length x.2.2.2.2.2) && x.2.2.2.1 == 0 &&
  eqL T.u8 x.2.2.2.2.1 (List.replicate 32 0#8) &&
  (x.1 == 3 || x.1 == 4 || ofN (List.length x.2.2.2.2.2) == 0))) =
  true →
  280 = goodV x) ∧
  ((!(rightV (x.2.1, x.2.2.1) == 0 && checkS x.2.2.2.2.2 == 0 && ofN (List.length (belowV x.2.2.2.2.2 (x.2.1, x.2.2.1))) == ofN (List.length x.2.2.2.2.2) && x.2.2.2.1 == 0 &&
  eqL T.u8 x.2.2.2.2.1 (List.replicate 32 0#8) &&
  (x.1 == 3 || x.1 == 4 || ofN (List.length x.2.2.2.2.2) == 0))) =
  false →
  0 = goodV x)) ∧
  ((x.1 == 2 || (x.1 == 3 || x.1 == 4)) = false → (true = true → 280 = goodV x) ∧ (true = false → 0 = goodV x))) := by
 have hl : (ofN (List.length x.2.2.2.2.2) == 0) = decide ((iL x).length = 0) := len0 _
 have hN : (x.2.2.2.1 == 0) = decide (iN x = 0) := beq_dec _ _
 have hH : eqL T.u8 x.2.2.2.2.1 (List.replicate 32 0#8) = decide (iH x = zeroD) := by
  rw [eqL_u8]; exact beq_dec _ _
 have hC : (checkS x.2.2.2.2.2 == 0) = decide (checkS (iL x) = 0) := beq_dec _ _
 have hB : (ofN (List.length (belowV x.2.2.2.2.2 (x.2.1, x.2.2.1))) == ofN (List.length x.2.2.2.2.2)) = decide ((belowV (iL x) (iP x)).length = (iL x).length) := lenEq _ _
 have hR : (rightV (x.2.1, x.2.2.1) == 0) = rightB (iP x) := by
  show (rightV (iP x) == 0) = _
  unfold rightV
  cases rightB (iP x) <;> rfl
 rw [hl, hN, hH, hC, hB, hR]
 have h0 : decide (0 ≤ x.2.2.2.1) = decide (0 ≤ iN x) := rfl
 have h6 : decide (x.2.2.2.1 ≤ 65536) = decide (iN x ≤ 65536) := rfl
 rw [h0, h6]
 have hempty : (iL x).length = 0 → checkS (iL x) = 0 ∧ (belowV (iL x) (iP x)).length = (iL x).length := fun h => by
  have := List.eq_nil_of_length_eq_zero h
  rw [this]
  exact ⟨rfl, rfl⟩
 have hg : goodV x = bif goodB x then 0 else 280 := rfl
 have hgb : goodB x = (rightB (iP x) && (bif x.1 == 1 then decide (0 ≤ iN x) && decide (iN x ≤ 65536) && decide ((iL x).length = 0)
  else bif x.1 == 2 then decide (iN x = 0) && decide (iH x = zeroD) && decide ((iL x).length = 0)
  else (x.1 == 3 || x.1 == 4) && decide (iN x = 0) && decide (iH x = zeroD) && decide (checkS (iL x) = 0) && decide ((belowV (iL x) (iP x)).length = (iL x).length))) := rfl
 refine ⟨fun q => ?_, fun q1 => ?_, fun q1 => ⟨fun q2 => ?_, fun q2 => ⟨fun _ => ?_, fun h => (by cases h)⟩⟩⟩
 · simp only [Bool.and_eq_true, decide_eq_true_eq] at q
   have := (checkS_zero.1 q.2).1
   exact ⟨le256 q.1, Nat.le_trans this (by omega)⟩
 · have e : (rightB (iP x) && decide (checkS (iL x) = 0) && decide ((belowV (iL x) (iP x)).length = (iL x).length) && decide (0 ≤ iN x) && decide (iN x ≤ 65536) && decide ((iL x).length = 0)) = goodB x := by
     rw [hgb, q1, cond_true, Bool.eq_iff_iff]
     simp only [Bool.and_eq_true, decide_eq_true_eq]
     constructor
     · rintro ⟨⟨⟨⟨⟨a, b⟩, c⟩, d⟩, e⟩, f⟩
       exact ⟨a, ⟨d, e⟩, f⟩
     · rintro ⟨a, ⟨d, e⟩, f⟩
       obtain ⟨b, c⟩ := hempty f
       exact ⟨⟨⟨⟨⟨a, b⟩, c⟩, d⟩, e⟩, f⟩
   rw [e, hg]
   exact two_way _
 · have e : (rightB (iP x) && decide (checkS (iL x) = 0) && decide ((belowV (iL x) (iP x)).length = (iL x).length) && decide (iN x = 0) && decide (iH x = zeroD) && (x.1 == 3 || x.1 == 4 || decide ((iL x).length = 0))) = goodB x := by
     rw [hgb, q1, cond_false]
     cases h2 : (x.1 == 2) with
     | true =>
       have e2 : x.1 = 2 := by simpa using h2
       have h3 : (x.1 == 3) = false := by rw [e2]; rfl
       have h4 : (x.1 == 4) = false := by rw [e2]; rfl
       rw [h3, h4, cond_true, Bool.or_self, Bool.false_or, Bool.eq_iff_iff]
       simp only [Bool.and_eq_true, decide_eq_true_eq]
       constructor
       · rintro ⟨⟨⟨⟨⟨a, b⟩, c⟩, d⟩, e⟩, f⟩
         exact ⟨a, ⟨d, e⟩, f⟩
       · rintro ⟨a, ⟨d, e⟩, f⟩
         obtain ⟨b, c⟩ := hempty f
         exact ⟨⟨⟨⟨⟨a, b⟩, c⟩, d⟩, e⟩, f⟩
     | false =>
       rw [h2, Bool.false_or] at q2
       rw [q2, cond_false, Bool.true_or, Bool.and_true, Bool.true_and, Bool.eq_iff_iff]
       simp only [Bool.and_eq_true, decide_eq_true_eq]
       constructor
       · rintro ⟨⟨⟨⟨a, b⟩, c⟩, d⟩, e⟩
         exact ⟨a, ⟨⟨d, e⟩, b⟩, c⟩
       · rintro ⟨a, ⟨⟨d, e⟩, b⟩, c⟩
         exact ⟨⟨⟨⟨a, b⟩, c⟩, d⟩, e⟩
   rw [e, hg]
   exact two_way _
 · rw [hg, hgb, q1]
   rw [Bool.or_eq_false_iff] at q2
   rw [q2.1, q2.2]
   cases rightB (iP x) <;> rfl

theorem ref28_Begin_vc (l : List DigP) :
 ((checkS l != 0) = true → nilOf (Int × Int × List (BitVec 8) × Int × List (BitVec 8) × List (List (BitVec 8))) = (beginW l).1 ∧ 281 = (beginW l).2) ∧
  ((checkS l != 0) = false → (ofN 0 ≤ 256 ∧ List.length l ≤ 1000000) ∧ [sumV l (ofN 0, List.replicate 32 0#8)] = (beginW l).1 ∧ 0 = (beginW l).2) := by
 have e : beginW l = bif checkS l == 0 then ([sumV l ((0 : Int), zeroD)], 0) else ([], checkS l) := rfl
 rw [e]
 refine ⟨fun q => ?_, fun q => ?_⟩
 · have hc := (check_two l).resolve_left (by simpa using q)
   rw [hc]
   exact ⟨rfl, rfl⟩
 · have hc : checkS l = 0 := by simpa using q
   have := (checkS_zero.1 hc).1
   rw [hc]
   exact ⟨⟨by decide, by omega⟩, rfl, rfl⟩

theorem ref12_In_vc (l : List DigP) (d : DigP) (hl : l.length ≤ LIM) :
 (∃ (x : Nat), (x ≤ List.length l ∧ hasD (List.take x l) d = false) ∧ 0 = ofN x) ∧
  ∀ (x : Nat),
  x ≤ List.length l ∧ hasD (List.take x l) d = false →
  (decide (ofN x < ofN (List.length l)) = true →
  within (ofN x) (List.length l) ∧
  (eqL T.u8 (List.getD l (Int.toNat (ofN x)) (T.dflt (T.arr 32 T.u8))) d = true → true = hasD l d) ∧
  (eqL T.u8 (List.getD l (Int.toNat (ofN x)) (T.dflt (T.arr 32 T.u8))) d = false →
  inI64 (ofN x + 1) ∧ ∃ (x' : Nat), (x' ≤ List.length l ∧ hasD (List.take x' l) d = false) ∧ List.length l - x' < List.length l - x ∧ ofN x + 1 = ofN x')) ∧
  (decide (ofN x < ofN (List.length l)) = false → false = hasD l d) := by
 unfold LIM at hl
 refine ⟨⟨0, ⟨Nat.zero_le _, rfl⟩, rfl⟩, fun x hx => ⟨fun q => ?_, fun q => ?_⟩⟩
 · have hlt := ltN28 q
   have hs := hasD_snoc (d := d) hlt
   rw [toN28, eqL_u8]
   refine ⟨wN28 hlt, fun q2 => ?_, fun q2 => ⟨inN28 (by omega), x + 1, ⟨hlt, ?_⟩, by omega, rfl⟩⟩
   · have q2 : (l.getD x dig0 == d) = true := q2
     rw [beq_iff_eq] at q2
     refine (hasD_iff.2 ?_).symm
     rw [← q2, getD_lt hlt]
     exact List.getElem_mem _
   · have q2 : (l.getD x dig0 == d) = false := q2
     rw [hs, hx.2, q2]; rfl
 · have := hx.2
   rw [List.take_of_length_le (geN28 q)] at this
   exact this.symm

theorem ref28_without_vc (a b : List DigP) (hl : a.length ≤ 100000000) :
 (∃ (x : Nat), x ≤ List.length a ∧ 0 = ofN x ∧ lessV (List.take x a) b = nilOf (List (BitVec 8))) ∧
  ∀ (x : Nat),
  x ≤ List.length a →
  (decide (ofN x < ofN (List.length a)) = true →
  within (ofN x) (List.length a) ∧
  ((!hasD b (List.getD a (Int.toNat (ofN x)) (T.dflt (T.arr 32 T.u8)))) = true →
  within (ofN x) (List.length a) ∧
  List.length (lessV (List.take x a) b) + List.length [List.getD a (Int.toNat (ofN x)) (T.dflt (T.arr 32 T.u8))] ≤ ROOM ∧
  inI64 (ofN x + 1) ∧
  ∃ (x' : Nat),
  x' ≤ List.length a ∧
  List.length a - x' < List.length a - x ∧
  ofN x + 1 = ofN x' ∧ lessV (List.take x a) b ++ [List.getD a (Int.toNat (ofN x)) (T.dflt (T.arr 32 T.u8))] = lessV (List.take x' a) b) ∧
  ((!hasD b (List.getD a (Int.toNat (ofN x)) (T.dflt (T.arr 32 T.u8)))) = false →
  inI64 (ofN x + 1) ∧ ∃ (x' : Nat), x' ≤ List.length a ∧ List.length a - x' < List.length a - x ∧ ofN x + 1 = ofN x' ∧ lessV (List.take x a) b = lessV (List.take x' a) b)) ∧
  (decide (ofN x < ofN (List.length a)) = false → lessV (List.take x a) b = lessV a b) := by
 refine ⟨⟨0, Nat.zero_le _, rfl, rfl⟩, fun x hx => ⟨fun q => ?_, fun q => ?_⟩⟩
 · have hlt := ltN28 q
   have hs := lessV_snoc (ys := b) hlt
   have hn := lessV_le (a.take x) b
   rw [List.length_take] at hn
   rw [toN28]
   have hin : inI64 (ofN x + 1) := inN28 (by omega)
   refine ⟨wN28 hlt, fun q2 => ⟨wN28 hlt, ?_, hin, x + 1, hlt, by omega, rfl, ?_⟩, fun q2 => ⟨hin, x + 1, hlt, by omega, rfl, ?_⟩⟩
   · show _ + 1 ≤ ROOM
     unfold ROOM; omega
   · have q2 : hasD b (a.getD x dig0) = false := by simpa using q2
     rw [hs, q2]; rfl
   · have q2 : hasD b (a.getD x dig0) = true := by simpa using q2
     rw [hs, q2]; simp
 · rw [List.take_of_length_le (geN28 q)]

theorem ref28_summed_vc (l : List DigP) (x : Item) (hr : rightB (iP x) = true) (hl : l.length ≤ 1000000) (hd : (iP x).2.length = 32) :
 (x.2.1 ≤ 256 ∧ List.length l ≤ 1000000) ∧
  (((sumV l (x.2.1, x.2.2.1)).2.2.2.1 == x.2.2.2.1 && eqL T.u8 (sumV l (x.2.1, x.2.2.1)).2.2.2.2.1 x.2.2.2.2.1) = true →
  nilOf (Int × Int × List (BitVec 8) × Int × List (BitVec 8) × List (List (BitVec 8))) = summedV l x) ∧
  (((sumV l (x.2.1, x.2.2.1)).2.2.2.1 == x.2.2.2.1 && eqL T.u8 (sumV l (x.2.1, x.2.2.1)).2.2.2.2.1 x.2.2.2.2.1) = false →
  ((decide ((sumV l (x.2.1, x.2.2.1)).2.2.2.1 ≤ 8) || x.2.1 == 256) = true →
  (x.2.1 ≤ 256 ∧ List.length l ≤ 100000000) ∧ [(3, x.2.1, x.2.2.1, ofN 0, List.replicate 32 0#8, belowV l (x.2.1, x.2.2.1))] = summedV l x) ∧
  ((decide ((sumV l (x.2.1, x.2.2.1)).2.2.2.1 ≤ 8) || x.2.1 == 256) = false →
  (decide (x.2.2.2.1 ≤ 8) = true → [(2, x.2.1, x.2.2.1, ofN 0, List.replicate 32 0#8, nilOf (List (BitVec 8)))] = summedV l x) ∧
  (decide (x.2.2.2.1 ≤ 8) = false →
  (∃ (x_1 : Nat),
  x_1 ≤ List.length (partsV (iP x)) ∧
  0 = ofN x_1 ∧ List.map (sumV l) (List.take x_1 (partsV (iP x))) = nilOf (Int × Int × List (BitVec 8) × Int × List (BitVec 8) × List (List (BitVec 8)))) ∧
  ∀ (x_1 : Nat),
  x_1 ≤ List.length (partsV (iP x)) →
  (decide (ofN x_1 < ofN (List.length (partsW (x.2.1, x.2.2.1)).1)) = true →
  within (ofN x_1) (List.length (partsW (x.2.1, x.2.2.1)).1) ∧
  ((List.getD (partsW (x.2.1, x.2.2.1)).1 (Int.toNat (ofN x_1)) (T.dflt (T.pair T.i64 (T.arr 32 T.u8)))).1 ≤ 256 ∧ List.length l ≤ 1000000) ∧
  List.length (List.map (sumV l) (List.take x_1 (partsV (iP x)))) +
  List.length [sumV l (List.getD (partsW (x.2.1, x.2.2.1)).1 (Int.toNat (ofN x_1)) (T.dflt (T.pair T.i64 (T.arr 32 T.u8))))] ≤
  ROOM ∧
  inI64 (ofN x_1 + 1) ∧
  ∃ (x' : Nat),
  x' ≤ List.length (partsV (iP x)) ∧
  List.length (partsV (iP x)) - x' < List.length (partsV (iP x)) - x_1 ∧
  ofN x_1 + 1 = ofN x' ∧
  List.map (sumV l) (List.take x_1 (partsV (iP x))) ++
  [sumV l (List.getD (partsW (x.2.1, x.2.2.1)).1 (Int.toNat (ofN x_1)) (T.dflt (T.pair T.i64 (T.arr 32 T.u8))))] =
  List.map (sumV l) (List.take x' (partsV (iP x)))) ∧
  (decide (ofN x_1 < ofN (List.length (partsW (x.2.1, x.2.2.1)).1)) = false → List.map (sumV l) (List.take x_1 (partsV (iP x))) = summedV l x)))) := by
 have e1 : toV l x = bif iN (sumV l (iP x)) == iN x && decide (iH (sumV l (iP x)) = iH x) then 0 else bif decide (iN (sumV l (iP x)) ≤ 8) || x.2.1 == 256 then 1 else bif decide (iN x ≤ 8) then 2 else 3 := rfl
 have e2 : ((sumV l (x.2.1, x.2.2.1)).2.2.2.1 == x.2.2.2.1 && eqL T.u8 (sumV l (x.2.1, x.2.2.1)).2.2.2.2.1 x.2.2.2.2.1) = (iN (sumV l (iP x)) == iN x && decide (iH (sumV l (iP x)) = iH x)) := by
  rw [eqL_u8]
  congr 1
  exact beq_dec _ _
 have h6 := le256 hr
 have ew : partsW (x.2.1, x.2.2.1) = (partsV (iP x), 0) := by
  show (bif rightB (iP x) then (partsV (iP x), (0 : Int)) else ([], 280)) = _
  rw [hr]; rfl
 have hp4 := parts_le (iP x)
 rw [e2, ew]
 refine ⟨⟨h6, hl⟩, fun q => ?_, fun q => ⟨fun q2 => ⟨⟨h6, by omega⟩, ?_⟩, fun q2 => ⟨fun q3 => ?_, fun q3 => ?_⟩⟩⟩
 · rw [q] at e1
   have e1 : toV l x = 0 := e1
   unfold summedV
   rw [if_pos e1]
 · have q2 : (decide (iN (sumV l (iP x)) ≤ 8) || x.2.1 == 256) = true := q2
   rw [q, q2] at e1
   have e1 : toV l x = 1 := e1
   unfold summedV
   rw [if_neg (by rw [e1]; decide), if_pos e1]; rfl
 · have q2 : (decide (iN (sumV l (iP x)) ≤ 8) || x.2.1 == 256) = false := q2
   have q3 : decide (iN x ≤ 8) = true := q3
   rw [q, q2, q3] at e1
   have e1 : toV l x = 2 := e1
   unfold summedV
   rw [if_neg (by rw [e1]; decide), if_neg (by rw [e1]; decide), if_pos e1]; rfl
 · have q2 : (decide (iN (sumV l (iP x)) ≤ 8) || x.2.1 == 256) = false := q2
   have q3 : decide (iN x ≤ 8) = false := q3
   rw [q, q2, q3] at e1
   have e1 : toV l x = 3 := e1
   refine ⟨⟨0, Nat.zero_le _, rfl, rfl⟩, fun j hj => ⟨fun q8 => ?_, fun q8 => ?_⟩⟩
   · have hlt8 : j < (partsV (iP x)).length := ltN28 q8
     rw [toN28]
     have hmq : (partsV (iP x)).getD j T_Pre.dflt ∈ partsV (iP x) := by
      rw [List.getD_eq_getElem?_getD, List.getElem?_eq_getElem hlt8]; exact List.getElem_mem _
     have hrq := parts_right hmq hr hd
     have e9 : (partsV (iP x)).take (j + 1) = (partsV (iP x)).take j ++ [(partsV (iP x)).getD j T_Pre.dflt] := by
      rw [← List.take_append_getElem hlt8, List.getD_eq_getElem?_getD, List.getElem?_eq_getElem hlt8]; rfl
     refine ⟨wN28 hlt8, ⟨le256 hrq, hl⟩, ?_, inN28 (by omega), j + 1, hlt8, by omega, rfl, ?_⟩
     · rw [List.length_map, List.length_take]
       show _ + 1 ≤ ROOM
       unfold ROOM; omega
     · rw [e9, List.map_append]; rfl
   · have hge : (partsV (iP x)).length ≤ j := geN28 q8
     rw [List.take_of_length_le hge]
     unfold summedV
     rw [if_neg (by rw [e1]; decide), if_neg (by rw [e1]; decide), if_neg (by rw [e1]; decide)]

theorem ref28_Respond_vc (l : List DigP) (xs : List Item) (h : okR l xs) :
 ((checkS l != 0) = true →
  nilOf (Int × Int × List (BitVec 8) × Int × List (BitVec 8) × List (List (BitVec 8))) = (respV l xs).1 ∧
  nilOf (List (BitVec 8)) = (respV l xs).2.1 ∧ nilOf (List (BitVec 8)) = (respV l xs).2.2.1 ∧ 281 = (respV l xs).2.2.2) ∧
  ((checkS l != 0) = false →
  (∃ (x : Nat), (x ≤ List.length xs ∧ List.all (List.take x xs) goodB = true) ∧ 0 = ofN x) ∧
  ∀ (x : Nat),
  x ≤ List.length xs ∧ List.all (List.take x xs) goodB = true →
  (decide (ofN x < ofN (List.length xs)) = true →
  within (ofN x) (List.length xs) ∧
  ((goodV (List.getD xs (Int.toNat (ofN x)) (T.dflt T_Item)) != 0) =
  true →
  nilOf (Int × Int × List (BitVec 8) × Int × List (BitVec 8) × List (List (BitVec 8))) = (respV l xs).1 ∧
  nilOf (List (BitVec 8)) = (respV l xs).2.1 ∧ nilOf (List (BitVec 8)) = (respV l xs).2.2.1 ∧ 280 = (respV l xs).2.2.2) ∧
  ((goodV (List.getD xs (Int.toNat (ofN x)) (T.dflt T_Item)) != 0) =
  false →
  inI64 (ofN x + 1) ∧ ∃ (x' : Nat), (x' ≤ List.length xs ∧ List.all (List.take x' xs) goodB = true) ∧ List.length xs - x' < List.length xs - x ∧ ofN x + 1 = ofN x')) ∧
  (decide (ofN x < ofN (List.length xs)) = false →
  (∃ (x : Nat),
  x ≤ List.length xs ∧
  0 = ofN x ∧
  List.flatMap (outV l) (List.take x xs) = nilOf (Int × Int × List (BitVec 8) × Int × List (BitVec 8) × List (List (BitVec 8))) ∧
  List.flatMap (lackV l) (List.take x xs) = nilOf (List (BitVec 8)) ∧ List.flatMap (otherV l) (List.take x xs) = nilOf (List (BitVec 8))) ∧
  ∀ (x : Nat),
  x ≤ List.length xs →
  (decide (ofN x < ofN (List.length xs)) = true →
  within (ofN x) (List.length xs) ∧
  ((List.getD xs (Int.toNat (ofN x)) (T.dflt T_Item)).2.1 ≤
  256 ∧
  List.length l ≤ 100000000) ∧
  (((List.getD xs (Int.toNat (ofN x)) (T.dflt T_Item)).1 ==
  1) =
  true →
  (rightB
  (iP
  (List.getD xs (Int.toNat (ofN x))
  (T.dflt T_Item))) =
  true ∧
  List.length l ≤ 1000000) ∧
  List.length (List.flatMap (outV l) (List.take x xs)) +
  List.length
  (summedV l
  (List.getD xs (Int.toNat (ofN x))
  (T.dflt T_Item))) ≤
  ROOM ∧
  inI64 (ofN x + 1) ∧
  ∃ (x' : Nat),
  x' ≤ List.length xs ∧
  List.length xs - x' < List.length xs - x ∧
  ofN x + 1 = ofN x' ∧
  List.flatMap (outV l) (List.take x xs) ++
  summedV l
  (List.getD xs (Int.toNat (ofN x))
  (T.dflt T_Item)) =
  List.flatMap (outV l) (List.take x' xs) ∧
  List.flatMap (lackV l) (List.take x xs) = List.flatMap (lackV l) (List.take x' xs) ∧
  List.flatMap (otherV l) (List.take x xs) = List.flatMap (otherV l) (List.take x' xs)) ∧
  (((List.getD xs (Int.toNat (ofN x)) (T.dflt T_Item)).1 ==
  1) =
  false →
  (((List.getD xs (Int.toNat (ofN x))
  (T.dflt T_Item)).1 ==
  2) =
  true →
  List.length (List.flatMap (outV l) (List.take x xs)) +
  List.length
  [(3,
  (List.getD xs (Int.toNat (ofN x))
  (T.dflt T_Item)).2.1,
  (List.getD xs (Int.toNat (ofN x))
  (T.dflt T_Item)).2.2.1,
  ofN 0, List.replicate 32 0#8,
  belowV l
  ((List.getD xs (Int.toNat (ofN x))
  (T.dflt T_Item)).2.1,
  (List.getD xs (Int.toNat (ofN x))
  (T.dflt T_Item)).2.2.1))] ≤
  ROOM ∧
  inI64 (ofN x + 1) ∧
  ∃ (x' : Nat),
  x' ≤ List.length xs ∧
  List.length xs - x' < List.length xs - x ∧
  ofN x + 1 = ofN x' ∧
  List.flatMap (outV l) (List.take x xs) ++
  [(3,
  (List.getD xs (Int.toNat (ofN x))
  (T.dflt T_Item)).2.1,
  (List.getD xs (Int.toNat (ofN x))
  (T.dflt
  T_Item)).2.2.1,
  ofN 0, List.replicate 32 0#8,
  belowV l
  ((List.getD xs (Int.toNat (ofN x))
  (T.dflt
  T_Item)).2.1,
  (List.getD xs (Int.toNat (ofN x))
  (T.dflt
  T_Item)).2.2.1))] =
  List.flatMap (outV l) (List.take x' xs) ∧
  List.flatMap (lackV l) (List.take x xs) = List.flatMap (lackV l) (List.take x' xs) ∧
  List.flatMap (otherV l) (List.take x xs) = List.flatMap (otherV l) (List.take x' xs)) ∧
  (((List.getD xs (Int.toNat (ofN x))
  (T.dflt T_Item)).1 ==
  2) =
  false →
  (((List.getD xs (Int.toNat (ofN x))
  (T.dflt T_Item)).1 ==
  3) =
  true →
  List.length (List.flatMap (outV l) (List.take x xs)) +
  List.length
  [(4,
  (List.getD xs (Int.toNat (ofN x))
  (T.dflt T_Item)).2.1,
  (List.getD xs (Int.toNat (ofN x))
  (T.dflt T_Item)).2.2.1,
  ofN 0, List.replicate 32 0#8,
  belowV l
  ((List.getD xs (Int.toNat (ofN x))
  (T.dflt T_Item)).2.1,
  (List.getD xs (Int.toNat (ofN x))
  (T.dflt
  T_Item)).2.2.1))] ≤
  ROOM ∧
  List.length
  (List.getD xs (Int.toNat (ofN x))
  (T.dflt T_Item)).2.2.2.2.2 ≤
  100000000 ∧
  List.length (List.flatMap (lackV l) (List.take x xs)) +
  List.length
  (lessV
  (List.getD xs (Int.toNat (ofN x))
  (T.dflt
  T_Item)).2.2.2.2.2
  (belowV l
  ((List.getD xs (Int.toNat (ofN x))
  (T.dflt T_Item)).2.1,
  (List.getD xs (Int.toNat (ofN x))
  (T.dflt
  T_Item)).2.2.1))) ≤
  ROOM ∧
  List.length
  (belowV l
  ((List.getD xs (Int.toNat (ofN x))
  (T.dflt T_Item)).2.1,
  (List.getD xs (Int.toNat (ofN x))
  (T.dflt
  T_Item)).2.2.1)) ≤
  100000000 ∧
  List.length (List.flatMap (otherV l) (List.take x xs)) +
  List.length
  (lessV
  (belowV l
  ((List.getD xs (Int.toNat (ofN x))
  (T.dflt
  T_Item)).2.1,
  (List.getD xs (Int.toNat (ofN x))
  (T.dflt
  T_Item)).2.2.1))
  (List.getD xs (Int.toNat (ofN x))
  (T.dflt
  T_Item)).2.2.2.2.2) ≤
  ROOM ∧
  inI64 (ofN x + 1) ∧
  ∃ (x' : Nat),
  x' ≤ List.length xs ∧
  List.length xs - x' < List.length xs - x ∧
  ofN x + 1 = ofN x' ∧
  List.flatMap (outV l) (List.take x xs) ++
  [(4,
  (List.getD xs (Int.toNat (ofN x))
  (T.dflt
  T_Item)).2.1,
  (List.getD xs (Int.toNat (ofN x))
  (T.dflt
  T_Item)).2.2.1,
  ofN 0, List.replicate 32 0#8,
  belowV l
  ((List.getD xs (Int.toNat (ofN x))
  (T.dflt
  T_Item)).2.1,
  (List.getD xs (Int.toNat (ofN x))
  (T.dflt
  T_Item)).2.2.1))] =
  List.flatMap (outV l) (List.take x' xs) ∧
  List.flatMap (lackV l) (List.take x xs) ++
  lessV
  (List.getD xs (Int.toNat (ofN x))
  (T.dflt
  T_Item)).2.2.2.2.2
  (belowV l
  ((List.getD xs (Int.toNat (ofN x))
  (T.dflt
  T_Item)).2.1,
  (List.getD xs (Int.toNat (ofN x))
  (T.dflt
  T_Item)).2.2.1)) =
  List.flatMap (lackV l) (List.take x' xs) ∧
  List.flatMap (otherV l) (List.take x xs) ++
  lessV
  (belowV l
  ((List.getD xs (Int.toNat (ofN x))
  (T.dflt
  T_Item)).2.1,
  (List.getD xs (Int.toNat (ofN x))
  (T.dflt
  T_Item)).2.2.1))
  (List.getD xs (Int.toNat (ofN x))
  (T.dflt
  T_Item)).2.2.2.2.2 =
  List.flatMap (otherV l) (List.take x' xs)) ∧
  (((List.getD xs (Int.toNat (ofN x))
  (T.dflt T_Item)).1 ==
  3) =
  false →
  List.length
  (List.getD xs (Int.toNat (ofN x))
  (T.dflt T_Item)).2.2.2.2.2 ≤
  100000000 ∧
  List.length (List.flatMap (lackV l) (List.take x xs)) +
  List.length
  (lessV
  (List.getD xs (Int.toNat (ofN x))
  (T.dflt
  T_Item)).2.2.2.2.2
  (belowV l
  ((List.getD xs (Int.toNat (ofN x))
  (T.dflt T_Item)).2.1,
  (List.getD xs (Int.toNat (ofN x))
  (T.dflt
  T_Item)).2.2.1))) ≤
  ROOM ∧
  List.length
  (belowV l
  ((List.getD xs (Int.toNat (ofN x))
  (T.dflt T_Item)).2.1,
  (List.getD xs (Int.toNat (ofN x))
  (T.dflt T_Item)).2.2.1)) ≤
  100000000 ∧
  List.length (List.flatMap (otherV l) (List.take x xs)) +
  List.length
  (lessV
  (belowV l
  ((List.getD xs (Int.toNat (ofN x))
  (T.dflt T_Item)).2.1,
  (List.getD xs (Int.toNat (ofN x))
  (T.dflt
  T_Item)).2.2.1))
  (List.getD xs (Int.toNat (ofN x))
  (T.dflt
  T_Item)).2.2.2.2.2) ≤
  ROOM ∧
  inI64 (ofN x + 1) ∧
  ∃ (x' : Nat),
  x' ≤ List.length xs ∧
  List.length xs - x' < List.length xs - x ∧
  ofN x + 1 = ofN x' ∧
  List.flatMap (outV l) (List.take x xs) = List.flatMap (outV l) (List.take x' xs) ∧
  List.flatMap (lackV l) (List.take x xs) ++
  lessV
  (List.getD xs (Int.toNat (ofN x))
  (T.dflt
  T_Item)).2.2.2.2.2
  (belowV l
  ((List.getD xs (Int.toNat (ofN x))
  (T.dflt
  T_Item)).2.1,
  (List.getD xs (Int.toNat (ofN x))
  (T.dflt
  T_Item)).2.2.1)) =
  List.flatMap (lackV l) (List.take x' xs) ∧
  List.flatMap (otherV l) (List.take x xs) ++
  lessV
  (belowV l
  ((List.getD xs (Int.toNat (ofN x))
  (T.dflt
  T_Item)).2.1,
  (List.getD xs (Int.toNat (ofN x))
  (T.dflt
  T_Item)).2.2.1))
  (List.getD xs (Int.toNat (ofN x))
  (T.dflt
  T_Item)).2.2.2.2.2 =
  List.flatMap (otherV l) (List.take x' xs))))) ∧
  (decide (ofN x < ofN (List.length xs)) = false →
  List.length (List.flatMap (lackV l) (List.take x xs)) ≤ 100000000 ∧
  List.length (List.flatMap (otherV l) (List.take x xs)) ≤ 100000000 ∧
  List.flatMap (outV l) (List.take x xs) = (respV l xs).1 ∧
  risV (List.flatMap (lackV l) (List.take x xs)) = (respV l xs).2.1 ∧ risV (List.flatMap (otherV l) (List.take x xs)) = (respV l xs).2.2.1 ∧ 0 = (respV l xs).2.2.2))) := by
 refine ⟨fun q => ?_, fun q => ?_⟩
 · have q : ¬ checkS l = 0 := by simpa using q
   have e : checkS l = 281 := (check_two l).resolve_left q
   have e2 : respV l xs = ([], [], [], 281) := by
    unfold respV
    rw [e]; rfl
   rw [e2]
   exact ⟨rfl, rfl, rfl, rfl⟩
 · have hc : checkS l = 0 := by simpa using q
   have hl6 := (checkS_zero.1 hc).1
   have hxs := h.2.1
   refine ⟨⟨0, ⟨Nat.zero_le _, rfl⟩, rfl⟩, fun x hx => ⟨fun q2 => ?_, fun q2 => ?_⟩⟩
   · have hlt := ltN28 q2
     rw [toN28]
     have hm : xs.getD x T_Item.dflt ∈ xs := by
      rw [List.getD_eq_getElem?_getD, List.getElem?_eq_getElem hlt]; exact List.getElem_mem _
     have hs := all_snoc hlt hx.2
     generalize xs.getD x T_Item.dflt = y at *
     refine ⟨wN28 hlt, fun q3 => ?_, fun q3 => ?_⟩
     · have hb : goodB y = false := by
         cases hq : goodB y with
         | false => rfl
         | true => rw [good_two, hq] at q3; cases q3
       have ha : xs.all goodB = false := by
        cases hq : xs.all goodB with
        | false => rfl
        | true => rw [List.all_eq_true.1 hq y hm] at hb; cases hb
       have e2 : respV l xs = ([], [], [], 280) := by
        unfold respV
        rw [hc, ha]; rfl
       rw [e2]
       exact ⟨rfl, rfl, rfl, rfl⟩
     · have hb : goodB y = true := by
         cases hq : goodB y with
         | true => rfl
         | false => rw [good_two, hq] at q3; cases q3
       exact ⟨inN28 (by omega), x + 1, ⟨hlt, hs hb⟩, by omega, rfl⟩
   · have ha : xs.all goodB = true := by
       have := hx.2
       rwa [List.take_of_length_le (geN28 q2)] at this
     have hsd := okSd_new h hc ha
     have hsm := hsd.2.2.2.2.1
     have e1 := resp_of hc ha
     have hout : ∀ k, ((xs.take k).flatMap (outV l)).length ≤ 4 * (xs.take k).length := fun k => flat_leI fun x _ => out_le l x
     have hlack : ∀ k, ((xs.take k).flatMap (lackV l)).length ≤ 1000 * (xs.take k).length := fun k => flat_le fun x hx => Nat.le_trans lack_le (hsm x (List.mem_of_mem_take hx)).2
     have hl1 : l.length ≤ 1000 := hsd.2.1
     have hoth : ∀ k, ((xs.take k).flatMap (otherV l)).length ≤ 1000 * (xs.take k).length := fun k => flat_le fun x hx => Nat.le_trans other_le hl1
     refine ⟨⟨0, Nat.zero_le _, rfl, rfl, rfl, rfl⟩, fun x hx => ⟨fun q3 => ?_, fun q3 => ?_⟩⟩
     · have hlt := ltN28 q3
       have hm : xs.getD x T_Item.dflt ∈ xs := by
        rw [List.getD_eq_getElem?_getD, List.getElem?_eq_getElem hlt]; exact List.getElem_mem _
       rw [toN28]
       have s1 := flat_snoc (f := outV l) hlt
       have s2 := flat_snoc (f := lackV l) hlt
       have s3 := flat_snoc (f := otherV l) hlt
       have b1 := hout x
       have b2 := hlack x
       have b3 := hoth x
       rw [List.length_take] at b1 b2 b3
       have hy := hsm _ hm
       have hin : inI64 (ofN x + 1) := inN28 (by omega)
       generalize xs.getD x T_Item.dflt = y at *
       have hr := good_right hy.1
       have hk := good_kinds hy.1
       have c1 := out_le l y
       have c2 := hy.2
       have c3 := belowV_le l (iP y)
       have c4 := lessV_le (iL y) (belowV l (iP y))
       have c5 := lessV_le (belowV l (iP y)) (iL y)
       refine ⟨wN28 hlt, ⟨le256 hr, by omega⟩, fun q4 => ?_, fun q4 => ⟨fun q5 => ?_, fun q5 => ⟨fun q6 => ?_, fun q6 => ?_⟩⟩⟩
       · have k1 : y.1 = 1 := by simpa using q4
         obtain ⟨o2, o3, _⟩ := outS (l := l) (x := y) (by rw [k1]; decide) (by rw [k1]; decide) (by rw [k1]; decide)
         rw [out_summed k1] at s1 c1
         refine ⟨⟨hr, by omega⟩, by unfold ROOM; omega, hin, x + 1, hlt, by omega, rfl, s1.symm, ?_, ?_⟩
         · rw [s2, o2, List.append_nil]
         · rw [s3, o3, List.append_nil]
       · have k2 : y.1 = 2 := by simpa using q5
         obtain ⟨o1, o2, o3, _⟩ := out2 (l := l) (x := y) k2
         refine ⟨?_, hin, x + 1, hlt, by omega, rfl, ?_, ?_, ?_⟩
         · show _ + 1 ≤ ROOM
           unfold ROOM; omega
         · rw [s1, o1]; rfl
         · rw [s2, o2, List.append_nil]
         · rw [s3, o3, List.append_nil]
       · have k3 : y.1 = 3 := by simpa using q6
         obtain ⟨o1, o2, o3, _⟩ := out3 (l := l) (x := y) k3
         refine ⟨?_, by show (iL y).length ≤ _; omega, ?_, by show (belowV l (iP y)).length ≤ _; omega, ?_, hin, x + 1, hlt, by omega, rfl, ?_, ?_, ?_⟩
         · show _ + 1 ≤ ROOM
           unfold ROOM; omega
         · show _ + (lessV (iL y) (belowV l (iP y))).length ≤ ROOM
           unfold ROOM; omega
         · show _ + (lessV (belowV l (iP y)) (iL y)).length ≤ ROOM
           unfold ROOM; omega
         · rw [s1, o1]; rfl
         · rw [s2, o2]; rfl
         · rw [s3, o3]; rfl
       · have k4 : y.1 = 4 := by
           rcases hk with h | h | ⟨h | h, _⟩
           · rw [h] at q4; cases q4
           · rw [h] at q5; cases q5
           · rw [h] at q6; cases q6
           · exact h
         obtain ⟨o1, o2, o3, _⟩ := out4 (l := l) (x := y) k4
         refine ⟨by show (iL y).length ≤ _; omega, ?_, by show (belowV l (iP y)).length ≤ _; omega, ?_, hin, x + 1, hlt, by omega, rfl, ?_, ?_, ?_⟩
         · show _ + (lessV (iL y) (belowV l (iP y))).length ≤ ROOM
           unfold ROOM; omega
         · show _ + (lessV (belowV l (iP y)) (iL y)).length ≤ ROOM
           unfold ROOM; omega
         · rw [s1, o1, List.append_nil]
         · rw [s2, o2]; rfl
         · rw [s3, o3]; rfl
     · have hge := geN28 q3
       have b2 := hlack x
       have b3 := hoth x
       rw [List.take_of_length_le hge] at b2 b3 ⊢
       rw [e1]
       exact ⟨by omega, by omega, rfl, rfl, rfl, rfl⟩

theorem ref28_Meet_vc (a b : List DigP) (h : okMt a b) :
 ((checkS a != 0 || checkS b != 0) = true → nilOf (List (BitVec 8)) = (meetV a b).1 ∧ nilOf (List (BitVec 8)) = (meetV a b).2.1 ∧ 0 = (meetV a b).2.2.1 ∧ 281 = (meetV a b).2.2.2) ∧
  ((checkS a != 0 || checkS b != 0) = false →
  (∃ (x : Nat),
  (x ≤ 140 ∧ ∀ (j : Nat), j ≤ x → ¬(stepsM a b j).1 = nilOf (Int × Int × List (BitVec 8) × Int × List (BitVec 8) × List (List (BitVec 8)))) ∧
  1 = ofN x + 1 ∧ (beginW a).1 = (stepsM a b x).1 ∧ (stepsM a b x).2 = nilOf (List (BitVec 8)) ∧ (stepsM a b x).3 = nilOf (List (BitVec 8))) ∧
  ∀ (x : Nat),
  (x ≤ 140 ∧ ∀ (j : Nat), j ≤ x → ¬(stepsM a b j).1 = nilOf (Int × Int × List (BitVec 8) × Int × List (BitVec 8) × List (List (BitVec 8)))) →
  (decide (ofN x + 1 < 1000) = true →
  ofN 2 ≠ 0 ∧
  ((Int.tmod (ofN x + 1) 2 == 1) = true →
  okR b (stepsM a b x).1 ∧
  List.length (stepsM a b x).3 + List.length (respV b (stepsM a b x).1).2.1 ≤ ROOM ∧
  ((ofN (List.length (respV b (stepsM a b x).1).1) == 0) = true →
  List.length (stepsM a b x).2 ≤ 100000000 ∧
  List.length ((stepsM a b x).3 ++ (respV b (stepsM a b x).1).2.1) ≤ 100000000 ∧
  risV (stepsM a b x).2 = (meetV a b).1 ∧
  risV ((stepsM a b x).3 ++ (respV b (stepsM a b x).1).2.1) = (meetV a b).2.1 ∧ ofN x + 1 = (meetV a b).2.2.1 ∧ 0 = (meetV a b).2.2.2) ∧
  ((ofN (List.length (respV b (stepsM a b x).1).1) == 0) = false →
  inI64 (ofN x + 1 + 1) ∧
  ∃ (x' : Nat),
  (x' ≤ 140 ∧ ∀ (j : Nat), j ≤ x' → ¬(stepsM a b j).1 = nilOf (Int × Int × List (BitVec 8) × Int × List (BitVec 8) × List (List (BitVec 8)))) ∧
  2000 - x' < 2000 - x ∧
  ofN x + 1 + 1 = ofN x' + 1 ∧
  (respV b (stepsM a b x).1).1 = (stepsM a b x').1 ∧
  (stepsM a b x).2 = (stepsM a b x').2 ∧ (stepsM a b x).3 ++ (respV b (stepsM a b x).1).2.1 = (stepsM a b x').3)) ∧
  ((Int.tmod (ofN x + 1) 2 == 1) = false →
  okR a (stepsM a b x).1 ∧
  List.length (stepsM a b x).2 + List.length (respV a (stepsM a b x).1).2.1 ≤ ROOM ∧
  ((ofN (List.length (respV a (stepsM a b x).1).1) == 0) = true →
  List.length ((stepsM a b x).2 ++ (respV a (stepsM a b x).1).2.1) ≤ 100000000 ∧
  List.length (stepsM a b x).3 ≤ 100000000 ∧
  risV ((stepsM a b x).2 ++ (respV a (stepsM a b x).1).2.1) = (meetV a b).1 ∧
  risV (stepsM a b x).3 = (meetV a b).2.1 ∧ ofN x + 1 = (meetV a b).2.2.1 ∧ 0 = (meetV a b).2.2.2) ∧
  ((ofN (List.length (respV a (stepsM a b x).1).1) == 0) = false →
  inI64 (ofN x + 1 + 1) ∧
  ∃ (x' : Nat),
  (x' ≤ 140 ∧ ∀ (j : Nat), j ≤ x' → ¬(stepsM a b j).1 = nilOf (Int × Int × List (BitVec 8) × Int × List (BitVec 8) × List (List (BitVec 8)))) ∧
  2000 - x' < 2000 - x ∧
  ofN x + 1 + 1 = ofN x' + 1 ∧
  (respV a (stepsM a b x).1).1 = (stepsM a b x').1 ∧
  (stepsM a b x).2 ++ (respV a (stepsM a b x).1).2.1 = (stepsM a b x').2 ∧ (stepsM a b x).3 = (stepsM a b x').3))) ∧
  (decide (ofN x + 1 < 1000) = false → nilOf (List (BitVec 8)) = (meetV a b).1 ∧ nilOf (List (BitVec 8)) = (meetV a b).2.1 ∧ 0 = (meetV a b).2.2.1 ∧ 280 = (meetV a b).2.2.2)) := by
 refine ⟨fun q => ?_, fun q => ?_⟩
 · have hno : ¬ checkS a = 0 ∨ ¬ checkS b = 0 := by
     by_cases ha : checkS a = 0
     · by_cases hb : checkS b = 0
       · rw [ha, hb] at q; cases q
       · exact .inr hb
     · exact .inl ha
   rw [meet_no hno]
   exact ⟨rfl, rfl, rfl, rfl⟩
 · rw [Bool.or_eq_false_iff] at q
   have ha : checkS a = 0 := by simpa using q.1
   have hb : checkS b = 0 := by simpa using q.2
   have la := h.1 ha
   have lb := h.2 hb
   have e0 : (beginW a).1 = [sumV a ((0 : Int), zeroD)] := by rw [begin_two, ha]; rfl
   rw [e0]
   refine ⟨⟨0, ⟨Nat.zero_le _, fun j hj => ?_⟩, rfl, rfl, rfl, rfl⟩, fun x hx => ⟨fun q2 => ⟨by decide, fun q3 => ?_, fun q3 => ?_⟩, fun q2 => ?_⟩⟩
   · have : j = 0 := by omega
     subst this
     exact List.cons_ne_nil _ _
   · have h131 := way_early (way_ok ha hb la lb x) (hx.2 x (Nat.le_refl _))
     have heven : x % 2 = 0 := by
      rw [mod_n] at q3
      have q3 : (((x + 1) % 2 : Nat) : Int) = 1 := by simpa using q3
      omega
     have hok := way_okR ha hb la lb (k := x) (by omega) b lb
     have hw1 := way_ok ha hb la lb (x + 1)
     have hm1 := bdM_mono (j := x + 1) (k := 132) (by omega)
     have hb132 := bdM_132
     have hl1 := hw1.la
     have hl2 := hw1.lb
     have se := steps_even (a := a) (b := b) heven
     have hmeet := meet_is (a := a) (b := b) (x := x + 1) ha hb
     have hway := way_early hw1
     rw [se] at hl1 hl2 hmeet hway
     dsimp only at hl1 hl2 hmeet hway
     have hl2' := hl2
     rw [List.length_append] at hl2'
     refine ⟨hok, by unfold ROOM; exact Nat.le_trans hl2' (by omega), fun q4 => ?_, fun q4 => ⟨by show inI64 ((x : Int) + 1 + 1); unfold inI64; omega, x + 1, ?_, by omega, rfl, ?_⟩⟩
     · have he : (respV b (stepsM a b x).way).1 = [] := by
         have : (((respV b (stepsM a b x).way).1.length : Nat) : Int) = 0 := by simpa using q4
         exact List.eq_nil_of_length_eq_zero (by omega)
       rw [hmeet he (fun j hj => hx.2 j (by omega)) (by omega)]
       exact ⟨Nat.le_trans hl1 (by omega), Nat.le_trans hl2 (by omega), rfl, rfl, rfl, rfl⟩
     · have hne : ¬ (respV b (stepsM a b x).way).1 = [] := fun e => by rw [e] at q4; cases q4
       have := hway hne
       refine ⟨by omega, fun j hj => ?_⟩
       by_cases e : j = x + 1
       · rw [e, se]; exact hne
       · exact hx.2 j (by omega)
     · rw [se]; exact ⟨rfl, rfl, rfl⟩
   · have h131 := way_early (way_ok ha hb la lb x) (hx.2 x (Nat.le_refl _))
     have hodd : ¬ x % 2 = 0 := by
      rw [mod_n] at q3
      have q3 : ¬ (((x + 1) % 2 : Nat) : Int) = 1 := by simpa using q3
      omega
     have hok := way_okR ha hb la lb (k := x) (by omega) a la
     have hw1 := way_ok ha hb la lb (x + 1)
     have hm1 := bdM_mono (j := x + 1) (k := 132) (by omega)
     have hb132 := bdM_132
     have hl1 := hw1.la
     have hl2 := hw1.lb
     have se := steps_odd (a := a) (b := b) hodd
     have hmeet := meet_is (a := a) (b := b) (x := x + 1) ha hb
     have hway := way_early hw1
     rw [se] at hl1 hl2 hmeet hway
     dsimp only at hl1 hl2 hmeet hway
     have hl1' := hl1
     rw [List.length_append] at hl1'
     refine ⟨hok, by unfold ROOM; exact Nat.le_trans hl1' (by omega), fun q4 => ?_, fun q4 => ⟨by show inI64 ((x : Int) + 1 + 1); unfold inI64; omega, x + 1, ?_, by omega, rfl, ?_⟩⟩
     · have he : (respV a (stepsM a b x).way).1 = [] := by
         have : (((respV a (stepsM a b x).way).1.length : Nat) : Int) = 0 := by simpa using q4
         exact List.eq_nil_of_length_eq_zero (by omega)
       rw [hmeet he (fun j hj => hx.2 j (by omega)) (by omega)]
       exact ⟨Nat.le_trans hl1 (by omega), Nat.le_trans hl2 (by omega), rfl, rfl, rfl, rfl⟩
     · have hne : ¬ (respV a (stepsM a b x).way).1 = [] := fun e => by rw [e] at q4; cases q4
       have := hway hne
       refine ⟨by omega, fun j hj => ?_⟩
       by_cases e : j = x + 1
       · rw [e, se]; exact hne
       · exact hx.2 j (by omega)
     · rw [se]; exact ⟨rfl, rfl, rfl⟩
   · exfalso
     have q2 : ¬ (x : Int) + 1 < 1000 := of_decide_eq_false q2
     have := hx.1
     omega

theorem ref28_Same_vc (x y : Item) :
 (x.1 == y.1 && (x.2.1 == y.2.1 && eqL T.u8 x.2.2.1 y.2.2.1) && x.2.2.2.1 == y.2.2.2.1 && eqL T.u8 x.2.2.2.2.1 y.2.2.2.2.1 && sameDg x.2.2.2.2.2 y.2.2.2.2.2) = sameIt x y := by
 exact same_form x y

theorem ref28_SameAll_vc (a b : List Item) (hl : a.length ≤ LIM) :
 ((ofN (List.length a) != ofN (List.length b)) = true → false = sameIs a b) ∧
  ((ofN (List.length a) != ofN (List.length b)) = false →
  (∃ (x : Nat), (x ≤ List.length a ∧ List.take x a = List.take x b) ∧ 0 = ofN x) ∧
  ∀ (x : Nat),
  x ≤ List.length a ∧ List.take x a = List.take x b →
  (decide (ofN x < ofN (List.length a)) = true →
  within (ofN x) (List.length a) ∧
  within (ofN x) (List.length b) ∧
  ((!sameIt (List.getD a (Int.toNat (ofN x)) (T.dflt T_Item))
  (List.getD b (Int.toNat (ofN x)) (T.dflt T_Item))) =
  true →
  false = sameIs a b) ∧
  ((!sameIt (List.getD a (Int.toNat (ofN x)) (T.dflt T_Item))
  (List.getD b (Int.toNat (ofN x)) (T.dflt T_Item))) =
  false →
  inI64 (ofN x + 1) ∧ ∃ (x' : Nat), (x' ≤ List.length a ∧ List.take x' a = List.take x' b) ∧ List.length a - x' < List.length a - x ∧ ofN x + 1 = ofN x')) ∧
  (decide (ofN x < ofN (List.length a)) = false → true = sameIs a b)) := by
 unfold LIM at hl
 refine ⟨fun g => ?_, fun g => ?_⟩
 · simp only [bne_iff_ne, ne_eq] at g
   exact (sameIs_no fun e => g (by rw [e])).symm
 · have g : a.length = b.length := by have : ((a.length : Nat) : Int) = ((b.length : Nat) : Int) := by simpa using g
                                      omega
   refine ⟨⟨0, ⟨Nat.zero_le _, rfl⟩, rfl⟩, fun x hx => ⟨fun h => ?_, fun h => ?_⟩⟩
   · have hlt := ltN28 h
     rw [toN28]
     unfold sameIt
     refine ⟨wN28 hlt, wN28 (by omega), fun h => ?_, fun h => ⟨inN28 (by omega), x + 1, ⟨by omega, ?_⟩, by omega, rfl⟩⟩
     · refine (sameIs_no fun e => ?_).symm
       subst e
       simp at h
     · have h : a.getD x T_Item.dflt = b.getD x T_Item.dflt := by simpa using h
       rw [take_snocI hlt, take_snocI (by omega), hx.2, h]
   · have e : x = a.length := by have := geN28 h; omega
     have h1 := hx.2
     rw [e, List.take_of_length_le (Nat.le_refl _), g, List.take_of_length_le (Nat.le_refl _)] at h1
     exact (sameIs_iff.2 h1).symm

theorem ref28_Twice_vc (a b : List DigP) (h1 : a.length ≤ 1000000) (h2 : b.length ≤ 1000000) (h3 : ∀ d ∈ a ++ b, d.length = 32) :
 List.length (nilOf (List (BitVec 8))) + List.length a ≤ ROOM ∧
  List.length (nilOf (List (BitVec 8)) ++ a) + List.length b ≤ ROOM ∧
  (∃ (x : Nat), (x ≤ List.length (a ++ b) ∧ twiceK a b x = false) ∧ 0 = ofN x) ∧
  ∀ (x : Nat),
  x ≤ List.length (a ++ b) ∧ twiceK a b x = false →
  (decide (ofN x < ofN (List.length (nilOf (List (BitVec 8)) ++ a ++ b))) = true →
  (∃ (x_1 : Nat), (x_1 ≤ 257 ∧ List.any (List.range x_1) (clashV a b (List.getD (a ++ b) (Int.toNat (ofN x)) (T.dflt (T.arr 32 T.u8)))) = false) ∧ 0 = ofN x_1) ∧
  ∀ (x_1 : Nat),
  x_1 ≤ 257 ∧ List.any (List.range x_1) (clashV a b (List.getD (a ++ b) (Int.toNat (ofN x)) (T.dflt (T.arr 32 T.u8)))) = false →
  (decide (ofN x_1 ≤ 256) = true →
  (∃ (x_2 : Nat),
  ofN x_2 ≤ ofN x_1 ∧ 0 = ofN x_2 ∧ ofN x_1 = ofN x_1 ∧ List.replicate 32 0#8 = maskV (List.getD (a ++ b) (Int.toNat (ofN x)) (T.dflt (T.arr 32 T.u8))) (ofN x_2) false) ∧
  ∀ (x_2 : Nat),
  ofN x_2 ≤ ofN x_1 →
  (decide (ofN x_2 < ofN x_1) = true →
  within (ofN x) (List.length (nilOf (List (BitVec 8)) ++ a ++ b)) ∧
  (0 ≤ ofN x_2 ∧ ofN x_2 ≤ 255) ∧
  (0 ≤ ofN x_2 ∧
  ofN x_2 ≤ 255 ∧
  (bitI (List.getD (nilOf (List (BitVec 8)) ++ a ++ b) (Int.toNat (ofN x)) (T.dflt (T.arr 32 T.u8))) (ofN x_2) = 0 ∨
  bitI (List.getD (nilOf (List (BitVec 8)) ++ a ++ b) (Int.toNat (ofN x)) (T.dflt (T.arr 32 T.u8))) (ofN x_2) = 1) ∧
  bitV (maskV (List.getD (a ++ b) (Int.toNat (ofN x)) (T.dflt (T.arr 32 T.u8))) (ofN x_2) false) (Int.toNat (ofN x_2)) = false) ∧
  inI64 (ofN x_2 + 1) ∧
  ∃ (x' : Nat),
  ofN x' ≤ ofN x_1 ∧
  Int.toNat (ofN x_1) - x' < Int.toNat (ofN x_1) - x_2 ∧
  ofN x_2 + 1 = ofN x' ∧
  ofN x_1 = ofN x_1 ∧
  withV (maskV (List.getD (a ++ b) (Int.toNat (ofN x)) (T.dflt (T.arr 32 T.u8))) (ofN x_2) false) (ofN x_2)
  (bitI (List.getD (nilOf (List (BitVec 8)) ++ a ++ b) (Int.toNat (ofN x)) (T.dflt (T.arr 32 T.u8))) (ofN x_2)) =
  maskV (List.getD (a ++ b) (Int.toNat (ofN x)) (T.dflt (T.arr 32 T.u8))) (ofN x') false) ∧
  (decide (ofN x_2 < ofN x_1) = false →
  (ofN x_1 ≤ 256 ∧ List.length a ≤ 100000000) ∧
  (ofN x_1 ≤ 256 ∧ List.length b ≤ 100000000) ∧
  ((!sameDg (belowV a (ofN x_1, maskV (List.getD (a ++ b) (Int.toNat (ofN x)) (T.dflt (T.arr 32 T.u8))) (ofN x_2) false))
  (belowV b (ofN x_1, maskV (List.getD (a ++ b) (Int.toNat (ofN x)) (T.dflt (T.arr 32 T.u8))) (ofN x_2) false))) =
  true →
  List.length (belowV a (ofN x_1, maskV (List.getD (a ++ b) (Int.toNat (ofN x)) (T.dflt (T.arr 32 T.u8))) (ofN x_2) false)) ≤ 10000000) ∧
  ((!sameDg (belowV a (ofN x_1, maskV (List.getD (a ++ b) (Int.toNat (ofN x)) (T.dflt (T.arr 32 T.u8))) (ofN x_2) false))
  (belowV b (ofN x_1, maskV (List.getD (a ++ b) (Int.toNat (ofN x)) (T.dflt (T.arr 32 T.u8))) (ofN x_2) false))) =
  true →
  List.length (List.flatten (belowV a (ofN x_1, maskV (List.getD (a ++ b) (Int.toNat (ofN x)) (T.dflt (T.arr 32 T.u8))) (ofN x_2) false))) ≤ 1073741824) ∧
  ((!sameDg (belowV a (ofN x_1, maskV (List.getD (a ++ b) (Int.toNat (ofN x)) (T.dflt (T.arr 32 T.u8))) (ofN x_2) false))
  (belowV b (ofN x_1, maskV (List.getD (a ++ b) (Int.toNat (ofN x)) (T.dflt (T.arr 32 T.u8))) (ofN x_2) false))) =
  true →
  List.length (belowV b (ofN x_1, maskV (List.getD (a ++ b) (Int.toNat (ofN x)) (T.dflt (T.arr 32 T.u8))) (ofN x_2) false)) ≤ 10000000) ∧
  ((!sameDg (belowV a (ofN x_1, maskV (List.getD (a ++ b) (Int.toNat (ofN x)) (T.dflt (T.arr 32 T.u8))) (ofN x_2) false))
  (belowV b (ofN x_1, maskV (List.getD (a ++ b) (Int.toNat (ofN x)) (T.dflt (T.arr 32 T.u8))) (ofN x_2) false))) =
  true →
  List.length (List.flatten (belowV b (ofN x_1, maskV (List.getD (a ++ b) (Int.toNat (ofN x)) (T.dflt (T.arr 32 T.u8))) (ofN x_2) false))) ≤ 1073741824) ∧
  ((!sameDg (belowV a (ofN x_1, maskV (List.getD (a ++ b) (Int.toNat (ofN x)) (T.dflt (T.arr 32 T.u8))) (ofN x_2) false))
  (belowV b (ofN x_1, maskV (List.getD (a ++ b) (Int.toNat (ofN x)) (T.dflt (T.arr 32 T.u8))) (ofN x_2) false)) &&
  eqL T.u8 (sha (List.flatten (belowV a (ofN x_1, maskV (List.getD (a ++ b) (Int.toNat (ofN x)) (T.dflt (T.arr 32 T.u8))) (ofN x_2) false))))
  (sha (List.flatten (belowV b (ofN x_1, maskV (List.getD (a ++ b) (Int.toNat (ofN x)) (T.dflt (T.arr 32 T.u8))) (ofN x_2) false))))) =
  true →
  true = twiceV a b) ∧
  ((!sameDg (belowV a (ofN x_1, maskV (List.getD (a ++ b) (Int.toNat (ofN x)) (T.dflt (T.arr 32 T.u8))) (ofN x_2) false))
  (belowV b (ofN x_1, maskV (List.getD (a ++ b) (Int.toNat (ofN x)) (T.dflt (T.arr 32 T.u8))) (ofN x_2) false)) &&
  eqL T.u8 (sha (List.flatten (belowV a (ofN x_1, maskV (List.getD (a ++ b) (Int.toNat (ofN x)) (T.dflt (T.arr 32 T.u8))) (ofN x_2) false))))
  (sha (List.flatten (belowV b (ofN x_1, maskV (List.getD (a ++ b) (Int.toNat (ofN x)) (T.dflt (T.arr 32 T.u8))) (ofN x_2) false))))) =
  false →
  inI64 (ofN x_1 + 1) ∧
  ∃ (x' : Nat),
  (x' ≤ 257 ∧ List.any (List.range x') (clashV a b (List.getD (a ++ b) (Int.toNat (ofN x)) (T.dflt (T.arr 32 T.u8)))) = false) ∧
  257 - x' < 257 - x_1 ∧ ofN x_1 + 1 = ofN x'))) ∧
  (decide (ofN x_1 ≤ 256) = false →
  inI64 (ofN x + 1) ∧ ∃ (x' : Nat), (x' ≤ List.length (a ++ b) ∧ twiceK a b x' = false) ∧ List.length (a ++ b) - x' < List.length (a ++ b) - x ∧ ofN x + 1 = ofN x')) ∧
  (decide (ofN x < ofN (List.length (nilOf (List (BitVec 8)) ++ a ++ b))) = false → false = twiceV a b) := by
 have e0 : nilOf (List (BitVec 8)) ++ a ++ b = a ++ b := rfl
 have ha32 : ∀ d ∈ a, d.length = 32 := fun d hd => h3 d (List.mem_append.2 (.inl hd))
 have hb32 : ∀ d ∈ b, d.length = 32 := fun d hd => h3 d (List.mem_append.2 (.inr hd))
 have hlen : (a ++ b).length = a.length + b.length := List.length_append
 rw [e0]
 refine ⟨?_, ?_, ⟨0, ⟨Nat.zero_le _, rfl⟩, rfl⟩, fun x hx => ⟨fun q => ?_, fun q => ?_⟩⟩
 · show 0 + a.length ≤ ROOM
   unfold ROOM; omega
 · show a.length + b.length ≤ ROOM
   unfold ROOM; omega
 · have hlt := ltN28 q
   rw [toN28]
   have hm : (a ++ b).getD x dig0 ∈ a ++ b := by rw [getD_lt hlt]; exact List.getElem_mem _
   have hmt : (a ++ b).getD x dig0 ∈ (a ++ b).take (x + 1) := by
    rw [take_snoc' (d := dig0) hlt]; exact List.mem_append.2 (.inr (List.mem_singleton.2 rfl))
   have hs : twiceK a b (x + 1) = (twiceK a b x || (List.range 257).any (clashV a b ((a ++ b).getD x dig0))) := by
    unfold twiceK
    rw [take_snoc' (d := dig0) hlt, List.any_append, List.any_cons, List.any_nil, Bool.or_false]
   have htw : ∀ n, n < 257 → clashV a b ((a ++ b).getD x dig0) n = true → twiceV a b = true := fun n hn hc => by
    unfold twiceV twiceK
    rw [List.take_length, List.any_eq_true]
    exact ⟨_, hm, List.any_eq_true.2 ⟨n, List.mem_range.2 hn, hc⟩⟩
   have hD := h3 _ hm
   generalize (a ++ b).getD x dig0 = D at *
   refine ⟨⟨0, ⟨by omega, rfl⟩, rfl⟩, fun n hn => ⟨fun q2 => ?_, fun q2 => ?_⟩⟩
   · have q2 : (n : Int) ≤ 256 := of_decide_eq_true q2
     refine ⟨⟨0, by show ((0 : Nat) : Int) ≤ (n : Int); omega, rfl, rfl, mask0 D hD⟩, fun k hk => ⟨fun q3 => ?_, fun q3 => ?_⟩⟩
     · have q3 : (k : Int) < (n : Int) := of_decide_eq_true q3
       have w : (0 : Int) ≤ ofN k ∧ (ofN k : Int) ≤ 255 := ⟨by show (0 : Int) ≤ (k : Int); omega, by show (k : Int) ≤ 255; omega⟩
       refine ⟨wN28 hlt, w, ⟨w.1, w.2, bitI_two _ _, ?_⟩, inN28 (by omega), k + 1, by show ((k + 1 : Nat) : Int) ≤ (n : Int); omega, ?_, rfl, rfl, mask_succ D hD k (by omega)⟩
       · rw [toN28]
         have := mask_bit (n := (k : Int)) (ones := false) hD (i := k) (by omega)
         rw [if_neg (by omega)] at this
         exact this
       · rw [toN28]; omega
     · have q3 : ¬ (k : Int) < (n : Int) := of_decide_eq_false q3
       have hk : (k : Int) ≤ (n : Int) := hk
       have : k = n := by omega
       subst this
       have f1 := belowV_le a ((k : Int), maskV D (k : Int) false)
       have f2 := belowV_le b ((k : Int), maskV D (k : Int) false)
       have f3 := flat_len28 ha32 ((k : Int), maskV D (k : Int) false)
       have f4 := flat_len28 hb32 ((k : Int), maskV D (k : Int) false)
       have ec : (!sameDg (belowV a (ofN k, maskV D (ofN k) false)) (belowV b (ofN k, maskV D (ofN k) false)) && eqL T.u8 (sha (List.flatten (belowV a (ofN k, maskV D (ofN k) false)))) (sha (List.flatten (belowV b (ofN k, maskV D (ofN k) false))))) = clashV a b D k := by
        rw [eqL_u8, beq_dec]; rfl
       rw [ec]
       refine ⟨⟨q2, by omega⟩, ⟨q2, by omega⟩, fun _ => ?_, fun _ => ?_, fun _ => ?_, fun _ => ?_, fun q4 => (htw k (by omega) q4).symm, fun q4 => ⟨inN28 (by omega), k + 1, ⟨by omega, ?_⟩, by omega, rfl⟩⟩
       · exact Nat.le_trans f1 (by omega)
       · exact Nat.le_trans f3 (by omega)
       · exact Nat.le_trans f2 (by omega)
       · exact Nat.le_trans f4 (by omega)
       · rw [List.range_succ, List.any_append, hn.2, List.any_cons, List.any_nil, q4]; rfl
   · have q2 : ¬ (n : Int) ≤ 256 := of_decide_eq_false q2
     have : n = 257 := by have := hn.1; omega
     subst this
     refine ⟨inN28 (by omega), x + 1, ⟨hlt, ?_⟩, by omega, rfl⟩
     rw [hs, hx.2, hn.2]; rfl
 · have hge := geN28 q
   have := hx.2
   unfold twiceV
   have e : x = (a ++ b).length := by have := hx.1; omega
   rw [← e]
   exact this.symm

theorem ref28_bit_spec : Vse.Spec P f_ref28_bit c_bit := spec_fn (l := []) trivial h_ref28_bit rfl rfl fun x h ok => body_ok (an_none) (ref28_bit_vc x.1 x.2.1 ok.1.1 (got h)) (by kernel_rfl)

theorem ref28_with_spec : Vse.Spec P f_ref28_with c_with := spec_fn (l := []) trivial h_ref28_with rfl rfl fun x h ok => body_ok (an_none) (ref28_with_vc x.1 x.2.1 x.2.2.1 ok.1.1 ⟨(got h).1, (got h).2.1⟩ (got h).2.2.1 (got h).2.2.2) (by kernel_rfl)

theorem ref28_Right_spec : Vse.Spec P f_ref28_Right c_RightR := spec_fn (l := [(f_ref28_bit, c_bit)]) ⟨ref28_bit_spec, trivial⟩ h_ref28_Right rfl rfl fun x _ ok => body_ok (an_RightR x.1) (ref28_Right_vc x.1 ok.1.2.1) (by kernel_rfl)

theorem ref28_Check_spec : Vse.Spec P f_ref28_Check c_rCheckS := spec_fn (l := [(f_ref12_Less, c_less)]) ⟨ref12_Less_spec, trivial⟩ h_ref28_Check rfl rfl fun x _ ok => body_ok (an_CheckR x.1) (ref28_Check_vc x.1 ok.1.1) (by kernel_rfl)

theorem ref28_Under_spec : Vse.Spec P f_ref28_Under c_Under := spec_fn (l := [(f_ref28_bit, c_bit)]) ⟨ref28_bit_spec, trivial⟩ h_ref28_Under rfl rfl fun x h _ => body_ok (an_Under x.1 x.2.1) (ref28_Under_vc x.1 x.2.1 (got h)) (by kernel_rfl)

theorem ref28_Parts_spec : Vse.Spec P f_ref28_Parts c_PartsR := spec_fn (l := [(f_ref28_Right, c_RightR), (f_ref28_with, c_with)]) ⟨ref28_Right_spec, ref28_with_spec, trivial⟩ h_ref28_Parts rfl rfl fun x _ ok => body_ok (an_PartsR x.1) (ref28_Parts_vc x.1 ok.1.2.1) (by kernel_rfl)

theorem ref28_below_spec : Vse.Spec P f_ref28_below c_belowR := spec_fn (l := [(f_ref28_Under, c_Under)]) ⟨ref28_Under_spec, trivial⟩ h_ref28_below rfl rfl fun x h _ => body_ok (an_belowR x.1 x.2.1) (ref28_below_vc x.1 x.2.1 (got h).1 (got h).2) (by kernel_rfl)

theorem ref28_all_spec : Vse.Spec P f_ref28_all c_allR := spec_fn (l := []) trivial h_ref28_all rfl rfl fun x h ok => body_ok (an_allR x.1) (ref28_all_vc x.1 (got h) (okRow_slc ok.1).2) (by kernel_rfl)

theorem ref28_sum_spec : Vse.Spec P f_ref28_sum c_sumR := spec_fn (l := [(f_ref28_below, c_belowR), (f_ref28_all, c_allR), (f_ref03_Of, c_rOf)]) ⟨ref28_below_spec, ref28_all_spec, ref03_Of_spec, trivial⟩ h_ref28_sum rfl rfl fun x h ok => body_ok (an_none) (ref28_sum_vc x.1 x.2.1 (got h).1 (got h).2 (okRow_slc ok.1).2) (by kernel_rfl)

theorem ref28_Below_spec : Vse.Spec P f_ref28_Below c_Below28 := spec_fn (l := [(f_ref28_Check, c_rCheckS), (f_ref28_Right, c_RightR), (f_ref28_below, c_belowR)]) ⟨ref28_Check_spec, ref28_Right_spec, ref28_below_spec, trivial⟩ h_ref28_Below rfl rfl fun x _ _ => body_ok (an_none) (ref28_Below_vc x.1 x.2.1) (by kernel_rfl)

theorem ref28_Sum_spec : Vse.Spec P f_ref28_Sum c_Sum28 := spec_fn (l := [(f_ref28_Below, c_Below28), (f_ref28_sum, c_sumR)]) ⟨ref28_Below_spec, ref28_sum_spec, trivial⟩ h_ref28_Sum rfl rfl fun x _ _ => body_ok (an_none) (ref28_Sum_vc x.1 x.2.1) (by kernel_rfl)

theorem ref28_Good_spec : Vse.Spec P f_ref28_Good c_Good := spec_fn (l := [(f_ref28_Right, c_RightR), (f_ref28_Check, c_rCheckS), (f_ref28_below, c_belowR)]) ⟨ref28_Right_spec, ref28_Check_spec, ref28_below_spec, trivial⟩ h_ref28_Good rfl rfl fun x _ _ => body_ok (annP an_none) (ref28_Good_vc x.1) (by kernel_rfl)

theorem ref28_Begin_spec : Vse.Spec P f_ref28_Begin c_Begin := spec_fn (l := [(f_ref28_Check, c_rCheckS), (f_ref28_sum, c_sumR)]) ⟨ref28_Check_spec, ref28_sum_spec, trivial⟩ h_ref28_Begin rfl rfl fun x _ _ => body_ok (an_none) (ref28_Begin_vc x.1) (by kernel_rfl)

theorem ref12_In_spec : Vse.Spec P f_ref12_In c_In := spec_fn (l := []) trivial h_ref12_In rfl rfl fun x _ ok => body_ok (an_In x.1 x.2.1) (ref12_In_vc x.1 x.2.1 ok.1.1) (by kernel_rfl)

theorem ref28_without_spec : Vse.Spec P f_ref28_without c_without := spec_fn (l := [(f_ref12_In, c_In)]) ⟨ref12_In_spec, trivial⟩ h_ref28_without rfl rfl fun x h _ => body_ok (an_without x.1 x.2.1) (ref28_without_vc x.1 x.2.1 (got h)) (by kernel_rfl)

theorem ref28_summed_spec : Vse.Spec P f_ref28_summed c_summed := spec_fn (l := [(f_ref28_sum, c_sumR), (f_ref28_below, c_belowR), (f_ref28_Parts, c_PartsR)]) ⟨ref28_sum_spec, ref28_below_spec, ref28_Parts_spec, trivial⟩ h_ref28_summed rfl rfl fun x h ok => body_ok (an_summed x.1 x.2.1) (ref28_summed_vc x.1 x.2.1 (got h).1 (got h).2 ok.2.1.2.2.1.1) (by kernel_rfl)

theorem ref28_Respond_spec : Vse.Spec P f_ref28_Respond c_Respond := spec_fn (l := [(f_ref28_Check, c_rCheckS), (f_ref28_Good, c_Good), (f_ref28_below, c_belowR), (f_ref28_summed, c_summed), (f_ref28_without, c_without), (f_ref20_Rising, c_ris20)]) ⟨ref28_Check_spec, ref28_Good_spec, ref28_below_spec, ref28_summed_spec, ref28_without_spec, ref20_Rising_spec, trivial⟩ h_ref28_Respond rfl rfl fun x h _ => body_ok (annP (an_RespR x.1 x.2.1)) (ref28_Respond_vc x.1 x.2.1 (got h)) (by kernel_rfl)

theorem ref28_Meet_spec : Vse.Spec P f_ref28_Meet c_Meet := spec_fn (l := [(f_ref28_Check, c_rCheckS), (f_ref28_Begin, c_Begin), (f_ref28_Respond, c_Respond), (f_ref20_Rising, c_ris20)]) ⟨ref28_Check_spec, ref28_Begin_spec, ref28_Respond_spec, ref20_Rising_spec, trivial⟩ h_ref28_Meet rfl rfl fun x h _ => body_ok (an_MeetR x.1 x.2.1) (ref28_Meet_vc x.1 x.2.1 (got h)) (by kernel_rfl)

theorem ref28_Same_spec : Vse.Spec P f_ref28_Same c_SameIt := spec_fn (l := [(f_ref12_Same, c_Same12)]) ⟨ref12_Same_spec, trivial⟩ h_ref28_Same rfl rfl fun x _ _ => body_ok (an_none) (ref28_Same_vc x.1 x.2.1) (by kernel_rfl)

theorem ref28_SameAll_spec : Vse.Spec P f_ref28_SameAll c_SameAll := spec_fn (l := [(f_ref28_Same, c_SameIt)]) ⟨ref28_Same_spec, trivial⟩ h_ref28_SameAll rfl rfl fun x _ ok => body_ok (an_SameAll x.1 x.2.1) (ref28_SameAll_vc x.1 x.2.1 ok.1.1) (by kernel_rfl)

theorem ref28_Twice_spec : Vse.Spec P f_ref28_Twice c_Twice := spec_fn (l := [(f_ref28_bit, c_bit), (f_ref28_with, c_with), (f_ref28_below, c_belowR), (f_ref12_Same, c_Same12), (f_ref28_all, c_allR), (f_ref03_Of, c_rOf)]) ⟨ref28_bit_spec, ref28_with_spec, ref28_below_spec, ref12_Same_spec, ref28_all_spec, ref03_Of_spec, trivial⟩ h_ref28_Twice rfl rfl fun x h ok => body_ok (an_Twice x.1 x.2.1) (ref28_Twice_vc x.1 x.2.1 (got h).1 (got h).2 (fun d hd => (List.mem_append.1 hd).elim ((okRow_slc ok.1).2 d) ((okRow_slc ok.2.1).2 d))) (by kernel_rfl)

end Go.Sal
