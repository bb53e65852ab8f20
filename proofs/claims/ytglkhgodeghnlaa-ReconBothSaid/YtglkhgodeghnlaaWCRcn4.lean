/- Contracts of the document's answer for recon. -/
import Derived.Test.YtglkhgodeghnlaaWCRcn3
set_option maxRecDepth 100000
namespace Go.Sal
open Go.Vse Go.Sal.Nm

def bitI (d : DigP) (i : Int) : Int := bif bitV d i.toNat then 1 else 0
def c_bit : PC := D [T_Dig, .i64] [.i64] (fun x => some (leP 0 x.2.1 ∧ leP x.2.1 255)) (fun x => (bitI x.1 x.2.1, ()))
def withV (d : DigP) (i b : Int) : DigP := bif b == 1 then setB d i.toNat else d
def c_with : PC := D [T_Dig, .i64, .i64] [T_Dig] (fun x => some (leP 0 x.2.1 ∧ leP x.2.1 255 ∧ (eqP (α := Int) x.2.2.1 0 ∨ eqP (α := Int) x.2.2.1 1) ∧ bitV x.1 x.2.1.toNat = false)) (fun x => (withV x.1 x.2.1 x.2.2.1, ()))
def c_Under : PC := D [T_Dig, T_Pre] [.bool] (fun x => some (leP x.2.1.1 256)) (fun x => (underV x.1 x.2.1, ()))
def an_Under (d : DigP) (p : Pre) : Nat → SState → Option LoopAnn
 | 2, _ => some { X := Nat, slots := fun i => [(5, .sv (.dv (.i64 (ofN i))))], objs := fun _ => [], inv := fun i => (i ≤ p.1.toNat) ∧ (List.range i).all (fun j => bitV d j == bitV p.2 j) = true, meas := fun i => p.1.toNat - i }
 | _, _ => none
def c_belowR : PC := D [.slc T_Dig, T_Pre] [.slc T_Dig] (fun x => some (leP x.2.1.1 256 ∧ x.1.length ≤ 100000000)) (fun x => (belowV x.1 x.2.1, ()))
def an_belowR (l : List DigP) (p : Pre) : Nat → SState → Option LoopAnn
 | 3, S => some { X := Nat, slots := fun k => [(6, .sv (.dv (.i64 (ofN k)))), (5, .sv (.own 10 T_Dig (belowV (l.take k) p)))], objs := fun _ => [(10, .tok t_api_Digest 32), (x_tok S 5, .gone)], inv := fun k => k ≤ l.length, meas := fun k => l.length - k }
 | _, _ => none
def c_allR : PC := D [.slc T_Dig] [.slc .u8] (fun x => some (x.1.length ≤ 10000000)) (fun x => (x.1.flatten, ()))
def an_allR (l : List DigP) : Nat → SState → Option LoopAnn
 | 3, S => some { X := Nat, slots := fun k => [(4, .sv (.dv (.i64 (ofN k)))), (3, .sv (.own 10 .u8 (allI l k)))], objs := fun _ => [(10, .tok t_uint8 1), (x_tok S 3, .gone)], inv := fun k => k ≤ l.length, meas := fun k => l.length - k }
 | _, _ => none
def c_In : PC := D [.slc T_Dig, T_Dig] [.bool] (fun _ => none) (fun x => (hasD x.1 x.2.1, ()))
def an_In (l : List DigP) (d : DigP) : Nat → SState → Option LoopAnn
 | 2, _ => some { X := Nat, slots := fun k => [(5, .sv (.dv (.i64 (ofN k))))], objs := fun _ => [], inv := fun k => k ≤ l.length ∧ hasD (l.take k) d = false, meas := fun k => l.length - k }
 | _, _ => none
def c_without : PC := D [.slc T_Dig, .slc T_Dig] [.slc T_Dig] (fun x => some (x.1.length ≤ 100000000)) (fun x => (lessV x.1 x.2.1, ()))
def an_without (a b : List DigP) : Nat → SState → Option LoopAnn
 | 3, S => some { X := Nat, slots := fun k => [(6, .sv (.dv (.i64 (ofN k)))), (5, .sv (.own 10 T_Dig (lessV (a.take k) b)))], objs := fun _ => [(10, .tok t_api_Digest 32), (x_tok S 5, .gone)], inv := fun k => k ≤ a.length, meas := fun k => a.length - k }
 | _, _ => none
def clashV (a b : List DigP) (d : DigP) (n : Nat) : Bool := !sameDg (belowV a ((n : Int), maskV d (n : Int) false)) (belowV b ((n : Int), maskV d (n : Int) false)) && decide (sha (belowV a ((n : Int), maskV d (n : Int) false)).flatten = sha (belowV b ((n : Int), maskV d (n : Int) false)).flatten)
def twiceK (a b : List DigP) (k : Nat) : Bool := ((a ++ b).take k).any fun d => (List.range 257).any (clashV a b d)
def twiceV (a b : List DigP) : Bool := twiceK a b (a ++ b).length
def c_Twice : PC := D [.slc T_Dig, .slc T_Dig] [.bool] (fun x => some (x.1.length ≤ 1000000 ∧ x.2.1.length ≤ 1000000)) (fun x => (twiceV x.1 x.2.1, ()))
def an_Twice (a b : List DigP) : Nat → SState → Option LoopAnn
 | 3, _ => some { X := Nat, slots := fun k => [(6, .sv (.dv (.i64 (ofN k))))], objs := fun _ => [], inv := fun k => k ≤ (a ++ b).length ∧ twiceK a b k = false, meas := fun k => (a ++ b).length - k }
 | 6, S => some { X := Nat, slots := fun n => [(7, .sv (.dv (.i64 (ofN n))))], objs := fun _ => [], inv := fun n => n ≤ 257 ∧ (List.range n).any (clashV a b ((a ++ b).getD (x_int S 6).toNat T_Dig.dflt)) = false, meas := fun n => 257 - n }
 | 10, S => some { X := Nat, slots := fun k => [(9, .sv (.dv (.i64 (ofN k))))], objs := fun k => [(x_labAt S 8, .cells [.run (.one (.i64 (x_int S 7))), .run (.many .u8 32 (maskV ((a ++ b).getD (x_int S 6).toNat T_Dig.dflt) (ofN k) false))] false)], inv := fun k => ofN k ≤ x_int S 7, meas := fun k => (x_int S 7).toNat - k }
 | _, _ => none

theorem nat_of {i : Int} (h : 0 ≤ i) : ∃ N : Nat, i = (N : Int) := ⟨i.toNat, by omega⟩
theorem shift28 : ∀ m : Fin 8, BitVec.toNat (BitVec.ofInt 64 (7 - ((m.val : Nat) : Int))) = 7 - m.val := by decide
theorem add28 : ∀ m : Fin 8, ∀ x : Fin 256, (BitVec.ofFin (w := 8) x).getLsbD (7 - m.val) = false → BitVec.ofFin (w := 8) x + BitVec.ofInt 8 (1 * 2 ^ (7 - m.val)) = BitVec.ofFin (w := 8) x ||| (128#8 >>> m.val) := by decide +kernel
theorem bitI_two (d : DigP) (i : Int) : bitI d i = 0 ∨ bitI d i = 1 := by
 unfold bitI
 cases bitV d i.toNat
 · exact .inl rfl
 · exact .inr rfl
theorem set_same {d : DigP} {i : Nat} : d.set i (d.getD i 0#8) = d := by
 apply List.ext_getElem?
 intro j
 rw [List.getElem?_set]
 split
 · rename_i e; subst e
   split
   · rename_i h; rw [getD_lt h, List.getElem?_eq_getElem h]
   · rename_i h; rw [List.getElem?_eq_none (by omega)]
 · rfl
theorem with0 (d : DigP) (i : Int) : withV d i 0 = d := rfl
theorem with1 (d : DigP) (i : Int) : withV d i 1 = setB d i.toNat := rfl
theorem belowV_snoc {l : List DigP} {p : Pre} {k : Nat} (h : k < l.length) : belowV (l.take (k + 1)) p = belowV (l.take k) p ++ (if underV (l.getD k dig0) p = true then [l.getD k dig0] else []) := by
 unfold belowV
 rw [take_snoc' (d := dig0) h, List.filter_append]
 congr 1
 cases hq : underV (l.getD k dig0) p with
 | true => rw [if_pos rfl, List.filter_cons_of_pos (by rw [hq])]; rfl
 | false => rw [if_neg (by decide), List.filter_cons_of_neg (by rw [hq]; decide)]; rfl
theorem flat_len28 {l : List DigP} (h : ∀ d ∈ l, d.length = 32) (p : Pre) : (belowV l p).flatten.length ≤ 32 * l.length := by
 have h1 := all_len (l := belowV l p) (fun d hd => h d (List.mem_filter.1 hd).1) (belowV l p).length
 unfold allI at h1
 rw [List.take_length] at h1
 have := belowV_le l p
 omega
theorem hasD_snoc {l : List DigP} {d : DigP} {k : Nat} (h : k < l.length) : hasD (l.take (k + 1)) d = (hasD (l.take k) d || (l.getD k dig0 == d)) := by
 rw [Bool.eq_iff_iff, Bool.or_eq_true, hasD_iff, hasD_iff, take_snoc' (d := dig0) h, List.mem_append, List.mem_singleton, beq_iff_eq, eq_comm (a := d)]

theorem mask0 (d : DigP) (hd : d.length = 32) : (List.replicate 32 0#8 : DigP) = maskV d 0 false := by
 refine dig_ext rfl (by rw [maskV_len, hd]) fun i hi => ?_
 rw [mask_bit hd hi, if_neg (by omega)]
 have : ((List.replicate 32 0#8 : DigP)).getD (i / 8) 0#8 = 0#8 := by
  rw [List.getD_eq_getElem?_getD, List.getElem?_replicate]
  split <;> rfl
 unfold bitV
 rw [this]; exact BitVec.getLsbD_zero
theorem mask_succ (d : DigP) (hd : d.length = 32) (n : Nat) (hn : n < 256) : withV (maskV d (n : Int) false) (n : Int) (bitI d (n : Int)) = maskV d ((n : Int) + 1) false := by
 have hm : (maskV d (n : Int) false).length = 32 := by rw [maskV_len, hd]
 have e1 : bitI d (n : Int) = bif bitV d n then 1 else 0 := rfl
 cases hb : bitV d n with
 | false =>
   rw [e1, hb, cond_false, with0]
   refine dig_ext hm (by rw [maskV_len, hd]) fun i hi => ?_
   rw [mask_bit hd hi, mask_bit hd hi]
   by_cases h : i = n
   · subst h; rw [if_neg (by omega), if_pos (by omega), hb]
   · by_cases h2 : (i : Int) < (n : Int)
     · rw [if_pos h2, if_pos (by omega)]
     · rw [if_neg h2, if_neg (by omega)]
 | true =>
   rw [e1, hb, cond_true, with1, Int.toNat_natCast]
   refine dig_ext (by rw [setB_len, hm]) (by rw [maskV_len, hd]) fun i hi => ?_
   rw [setB_bit hm hn, mask_bit hd hi, mask_bit hd hi]
   by_cases h : n = i
   · subst h; rw [decide_eq_true rfl, Bool.true_or, if_pos (by omega), hb]
   · rw [decide_eq_false h, Bool.false_or]
     by_cases h2 : (i : Int) < (n : Int)
     · rw [if_pos h2, if_pos (by omega)]
     · rw [if_neg h2, if_neg (by omega)]

theorem ref28_bit_vc (d : DigP) (i : Int) (hd : d.length = 32) (h : 0 ≤ i ∧ i ≤ 255) :
 (ofN 8 ≠ 0 ∧ inI64 (Int.tdiv i 8)) ∧
  within (Int.tdiv i 8) 32 ∧
  ofN 8 ≠ 0 ∧ inI64 (7 - Int.tmod i 8) ∧ ofN 2 ≠ 0 ∧ Int.tmod (ofN (BitVec.toNat (List.getD d (Int.toNat (Int.tdiv i 8)) 0#8 >>> BitVec.toNat (BitVec.ofInt 64 (7 - Int.tmod i 8))))) 2 = bitI d i := by
 obtain ⟨N, rfl⟩ := nat_of h.1
 have hN : N ≤ 255 := by have := h.2; omega
 have e1 : Int.tdiv (N : Int) 8 = ((N / 8 : Nat) : Int) := rfl
 have e2 : Int.tmod (N : Int) 8 = ((N % 8 : Nat) : Int) := rfl
 have e3 := shift28 ⟨N % 8, by omega⟩
 dsimp only at e3
 rw [e1, e2, e3, Int.toNat_natCast]
 refine ⟨⟨by decide, by unfold inI64; omega⟩, ⟨by omega, by omega⟩, by decide, by unfold inI64; omega, by decide, ?_⟩
 unfold bitI
 rw [Int.toNat_natCast]
 have e4 : bitV d N = decide ((d.getD (N / 8) 0#8).toNat / 2 ^ (7 - N % 8) % 2 = 1) := Nat.testBit_eq_decide_div_mod_eq
 rw [e4, BitVec.toNat_ushiftRight, Nat.shiftRight_eq_div_pow]
 generalize (d.getD (N / 8) 0#8).toNat / 2 ^ (7 - N % 8) = y
 show ((y % 2 : Nat) : Int) = _
 have : y % 2 = 0 ∨ y % 2 = 1 := by omega
 rcases this with h | h <;> rw [h] <;> rfl

theorem ref28_with_vc (d : DigP) (i b : Int) (hd : d.length = 32) (h : 0 ≤ i ∧ i ≤ 255) (hb : b = 0 ∨ b = 1) (hc : bitV d i.toNat = false) :
 (ofN 8 ≠ 0 ∧ inI64 (Int.tdiv i 8)) ∧
  (ofN 8 ≠ 0 ∧ inI64 (Int.tdiv i 8)) ∧
  within (Int.tdiv i 8) 32 ∧
  ofN 8 ≠ 0 ∧
  inI64 (7 - Int.tmod i 8) ∧
  (BitVec.toNat (BitVec.ofInt 64 (7 - Int.tmod i 8)) ≤ 62 ∧ inI64 (b * 2 ^ BitVec.toNat (BitVec.ofInt 64 (7 - Int.tmod i 8)))) ∧
  within (Int.tdiv i 8) 32 ∧
  List.set d (Int.toNat (Int.tdiv i 8)) (List.getD d (Int.toNat (Int.tdiv i 8)) 0#8 + BitVec.ofInt 8 (b * 2 ^ BitVec.toNat (BitVec.ofInt 64 (7 - Int.tmod i 8)))) = withV d i b := by
 obtain ⟨N, rfl⟩ := nat_of h.1
 have hN : N ≤ 255 := by have := h.2; omega
 have e1 : Int.tdiv (N : Int) 8 = ((N / 8 : Nat) : Int) := rfl
 have e2 : Int.tmod (N : Int) 8 = ((N % 8 : Nat) : Int) := rfl
 have e3 := shift28 ⟨N % 8, by omega⟩
 dsimp only at e3
 have hpow : (2 : Int) ^ (7 - N % 8) ≤ 128 ∧ 1 ≤ (2 : Int) ^ (7 - N % 8) := by
  have : N % 8 = 0 ∨ N % 8 = 1 ∨ N % 8 = 2 ∨ N % 8 = 3 ∨ N % 8 = 4 ∨ N % 8 = 5 ∨ N % 8 = 6 ∨ N % 8 = 7 := by omega
  rcases this with h | h | h | h | h | h | h | h <;> rw [h] <;> decide
 rw [e1, e2, e3, Int.toNat_natCast]
 rw [Int.toNat_natCast] at hc
 refine ⟨⟨by decide, by unfold inI64; omega⟩, ⟨by decide, by unfold inI64; omega⟩, ⟨by omega, by omega⟩, by decide, by unfold inI64; omega, ⟨by omega, ?_⟩, ⟨by omega, by omega⟩, ?_⟩
 · rcases hb with rfl | rfl
   · rw [Int.zero_mul]; unfold inI64; omega
   · rw [Int.one_mul]; unfold inI64; omega
 · rcases hb with rfl | rfl
   · rw [Int.zero_mul]
     have : d.getD (N / 8) 0#8 + BitVec.ofInt 8 0 = d.getD (N / 8) 0#8 := by
      rw [show BitVec.ofInt 8 0 = 0#8 by rfl]; exact BitVec.add_zero _
     rw [this, set_same]; rfl
   · rw [with1, Int.toNat_natCast]
     unfold setB
     have := add28 ⟨N % 8, by omega⟩ (d.getD (N / 8) 0#8).toFin hc
     rw [show d.getD (N / 8) 0#8 + BitVec.ofInt 8 (1 * 2 ^ (7 - N % 8)) = d.getD (N / 8) 0#8 ||| (128#8 >>> (N % 8)) from this]

theorem ref28_Under_vc (d : DigP) (p : Pre) (h : p.1 ≤ 256) :
 (∃ (x : Nat), (x ≤ Int.toNat p.1 ∧ (List.all (List.range x) fun (j : Nat) => bitV d j == bitV (Prod.snd p) j) = true) ∧ 0 = ofN x) ∧
  ∀ (x : Nat),
  x ≤ Int.toNat p.1 ∧ (List.all (List.range x) fun (j : Nat) => bitV d j == bitV (Prod.snd p) j) = true →
  (decide (ofN x < p.1) = true →
  (0 ≤ ofN x ∧ ofN x ≤ 255) ∧
  (0 ≤ ofN x ∧ ofN x ≤ 255) ∧
  ((bitI d (ofN x) != bitI p.2 (ofN x)) = true → false = underV d p) ∧
  ((bitI d (ofN x) != bitI p.2 (ofN x)) = false →
  inI64 (ofN x + 1) ∧
  ∃ (x' : Nat),
  (x' ≤ Int.toNat p.1 ∧ (List.all (List.range x') fun (j : Nat) => bitV d j == bitV (Prod.snd p) j) = true) ∧ Int.toNat p.1 - x' < Int.toNat p.1 - x ∧ ofN x + 1 = ofN x')) ∧
  (decide (ofN x < p.1) = false → true = underV d p) := by
 obtain ⟨(n : Int), (e : DigP)⟩ := p
 have h : n ≤ (256 : Int) := h
 have eu : underV d (n, e) = (List.range (Int.toNat n)).all fun j => bitV d j == bitV e j := rfl
 refine ⟨⟨0, ⟨Nat.zero_le _, rfl⟩, rfl⟩, fun x hx => ⟨fun q => ?_, fun q => ?_⟩⟩
 · obtain ⟨x1, x2⟩ := hx
   have x1 : x ≤ Int.toNat n := x1
   have q : (x : Int) < n := of_decide_eq_true q
   have e1 : bitI d (ofN x) = bif bitV d x then 1 else 0 := rfl
   have e2 : bitI e (ofN x) = bif bitV e x then 1 else 0 := rfl
   have e3 : (bitI d (ofN x) != bitI e (ofN x)) = !(bitV d x == bitV e x) := by
    rw [e1, e2]
    cases bitV d x <;> cases bitV e x <;> rfl
   have w : (0 : Int) ≤ ofN x ∧ (ofN x : Int) ≤ 255 := ⟨by show (0 : Int) ≤ (x : Int); omega, by show (x : Int) ≤ 255; omega⟩
   dsimp only
   rw [e3]
   refine ⟨w, w, fun q2 => ?_, fun q2 => ⟨inN28 (by omega), x + 1, ⟨by show x + 1 ≤ Int.toNat n; omega, ?_⟩, by show Int.toNat n - (x + 1) < Int.toNat n - x; omega, rfl⟩⟩
   · cases hu : underV d (n, e) with
     | false => rfl
     | true =>
       rw [eu, List.all_eq_true] at hu
       have := hu x (List.mem_range.2 (by omega))
       rw [this] at q2; cases q2
   · have q2 : (bitV d x == bitV e x) = true := by simpa using q2
     have x2 : ((List.range x).all fun j => bitV d j == bitV e j) = true := x2
     rw [List.range_succ, List.all_append, List.all_cons, List.all_nil, q2]
     rw [x2]; rfl
 · have q : ¬ (x : Int) < n := of_decide_eq_false q
   have x1 : x ≤ Int.toNat n := hx.1
   have : x = Int.toNat n := by omega
   subst this
   exact hx.2.symm

theorem ref28_below_vc (l : List DigP) (p : Pre) (h : p.1 ≤ 256) (hl : l.length ≤ 100000000) :
 (∃ (x : Nat), x ≤ List.length l ∧ 0 = ofN x ∧ belowV (List.take x l) p = nilOf (List (BitVec 8))) ∧
  ∀ (x : Nat),
  x ≤ List.length l →
  (decide (ofN x < ofN (List.length l)) = true →
  within (ofN x) (List.length l) ∧
  p.1 ≤ 256 ∧
  (underV (List.getD l (Int.toNat (ofN x)) (T.dflt (T.arr 32 T.u8))) p = true →
  within (ofN x) (List.length l) ∧
  List.length (belowV (List.take x l) p) + List.length [List.getD l (Int.toNat (ofN x)) (T.dflt (T.arr 32 T.u8))] ≤ ROOM ∧
  inI64 (ofN x + 1) ∧
  ∃ (x' : Nat),
  x' ≤ List.length l ∧
  List.length l - x' < List.length l - x ∧
  ofN x + 1 = ofN x' ∧ belowV (List.take x l) p ++ [List.getD l (Int.toNat (ofN x)) (T.dflt (T.arr 32 T.u8))] = belowV (List.take x' l) p) ∧
  (underV (List.getD l (Int.toNat (ofN x)) (T.dflt (T.arr 32 T.u8))) p = false →
  inI64 (ofN x + 1) ∧ ∃ (x' : Nat), x' ≤ List.length l ∧ List.length l - x' < List.length l - x ∧ ofN x + 1 = ofN x' ∧ belowV (List.take x l) p = belowV (List.take x' l) p)) ∧
  (decide (ofN x < ofN (List.length l)) = false → belowV (List.take x l) p = belowV l p) := by
 refine ⟨⟨0, Nat.zero_le _, rfl, rfl⟩, fun x hx => ⟨fun q => ?_, fun q => ?_⟩⟩
 · have hlt := ltN28 q
   have hs := belowV_snoc (p := p) hlt
   have hn := belowV_le (l.take x) p
   rw [List.length_take] at hn
   rw [toN28]
   have hin : inI64 (ofN x + 1) := inN28 (by omega)
   refine ⟨wN28 hlt, h, fun q2 => ⟨wN28 hlt, ?_, hin, x + 1, hlt, by omega, rfl, ?_⟩, fun q2 => ⟨hin, x + 1, hlt, by omega, rfl, ?_⟩⟩
   · show _ + 1 ≤ ROOM
     unfold ROOM; omega
   · rw [hs, if_pos q2]
   · rw [hs, if_neg (fun h => by rw [h] at q2; cases q2), List.append_nil]
 · rw [List.take_of_length_le (geN28 q)]

theorem ref28_all_vc (l : List DigP) (hl : l.length ≤ 10000000) (h32 : ∀ d ∈ l, d.length = 32) :
 (∃ (x : Nat), x ≤ List.length l ∧ 0 = ofN x ∧ allI l x = nilOf (BitVec 8)) ∧
  ∀ (x : Nat),
  x ≤ List.length l →
  (decide (ofN x < ofN (List.length l)) = true →
  within (ofN x) (List.length l) ∧
  List.length (allI l x) + List.length (List.getD l (Int.toNat (ofN x)) (T.dflt (T.arr 32 T.u8))) ≤ ROOM ∧
  inI64 (ofN x + 1) ∧
  ∃ (x' : Nat), x' ≤ List.length l ∧ List.length l - x' < List.length l - x ∧ ofN x + 1 = ofN x' ∧ allI l x ++ List.getD l (Int.toNat (ofN x)) (T.dflt (T.arr 32 T.u8)) = allI l x') ∧
  (decide (ofN x < ofN (List.length l)) = false → allI l x = List.flatten l) := by
 refine ⟨⟨0, Nat.zero_le _, rfl, rfl⟩, fun x hx => ⟨fun q => ?_, fun q => ?_⟩⟩
 · have hlt := ltN28 q
   have hn := all_len h32 x
   have hs := allI_succ hlt
   have hm : l.getD x dig0 ∈ l := by rw [getD_lt hlt]; exact List.getElem_mem _
   have h1 := h32 _ hm
   have h1 : (l.getD x (T.dflt (T.arr 32 T.u8))).length = 32 := h1
   rw [toN28]
   refine ⟨wN28 hlt, ?_, inN28 (by omega), x + 1, hlt, by omega, rfl, hs.symm⟩
   rw [h1]
   unfold ROOM; omega
 · unfold allI
   rw [List.take_of_length_le (geN28 q)]

theorem ref12_In_vc (l : List DigP) (d : DigP) (hl : l.length ≤ LIM) :
 (∃ (x : Nat), (x ≤ List.length l ∧ hasD (List.take x l) d = false) ∧ 0 = ofN x) ∧
  ∀ (x : Nat),
  x ≤ List.length l ∧ hasD (List.take x l) d = false →
  (decide (ofN x < ofN (List.length l)) = true →
  within (ofN x) (List.length l) ∧
  (eqL T.u8 (List.getD l (Int.toNat (ofN x)) (T.dflt (T.arr 32 T.u8))) d = true → true = hasD l d) ∧
  (eqL T.u8 (List.getD l (Int.toNat (ofN x)) (T.dflt (T.arr 32 T.u8))) d = false →
  inI64 (ofN x + 1) ∧ ∃ (x' : Nat), (x' ≤ List.length l ∧ hasD (List.take x' l) d = false) ∧ List.length l - x' < List.length l - x ∧ ofN x + 1 = ofN x')) ∧
  (decide (ofN x < ofN (List.length l)) = false → false = hasD l d) := by
 unfold LIM at hl
 refine ⟨⟨0, ⟨Nat.zero_le _, rfl⟩, rfl⟩, fun x hx => ⟨fun q => ?_, fun q => ?_⟩⟩
 · have hlt := ltN28 q
   have hs := hasD_snoc (d := d) hlt
   rw [toN28, eqL_u8]
   refine ⟨wN28 hlt, fun q2 => ?_, fun q2 => ⟨inN28 (by omega), x + 1, ⟨hlt, ?_⟩, by omega, rfl⟩⟩
   · have q2 : (l.getD x dig0 == d) = true := q2
     rw [beq_iff_eq] at q2
     refine (hasD_iff.2 ?_).symm
     rw [← q2, getD_lt hlt]
     exact List.getElem_mem _
   · have q2 : (l.getD x dig0 == d) = false := q2
     rw [hs, hx.2, q2]; rfl
 · have := hx.2
   rw [List.take_of_length_le (geN28 q)] at this
   exact this.symm

theorem ref28_Twice_vc (a b : List DigP) (h1 : a.length ≤ 1000000) (h2 : b.length ≤ 1000000) (h3 : ∀ d ∈ a ++ b, d.length = 32) :
 List.length (nilOf (List (BitVec 8))) + List.length a ≤ ROOM ∧
  List.length (nilOf (List (BitVec 8)) ++ a) + List.length b ≤ ROOM ∧
  (∃ (x : Nat), (x ≤ List.length (a ++ b) ∧ twiceK a b x = false) ∧ 0 = ofN x) ∧
  ∀ (x : Nat),
  x ≤ List.length (a ++ b) ∧ twiceK a b x = false →
  (decide (ofN x < ofN (List.length (nilOf (List (BitVec 8)) ++ a ++ b))) = true →
  (∃ (x_1 : Nat), (x_1 ≤ 257 ∧ List.any (List.range x_1) (clashV a b (List.getD (a ++ b) (Int.toNat (ofN x)) (T.dflt (T.arr 32 T.u8)))) = false) ∧ 0 = ofN x_1) ∧
  ∀ (x_1 : Nat),
  x_1 ≤ 257 ∧ List.any (List.range x_1) (clashV a b (List.getD (a ++ b) (Int.toNat (ofN x)) (T.dflt (T.arr 32 T.u8)))) = false →
  (decide (ofN x_1 ≤ 256) = true →
  (∃ (x_2 : Nat),
  ofN x_2 ≤ ofN x_1 ∧ 0 = ofN x_2 ∧ ofN x_1 = ofN x_1 ∧ List.replicate 32 0#8 = maskV (List.getD (a ++ b) (Int.toNat (ofN x)) (T.dflt (T.arr 32 T.u8))) (ofN x_2) false) ∧
  ∀ (x_2 : Nat),
  ofN x_2 ≤ ofN x_1 →
  (decide (ofN x_2 < ofN x_1) = true →
  within (ofN x) (List.length (nilOf (List (BitVec 8)) ++ a ++ b)) ∧
  (0 ≤ ofN x_2 ∧ ofN x_2 ≤ 255) ∧
  (0 ≤ ofN x_2 ∧
  ofN x_2 ≤ 255 ∧
  (bitI (List.getD (nilOf (List (BitVec 8)) ++ a ++ b) (Int.toNat (ofN x)) (T.dflt (T.arr 32 T.u8))) (ofN x_2) = 0 ∨
  bitI (List.getD (nilOf (List (BitVec 8)) ++ a ++ b) (Int.toNat (ofN x)) (T.dflt (T.arr 32 T.u8))) (ofN x_2) = 1) ∧
  bitV (maskV (List.getD (a ++ b) (Int.toNat (ofN x)) (T.dflt (T.arr 32 T.u8))) (ofN x_2) false) (Int.toNat (ofN x_2)) = false) ∧
  inI64 (ofN x_2 + 1) ∧
  ∃ (x' : Nat),
  ofN x' ≤ ofN x_1 ∧
  Int.toNat (ofN x_1) - x' < Int.toNat (ofN x_1) - x_2 ∧
  ofN x_2 + 1 = ofN x' ∧
  ofN x_1 = ofN x_1 ∧
  withV (maskV (List.getD (a ++ b) (Int.toNat (ofN x)) (T.dflt (T.arr 32 T.u8))) (ofN x_2) false) (ofN x_2)
  (bitI (List.getD (nilOf (List (BitVec 8)) ++ a ++ b) (Int.toNat (ofN x)) (T.dflt (T.arr 32 T.u8))) (ofN x_2)) =
  maskV (List.getD (a ++ b) (Int.toNat (ofN x)) (T.dflt (T.arr 32 T.u8))) (ofN x') false) ∧
  (decide (ofN x_2 < ofN x_1) = false →
  (ofN x_1 ≤ 256 ∧ List.length a ≤ 100000000) ∧
  (ofN x_1 ≤ 256 ∧ List.length b ≤ 100000000) ∧
  ((!sameDg (belowV a (ofN x_1, maskV (List.getD (a ++ b) (Int.toNat (ofN x)) (T.dflt (T.arr 32 T.u8))) (ofN x_2) false))
  (belowV b (ofN x_1, maskV (List.getD (a ++ b) (Int.toNat (ofN x)) (T.dflt (T.arr 32 T.u8))) (ofN x_2) false))) =
  true →
  List.length (belowV a (ofN x_1, maskV (List.getD (a ++ b) (Int.toNat (ofN x)) (T.dflt (T.arr 32 T.u8))) (ofN x_2) false)) ≤ 10000000) ∧
  ((!sameDg (belowV a (ofN x_1, maskV (List.getD (a ++ b) (Int.toNat (ofN x)) (T.dflt (T.arr 32 T.u8))) (ofN x_2) false))
  (belowV b (ofN x_1, maskV (List.getD (a ++ b) (Int.toNat (ofN x)) (T.dflt (T.arr 32 T.u8))) (ofN x_2) false))) =
  true →
  List.length (List.flatten (belowV a (ofN x_1, maskV (List.getD (a ++ b) (Int.toNat (ofN x)) (T.dflt (T.arr 32 T.u8))) (ofN x_2) false))) ≤ 1073741824) ∧
  ((!sameDg (belowV a (ofN x_1, maskV (List.getD (a ++ b) (Int.toNat (ofN x)) (T.dflt (T.arr 32 T.u8))) (ofN x_2) false))
  (belowV b (ofN x_1, maskV (List.getD (a ++ b) (Int.toNat (ofN x)) (T.dflt (T.arr 32 T.u8))) (ofN x_2) false))) =
  true →
  List.length (belowV b (ofN x_1, maskV (List.getD (a ++ b) (Int.toNat (ofN x)) (T.dflt (T.arr 32 T.u8))) (ofN x_2) false)) ≤ 10000000) ∧
  ((!sameDg (belowV a (ofN x_1, maskV (List.getD (a ++ b) (Int.toNat (ofN x)) (T.dflt (T.arr 32 T.u8))) (ofN x_2) false))
  (belowV b (ofN x_1, maskV (List.getD (a ++ b) (Int.toNat (ofN x)) (T.dflt (T.arr 32 T.u8))) (ofN x_2) false))) =
  true →
  List.length (List.flatten (belowV b (ofN x_1, maskV (List.getD (a ++ b) (Int.toNat (ofN x)) (T.dflt (T.arr 32 T.u8))) (ofN x_2) false))) ≤ 1073741824) ∧
  ((!sameDg (belowV a (ofN x_1, maskV (List.getD (a ++ b) (Int.toNat (ofN x)) (T.dflt (T.arr 32 T.u8))) (ofN x_2) false))
  (belowV b (ofN x_1, maskV (List.getD (a ++ b) (Int.toNat (ofN x)) (T.dflt (T.arr 32 T.u8))) (ofN x_2) false)) &&
  eqL T.u8 (sha (List.flatten (belowV a (ofN x_1, maskV (List.getD (a ++ b) (Int.toNat (ofN x)) (T.dflt (T.arr 32 T.u8))) (ofN x_2) false))))
  (sha (List.flatten (belowV b (ofN x_1, maskV (List.getD (a ++ b) (Int.toNat (ofN x)) (T.dflt (T.arr 32 T.u8))) (ofN x_2) false))))) =
  true →
  true = twiceV a b) ∧
  ((!sameDg (belowV a (ofN x_1, maskV (List.getD (a ++ b) (Int.toNat (ofN x)) (T.dflt (T.arr 32 T.u8))) (ofN x_2) false))
  (belowV b (ofN x_1, maskV (List.getD (a ++ b) (Int.toNat (ofN x)) (T.dflt (T.arr 32 T.u8))) (ofN x_2) false)) &&
  eqL T.u8 (sha (List.flatten (belowV a (ofN x_1, maskV (List.getD (a ++ b) (Int.toNat (ofN x)) (T.dflt (T.arr 32 T.u8))) (ofN x_2) false))))
  (sha (List.flatten (belowV b (ofN x_1, maskV (List.getD (a ++ b) (Int.toNat (ofN x)) (T.dflt (T.arr 32 T.u8))) (ofN x_2) false))))) =
  false →
  inI64 (ofN x_1 + 1) ∧
  ∃ (x' : Nat),
  (x' ≤ 257 ∧ List.any (List.range x') (clashV a b (List.getD (a ++ b) (Int.toNat (ofN x)) (T.dflt (T.arr 32 T.u8)))) = false) ∧
  257 - x' < 257 - x_1 ∧ ofN x_1 + 1 = ofN x'))) ∧
  (decide (ofN x_1 ≤ 256) = false →
  inI64 (ofN x + 1) ∧ ∃ (x' : Nat), (x' ≤ List.length (a ++ b) ∧ twiceK a b x' = false) ∧ List.length (a ++ b) - x' < List.length (a ++ b) - x ∧ ofN x + 1 = ofN x')) ∧
  (decide (ofN x < ofN (List.length (nilOf (List (BitVec 8)) ++ a ++ b))) = false → false = twiceV a b) := by
 have e0 : nilOf (List (BitVec 8)) ++ a ++ b = a ++ b := rfl
 have ha32 : ∀ d ∈ a, d.length = 32 := fun d hd => h3 d (List.mem_append.2 (.inl hd))
 have hb32 : ∀ d ∈ b, d.length = 32 := fun d hd => h3 d (List.mem_append.2 (.inr hd))
 have hlen : (a ++ b).length = a.length + b.length := List.length_append
 rw [e0]
 refine ⟨?_, ?_, ⟨0, ⟨Nat.zero_le _, rfl⟩, rfl⟩, fun x hx => ⟨fun q => ?_, fun q => ?_⟩⟩
 · show 0 + a.length ≤ ROOM
   unfold ROOM; omega
 · show a.length + b.length ≤ ROOM
   unfold ROOM; omega
 · have hlt := ltN28 q
   rw [toN28]
   have hm : (a ++ b).getD x dig0 ∈ a ++ b := by rw [getD_lt hlt]; exact List.getElem_mem _
   have hmt : (a ++ b).getD x dig0 ∈ (a ++ b).take (x + 1) := by
    rw [take_snoc' (d := dig0) hlt]; exact List.mem_append.2 (.inr (List.mem_singleton.2 rfl))
   have hs : twiceK a b (x + 1) = (twiceK a b x || (List.range 257).any (clashV a b ((a ++ b).getD x dig0))) := by
    unfold twiceK
    rw [take_snoc' (d := dig0) hlt, List.any_append, List.any_cons, List.any_nil, Bool.or_false]
   have htw : ∀ n, n < 257 → clashV a b ((a ++ b).getD x dig0) n = true → twiceV a b = true := fun n hn hc => by
    unfold twiceV twiceK
    rw [List.take_length, List.any_eq_true]
    exact ⟨_, hm, List.any_eq_true.2 ⟨n, List.mem_range.2 hn, hc⟩⟩
   have hD := h3 _ hm
   generalize (a ++ b).getD x dig0 = D at *
   refine ⟨⟨0, ⟨by omega, rfl⟩, rfl⟩, fun n hn => ⟨fun q2 => ?_, fun q2 => ?_⟩⟩
   · have q2 : (n : Int) ≤ 256 := of_decide_eq_true q2
     refine ⟨⟨0, by show ((0 : Nat) : Int) ≤ (n : Int); omega, rfl, rfl, mask0 D hD⟩, fun k hk => ⟨fun q3 => ?_, fun q3 => ?_⟩⟩
     · have q3 : (k : Int) < (n : Int) := of_decide_eq_true q3
       have w : (0 : Int) ≤ ofN k ∧ (ofN k : Int) ≤ 255 := ⟨by show (0 : Int) ≤ (k : Int); omega, by show (k : Int) ≤ 255; omega⟩
       refine ⟨wN28 hlt, w, ⟨w.1, w.2, bitI_two _ _, ?_⟩, inN28 (by omega), k + 1, by show ((k + 1 : Nat) : Int) ≤ (n : Int); omega, ?_, rfl, rfl, mask_succ D hD k (by omega)⟩
       · rw [toN28]
         have := mask_bit (n := (k : Int)) (ones := false) hD (i := k) (by omega)
         rw [if_neg (by omega)] at this
         exact this
       · rw [toN28]; omega
     · have q3 : ¬ (k : Int) < (n : Int) := of_decide_eq_false q3
       have hk : (k : Int) ≤ (n : Int) := hk
       have : k = n := by omega
       subst this
       have f1 := belowV_le a ((k : Int), maskV D (k : Int) false)
       have f2 := belowV_le b ((k : Int), maskV D (k : Int) false)
       have f3 := flat_len28 ha32 ((k : Int), maskV D (k : Int) false)
       have f4 := flat_len28 hb32 ((k : Int), maskV D (k : Int) false)
       have ec : (!sameDg (belowV a (ofN k, maskV D (ofN k) false)) (belowV b (ofN k, maskV D (ofN k) false)) && eqL T.u8 (sha (List.flatten (belowV a (ofN k, maskV D (ofN k) false)))) (sha (List.flatten (belowV b (ofN k, maskV D (ofN k) false))))) = clashV a b D k := by
        rw [eqL_u8, beq_dec]; rfl
       rw [ec]
       refine ⟨⟨q2, by omega⟩, ⟨q2, by omega⟩, fun _ => ?_, fun _ => ?_, fun _ => ?_, fun _ => ?_, fun q4 => (htw k (by omega) q4).symm, fun q4 => ⟨inN28 (by omega), k + 1, ⟨by omega, ?_⟩, by omega, rfl⟩⟩
       · exact Nat.le_trans f1 (by omega)
       · exact Nat.le_trans f3 (by omega)
       · exact Nat.le_trans f2 (by omega)
       · exact Nat.le_trans f4 (by omega)
       · rw [List.range_succ, List.any_append, hn.2, List.any_cons, List.any_nil, q4]; rfl
   · have q2 : ¬ (n : Int) ≤ 256 := of_decide_eq_false q2
     have : n = 257 := by have := hn.1; omega
     subst this
     refine ⟨inN28 (by omega), x + 1, ⟨hlt, ?_⟩, by omega, rfl⟩
     rw [hs, hx.2, hn.2]; rfl
 · have hge := geN28 q
   have := hx.2
   unfold twiceV
   have e : x = (a ++ b).length := by have := hx.1; omega
   rw [← e]
   exact this.symm

theorem ref28_bit_spec : Vse.Spec P f_ref28_bit c_bit := spec_fn (l := []) trivial h_ref28_bit rfl rfl fun x h ok => body_ok (an_none) (ref28_bit_vc x.1 x.2.1 ok.1.1 (got h)) (by kernel_rfl)

theorem ref28_with_spec : Vse.Spec P f_ref28_with c_with := spec_fn (l := []) trivial h_ref28_with rfl rfl fun x h ok => body_ok (an_none) (ref28_with_vc x.1 x.2.1 x.2.2.1 ok.1.1 ⟨(got h).1, (got h).2.1⟩ (got h).2.2.1 (got h).2.2.2) (by kernel_rfl)

theorem ref28_Under_spec : Vse.Spec P f_ref28_Under c_Under := spec_fn (l := [(f_ref28_bit, c_bit)]) ⟨ref28_bit_spec, trivial⟩ h_ref28_Under rfl rfl fun x h _ => body_ok (an_Under x.1 x.2.1) (ref28_Under_vc x.1 x.2.1 (got h)) (by kernel_rfl)

theorem ref28_below_spec : Vse.Spec P f_ref28_below c_belowR := spec_fn (l := [(f_ref28_Under, c_Under)]) ⟨ref28_Under_spec, trivial⟩ h_ref28_below rfl rfl fun x h _ => body_ok (an_belowR x.1 x.2.1) (ref28_below_vc x.1 x.2.1 (got h).1 (got h).2) (by kernel_rfl)

theorem ref28_all_spec : Vse.Spec P f_ref28_all c_allR := spec_fn (l := []) trivial h_ref28_all rfl rfl fun x h ok => body_ok (an_allR x.1) (ref28_all_vc x.1 (got h) (okRow_slc ok.1).2) (by kernel_rfl)

theorem ref12_In_spec : Vse.Spec P f_ref12_In c_In := spec_fn (l := []) trivial h_ref12_In rfl rfl fun x _ ok => body_ok (an_In x.1 x.2.1) (ref12_In_vc x.1 x.2.1 ok.1.1) (by kernel_rfl)

theorem ref28_Twice_spec : Vse.Spec P f_ref28_Twice c_Twice := spec_fn (l := [(f_ref28_bit, c_bit), (f_ref28_with, c_with), (f_ref28_below, c_belowR), (f_ref12_Same, c_Same12), (f_ref28_all, c_allR), (f_ref03_Of, c_rOf)]) ⟨ref28_bit_spec, ref28_with_spec, ref28_below_spec, ref12_Same_spec, ref28_all_spec, ref03_Of_spec, trivial⟩ h_ref28_Twice rfl rfl fun x h ok => body_ok (an_Twice x.1 x.2.1) (ref28_Twice_vc x.1 x.2.1 (got h).1 (got h).2 (fun d hd => (List.mem_append.1 hd).elim ((okRow_slc ok.1).2 d) ((okRow_slc ok.2.1).2 d))) (by kernel_rfl)

end Go.Sal
