/- Contracts of ship: what a message may be, and its bytes. -/
import Derived.Test.YtogjeflhlnnbdaaWCRPar
import Derived.Test.YtogjeflhlnnbdaaWCEnd13
import Derived.Test.YtogjeflhlnnbdaaWSalMac
import Derived.Lib.BytesEntry
import Derived.Laws.Externs
set_option maxRecDepth 100000
namespace Go.Sal
open Go.Vse Go.Sal.Nm

def c_cmp : PC := D [.slc .u8, .slc .u8] [.i64] (fun _ => none) (fun x => (cmpV x.1 x.2.1, ()))

theorem cmpV_vals : ∀ a b : Bytes, cmpV a b = 0 ∨ cmpV a b = -1 ∨ cmpV a b = 1
 | [], [] => .inl rfl
 | [], _ :: _ => .inr (.inl rfl)
 | _ :: _, [] => .inr (.inr rfl)
 | a :: r, b :: s => by
   unfold cmpV
   split
   · exact .inr (.inl rfl)
   · split
     · exact .inr (.inr rfl)
     · exact cmpV_vals r s
theorem cmp_bytes : ∀ a b : Bytes, Lib.compareBytes (a.map UInt8.ofBitVec) (b.map UInt8.ofBitVec) = cmpV a b
 | [], [] => rfl
 | [], _ :: _ => rfl
 | _ :: _, [] => rfl
 | a :: r, b :: s => by
   have ih := cmp_bytes r s
   simp only [List.map_cons, Lib.compareBytes, cmpV]
   rw [ih]
   rfl
theorem bytesOf_run {w : World} {H : Mem} {v : Value} {xs : Bytes} (hm : memOk H w) (h : sliceRel H (eltRel H .u8) xs v) : (Extern.Bytes.bytesOf v).run P w = .ok (toBA xs) w := by
 rcases h.2 with ⟨rfl, rfl | ⟨a0, rfl⟩⟩ | ⟨b, o, cap, cs, rfl, hlc, hrow, hci⟩
 · rfl
 · rfl
 · have hcs : cs = xs.map fun x => Value.int .u8 (BitVec.toNat x : Int) := rowRel_one (fun _ _ h => h) hrow
   have hl := Lib.run_loadBytesX (P := P) w (xs.map fun x => (BitVec.toNat x : Int)) ⟨b, o, none⟩ .empty (fun j u hj => by
    rw [add_at]
    refine hm _ _ _ ?_
    rw [List.getElem?_map] at hj
    cases hx : xs[j]? with
    | none => rw [hx] at hj; cases hj
    | some y =>
      rw [hx] at hj
      have hjl := (List.getElem?_eq_some_iff.1 hx).1
      rw [hci j (by rw [hcs, List.length_map]; exact hjl), hcs, List.getElem?_map, hx]
      simp at hj ⊢; exact hj)
   rw [List.length_map] at hl
   show (Extern.Bytes.loadBytes ⟨b, o, none⟩ xs.length .empty).run P w = _
   rw [hl]
   congr 1
   apply WideShapes.bytes_inj
   simp [toBA, Lib.bytesOf]
theorem cmp_call {w : World} {H : Mem} {va vb : Value} {a b : Bytes} (hm : memOk H w) (ha : sliceRel H (eltRel H .u8) a va) (hb : sliceRel H (eltRel H .u8) b vb) :
 (callFunc f_internal_bytealg_Compare #[va, vb]).run P w = .ok (.value (.int .i64 (cmpV a b))) w := by
 rw [run_callFunc_extern h_internal_bytealg_Compare (by kernel_rfl) (by kernel_rfl) (by kernel_rfl) (e := Extern.BytealgCompare.compare) (by kernel_rfl)]
 have e : (Extern.BytealgCompare.compare #[va, vb]).run P w = .ok (.int .i64 (cmpV a b)) w := by
  change Sem.run P (do pure (goInt (Extern.BytealgCompare.cmp (← Extern.Bytes.bytesOf va) (← Extern.Bytes.bytesOf vb)))) w = _
  simp only [Sem.run_bind, bytesOf_run hm ha, bytesOf_run hm hb, Sem.run_pure, Result.andThen]
  rw [Lib.cmp_eq]
  have e1 : ∀ l : Bytes, (toBA l).data.toList = l.map UInt8.ofBitVec := fun l => rfl
  rw [e1, e1, cmp_bytes]
  rfl
 rw [e]
 rfl

theorem cmp_run {va vb : Value} {w : World} {c : Int} (h : (callFunc f_internal_bytealg_Compare #[va, vb]).run P w = .ok (.value (.int .i64 c)) w) : Calls P f_bytes_Compare #[va, vb] w fun e w' => e = .returned (.int .i64 c) ∧ w' = w := by
 refine calls_of_wp h_bytes_Compare rfl ?_
 apply wp_seq
 apply wp_region
 simp [wpOps, go_sem, Exit.then]
 refine .inl ?_
 apply wp_seq
 apply wp_region
 simp [wpOps, go_sem, Exit.then]
 have h' : Sem.run P (callFunc f_internal_bytealg_Compare #[va, vb]) w = .ok (.value (.int .i64 c)) w := h
 refine .inl ?_
 rw [h', Oper.upon_value]
 simp only [Act.put]
 refine .inl (.inl (.inl (wp_ret ?_)))
 simp [bodyPost, results, Sem.run_pure]

theorem bytes_Compare_spec : Vse.Spec P f_bytes_Compare c_cmp := by
 refine ⟨⟨b_bytes_Compare, _, h_bytes_Compare, rfl, rfl⟩, fun H w ins vs g r hct _ hrel hmem => ?_, fun _ _ h => by rcases h with h | h <;> cases h⟩
 simp only [c_cmp, D, cFn] at hct
 split at hct
 case h_2 => cases hct
 rename_i x hx
 simp only [Option.some.injEq] at hct
 subst hct
 have e := decs_eq hx
 subst e
 obtain ⟨a, b, u⟩ := x
 obtain ⟨rfl, hd⟩ : g = none ∧ datsRel H (svsOf [.slc .u8, .slc .u8] (a, b, u)) vs := hrel
 obtain ⟨va, r1, rfl, ha, vb, r2, rfl, hb, hn⟩ := hd
 simp only [svsOf, datsRel] at hn
 subst hn
 have hA : sliceRel H (eltRel H .u8) a va := ha (fun _ => none)
 have hB : sliceRel H (eltRel H .u8) b vb := hb (fun _ => none)
 unfold Answers
 refine (cmp_run (cmp_call hmem hA hB)).mono ?_
 rintro e w' ⟨rfl, rfl⟩
 have hc : inI64 (cmpV a b) := by
  rcases cmpV_vals a b with h | h | h <;> rw [h] <;> unfold inI64 <;> omega
 exact ⟨.int .i64 (cmpV a b), H, none, rfl, Mem.le_refl H, ⟨fun _ _ _ => rfl, Nat.le_refl _, rfl, rfl, outOk.refl _⟩, hmem, fun _ _ _ => rfl, rfl, rfl, fun ρ t _ => ⟨rfl, hc⟩⟩

def c_compare : PC := D [T_Dig, T_Dig] [.i64] (fun _ => none) (fun x => (cmpV x.1 x.2.1, ()))
def c_may : PC := D [T_Mark] [.bool] (fun _ => none) (fun x => (mayV x.1, ()))
def c_mCheck : PC := D [T_Mark] [.i64] (fun _ => none) (fun x => (mcheckV x.1, ()))
def c_row : PC := D [.slc T_Dig] [.bool] (fun _ => none) (fun x => (rowV x.1, ()))
def c_seq : PC := D [.i64, .i64] [.bool] (fun _ => none) (fun x => (seqV x.1 x.2.1, ()))
def c_only : PC := D [T_Msg] [T_Msg, .bool] (fun _ => none) (fun x => (onlyV x.1, okMsg x.1, ()))
def c_eqDg : PC := D [.slc T_Dig, .slc T_Dig] [.bool] (fun _ => none) (fun x => (sameDg x.1 x.2.1, ()))
def c_SameM : PC := D [T_Msg, T_Msg] [.bool] (fun _ => none) (fun x => (sameM x.1 x.2.1, ()))
def c_CheckM : PC := D [T_Msg] [.i64] (fun _ => none) (fun x => (checkM x.1, ()))
def c_BytesM : PC := D [T_Msg] [.slc .u8, .i64] (fun _ => none) (fun x => ((bytesM x.1).1, (bytesM x.1).2, ()))

theorem ship_compare_vc (a b : DigP) (ha : a.length = 32) (hb : b.length = 32) :
 cmpV (List.take 32 (List.drop 0 a)) (List.take 32 (List.drop 0 b)) = cmpV a b := by
 rw [List.drop_zero, List.drop_zero, List.take_of_length_le (by omega), List.take_of_length_le (by omega)]

theorem check_may20_vc (m : Mark) :
 ((m.1 == 0 || m.1 == 1) &&
  (m.2.1 == ofN 0 && (m.2.2.1 == ofN 0 && eqL T.u8 m.2.2.2.1 (List.replicate 32 0#8)) ||
  decide (1 ≤ m.2.1) && decide (m.2.1 ≤ 1073741824) && decide (1 ≤ m.2.2.1) && decide (m.2.2.1 ≤ 1073741824))) =
  mayV m := by
 have e0 : ofN 0 = (0 : Int) := rfl
 rw [e0, eqL_u8, Bool.eq_iff_iff]
 unfold mayV isHeadV headM head0 zero32
 simp only [Bool.and_eq_true, Bool.or_eq_true, beq_iff_eq, decide_eq_true_eq, Prod.mk.injEq, and_assoc]

theorem check_Check20_vc (m : Mark) :
 ((!mayV m) = true → 160 = mcheckV m) ∧ ((!mayV m) = false → 0 = mcheckV m) := by
 unfold mcheckV
 refine ⟨fun g => ?_, fun g => ?_⟩
 · have g : mayV m = false := by simpa using g
   rw [if_neg (by rw [g]; decide)]
 · have g : mayV m = true := by simpa using g
   rw [if_pos g]

def an_row (l : List DigP) : Nat → SState → Option LoopAnn
 | 2, _ => some { X := Nat, slots := fun i => [(3, .sv (.dv (.i64 i)))], objs := fun _ => [], inv := fun i => 1 ≤ i ∧ (i ≤ l.length ∨ i = 1) ∧ ∀ j, j + 1 < i → ascB l j = true, meas := fun i => l.length - i }
 | _, _ => none

theorem ship_row_vc (l : List DigP) (hl : l.length ≤ LIM) :
 (∃ (x : Nat), (1 ≤ x ∧ (x ≤ List.length l ∨ x = 1) ∧ ∀ (j : Nat), j + 1 < x → ascB l j = true) ∧ 1 = ofN x) ∧
  ∀ (x : Nat),
  (1 ≤ x ∧ (x ≤ List.length l ∨ x = 1) ∧ ∀ (j : Nat), j + 1 < x → ascB l j = true) →
  (decide (ofN x < ofN (List.length l)) = true →
  inI64 (ofN x - 1) ∧
  within (ofN x - 1) (List.length l) ∧
  within (ofN x) (List.length l) ∧
  (decide (0 ≤ cmpV (List.getD l (Int.toNat (ofN x - 1)) (T.dflt (T.arr 32 T.u8))) (List.getD l (Int.toNat (ofN x)) (T.dflt (T.arr 32 T.u8)))) = true → false = rowV l) ∧
  (decide (0 ≤ cmpV (List.getD l (Int.toNat (ofN x - 1)) (T.dflt (T.arr 32 T.u8))) (List.getD l (Int.toNat (ofN x)) (T.dflt (T.arr 32 T.u8)))) = false →
  inI64 (ofN x + 1) ∧
  ∃ (x' : Nat), (1 ≤ x' ∧ (x' ≤ List.length l ∨ x' = 1) ∧ ∀ (j : Nat), j + 1 < x' → ascB l j = true) ∧ List.length l - x' < List.length l - x ∧ ofN x + 1 = ofN x')) ∧
  (decide (ofN x < ofN (List.length l)) = false → (decide (1 ≤ ofN (List.length l)) && decide (ofN (List.length l) ≤ 64)) = rowV l) := by
 unfold inI64 within ofN
 have key : ∀ x : Nat, (1 ≤ x ∧ (x ≤ l.length ∨ x = 1) ∧ ∀ j, j + 1 < x → ascB l j = true) → l.length ≤ x → ascV l = true := by
  intro x hx hle
  unfold ascV
  rw [List.all_eq_true]
  intro j hj
  rw [List.mem_range] at hj
  exact hx.2.2 j (by omega)
 refine ⟨⟨1, ⟨by omega, .inr rfl, fun j h => by omega⟩, rfl⟩, fun x hx => ⟨fun g => ?_, fun g => ?_⟩⟩
 · simp only [decide_eq_true_eq] at g
   have hlt : x < l.length := by omega
   have e1 : ((x : Int) - 1).toNat = x - 1 := by omega
   have e2 : ((x : Int)).toNat = x := by omega
   have e3 : x - 1 + 1 = x := by omega
   unfold LIM at hl
   refine ⟨by omega, by omega, by omega, fun h => ?_, fun h => ⟨by omega, x + 1, ⟨by omega, .inl (by omega), fun j hj => ?_⟩, by omega, by omega⟩⟩
   · rw [e1, e2] at h
     simp only [decide_eq_true_eq] at h
     have : ascB l (x - 1) = false := by
      unfold ascB
      rw [e3, decide_eq_false_iff_not]
      exact fun h' => absurd h (Int.not_le.2 h')
     have : ascV l = false := by
      unfold ascV
      rw [List.all_eq_false]
      exact ⟨x - 1, List.mem_range.2 (by omega), by rw [this]; decide⟩
     unfold rowV
     rw [this, Bool.and_false]
   · by_cases hj' : j + 1 < x
     · exact hx.2.2 j hj'
     · have : j = x - 1 := by omega
       subst this
       rw [e1, e2] at h
       simp only [decide_eq_false_iff_not] at h
       unfold ascB
       rw [e3, decide_eq_true_eq]
       have := Int.not_le.1 h
       exact this
 · simp only [decide_eq_false_iff_not] at g
   unfold rowV
   rw [key x hx (by omega), Bool.and_true]
   congr 1 <;> (rw [decide_eq_decide]; omega)

theorem ship_seq_vc (n k : Int) :
 (decide (k ≤ n) && decide (n ≤ 1073741824)) = seqV n k := by
 rfl

def an_eqDg (a b : List DigP) : Nat → SState → Option LoopAnn
 | 4, _ => some { X := Nat, slots := fun i => [(13, .sv (.dv (.i64 i)))], objs := fun _ => [], inv := fun i => i ≤ a.length ∧ a.take i = b.take i, meas := fun i => a.length - i }
 | _, _ => none

theorem eqDg_vc (a b : List DigP) (hl : a.length ≤ LIM) :
 ((ofN (List.length a) != ofN (List.length b)) = true → false = sameDg a b) ∧
  ((ofN (List.length a) != ofN (List.length b)) = false →
  (∃ (x : Nat), (x ≤ List.length a ∧ List.take x a = List.take x b) ∧ 0 = ofN x) ∧
  ∀ (x : Nat),
  x ≤ List.length a ∧ List.take x a = List.take x b →
  (decide (ofN x < ofN (List.length a)) = true →
  within (ofN x) (List.length a) ∧
  within (ofN x) (List.length b) ∧
  ((!eqL T.u8 (List.getD a (Int.toNat (ofN x)) (T.dflt (T.arr 32 T.u8))) (List.getD b (Int.toNat (ofN x)) (T.dflt (T.arr 32 T.u8)))) = true → false = sameDg a b) ∧
  ((!eqL T.u8 (List.getD a (Int.toNat (ofN x)) (T.dflt (T.arr 32 T.u8))) (List.getD b (Int.toNat (ofN x)) (T.dflt (T.arr 32 T.u8)))) = false →
  inI64 (ofN x + 1) ∧ ∃ (x' : Nat), (x' ≤ List.length a ∧ List.take x' a = List.take x' b) ∧ List.length a - x' < List.length a - x ∧ ofN x + 1 = ofN x')) ∧
  (decide (ofN x < ofN (List.length a)) = false → true = sameDg a b)) := by
 unfold inI64 within ofN sameDg
 unfold LIM at hl
 refine ⟨fun g => ?_, fun g => ?_⟩
 · simp only [bne_iff_ne, ne_eq] at g
   rw [eq_comm, decide_eq_false_iff_not]
   rintro rfl
   exact g rfl
 · have g : a.length = b.length := by have : (a.length : Int) = b.length := by simpa using g
                                      omega
   refine ⟨⟨0, ⟨by omega, rfl⟩, rfl⟩, fun x hx => ⟨fun h => ?_, fun h => ?_⟩⟩
   · simp only [decide_eq_true_eq] at h
     have hlt : x < a.length := by omega
     have e2 : ((x : Int)).toNat = x := by omega
     rw [e2, eqL_u8]
     refine ⟨by omega, by omega, fun h => ?_, fun h => ⟨by omega, x + 1, ⟨by omega, ?_⟩, by omega, by omega⟩⟩
     · rw [eq_comm, decide_eq_false_iff_not]
       rintro rfl
       simp at h
     · have h : a.getD x (T.dflt (T.arr 32 T.u8)) = b.getD x (T.dflt (T.arr 32 T.u8)) := by simpa using h
       rw [take_snoc' (d := T.dflt (T.arr 32 T.u8)) hlt, take_snoc' (d := T.dflt (T.arr 32 T.u8)) (by omega), hx.2, h]
   · simp only [decide_eq_false_iff_not] at h
     have e : x = a.length := by omega
     have h1 := hx.2
     rw [e, List.take_of_length_le (Nat.le_refl _), g, List.take_of_length_le (Nat.le_refl _)] at h1
     rw [eq_comm, decide_eq_true_eq]
     exact h1

theorem sel_no {α : Type} {h a c t p w ch g d : α} {k : Int} (h1 : (k == 1) = false) (h2 : (k == 9) = false) (h3 : (k == 2) = false) (h4 : (k == 3) = false) (h5 : (k == 4) = false) (h6 : (k == 5) = false) (h7 : (k == 6) = false) (h8 : (k == 10) = false) (h9 : (k == 7) = false) (h10 : (k == 8) = false) : sel k h a c t p w ch g d = d := by
 simp only [beq_eq_false_iff_ne, ne_eq] at h1 h2 h3 h4 h5 h6 h7 h8 h9 h10
 unfold sel
 rw [if_neg h1, if_neg h2, if_neg h3, if_neg h4, if_neg h5, if_neg h6, if_neg h7, if_neg h8, if_neg h9, if_neg h10]
theorem mcheck_head (h : HeadT) : (mcheckV (0, h.1, h.2.1, h.2.2, List.replicate 32 0#8) == 0) = isHeadV h := by
 unfold mcheckV mayV headM
 cases isHeadV h <;> rfl

theorem ship_only_vc (m : Msg) :
 ((m.1 == 1) = true →
  (m.1 = (onlyV m).1 ∧
  m.2.1.1 = (onlyV m).2.1.1 ∧
  m.2.1.2.1 = (onlyV m).2.1.2.1 ∧
  m.2.1.2.2 = (onlyV m).2.1.2.2 ∧
  0 = (onlyV m).2.2.1 ∧
  List.replicate 32 0#8 = (onlyV m).2.2.2.1 ∧
  0 = (onlyV m).2.2.2.2.1.1 ∧
  0 = (onlyV m).2.2.2.2.1.2.1 ∧
  List.replicate 32 0#8 = (onlyV m).2.2.2.2.1.2.2.1 ∧
  0 = (onlyV m).2.2.2.2.1.2.2.2.1 ∧
  0 = (onlyV m).2.2.2.2.1.2.2.2.2.1 ∧
  nilOf (BitVec 8) = (onlyV m).2.2.2.2.1.2.2.2.2.2.1 ∧
  nilOf (List (BitVec 8) × Int) = (onlyV m).2.2.2.2.1.2.2.2.2.2.2 ∧ nilOf (List (BitVec 8)) = (onlyV m).2.2.2.2.2.1 ∧ nilOf (BitVec 8) = (onlyV m).2.2.2.2.2.2) ∧
  (mcheckV (0, m.2.1.1, m.2.1.2.1, m.2.1.2.2, List.replicate 32 0#8) == 0) = okMsg m) ∧
  ((m.1 == 1) = false →
  ((m.1 == 9) = true →
  (m.1 = (onlyV m).1 ∧
  m.2.1.1 = (onlyV m).2.1.1 ∧
  m.2.1.2.1 = (onlyV m).2.1.2.1 ∧
  m.2.1.2.2 = (onlyV m).2.1.2.2 ∧
  0 = (onlyV m).2.2.1 ∧
  List.replicate 32 0#8 = (onlyV m).2.2.2.1 ∧
  0 = (onlyV m).2.2.2.2.1.1 ∧
  0 = (onlyV m).2.2.2.2.1.2.1 ∧
  List.replicate 32 0#8 = (onlyV m).2.2.2.2.1.2.2.1 ∧
  0 = (onlyV m).2.2.2.2.1.2.2.2.1 ∧
  0 = (onlyV m).2.2.2.2.1.2.2.2.2.1 ∧
  nilOf (BitVec 8) = (onlyV m).2.2.2.2.1.2.2.2.2.2.1 ∧
  nilOf (List (BitVec 8) × Int) = (onlyV m).2.2.2.2.1.2.2.2.2.2.2 ∧ nilOf (List (BitVec 8)) = (onlyV m).2.2.2.2.2.1 ∧ nilOf (BitVec 8) = (onlyV m).2.2.2.2.2.2) ∧
  (mcheckV (0, m.2.1.1, m.2.1.2.1, m.2.1.2.2, List.replicate 32 0#8) == 0) = okMsg m) ∧
  ((m.1 == 9) = false →
  ((m.1 == 2) = true →
  (m.1 = (onlyV m).1 ∧
  0 = (onlyV m).2.1.1 ∧
  0 = (onlyV m).2.1.2.1 ∧
  List.replicate 32 0#8 = (onlyV m).2.1.2.2 ∧
  m.2.2.1 = (onlyV m).2.2.1 ∧
  List.replicate 32 0#8 = (onlyV m).2.2.2.1 ∧
  0 = (onlyV m).2.2.2.2.1.1 ∧
  0 = (onlyV m).2.2.2.2.1.2.1 ∧
  List.replicate 32 0#8 = (onlyV m).2.2.2.2.1.2.2.1 ∧
  0 = (onlyV m).2.2.2.2.1.2.2.2.1 ∧
  0 = (onlyV m).2.2.2.2.1.2.2.2.2.1 ∧
  nilOf (BitVec 8) = (onlyV m).2.2.2.2.1.2.2.2.2.2.1 ∧
  nilOf (List (BitVec 8) × Int) = (onlyV m).2.2.2.2.1.2.2.2.2.2.2 ∧ nilOf (List (BitVec 8)) = (onlyV m).2.2.2.2.2.1 ∧ nilOf (BitVec 8) = (onlyV m).2.2.2.2.2.2) ∧
  seqV m.2.2.1 1 = okMsg m) ∧
  ((m.1 == 2) = false →
  ((m.1 == 3) = true →
  (m.1 = (onlyV m).1 ∧
  0 = (onlyV m).2.1.1 ∧
  0 = (onlyV m).2.1.2.1 ∧
  List.replicate 32 0#8 = (onlyV m).2.1.2.2 ∧
  m.2.2.1 = (onlyV m).2.2.1 ∧
  m.2.2.2.1 = (onlyV m).2.2.2.1 ∧
  0 = (onlyV m).2.2.2.2.1.1 ∧
  0 = (onlyV m).2.2.2.2.1.2.1 ∧
  List.replicate 32 0#8 = (onlyV m).2.2.2.2.1.2.2.1 ∧
  0 = (onlyV m).2.2.2.2.1.2.2.2.1 ∧
  0 = (onlyV m).2.2.2.2.1.2.2.2.2.1 ∧
  nilOf (BitVec 8) = (onlyV m).2.2.2.2.1.2.2.2.2.2.1 ∧
  nilOf (List (BitVec 8) × Int) = (onlyV m).2.2.2.2.1.2.2.2.2.2.2 ∧
  nilOf (List (BitVec 8)) = (onlyV m).2.2.2.2.2.1 ∧ nilOf (BitVec 8) = (onlyV m).2.2.2.2.2.2) ∧
  seqV m.2.2.1 1 = okMsg m) ∧
  ((m.1 == 3) = false →
  ((m.1 == 4) = true →
  (m.1 = (onlyV m).1 ∧
  0 = (onlyV m).2.1.1 ∧
  0 = (onlyV m).2.1.2.1 ∧
  List.replicate 32 0#8 = (onlyV m).2.1.2.2 ∧
  m.2.2.1 = (onlyV m).2.2.1 ∧
  m.2.2.2.1 = (onlyV m).2.2.2.1 ∧
  0 = (onlyV m).2.2.2.2.1.1 ∧
  0 = (onlyV m).2.2.2.2.1.2.1 ∧
  List.replicate 32 0#8 = (onlyV m).2.2.2.2.1.2.2.1 ∧
  0 = (onlyV m).2.2.2.2.1.2.2.2.1 ∧
  0 = (onlyV m).2.2.2.2.1.2.2.2.2.1 ∧
  nilOf (BitVec 8) = (onlyV m).2.2.2.2.1.2.2.2.2.2.1 ∧
  nilOf (List (BitVec 8) × Int) = (onlyV m).2.2.2.2.1.2.2.2.2.2.2 ∧
  nilOf (List (BitVec 8)) = (onlyV m).2.2.2.2.2.1 ∧ nilOf (BitVec 8) = (onlyV m).2.2.2.2.2.2) ∧
  (seqV m.2.2.1 0 && (decide (0 < m.2.2.1) || eqL T.u8 m.2.2.2.1 (List.replicate 32 0#8))) = okMsg m) ∧
  ((m.1 == 4) = false →
  ((m.1 == 5) = true →
  (m.1 = (onlyV m).1 ∧
  0 = (onlyV m).2.1.1 ∧
  0 = (onlyV m).2.1.2.1 ∧
  List.replicate 32 0#8 = (onlyV m).2.1.2.2 ∧
  0 = (onlyV m).2.2.1 ∧
  List.replicate 32 0#8 = (onlyV m).2.2.2.1 ∧
  m.2.2.2.2.1.1 = (onlyV m).2.2.2.2.1.1 ∧
  m.2.2.2.2.1.2.1 = (onlyV m).2.2.2.2.1.2.1 ∧
  m.2.2.2.2.1.2.2.1 = (onlyV m).2.2.2.2.1.2.2.1 ∧
  m.2.2.2.2.1.2.2.2.1 = (onlyV m).2.2.2.2.1.2.2.2.1 ∧
  m.2.2.2.2.1.2.2.2.2.1 = (onlyV m).2.2.2.2.1.2.2.2.2.1 ∧
  m.2.2.2.2.1.2.2.2.2.2.1 = (onlyV m).2.2.2.2.1.2.2.2.2.2.1 ∧
  m.2.2.2.2.1.2.2.2.2.2.2 = (onlyV m).2.2.2.2.1.2.2.2.2.2.2 ∧
  nilOf (List (BitVec 8)) = (onlyV m).2.2.2.2.2.1 ∧ nilOf (BitVec 8) = (onlyV m).2.2.2.2.2.2) ∧
  (checkV m.2.2.2.2.1 == 0) = okMsg m) ∧
  ((m.1 == 5) = false →
  ((m.1 == 6) = true →
  (m.1 = (onlyV m).1 ∧
  0 = (onlyV m).2.1.1 ∧
  0 = (onlyV m).2.1.2.1 ∧
  List.replicate 32 0#8 = (onlyV m).2.1.2.2 ∧
  0 = (onlyV m).2.2.1 ∧
  List.replicate 32 0#8 = (onlyV m).2.2.2.1 ∧
  0 = (onlyV m).2.2.2.2.1.1 ∧
  0 = (onlyV m).2.2.2.2.1.2.1 ∧
  List.replicate 32 0#8 = (onlyV m).2.2.2.2.1.2.2.1 ∧
  0 = (onlyV m).2.2.2.2.1.2.2.2.1 ∧
  0 = (onlyV m).2.2.2.2.1.2.2.2.2.1 ∧
  nilOf (BitVec 8) = (onlyV m).2.2.2.2.1.2.2.2.2.2.1 ∧
  nilOf (List (BitVec 8) × Int) = (onlyV m).2.2.2.2.1.2.2.2.2.2.2 ∧
  m.2.2.2.2.2.1 = (onlyV m).2.2.2.2.2.1 ∧ nilOf (BitVec 8) = (onlyV m).2.2.2.2.2.2) ∧
  rowV m.2.2.2.2.2.1 = okMsg m) ∧
  ((m.1 == 6) = false →
  ((m.1 == 10) = true →
  (m.1 = (onlyV m).1 ∧
  0 = (onlyV m).2.1.1 ∧
  0 = (onlyV m).2.1.2.1 ∧
  List.replicate 32 0#8 = (onlyV m).2.1.2.2 ∧
  0 = (onlyV m).2.2.1 ∧
  List.replicate 32 0#8 = (onlyV m).2.2.2.1 ∧
  0 = (onlyV m).2.2.2.2.1.1 ∧
  0 = (onlyV m).2.2.2.2.1.2.1 ∧
  List.replicate 32 0#8 = (onlyV m).2.2.2.2.1.2.2.1 ∧
  0 = (onlyV m).2.2.2.2.1.2.2.2.1 ∧
  0 = (onlyV m).2.2.2.2.1.2.2.2.2.1 ∧
  nilOf (BitVec 8) = (onlyV m).2.2.2.2.1.2.2.2.2.2.1 ∧
  nilOf (List (BitVec 8) × Int) = (onlyV m).2.2.2.2.1.2.2.2.2.2.2 ∧
  m.2.2.2.2.2.1 = (onlyV m).2.2.2.2.2.1 ∧ nilOf (BitVec 8) = (onlyV m).2.2.2.2.2.2) ∧
  rowV m.2.2.2.2.2.1 = okMsg m) ∧
  ((m.1 == 10) = false →
  ((m.1 == 7) = true →
  (m.1 = (onlyV m).1 ∧
  0 = (onlyV m).2.1.1 ∧
  0 = (onlyV m).2.1.2.1 ∧
  List.replicate 32 0#8 = (onlyV m).2.1.2.2 ∧
  0 = (onlyV m).2.2.1 ∧
  List.replicate 32 0#8 = (onlyV m).2.2.2.1 ∧
  0 = (onlyV m).2.2.2.2.1.1 ∧
  0 = (onlyV m).2.2.2.2.1.2.1 ∧
  List.replicate 32 0#8 = (onlyV m).2.2.2.2.1.2.2.1 ∧
  0 = (onlyV m).2.2.2.2.1.2.2.2.1 ∧
  0 = (onlyV m).2.2.2.2.1.2.2.2.2.1 ∧
  nilOf (BitVec 8) = (onlyV m).2.2.2.2.1.2.2.2.2.2.1 ∧
  nilOf (List (BitVec 8) × Int) = (onlyV m).2.2.2.2.1.2.2.2.2.2.2 ∧
  nilOf (List (BitVec 8)) = (onlyV m).2.2.2.2.2.1 ∧ m.2.2.2.2.2.2 = (onlyV m).2.2.2.2.2.2) ∧
  (decide (1 ≤ ofN (List.length m.2.2.2.2.2.2)) && decide (ofN (List.length m.2.2.2.2.2.2) ≤ 4096)) = okMsg m) ∧
  ((m.1 == 7) = false →
  ((m.1 == 8) = true →
  (m.1 = (onlyV m).1 ∧
  0 = (onlyV m).2.1.1 ∧
  0 = (onlyV m).2.1.2.1 ∧
  List.replicate 32 0#8 = (onlyV m).2.1.2.2 ∧
  0 = (onlyV m).2.2.1 ∧
  m.2.2.2.1 = (onlyV m).2.2.2.1 ∧
  0 = (onlyV m).2.2.2.2.1.1 ∧
  0 = (onlyV m).2.2.2.2.1.2.1 ∧
  List.replicate 32 0#8 = (onlyV m).2.2.2.2.1.2.2.1 ∧
  0 = (onlyV m).2.2.2.2.1.2.2.2.1 ∧
  0 = (onlyV m).2.2.2.2.1.2.2.2.2.1 ∧
  nilOf (BitVec 8) = (onlyV m).2.2.2.2.1.2.2.2.2.2.1 ∧
  nilOf (List (BitVec 8) × Int) = (onlyV m).2.2.2.2.1.2.2.2.2.2.2 ∧
  nilOf (List (BitVec 8)) = (onlyV m).2.2.2.2.2.1 ∧ nilOf (BitVec 8) = (onlyV m).2.2.2.2.2.2) ∧
  true = okMsg m) ∧
  ((m.1 == 8) = false →
  (m.1 = (onlyV m).1 ∧
  0 = (onlyV m).2.1.1 ∧
  0 = (onlyV m).2.1.2.1 ∧
  List.replicate 32 0#8 = (onlyV m).2.1.2.2 ∧
  0 = (onlyV m).2.2.1 ∧
  List.replicate 32 0#8 = (onlyV m).2.2.2.1 ∧
  0 = (onlyV m).2.2.2.2.1.1 ∧
  0 = (onlyV m).2.2.2.2.1.2.1 ∧
  List.replicate 32 0#8 = (onlyV m).2.2.2.2.1.2.2.1 ∧
  0 = (onlyV m).2.2.2.2.1.2.2.2.1 ∧
  0 = (onlyV m).2.2.2.2.1.2.2.2.2.1 ∧
  nilOf (BitVec 8) = (onlyV m).2.2.2.2.1.2.2.2.2.2.1 ∧
  nilOf (List (BitVec 8) × Int) = (onlyV m).2.2.2.2.1.2.2.2.2.2.2 ∧
  nilOf (List (BitVec 8)) = (onlyV m).2.2.2.2.2.1 ∧ nilOf (BitVec 8) = (onlyV m).2.2.2.2.2.2) ∧
  false = okMsg m)))))))))) := by
 have hd : ∀ k, m.1 = k → (onlyV m = sel k (k, m.2.1, 0, zero32, rec0, [], []) (k, head0, m.2.2.1, zero32, rec0, [], []) (k, head0, m.2.2.1, m.2.2.2.1, rec0, [], []) (k, head0, m.2.2.1, m.2.2.2.1, rec0, [], [])
  (k, head0, 0, zero32, m.2.2.2.2.1, [], []) (k, head0, 0, zero32, rec0, m.2.2.2.2.2.1, []) (k, head0, 0, zero32, rec0, [], m.2.2.2.2.2.2) (k, head0, 0, m.2.2.2.1, rec0, [], []) (k, head0, 0, zero32, rec0, [], [])) ∧
  okMsg m = sel k (isHeadV m.2.1) (seqV m.2.2.1 1) (seqV m.2.2.1 1) (cutOk m) (decide (checkV m.2.2.2.2.1 = 0)) (rowV m.2.2.2.2.2.1) (chunkV m.2.2.2.2.2.2) true false := fun k hk => by
  unfold onlyV okMsg; rw [hk]; exact ⟨rfl, rfl⟩
 have mh := mcheck_head m.2.1
 have rp : List.replicate 32 0#8 = zero32 := rfl
 refine ⟨fun g1 => ?_, fun n1 => ?_⟩
 · have g1 : m.1 = 1 := by simpa using g1
   obtain ⟨e1, e2⟩ := hd 1 g1
   rw [sel_1] at e1 e2
   rw [e1, e2, g1]
   exact ⟨⟨rfl, rfl, rfl, rfl, rfl, rfl, rfl, rfl, rfl, rfl, rfl, rfl, rfl, rfl, rfl⟩, mh⟩
 refine ⟨fun g9 => ?_, fun n9 => ?_⟩
 · have g9 : m.1 = 9 := by simpa using g9
   obtain ⟨e1, e2⟩ := hd 9 g9
   rw [sel_9] at e1 e2
   rw [e1, e2, g9]
   exact ⟨⟨rfl, rfl, rfl, rfl, rfl, rfl, rfl, rfl, rfl, rfl, rfl, rfl, rfl, rfl, rfl⟩, mh⟩
 refine ⟨fun g2 => ?_, fun n2 => ?_⟩
 · have g2 : m.1 = 2 := by simpa using g2
   obtain ⟨e1, e2⟩ := hd 2 g2
   rw [sel_2] at e1 e2
   rw [e1, e2, g2]
   exact ⟨⟨rfl, rfl, rfl, rfl, rfl, rfl, rfl, rfl, rfl, rfl, rfl, rfl, rfl, rfl, rfl⟩, rfl⟩
 refine ⟨fun g3 => ?_, fun n3 => ?_⟩
 · have g3 : m.1 = 3 := by simpa using g3
   obtain ⟨e1, e2⟩ := hd 3 g3
   rw [sel_3] at e1 e2
   rw [e1, e2, g3]
   exact ⟨⟨rfl, rfl, rfl, rfl, rfl, rfl, rfl, rfl, rfl, rfl, rfl, rfl, rfl, rfl, rfl⟩, rfl⟩
 refine ⟨fun g4 => ?_, fun n4 => ?_⟩
 · have g4 : m.1 = 4 := by simpa using g4
   obtain ⟨e1, e2⟩ := hd 4 g4
   rw [sel_4] at e1 e2
   rw [e1, e2, g4]
   refine ⟨⟨rfl, rfl, rfl, rfl, rfl, rfl, rfl, rfl, rfl, rfl, rfl, rfl, rfl, rfl, rfl⟩, ?_⟩
   unfold cutOk
   rw [eqL_u8, rp]
 refine ⟨fun g5 => ?_, fun n5 => ?_⟩
 · have g5 : m.1 = 5 := by simpa using g5
   obtain ⟨e1, e2⟩ := hd 5 g5
   rw [sel_5] at e1 e2
   rw [e1, e2, g5]
   refine ⟨⟨rfl, rfl, rfl, rfl, rfl, rfl, rfl, rfl, rfl, rfl, rfl, rfl, rfl, rfl, rfl⟩, ?_⟩
   rfl
 refine ⟨fun g6 => ?_, fun n6 => ?_⟩
 · have g6 : m.1 = 6 := by simpa using g6
   obtain ⟨e1, e2⟩ := hd 6 g6
   rw [sel_6] at e1 e2
   rw [e1, e2, g6]
   exact ⟨⟨rfl, rfl, rfl, rfl, rfl, rfl, rfl, rfl, rfl, rfl, rfl, rfl, rfl, rfl, rfl⟩, rfl⟩
 refine ⟨fun g10 => ?_, fun n10 => ?_⟩
 · have g10 : m.1 = 10 := by simpa using g10
   obtain ⟨e1, e2⟩ := hd 10 g10
   rw [sel_10] at e1 e2
   rw [e1, e2, g10]
   exact ⟨⟨rfl, rfl, rfl, rfl, rfl, rfl, rfl, rfl, rfl, rfl, rfl, rfl, rfl, rfl, rfl⟩, rfl⟩
 refine ⟨fun g7 => ?_, fun n7 => ?_⟩
 · have g7 : m.1 = 7 := by simpa using g7
   obtain ⟨e1, e2⟩ := hd 7 g7
   rw [sel_7] at e1 e2
   rw [e1, e2, g7]
   refine ⟨⟨rfl, rfl, rfl, rfl, rfl, rfl, rfl, rfl, rfl, rfl, rfl, rfl, rfl, rfl, rfl⟩, ?_⟩
   unfold chunkV ofN
   congr 1 <;> (rw [decide_eq_decide]; omega)
 refine ⟨fun g8 => ?_, fun n8 => ?_⟩
 · have g8 : m.1 = 8 := by simpa using g8
   obtain ⟨e1, e2⟩ := hd 8 g8
   rw [sel_8] at e1 e2
   rw [e1, e2, g8]
   exact ⟨⟨rfl, rfl, rfl, rfl, rfl, rfl, rfl, rfl, rfl, rfl, rfl, rfl, rfl, rfl, rfl⟩, rfl⟩
 have e1 : onlyV m = (m.1, head0, 0, zero32, rec0, [], []) := sel_no n1 n9 n2 n3 n4 n5 n6 n10 n7 n8
 have e2 : okMsg m = false := sel_no n1 n9 n2 n3 n4 n5 n6 n10 n7 n8
 rw [e1, e2]
 exact ⟨⟨rfl, rfl, rfl, rfl, rfl, rfl, rfl, rfl, rfl, rfl, rfl, rfl, rfl, rfl, rfl⟩, rfl⟩

theorem ship_Same_vc (s t : Msg) :
 (s.1 == t.1 && (s.2.1.1 == t.2.1.1 && (s.2.1.2.1 == t.2.1.2.1 && eqL T.u8 s.2.1.2.2 t.2.1.2.2)) && s.2.2.1 == t.2.2.1 && eqL T.u8 s.2.2.2.1 t.2.2.2.1 && sameV s.2.2.2.2.1 t.2.2.2.2.1 &&
  sameDg s.2.2.2.2.2.1 t.2.2.2.2.2.1 &&
  s.2.2.2.2.2.2 == t.2.2.2.2.2.2) =
  sameM s t := by
 rw [eqL_u8, eqL_u8]
 unfold sameM sameHead
 simp only [Bool.and_assoc]
 rfl

theorem ship_Check_vc (m : Msg) :
 ((!okMsg m || !sameM (onlyV m) m) = true → 200 = checkM m) ∧ ((!okMsg m || !sameM (onlyV m) m) = false → 0 = checkM m) := by
 unfold checkM
 refine ⟨fun g => ?_, fun g => ?_⟩
 · rw [if_neg (by rintro ⟨h1, h2⟩; rw [h1, h2] at g; exact absurd g (by decide))]
 · simp only [Bool.or_eq_false_iff, Bool.not_eq_false'] at g
   rw [if_pos g]

def an_shBytes (m : Msg) : Nat → SState → Option LoopAnn
 | 24, S => some { X := Nat, slots := fun i => [(93, .sv (.dv (.i64 i))), (5, .sv (.own 10 .u8 (BitVec.ofInt 8 m.1 :: BitVec.ofInt 8 (m.2.2.2.2.2.1.length : Int) :: (m.2.2.2.2.2.1.take i).flatten)))], objs := fun _ => [(x_tok S 5, .gone), (10, .tok t_uint8 1)], inv := fun i => i ≤ m.2.2.2.2.2.1.length, meas := fun i => m.2.2.2.2.2.1.length - i }
 | _, _ => none

theorem vint64 {n : Int} (h0 : 0 ≤ n) (h1 : n ≤ 1073741824) : varintN (BitVec.toNat (BitVec.ofInt 64 n)) = varintN n.toNat ∧ (varintN n.toNat).length ≤ 10 := by
 rw [toNat64 h0 (by omega)]
 exact ⟨rfl, vlen _ (by omega)⟩
theorem take32 {d : DigP} (h : d.length = 32) : List.take 32 (List.drop 0 d) = d := by
 rw [List.drop_zero, List.take_of_length_le (by omega)]

theorem flat_len {l : List DigP} (h : ∀ d ∈ l, d.length = 32) (x : Nat) : ((l.take x).flatten).length ≤ 32 * x := by
 induction x generalizing l with
 | zero => simp
 | succ x ih =>
   cases l with
   | nil => simp
   | cons d r =>
     have h1 := h d (by simp)
     have h2 := ih (l := r) (fun d hd => h d (by simp [hd]))
     rw [List.take_succ_cons, List.flatten_cons, List.length_append, h1]
     omega

theorem ship_Bytes_vc (m : Msg) (ho : okM m) :
 ((checkM m != 0) = true → nilOf (BitVec 8) = (bytesM m).1 ∧ checkM m = (bytesM m).2) ∧
  ((checkM m != 0) = false →
  ((m.1 == 1) = true →
  List.length [BitVec.ofInt 8 m.1] + List.length (varintN (BitVec.toNat (BitVec.ofInt 64 m.2.1.1))) ≤ ROOM ∧
  List.length ([BitVec.ofInt 8 m.1] ++ varintN (BitVec.toNat (BitVec.ofInt 64 m.2.1.1))) + List.length (varintN (BitVec.toNat (BitVec.ofInt 64 m.2.1.2.1))) ≤ ROOM ∧
  List.length ([BitVec.ofInt 8 m.1] ++ varintN (BitVec.toNat (BitVec.ofInt 64 m.2.1.1)) ++ varintN (BitVec.toNat (BitVec.ofInt 64 m.2.1.2.1))) +
  List.length (List.take 32 (List.drop 0 m.2.1.2.2)) ≤
  ROOM ∧
  [BitVec.ofInt 8 m.1] ++ varintN (BitVec.toNat (BitVec.ofInt 64 m.2.1.1)) ++ varintN (BitVec.toNat (BitVec.ofInt 64 m.2.1.2.1)) ++ List.take 32 (List.drop 0 m.2.1.2.2) = (bytesM m).1 ∧
  0 = (bytesM m).2) ∧
  ((m.1 == 1) = false →
  ((m.1 == 9) = true →
  List.length [BitVec.ofInt 8 m.1] + List.length (varintN (BitVec.toNat (BitVec.ofInt 64 m.2.1.1))) ≤ ROOM ∧
  List.length ([BitVec.ofInt 8 m.1] ++ varintN (BitVec.toNat (BitVec.ofInt 64 m.2.1.1))) + List.length (varintN (BitVec.toNat (BitVec.ofInt 64 m.2.1.2.1))) ≤ ROOM ∧
  List.length ([BitVec.ofInt 8 m.1] ++ varintN (BitVec.toNat (BitVec.ofInt 64 m.2.1.1)) ++ varintN (BitVec.toNat (BitVec.ofInt 64 m.2.1.2.1))) +
  List.length (List.take 32 (List.drop 0 m.2.1.2.2)) ≤
  ROOM ∧
  [BitVec.ofInt 8 m.1] ++ varintN (BitVec.toNat (BitVec.ofInt 64 m.2.1.1)) ++ varintN (BitVec.toNat (BitVec.ofInt 64 m.2.1.2.1)) ++ List.take 32 (List.drop 0 m.2.1.2.2) =
  (bytesM m).1 ∧
  0 = (bytesM m).2) ∧
  ((m.1 == 9) = false →
  ((m.1 == 2) = true →
  List.length [BitVec.ofInt 8 m.1] + List.length (varintN (BitVec.toNat (BitVec.ofInt 64 m.2.2.1))) ≤ ROOM ∧
  [BitVec.ofInt 8 m.1] ++ varintN (BitVec.toNat (BitVec.ofInt 64 m.2.2.1)) = (bytesM m).1 ∧ 0 = (bytesM m).2) ∧
  ((m.1 == 2) = false →
  ((m.1 == 3) = true →
  List.length [BitVec.ofInt 8 m.1] + List.length (varintN (BitVec.toNat (BitVec.ofInt 64 m.2.2.1))) ≤ ROOM ∧
  List.length ([BitVec.ofInt 8 m.1] ++ varintN (BitVec.toNat (BitVec.ofInt 64 m.2.2.1))) + List.length (List.take 32 (List.drop 0 m.2.2.2.1)) ≤ ROOM ∧
  [BitVec.ofInt 8 m.1] ++ varintN (BitVec.toNat (BitVec.ofInt 64 m.2.2.1)) ++ List.take 32 (List.drop 0 m.2.2.2.1) = (bytesM m).1 ∧ 0 = (bytesM m).2) ∧
  ((m.1 == 3) = false →
  ((m.1 == 4) = true →
  List.length [BitVec.ofInt 8 m.1] + List.length (varintN (BitVec.toNat (BitVec.ofInt 64 m.2.2.1))) ≤ ROOM ∧
  List.length ([BitVec.ofInt 8 m.1] ++ varintN (BitVec.toNat (BitVec.ofInt 64 m.2.2.1))) + List.length (List.take 32 (List.drop 0 m.2.2.2.1)) ≤ ROOM ∧
  [BitVec.ofInt 8 m.1] ++ varintN (BitVec.toNat (BitVec.ofInt 64 m.2.2.1)) ++ List.take 32 (List.drop 0 m.2.2.2.1) = (bytesM m).1 ∧ 0 = (bytesM m).2) ∧
  ((m.1 == 4) = false →
  ((m.1 == 5) = true →
  List.length [BitVec.ofInt 8 m.1] + List.length (bytesV m.2.2.2.2.1).1 ≤ ROOM ∧ [BitVec.ofInt 8 m.1] ++ (bytesV m.2.2.2.2.1).1 = (bytesM m).1 ∧ 0 = (bytesM m).2) ∧
  ((m.1 == 5) = false →
  ((m.1 == 6) = true →
  List.length [BitVec.ofInt 8 m.1] + List.length [BitVec.ofInt 8 (ofN (List.length m.2.2.2.2.2.1))] ≤ ROOM ∧
  (∃ (x : Nat),
  x ≤ List.length m.2.2.2.2.2.1 ∧
  0 = ofN x ∧
  [BitVec.ofInt 8 m.1] ++ [BitVec.ofInt 8 (ofN (List.length m.2.2.2.2.2.1))] =
  BitVec.ofInt 8 m.1 :: BitVec.ofInt 8 (ofN (List.length m.2.2.2.2.2.1)) :: List.flatten (List.take x m.2.2.2.2.2.1)) ∧
  ∀ (x : Nat),
  x ≤ List.length m.2.2.2.2.2.1 →
  (decide (ofN x < ofN (List.length m.2.2.2.2.2.1)) = true →
  within (ofN x) (List.length m.2.2.2.2.2.1) ∧
  List.length (BitVec.ofInt 8 m.1 :: BitVec.ofInt 8 (ofN (List.length m.2.2.2.2.2.1)) :: List.flatten (List.take x m.2.2.2.2.2.1)) +
  List.length (List.take 32 (List.drop 0 (List.getD m.2.2.2.2.2.1 (Int.toNat (ofN x)) (T.dflt (T.arr 32 T.u8))))) ≤
  ROOM ∧
  inI64 (ofN x + 1) ∧
  ∃ (x' : Nat),
  x' ≤ List.length m.2.2.2.2.2.1 ∧
  List.length m.2.2.2.2.2.1 - x' < List.length m.2.2.2.2.2.1 - x ∧
  ofN x + 1 = ofN x' ∧
  BitVec.ofInt 8 m.1 :: BitVec.ofInt 8 (ofN (List.length m.2.2.2.2.2.1)) :: List.flatten (List.take x m.2.2.2.2.2.1) ++
  List.take 32 (List.drop 0 (List.getD m.2.2.2.2.2.1 (Int.toNat (ofN x)) (T.dflt (T.arr 32 T.u8)))) =
  BitVec.ofInt 8 m.1 :: BitVec.ofInt 8 (ofN (List.length m.2.2.2.2.2.1)) :: List.flatten (List.take x' m.2.2.2.2.2.1)) ∧
  (decide (ofN x < ofN (List.length m.2.2.2.2.2.1)) = false →
  BitVec.ofInt 8 m.1 :: BitVec.ofInt 8 (ofN (List.length m.2.2.2.2.2.1)) :: List.flatten (List.take x m.2.2.2.2.2.1) = (bytesM m).1 ∧ 0 = (bytesM m).2)) ∧
  ((m.1 == 6) = false →
  ((m.1 == 10) = true →
  List.length [BitVec.ofInt 8 m.1] + List.length [BitVec.ofInt 8 (ofN (List.length m.2.2.2.2.2.1))] ≤ ROOM ∧
  (∃ (x : Nat),
  x ≤ List.length m.2.2.2.2.2.1 ∧
  0 = ofN x ∧
  [BitVec.ofInt 8 m.1] ++ [BitVec.ofInt 8 (ofN (List.length m.2.2.2.2.2.1))] =
  BitVec.ofInt 8 m.1 :: BitVec.ofInt 8 (ofN (List.length m.2.2.2.2.2.1)) :: List.flatten (List.take x m.2.2.2.2.2.1)) ∧
  ∀ (x : Nat),
  x ≤ List.length m.2.2.2.2.2.1 →
  (decide (ofN x < ofN (List.length m.2.2.2.2.2.1)) = true →
  within (ofN x) (List.length m.2.2.2.2.2.1) ∧
  List.length (BitVec.ofInt 8 m.1 :: BitVec.ofInt 8 (ofN (List.length m.2.2.2.2.2.1)) :: List.flatten (List.take x m.2.2.2.2.2.1)) +
  List.length (List.take 32 (List.drop 0 (List.getD m.2.2.2.2.2.1 (Int.toNat (ofN x)) (T.dflt (T.arr 32 T.u8))))) ≤
  ROOM ∧
  inI64 (ofN x + 1) ∧
  ∃ (x' : Nat),
  x' ≤ List.length m.2.2.2.2.2.1 ∧
  List.length m.2.2.2.2.2.1 - x' < List.length m.2.2.2.2.2.1 - x ∧
  ofN x + 1 = ofN x' ∧
  BitVec.ofInt 8 m.1 :: BitVec.ofInt 8 (ofN (List.length m.2.2.2.2.2.1)) :: List.flatten (List.take x m.2.2.2.2.2.1) ++
  List.take 32 (List.drop 0 (List.getD m.2.2.2.2.2.1 (Int.toNat (ofN x)) (T.dflt (T.arr 32 T.u8)))) =
  BitVec.ofInt 8 m.1 :: BitVec.ofInt 8 (ofN (List.length m.2.2.2.2.2.1)) :: List.flatten (List.take x' m.2.2.2.2.2.1)) ∧
  (decide (ofN x < ofN (List.length m.2.2.2.2.2.1)) = false →
  BitVec.ofInt 8 m.1 :: BitVec.ofInt 8 (ofN (List.length m.2.2.2.2.2.1)) :: List.flatten (List.take x m.2.2.2.2.2.1) = (bytesM m).1 ∧ 0 = (bytesM m).2)) ∧
  ((m.1 == 10) = false →
  ((m.1 == 7) = true →
  List.length [BitVec.ofInt 8 m.1] + List.length m.2.2.2.2.2.2 ≤ ROOM ∧ [BitVec.ofInt 8 m.1] ++ m.2.2.2.2.2.2 = (bytesM m).1 ∧ 0 = (bytesM m).2) ∧
  ((m.1 == 7) = false →
  ((m.1 == 8) = true →
  List.length [BitVec.ofInt 8 m.1] + List.length (List.take 32 (List.drop 0 m.2.2.2.1)) ≤ ROOM ∧
  [BitVec.ofInt 8 m.1] ++ List.take 32 (List.drop 0 m.2.2.2.1) = (bytesM m).1 ∧ 0 = (bytesM m).2) ∧
  ((m.1 == 8) = false → [BitVec.ofInt 8 m.1] = (bytesM m).1 ∧ 0 = (bytesM m).2))))))))))) := by
 unfold inI64 within ROOM ofN
 obtain ⟨o1, o2, o3, o4, o5⟩ := ho
 refine ⟨fun g => ?_, fun g => ?_⟩
 · have g : ¬ checkM m = 0 := by simpa using g
   unfold bytesM
   rw [if_neg g]
   refine ⟨rfl, ?_⟩
   unfold checkM at g ⊢
   split
   · rename_i h; rw [if_pos h] at g; exact absurd rfl g
   · rfl
 have g : checkM m = 0 := by simpa using g
 have hok := (checkM_ok g).1
 have eB : bytesM m = (BitVec.ofInt 8 m.1 :: tailM m, 0) := by unfold bytesM encM; rw [if_pos g]
 refine ⟨fun g1 => ?_, fun n1 => ?_⟩
 · have g1 : m.1 = 1 := by simpa using g1
   have ho2 := okMsg_at g1
   have ht := tailM_at g1
   rw [sel_1] at ho2 ht
   rw [ho2] at hok
   rw [ht] at eB
   rw [eB]
   obtain ⟨⟨b1, b2⟩, b3, b4⟩ := isHead_nat hok
   obtain ⟨v1, l1⟩ := vint64 b1 b2
   obtain ⟨v2, l2⟩ := vint64 b3 b4
   rw [v1, v2, take32 o1]
   refine ⟨?_, ?_, ?_, ?_, rfl⟩
   · simp only [List.length_cons, List.length_nil]; omega
   · simp only [List.length_append, List.length_cons, List.length_nil]; omega
   · simp only [List.length_append, List.length_cons, List.length_nil]; omega
   · simp only [List.append_assoc, List.cons_append, List.nil_append]
 refine ⟨fun g9 => ?_, fun n9 => ?_⟩
 · have g9 : m.1 = 9 := by simpa using g9
   have ho2 := okMsg_at g9
   have ht := tailM_at g9
   rw [sel_9] at ho2 ht
   rw [ho2] at hok
   rw [ht] at eB
   rw [eB]
   obtain ⟨⟨b1, b2⟩, b3, b4⟩ := isHead_nat hok
   obtain ⟨v1, l1⟩ := vint64 b1 b2
   obtain ⟨v2, l2⟩ := vint64 b3 b4
   rw [v1, v2, take32 o1]
   refine ⟨?_, ?_, ?_, ?_, rfl⟩
   · simp only [List.length_cons, List.length_nil]; omega
   · simp only [List.length_append, List.length_cons, List.length_nil]; omega
   · simp only [List.length_append, List.length_cons, List.length_nil]; omega
   · simp only [List.append_assoc, List.cons_append, List.nil_append]
 refine ⟨fun g2 => ?_, fun n2 => ?_⟩
 · have g2 : m.1 = 2 := by simpa using g2
   have ho2 := okMsg_at g2
   have ht := tailM_at g2
   rw [sel_2] at ho2 ht
   rw [ho2] at hok
   rw [ht] at eB
   rw [eB]
   obtain ⟨b1, b2⟩ := seqV_nat (by decide) hok
   obtain ⟨v1, l1⟩ := vint64 b1 b2
   rw [v1]
   refine ⟨?_, ?_, rfl⟩
   · simp only [List.length_cons, List.length_nil]; omega
   · simp only [List.cons_append, List.nil_append]
 refine ⟨fun g3 => ?_, fun n3 => ?_⟩
 · have g3 : m.1 = 3 := by simpa using g3
   have ho2 := okMsg_at g3
   have ht := tailM_at g3
   rw [sel_3] at ho2 ht
   rw [ho2] at hok
   rw [ht] at eB
   rw [eB]
   obtain ⟨b1, b2⟩ := seqV_nat (by decide) hok
   obtain ⟨v1, l1⟩ := vint64 b1 b2
   rw [v1, take32 o2]
   refine ⟨?_, ?_, ?_, rfl⟩
   · simp only [List.length_cons, List.length_nil]; omega
   · simp only [List.length_append, List.length_cons, List.length_nil]; omega
   · simp only [List.append_assoc, List.cons_append, List.nil_append]
 refine ⟨fun g4 => ?_, fun n4 => ?_⟩
 · have g4 : m.1 = 4 := by simpa using g4
   have ho2 := okMsg_at g4
   have ht := tailM_at g4
   rw [sel_4] at ho2 ht
   rw [ho2] at hok
   rw [ht] at eB
   rw [eB]
   unfold cutOk at hok
   rw [Bool.and_eq_true] at hok
   obtain ⟨b1, b2⟩ := seqV_nat (by decide) hok.1
   obtain ⟨v1, l1⟩ := vint64 b1 b2
   rw [v1, take32 o2]
   refine ⟨?_, ?_, ?_, rfl⟩
   · simp only [List.length_cons, List.length_nil]; omega
   · simp only [List.length_append, List.length_cons, List.length_nil]; omega
   · simp only [List.append_assoc, List.cons_append, List.nil_append]
 refine ⟨fun g5 => ?_, fun n5 => ?_⟩
 · have g5 : m.1 = 5 := by simpa using g5
   have ho2 := okMsg_at g5
   have ht := tailM_at g5
   rw [sel_5] at ho2 ht
   rw [ho2] at hok
   rw [ht] at eB
   rw [eB]
   have hc : checkV m.2.2.2.2.1 = 0 := by simpa using hok
   have := recBytes_len hc o3 o4
   rw [bytesV_ok hc]
   refine ⟨?_, rfl, rfl⟩
   simp only [List.length_cons, List.length_nil]; omega
 refine ⟨fun g6 => ?_, fun n6 => ?_⟩
 · have g6 : m.1 = 6 := by simpa using g6
   have ho2 := okMsg_at g6
   have ht := tailM_at g6
   rw [sel_6] at ho2 ht
   rw [ho2] at hok
   rw [ht] at eB
   rw [eB]
   have hl : m.2.2.2.2.2.1.length ≤ 64 := by
    unfold rowV at hok
    simp only [Bool.and_eq_true, decide_eq_true_eq] at hok
    exact hok.1.2
   have hfl : ∀ x, x ≤ m.2.2.2.2.2.1.length → ((m.2.2.2.2.2.1.take x).flatten).length ≤ 32 * x := fun x hx => flat_len o5 x
   refine ⟨by simp, ⟨0, by omega, rfl, rfl⟩, fun x hx => ⟨fun h => ?_, fun h => ?_⟩⟩
   · simp only [decide_eq_true_eq] at h
     have hlt : x < m.2.2.2.2.2.1.length := by omega
     have e2 : ((x : Int)).toNat = x := by omega
     have hd : (m.2.2.2.2.2.1.getD x (T.dflt (T.arr 32 T.u8))).length = 32 := by rw [getD_lt hlt]; exact o5 _ (List.getElem_mem hlt)
     have hxl := hfl x hx
     rw [e2, take32 hd]
     refine ⟨by omega, ?_, by omega, x + 1, by omega, by omega, by omega, ?_⟩
     · rw [List.length_cons, List.length_cons, hd]; omega
     · rw [take_snoc' (d := T.dflt (T.arr 32 T.u8)) hlt, List.flatten_append, List.flatten_singleton]
       simp only [List.cons_append]
   · simp only [decide_eq_false_iff_not] at h
     have e : x = m.2.2.2.2.2.1.length := by omega
     rw [e, List.take_of_length_le (Nat.le_refl _)]
     exact ⟨rfl, rfl⟩
 refine ⟨fun g10 => ?_, fun n10 => ?_⟩
 · have g10 : m.1 = 10 := by simpa using g10
   have ho2 := okMsg_at g10
   have ht := tailM_at g10
   rw [sel_10] at ho2 ht
   rw [ho2] at hok
   rw [ht] at eB
   rw [eB]
   have hl : m.2.2.2.2.2.1.length ≤ 64 := by
    unfold rowV at hok
    simp only [Bool.and_eq_true, decide_eq_true_eq] at hok
    exact hok.1.2
   have hfl : ∀ x, x ≤ m.2.2.2.2.2.1.length → ((m.2.2.2.2.2.1.take x).flatten).length ≤ 32 * x := fun x hx => flat_len o5 x
   refine ⟨by simp, ⟨0, by omega, rfl, rfl⟩, fun x hx => ⟨fun h => ?_, fun h => ?_⟩⟩
   · simp only [decide_eq_true_eq] at h
     have hlt : x < m.2.2.2.2.2.1.length := by omega
     have e2 : ((x : Int)).toNat = x := by omega
     have hd : (m.2.2.2.2.2.1.getD x (T.dflt (T.arr 32 T.u8))).length = 32 := by rw [getD_lt hlt]; exact o5 _ (List.getElem_mem hlt)
     have hxl := hfl x hx
     rw [e2, take32 hd]
     refine ⟨by omega, ?_, by omega, x + 1, by omega, by omega, by omega, ?_⟩
     · rw [List.length_cons, List.length_cons, hd]; omega
     · rw [take_snoc' (d := T.dflt (T.arr 32 T.u8)) hlt, List.flatten_append, List.flatten_singleton]
       simp only [List.cons_append]
   · simp only [decide_eq_false_iff_not] at h
     have e : x = m.2.2.2.2.2.1.length := by omega
     rw [e, List.take_of_length_le (Nat.le_refl _)]
     exact ⟨rfl, rfl⟩
 refine ⟨fun g7 => ?_, fun n7 => ?_⟩
 · have g7 : m.1 = 7 := by simpa using g7
   have ho2 := okMsg_at g7
   have ht := tailM_at g7
   rw [sel_7] at ho2 ht
   rw [ho2] at hok
   rw [ht] at eB
   rw [eB]
   unfold chunkV at hok
   simp only [Bool.and_eq_true, decide_eq_true_eq] at hok
   refine ⟨?_, rfl, rfl⟩
   simp only [List.length_cons, List.length_nil]; omega
 refine ⟨fun g8 => ?_, fun n8 => ?_⟩
 · have g8 : m.1 = 8 := by simpa using g8
   have ho2 := okMsg_at g8
   have ht := tailM_at g8
   rw [sel_8] at ho2 ht
   rw [ho2] at hok
   rw [ht] at eB
   rw [eB]
   rw [take32 o2]
   refine ⟨?_, rfl, rfl⟩
   simp only [List.length_cons, List.length_nil]; omega
 have ht : tailM m = [] := sel_no n1 n9 n2 n3 n4 n5 n6 n10 n7 n8
 rw [eB, ht]
 exact ⟨rfl, rfl⟩

theorem ship_compare_spec : Vse.Spec P f_ship_compare c_compare :=
 spec_fn (l := [(f_bytes_Compare, c_cmp)]) ⟨bytes_Compare_spec, trivial⟩ h_ship_compare rfl rfl fun x _ ok => body_ok an_none (ship_compare_vc x.1 x.2.1 ok.1.1 ok.2.1.1) (by kernel_rfl)

theorem check_may20_spec : Vse.Spec P f_check_may c_may :=
 spec_fn (l := []) trivial h_check_may rfl rfl fun x _ _ => body_ok an_none (check_may20_vc x.1) (by kernel_rfl)

theorem check_Check20_spec : Vse.Spec P f_check_Check c_mCheck :=
 spec_fn (l := [(f_check_may, c_may)]) ⟨check_may20_spec, trivial⟩ h_check_Check rfl rfl fun x _ _ => body_ok an_none (check_Check20_vc x.1) (by kernel_rfl)

theorem ship_row_spec : Vse.Spec P f_ship_row c_row :=
 spec_fn (l := [(f_ship_compare, c_compare)]) ⟨ship_compare_spec, trivial⟩ h_ship_row rfl rfl fun x _ ok => body_ok (an_row x.1) (ship_row_vc x.1 ok.1.1) (by kernel_rfl)

theorem ship_seq_spec : Vse.Spec P f_ship_seq c_seq :=
 spec_fn (l := []) trivial h_ship_seq rfl rfl fun x _ _ => body_ok an_none (ship_seq_vc x.1 x.2.1) (by kernel_rfl)

theorem eqDg_spec : Vse.Spec P f_slices_Equal_Digest c_eqDg :=
 spec_fn (l := []) trivial h_slices_Equal_Digest rfl rfl fun x _ ok => body_ok (an_eqDg x.1 x.2.1) (eqDg_vc x.1 x.2.1 ok.1.1) (by kernel_rfl)

theorem ship_only_spec : Vse.Spec P f_ship_only c_only :=
 spec_fn (l := [(f_check_Check, c_mCheck), (f_ship_seq, c_seq), (f_record_Check, c_Check), (f_ship_row, c_row)]) ⟨check_Check20_spec, ship_seq_spec, record_Check_spec, ship_row_spec, trivial⟩ h_ship_only rfl rfl fun x _ _ => body_ok an_none (ship_only_vc x.1) (by kernel_rfl)

theorem ship_Same_spec : Vse.Spec P f_ship_Same c_SameM :=
 spec_fn (l := [(f_record_Same, c_Same), (f_slices_Equal_Digest, c_eqDg), (f_bytes_Equal, c_bytesEq)]) ⟨record_Same_spec, eqDg_spec, bytes_Equal_spec, trivial⟩ h_ship_Same rfl rfl fun x _ _ => body_ok an_none (ship_Same_vc x.1 x.2.1) (by kernel_rfl)

theorem ship_Check_spec : Vse.Spec P f_ship_Check c_CheckM :=
 spec_fn (l := [(f_ship_only, c_only), (f_ship_Same, c_SameM)]) ⟨ship_only_spec, ship_Same_spec, trivial⟩ h_ship_Check rfl rfl fun x _ _ => body_ok an_none (ship_Check_vc x.1) (by kernel_rfl)

theorem okM_of {m : Msg} (h : okT T_Msg m) : okM m :=
 ⟨h.2.1.2.2.1, h.2.2.2.1.1, h.2.2.2.2.1.2.2.1.1, fun p hp => (h.2.2.2.2.1.2.2.2.2.2.2.2 p hp).1.1, fun d hd => (h.2.2.2.2.2.1.2 d hd).1⟩

theorem ship_Bytes_spec : Vse.Spec P f_ship_Bytes c_BytesM :=
 spec_fn (l := [(f_ship_Check, c_CheckM), (f_word_Varint, c_Varint), (f_record_Bytes, c_Bytes)]) ⟨ship_Check_spec, word_Varint_spec, record_Bytes_spec, trivial⟩ h_ship_Bytes rfl rfl fun x _ ok => body_ok (an_shBytes x.1) (ship_Bytes_vc x.1 (okM_of ok.1)) (by kernel_rfl)

end Go.Sal
