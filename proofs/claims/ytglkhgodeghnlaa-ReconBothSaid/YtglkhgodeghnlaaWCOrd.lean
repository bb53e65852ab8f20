/- Contracts of bytes.Compare, and of the reference's digests in order. -/
import Derived.Test.YtglkhgodeghnlaaWCRef03
import Derived.Test.YtglkhgodeghnlaaWSalDig
import Derived.Lib.BytesEntry
import Derived.Laws.Externs
set_option maxRecDepth 100000
namespace Go.Sal
open Go.Vse Go.Sal.Nm

def c_cmp : PC := D [.slc .u8, .slc .u8] [.i64] (fun _ => none) (fun x => (cmpV x.1 x.2.1, ()))

theorem cmpV_vals : ∀ a b : Bytes, cmpV a b = 0 ∨ cmpV a b = -1 ∨ cmpV a b = 1
 | [], [] => .inl rfl
 | [], _ :: _ => .inr (.inl rfl)
 | _ :: _, [] => .inr (.inr rfl)
 | a :: r, b :: s => by
   unfold cmpV
   split
   · exact .inr (.inl rfl)
   · split
     · exact .inr (.inr rfl)
     · exact cmpV_vals r s
theorem cmp_bytes : ∀ a b : Bytes, Lib.compareBytes (a.map UInt8.ofBitVec) (b.map UInt8.ofBitVec) = cmpV a b
 | [], [] => rfl
 | [], _ :: _ => rfl
 | _ :: _, [] => rfl
 | a :: r, b :: s => by
   have ih := cmp_bytes r s
   simp only [List.map_cons, Lib.compareBytes, cmpV]
   rw [ih]
   rfl
theorem bytesOf_run {w : World} {H : Mem} {v : Value} {xs : Bytes} (hm : memOk H w) (h : sliceRel H (eltRel H .u8) xs v) : (Extern.Bytes.bytesOf v).run P w = .ok (toBA xs) w := by
 rcases h.2 with ⟨rfl, rfl | ⟨a0, rfl⟩⟩ | ⟨b, o, cap, cs, rfl, hlc, hrow, hci⟩
 · rfl
 · rfl
 · have hcs : cs = xs.map fun x => Value.int .u8 (BitVec.toNat x : Int) := rowRel_one (fun _ _ h => h) hrow
   have hl := Lib.run_loadBytesX (P := P) w (xs.map fun x => (BitVec.toNat x : Int)) ⟨b, o, none⟩ .empty (fun j u hj => by
    rw [add_at]
    refine hm _ _ _ ?_
    rw [List.getElem?_map] at hj
    cases hx : xs[j]? with
    | none => rw [hx] at hj; cases hj
    | some y =>
      rw [hx] at hj
      have hjl := (List.getElem?_eq_some_iff.1 hx).1
      rw [hci j (by rw [hcs, List.length_map]; exact hjl), hcs, List.getElem?_map, hx]
      simp at hj ⊢; exact hj)
   rw [List.length_map] at hl
   show (Extern.Bytes.loadBytes ⟨b, o, none⟩ xs.length .empty).run P w = _
   rw [hl]
   congr 1
   apply WideShapes.bytes_inj
   simp [toBA, Lib.bytesOf]
theorem cmp_call {w : World} {H : Mem} {va vb : Value} {a b : Bytes} (hm : memOk H w) (ha : sliceRel H (eltRel H .u8) a va) (hb : sliceRel H (eltRel H .u8) b vb) :
 (callFunc f_internal_bytealg_Compare #[va, vb]).run P w = .ok (.value (.int .i64 (cmpV a b))) w := by
 rw [run_callFunc_extern h_internal_bytealg_Compare (by kernel_rfl) (by kernel_rfl) (by kernel_rfl) (e := Extern.BytealgCompare.compare) (by kernel_rfl)]
 have e : (Extern.BytealgCompare.compare #[va, vb]).run P w = .ok (.int .i64 (cmpV a b)) w := by
  change Sem.run P (do pure (goInt (Extern.BytealgCompare.cmp (← Extern.Bytes.bytesOf va) (← Extern.Bytes.bytesOf vb)))) w = _
  simp only [Sem.run_bind, bytesOf_run hm ha, bytesOf_run hm hb, Sem.run_pure, Result.andThen]
  rw [Lib.cmp_eq]
  have e1 : ∀ l : Bytes, (toBA l).data.toList = l.map UInt8.ofBitVec := fun l => rfl
  rw [e1, e1, cmp_bytes]
  rfl
 rw [e]
 rfl

theorem cmp_run {va vb : Value} {w : World} {c : Int} (h : (callFunc f_internal_bytealg_Compare #[va, vb]).run P w = .ok (.value (.int .i64 c)) w) : Calls P f_bytes_Compare #[va, vb] w fun e w' => e = .returned (.int .i64 c) ∧ w' = w := by
 refine calls_of_wp h_bytes_Compare rfl ?_
 apply wp_seq
 apply wp_region
 simp [wpOps, go_sem, Exit.then]
 refine .inl ?_
 apply wp_seq
 apply wp_region
 simp [wpOps, go_sem, Exit.then]
 have h' : Sem.run P (callFunc f_internal_bytealg_Compare #[va, vb]) w = .ok (.value (.int .i64 c)) w := h
 refine .inl ?_
 rw [h', Oper.upon_value]
 simp only [Act.put]
 refine .inl (.inl (.inl (wp_ret ?_)))
 simp [bodyPost, results, Sem.run_pure]

theorem bytes_Compare_spec : Vse.Spec P f_bytes_Compare c_cmp := by
 refine ⟨⟨b_bytes_Compare, _, h_bytes_Compare, rfl, rfl⟩, fun H w ins vs g r hct _ hrel hmem => ?_, fun _ _ h => by rcases h with h | h <;> cases h⟩
 simp only [c_cmp, D, cFn] at hct
 split at hct
 case h_2 => cases hct
 rename_i x hx
 simp only [Option.some.injEq] at hct
 subst hct
 have e := decs_eq hx
 subst e
 obtain ⟨a, b, u⟩ := x
 obtain ⟨rfl, hd⟩ : g = none ∧ datsRel H (svsOf [.slc .u8, .slc .u8] (a, b, u)) vs := hrel
 obtain ⟨va, r1, rfl, ha, vb, r2, rfl, hb, hn⟩ := hd
 simp only [svsOf, datsRel] at hn
 subst hn
 have hA : sliceRel H (eltRel H .u8) a va := ha (fun _ => none)
 have hB : sliceRel H (eltRel H .u8) b vb := hb (fun _ => none)
 unfold Answers
 refine (cmp_run (cmp_call hmem hA hB)).mono ?_
 rintro e w' ⟨rfl, rfl⟩
 have hc : inI64 (cmpV a b) := by
  rcases cmpV_vals a b with h | h | h <;> rw [h] <;> unfold inI64 <;> omega
 exact ⟨.int .i64 (cmpV a b), H, none, rfl, Mem.le_refl H, ⟨fun _ _ _ => rfl, Nat.le_refl _, rfl, rfl, outOk.refl _⟩, hmem, fun _ _ _ => rfl, rfl, rfl, fun ρ t _ => ⟨rfl, hc⟩⟩

def c_less : PC := D [T_Dig, T_Dig] [.bool] (fun _ => none) (fun x => (lessL x.1 x.2.1, ()))
def c_sort12 : PC := D [.slc T_Dig] [.slc T_Dig] (fun x => some (x.1.length ≤ 100000000)) (fun x => (sortV x.1, ()))
def c_ris20 : PC := D [.slc T_Dig] [.slc T_Dig] (fun x => some (x.1.length ≤ 100000000)) (fun x => (risV x.1, ()))
def c_Same12 : PC := D [.slc T_Dig, .slc T_Dig] [.bool] (fun _ => none) (fun x => (sameDg x.1 x.2.1, ()))

def an_less (a b : DigP) : Nat → SState → Option LoopAnn
 | 2, _ => some { X := Nat, slots := fun i => [(5, .sv (.dv (.i64 i)))], objs := fun _ => [], inv := fun i => i ≤ 32 ∧ a.take i = b.take i, meas := fun i => 32 - i }
 | _, _ => none

theorem less_at : ∀ (x : Nat) {a b : Bytes}, a.take x = b.take x → x < a.length → x < b.length → ¬ a.getD x 0#8 = b.getD x 0#8 → lessL a b = decide (a.getD x 0#8 < b.getD x 0#8)
 | 0, c :: a, d :: b, _, _, _, hne => by
   simp only [List.getD_cons_zero] at hne ⊢
   unfold lessL
   simp [hne]
 | x + 1, c :: a, d :: b, h, ha, hb, hne => by
   simp only [List.take_succ_cons, List.cons.injEq] at h
   simp only [List.getD_cons_succ] at hne ⊢
   rw [← less_at x h.2 (by simpa using ha) (by simpa using hb) hne]
   have e : lessL (c :: a) (d :: b) = (decide (c < d) || (c == d && lessL a b)) := rfl
   rw [e, h.1]
   simp
 | _, [], _, _, h, _, _ => by simp at h
 | _, _ :: _, [], _, _, h, _ => by simp at h

theorem ref12_Less_vc (a b : DigP) (ha : a.length = 32) (hb : b.length = 32) :
 (∃ (x : Nat), (x ≤ 32 ∧ List.take x a = List.take x b) ∧ 0 = ofN x) ∧
  ∀ (x : Nat),
  x ≤ 32 ∧ List.take x a = List.take x b →
  (decide (ofN x < 32) = true →
  within (ofN x) 32 ∧
  within (ofN x) 32 ∧
  ((List.getD a (Int.toNat (ofN x)) 0#8 != List.getD b (Int.toNat (ofN x)) 0#8) = true →
  within (ofN x) 32 ∧ within (ofN x) 32 ∧ decide (List.getD a (Int.toNat (ofN x)) 0#8 < List.getD b (Int.toNat (ofN x)) 0#8) = lessL a b) ∧
  ((List.getD a (Int.toNat (ofN x)) 0#8 != List.getD b (Int.toNat (ofN x)) 0#8) = false →
  inI64 (ofN x + 1) ∧ ∃ (x' : Nat), (x' ≤ 32 ∧ List.take x' a = List.take x' b) ∧ 32 - x' < 32 - x ∧ ofN x + 1 = ofN x')) ∧
  (decide (ofN x < 32) = false → false = lessL a b) := by
 unfold within inI64 ofN
 refine ⟨⟨0, ⟨by omega, rfl⟩, rfl⟩, fun x hx => ⟨fun g => ?_, fun g => ?_⟩⟩
 · simp only [decide_eq_true_eq] at g
   have hlt : x < 32 := by omega
   have e2 : ((x : Int)).toNat = x := by omega
   rw [e2]
   refine ⟨by omega, by omega, fun h => ⟨by omega, by omega, ?_⟩, fun h => ⟨by omega, x + 1, ⟨by omega, ?_⟩, by omega, by omega⟩⟩
   · rw [less_at x hx.2 (by omega) (by omega) (by simpa using h)]
   · have h : a.getD x 0#8 = b.getD x 0#8 := by simpa using h
     rw [take_snoc' (d := 0#8) (by omega), take_snoc' (d := 0#8) (by omega), hx.2, h]
 · simp only [decide_eq_false_iff_not] at g
   have e : x = 32 := by omega
   have h := hx.2
   rw [e, List.take_of_length_le (by omega), List.take_of_length_le (by omega)] at h
   rw [h, lessL_irr]

def x_digs (S : SState) (i : Nat) : List DigP := match S.get i with
 | .sv (.own _ t xs) => if h : t = T_Dig then castL h xs else []
 | _ => []

def an_sort12 (l : List DigP) : Nat → SState → Option LoopAnn
 | 3, S => some { X := Nat, slots := fun j => [(4, .sv (.own 11 T_Dig (restI l j))), (3, .sv (.own 10 T_Dig (outI l j)))], objs := fun _ => [(x_tok S 4, .gone), (x_tok S 3, .gone), (11, .tok t_api_Digest 32), (10, .tok t_api_Digest 32)], inv := fun j => j ≤ l.length, meas := fun j => l.length - j }
 | 6, S => some { X := Nat, slots := fun i => [(6, .sv (.dv (.i64 i))), (5, .sv (.dv (.i64 (minTo (x_digs S 4) i))))], objs := fun _ => [], inv := fun i => 1 ≤ i ∧ i ≤ (x_digs S 4).length, meas := fun i => (x_digs S 4).length - i }
 | _, _ => none

theorem ref12_Rising_vc (l : List DigP) (hl : l.length ≤ 100000000) :
 List.length (nilOf (List (BitVec 8))) + List.length l ≤ ROOM ∧
  (∃ (x : Nat), x ≤ List.length l ∧ nilOf (List (BitVec 8)) ++ l = restI l x ∧ outI l x = nilOf (List (BitVec 8))) ∧
  ∀ (x : Nat),
  x ≤ List.length l →
  (decide (0 < ofN (List.length (restI l x))) = true →
  (∃ (x_1 : Nat), (1 ≤ x_1 ∧ x_1 ≤ List.length (restI l x)) ∧ 1 = ofN x_1 ∧ 0 = ofN (minTo (restI l x) x_1)) ∧
  ∀ (x_1 : Nat),
  1 ≤ x_1 ∧ x_1 ≤ List.length (restI l x) →
  (decide (ofN x_1 < ofN (List.length (restI l x))) = true →
  within (ofN x_1) (List.length (restI l x)) ∧
  within (ofN (minTo (restI l x) x_1)) (List.length (restI l x)) ∧
  (lessL (List.getD (restI l x) (Int.toNat (ofN x_1)) (T.dflt (T.arr 32 T.u8))) (List.getD (restI l x) (Int.toNat (ofN (minTo (restI l x) x_1))) (T.dflt (T.arr 32 T.u8))) =
  true →
  inI64 (ofN x_1 + 1) ∧
  ∃ (x' : Nat),
  (1 ≤ x' ∧ x' ≤ List.length (restI l x)) ∧
  List.length (restI l x) - x' < List.length (restI l x) - x_1 ∧ ofN x_1 + 1 = ofN x' ∧ ofN x_1 = ofN (minTo (restI l x) x')) ∧
  (lessL (List.getD (restI l x) (Int.toNat (ofN x_1)) (T.dflt (T.arr 32 T.u8))) (List.getD (restI l x) (Int.toNat (ofN (minTo (restI l x) x_1))) (T.dflt (T.arr 32 T.u8))) =
  false →
  inI64 (ofN x_1 + 1) ∧
  ∃ (x' : Nat),
  (1 ≤ x' ∧ x' ≤ List.length (restI l x)) ∧
  List.length (restI l x) - x' < List.length (restI l x) - x_1 ∧ ofN x_1 + 1 = ofN x' ∧ ofN (minTo (restI l x) x_1) = ofN (minTo (restI l x) x'))) ∧
  (decide (ofN x_1 < ofN (List.length (restI l x))) = false →
  within (ofN (minTo (restI l x) x_1)) (List.length (restI l x)) ∧
  List.length (outI l x) + List.length [List.getD (restI l x) (Int.toNat (ofN (minTo (restI l x) x_1))) (T.dflt (T.arr 32 T.u8))] ≤ ROOM ∧
  (0 ≤ ofN (minTo (restI l x) x_1) ∧ ofN (minTo (restI l x) x_1) ≤ ofN (List.length (restI l x))) ∧
  List.length (nilOf (List (BitVec 8))) + List.length (List.drop 0 (List.take (Int.toNat (ofN (minTo (restI l x) x_1))) (restI l x))) ≤ ROOM ∧
  inI64 (ofN (minTo (restI l x) x_1) + 1) ∧
  (0 ≤ ofN (minTo (restI l x) x_1) + 1 ∧ ofN (minTo (restI l x) x_1) + 1 ≤ ofN (List.length (restI l x))) ∧
  List.length (nilOf (List (BitVec 8)) ++ List.drop 0 (List.take (Int.toNat (ofN (minTo (restI l x) x_1))) (restI l x))) +
  List.length (List.drop (Int.toNat (ofN (minTo (restI l x) x_1) + 1)) (List.take (List.length (restI l x)) (restI l x))) ≤
  ROOM ∧
  ∃ (x' : Nat),
  x' ≤ List.length l ∧
  List.length l - x' < List.length l - x ∧
  nilOf (List (BitVec 8)) ++ List.drop 0 (List.take (Int.toNat (ofN (minTo (restI l x) x_1))) (restI l x)) ++
  List.drop (Int.toNat (ofN (minTo (restI l x) x_1) + 1)) (List.take (List.length (restI l x)) (restI l x)) =
  restI l x' ∧
  outI l x ++ [List.getD (restI l x) (Int.toNat (ofN (minTo (restI l x) x_1))) (T.dflt (T.arr 32 T.u8))] = outI l x')) ∧
  (decide (0 < ofN (List.length (restI l x))) = false → outI l x = sortV l) := by
 unfold ROOM within inI64 ofN
 refine ⟨by simp; omega, ⟨0, by omega, rfl, rfl⟩, fun x hx => ⟨fun g => ?_, fun g => ?_⟩⟩
 · simp only [decide_eq_true_eq] at g
   have hlen := restI_length l x hx
   have hxl : x < l.length := by omega
   have hol := outI_length l x
   generalize hL : restI l x = L at *
   refine ⟨⟨1, by omega, rfl, by rw [show minTo L 1 = 0 from by show (if _ then 0 else 0) = 0; split <;> rfl]; rfl⟩, fun i hi => ⟨fun h => ?_, fun h => ?_⟩⟩
   · simp only [decide_eq_true_eq] at h
     have hm := minTo_lt L i hi.1
     have e1 : ((i : Int)).toNat = i := by omega
     have e2 : ((minTo L i : Int)).toNat = minTo L i := by omega
     rw [e1, e2]
     refine ⟨by omega, by omega, fun q => ⟨by omega, i + 1, by omega, by omega, by omega, ?_⟩, fun q => ⟨by omega, i + 1, by omega, by omega, by omega, ?_⟩⟩
     · rw [minTo, if_pos q]
     · rw [minTo, if_neg (by rw [q]; decide)]
   · simp only [decide_eq_false_iff_not] at h
     have ei : i = L.length := by omega
     subst ei
     have hm := minTo_lt L L.length hi.1
     have e2 : ((minTo L L.length : Int)).toNat = minTo L L.length := by omega
     have e3 : ((minTo L L.length : Int) + 1).toNat = minTo L L.length + 1 := by omega
     rw [e2, e3, List.take_length, List.drop_zero]
     refine ⟨by omega, by rw [hol, List.length_cons, List.length_nil]; omega, by omega, by simp; omega, by omega, by omega, ?_, x + 1, by omega, by omega, ?_, ?_⟩
     · simp; omega
     · show [] ++ _ ++ _ = restI l (x + 1)
       rw [restI, hL, List.nil_append]; rfl
     · rw [outI_succ, hL]; rfl
 · simp only [decide_eq_false_iff_not] at g
   have hlen := restI_length l x hx
   have : x = l.length := by omega
   subst this
   rfl

def an_ris20 (l : List DigP) : Nat → SState → Option LoopAnn
 | 4, S => some { X := Nat, slots := fun i => [(5, .sv (.dv (.i64 i))), (3, .sv (.own 10 T_Dig (onceI (sortV l) i)))], objs := fun _ => [(x_tok S 3, .gone), (10, .tok t_api_Digest 32)], inv := fun i => i ≤ (sortV l).length, meas := fun i => (sortV l).length - i }
 | _, _ => none

theorem ref20_Rising_vc (l : List DigP) (hl : l.length ≤ 100000000) :
 List.length l ≤ 100000000 ∧
  (∃ (x : Nat), x ≤ List.length (sortV l) ∧ 0 = ofN x ∧ onceI (sortV l) x = nilOf (List (BitVec 8))) ∧
  ∀ (x : Nat),
  x ≤ List.length (sortV l) →
  (decide (ofN x < ofN (List.length (sortV l))) = true →
  ((ofN x == 0) = false → within (ofN x) (List.length (sortV l))) ∧
  ((ofN x == 0) = false → inI64 (ofN x - 1)) ∧
  ((ofN x == 0) = false → within (ofN x - 1) (List.length (sortV l))) ∧
  ((ofN x == 0 || !eqL T.u8 (List.getD (sortV l) (Int.toNat (ofN x)) (T.dflt (T.arr 32 T.u8))) (List.getD (sortV l) (Int.toNat (ofN x - 1)) (T.dflt (T.arr 32 T.u8)))) = true →
  within (ofN x) (List.length (sortV l)) ∧
  List.length (onceI (sortV l) x) + List.length [List.getD (sortV l) (Int.toNat (ofN x)) (T.dflt (T.arr 32 T.u8))] ≤ ROOM ∧
  inI64 (ofN x + 1) ∧
  ∃ (x' : Nat),
  x' ≤ List.length (sortV l) ∧
  List.length (sortV l) - x' < List.length (sortV l) - x ∧
  ofN x + 1 = ofN x' ∧ onceI (sortV l) x ++ [List.getD (sortV l) (Int.toNat (ofN x)) (T.dflt (T.arr 32 T.u8))] = onceI (sortV l) x') ∧
  ((ofN x == 0 || !eqL T.u8 (List.getD (sortV l) (Int.toNat (ofN x)) (T.dflt (T.arr 32 T.u8))) (List.getD (sortV l) (Int.toNat (ofN x - 1)) (T.dflt (T.arr 32 T.u8)))) = false →
  inI64 (ofN x + 1) ∧
  ∃ (x' : Nat), x' ≤ List.length (sortV l) ∧ List.length (sortV l) - x' < List.length (sortV l) - x ∧ ofN x + 1 = ofN x' ∧ onceI (sortV l) x = onceI (sortV l) x')) ∧
  (decide (ofN x < ofN (List.length (sortV l))) = false → onceI (sortV l) x = risV l) := by
 unfold ROOM within inI64 ofN
 have hsl := sort_length l
 refine ⟨hl, ⟨0, by omega, rfl, rfl⟩, fun x hx => ⟨fun g => ?_, fun g => ?_⟩⟩
 · simp only [decide_eq_true_eq] at g
   have hol : (onceI (sortV l) x).length ≤ x := by
    unfold onceI
    rw [List.length_map]
    exact Nat.le_trans (List.length_filter_le _ _) (by simp)
   have e1 : ((x : Int)).toNat = x := by omega
   have e2 : ((x : Int) - 1).toNat = x - 1 := by omega
   have ek : ((x : Int) == 0 || !eqL T.u8 (List.getD (sortV l) ((x : Int)).toNat (T.dflt (T.arr 32 T.u8))) (List.getD (sortV l) ((x : Int) - 1).toNat (T.dflt (T.arr 32 T.u8)))) = keepB (sortV l) x := by
    rw [e1, e2, eqL_u8]
    unfold keepB
    congr 1
    rw [Bool.eq_iff_iff, beq_iff_eq, decide_eq_true_eq]
    omega
   rw [ek, e1]
   refine ⟨fun h => by omega, fun h => by omega, fun h => by have : ¬ (x : Int) = 0 := by simpa using h
                                                             omega, fun h => ⟨by omega, ?_, by omega, x + 1, by omega, by omega, by omega, ?_⟩, fun h => ⟨by omega, x + 1, by omega, by omega, by omega, ?_⟩⟩
   · rw [List.length_cons, List.length_nil]; omega
   · rw [onceI_succ, if_pos h]
   · rw [onceI_succ, if_neg (by rw [h]; decide)]
 · simp only [decide_eq_false_iff_not] at g
   have : x = (sortV l).length := by omega
   subst this
   rfl

def an_same12 (a b : List DigP) : Nat → SState → Option LoopAnn
 | 4, _ => some { X := Nat, slots := fun i => [(5, .sv (.dv (.i64 i)))], objs := fun _ => [], inv := fun i => i ≤ a.length ∧ a.take i = b.take i, meas := fun i => a.length - i }
 | _, _ => none

theorem ref12_Same_vc (a b : List DigP) (hl : a.length ≤ LIM) :
 ((ofN (List.length a) != ofN (List.length b)) = true → false = sameDg a b) ∧
  ((ofN (List.length a) != ofN (List.length b)) = false →
  (∃ (x : Nat), (x ≤ List.length a ∧ List.take x a = List.take x b) ∧ 0 = ofN x) ∧
  ∀ (x : Nat),
  x ≤ List.length a ∧ List.take x a = List.take x b →
  (decide (ofN x < ofN (List.length a)) = true →
  within (ofN x) (List.length a) ∧
  within (ofN x) (List.length b) ∧
  ((!eqL T.u8 (List.getD a (Int.toNat (ofN x)) (T.dflt (T.arr 32 T.u8))) (List.getD b (Int.toNat (ofN x)) (T.dflt (T.arr 32 T.u8)))) = true → false = sameDg a b) ∧
  ((!eqL T.u8 (List.getD a (Int.toNat (ofN x)) (T.dflt (T.arr 32 T.u8))) (List.getD b (Int.toNat (ofN x)) (T.dflt (T.arr 32 T.u8)))) = false →
  inI64 (ofN x + 1) ∧ ∃ (x' : Nat), (x' ≤ List.length a ∧ List.take x' a = List.take x' b) ∧ List.length a - x' < List.length a - x ∧ ofN x + 1 = ofN x')) ∧
  (decide (ofN x < ofN (List.length a)) = false → true = sameDg a b)) := by
 unfold inI64 within ofN sameDg
 unfold LIM at hl
 refine ⟨fun g => ?_, fun g => ?_⟩
 · simp only [bne_iff_ne, ne_eq] at g
   rw [eq_comm, decide_eq_false_iff_not]
   rintro rfl
   exact g rfl
 · have g : a.length = b.length := by have : (a.length : Int) = b.length := by simpa using g
                                      omega
   refine ⟨⟨0, ⟨by omega, rfl⟩, rfl⟩, fun x hx => ⟨fun h => ?_, fun h => ?_⟩⟩
   · simp only [decide_eq_true_eq] at h
     have hlt : x < a.length := by omega
     have e2 : ((x : Int)).toNat = x := by omega
     rw [e2, eqL_u8]
     refine ⟨by omega, by omega, fun h => ?_, fun h => ⟨by omega, x + 1, ⟨by omega, ?_⟩, by omega, by omega⟩⟩
     · rw [eq_comm, decide_eq_false_iff_not]
       rintro rfl
       simp at h
     · have h : a.getD x (T.dflt (T.arr 32 T.u8)) = b.getD x (T.dflt (T.arr 32 T.u8)) := by simpa using h
       rw [take_snoc' (d := T.dflt (T.arr 32 T.u8)) hlt, take_snoc' (d := T.dflt (T.arr 32 T.u8)) (by omega), hx.2, h]
   · simp only [decide_eq_false_iff_not] at h
     have e : x = a.length := by omega
     have h1 := hx.2
     rw [e, List.take_of_length_le (Nat.le_refl _), g, List.take_of_length_le (Nat.le_refl _)] at h1
     rw [eq_comm, decide_eq_true_eq]
     exact h1

theorem ref12_Less_spec : Vse.Spec P f_ref12_Less c_less :=
 spec_fn (l := []) trivial h_ref12_Less rfl rfl fun x _ ok => body_ok (an_less x.1 x.2.1) (ref12_Less_vc x.1 x.2.1 ok.1.1 ok.2.1.1) (by kernel_rfl)

theorem ref12_Rising_spec : Vse.Spec P f_ref12_Rising c_sort12 :=
 spec_fn (l := [(f_ref12_Less, c_less)]) ⟨ref12_Less_spec, trivial⟩ h_ref12_Rising rfl rfl fun x h _ => body_ok (an_sort12 x.1) (ref12_Rising_vc x.1 h) (by kernel_rfl)

theorem ref20_Rising_spec : Vse.Spec P f_ref20_Rising c_ris20 :=
 spec_fn (l := [(f_ref12_Rising, c_sort12)]) ⟨ref12_Rising_spec, trivial⟩ h_ref20_Rising rfl rfl fun x h _ => body_ok (an_ris20 x.1) (ref20_Rising_vc x.1 h) (by kernel_rfl)

theorem ref12_Same_spec : Vse.Spec P f_ref12_Same c_Same12 :=
 spec_fn (l := []) trivial h_ref12_Same rfl rfl fun x _ ok => body_ok (an_same12 x.1 x.2.1) (ref12_Same_vc x.1 x.2.1 ok.1.1) (by kernel_rfl)

end Go.Sal
