/- Contracts of recon: the side that answers, Respond, Meet. -/
import Derived.Test.YtglkhgodeghnlaaWCRcn2
import Derived.Test.YtglkhgodeghnlaaWSalRcn
set_option maxRecDepth 100000
namespace Go.Sal
open Go.Vse Go.Sal.Nm

abbrev T_fsS : List OF := [.dat (.slc T_Dig), .mp T_Pre true T_Item, .row t_api_Item T_Item, .row t_api_Digest T_Dig, .row t_api_Digest T_Dig]
def c_sSum : PC := keepG [1, 3, 4, 5] (gM T_fsS [T_Pre] fun s x => ⟨some (okB s.1 x.1 ∧ sumsOk s.1 s.2.1), .sv (svOfT T_Item (sumV s.1 x.1)), oObj T_fsS 2 (s.1, sumsP s.1 s.2.1 x.1, s.2.2)⟩)
def c_sLists : PC := gM T_fsS [.i64, T_Pre] fun s x => ⟨some (okB s.1 x.2.1 ∧ s.2.2.1.length ≤ 2000000), .tup [], oObj T_fsS 12 (s.1, s.2.1, s.2.2.1 ++ [listI x.1 x.2.1 (belowV s.1 x.2.1)], s.2.2.2)⟩
def c_sTold : PC := gM T_fsS [T_Item] fun s x => ⟨some (okB s.1 (iP x.1) ∧ ascV (iL x.1) = true ∧ (iL x.1).length ≤ 1000000 ∧ s.2.2.2.1.length ≤ 200000000 ∧ s.2.2.2.2.1.length ≤ 200000000), .tup [], oObj T_fsS 12 (s.1, s.2.1, s.2.2.1, s.2.2.2.1 ++ lessV (iL x.1) (belowV s.1 (iP x.1)), s.2.2.2.2.1 ++ lessV (belowV s.1 (iP x.1)) (iL x.1), ())⟩
def c_sTo : PC := gM T_fsS [T_Item] fun s x => ⟨some (okB s.1 (iP x.1) ∧ sumsOk s.1 s.2.1), .sv (.dv (.i64 (toV s.1 x.1))), oObj T_fsS 2 (s.1, sumsP s.1 s.2.1 (iP x.1), s.2.2)⟩
def an_S1 : Ann := { at_ := fun _ _ => none, pins := [1], prune := 1 }
def an_S5 : Ann := { at_ := fun _ _ => none, pins := [1, 2, 3, 4, 5], prune := 1 }
def an_sItemsL (s : Sd) (xs : List Item) : Nat → SState → Option LoopAnn
 | 1, _ => some { X := Nat, slots := fun k => [(10, .sv (.dv (.i64 (ofN k))))], objs := fun k => (0, .gone) :: oObj T_fsS 22 (itemsS s (xs.take k)), inv := fun k => k ≤ xs.length, meas := fun k => xs.length - k }
 | 18, S => some { X := Nat, slots := fun j => [(65, .sv (.dv (.i64 (ofN j))))], objs := fun j => (0, .gone) :: oObj T_fsS 32 (s.1, sumsK s.1 (sumsP s.1 (itemsS s (xs.take (x_int S 10).toNat)).2.1 (iP (xs.getD (x_int S 10).toNat T_Item.dflt))) ((partsV (iP (xs.getD (x_int S 10).toNat T_Item.dflt))).take j), (itemsS s (xs.take (x_int S 10).toNat)).2.2.1 ++ ((partsV (iP (xs.getD (x_int S 10).toNat T_Item.dflt))).take j).map (sumV s.1), (itemsS s (xs.take (x_int S 10).toNat)).2.2.2.1, (itemsS s (xs.take (x_int S 10).toNat)).2.2.2.2.1, ()), inv := fun j => j ≤ (partsV (iP (xs.getD (x_int S 10).toNat T_Item.dflt))).length, meas := fun j => (partsV (iP (xs.getD (x_int S 10).toNat T_Item.dflt))).length - j }
 | _, _ => none
def an_sItems (s : Sd) (xs : List Item) : Ann := { at_ := an_sItemsL s xs, pins := [1], prune := 1 }

def x_zS : List SC := [.run (.one (.nils T_Item)), .run (.one (.nils T_Dig)), .run (.one (.nils T_Dig))]
abbrev T_fsZ : List OF := [.dat (.slc T_Dig), .mp T_Pre true T_Item]
def newS (l : List DigP) (es : List (Pre × Item)) : Sd := (l, es, [], [], [], ())
def c_sItemsZ : PC := gMz T_fsZ x_zS [.slc T_Item] fun s x => ⟨some (okSd (newS s.1 s.2.1) x.1), .tup [], oObj T_fsS 12 (itemsS (newS s.1 s.2.1) x.1)⟩
def c_Respond : PC := D [.slc T_Dig, .slc T_Item] [.slc T_Item, .slc T_Dig, .slc T_Dig, .i64] (fun x => some (okR x.1 x.2.1)) (fun x => ((respV x.1 x.2.1).1, (respV x.1 x.2.1).2.1, (respV x.1 x.2.1).2.2.1, (respV x.1 x.2.1).2.2.2, ()))
def an_RespondL (l : List DigP) (xs : List Item) : Nat → SState → Option LoopAnn
 | 5, _ => some { X := Nat, slots := fun k => [(21, .sv (.dv (.i64 (ofN k))))], objs := fun _ => [], inv := fun k => k ≤ xs.length ∧ (xs.take k).all goodB = true, meas := fun k => xs.length - k }
 | _, _ => none
def an_Respond (l : List DigP) (xs : List Item) : Ann := { at_ := an_RespondL l xs, pins := [1], prune := 1 }
def c_Meet : PC := D [.slc T_Dig, .slc T_Dig] [.slc T_Dig, .slc T_Dig, .i64, .i64] (fun x => some (okMt x.1 x.2.1)) (fun x => ((meetV x.1 x.2.1).1, (meetV x.1 x.2.1).2.1, (meetV x.1 x.2.1).2.2.1, (meetV x.1 x.2.1).2.2.2, ()))
def an_MeetL (a b : List DigP) : Nat → SState → Option LoopAnn
 | 7, S => some { X := Nat, slots := fun k => [(12, .sv (.dv (.i64 (ofN k)))), (8, .sv (.dv (.imm T_Item (stepsM a b k).way)))], objs := fun k => [(x_labAt S 11, .cells [.own 11 T_Dig (stepsM a b k).la, .own 12 T_Dig (stepsM a b k).lb] false), (11, .tok t_api_Digest 32), (12, .tok t_api_Digest 32)], inv := fun k => k ≤ 140 ∧ ∀ j, j < k → (stepsM a b j).way ≠ [], meas := fun k => 200 - k }
 | _, _ => none
def an_Meet (a b : List DigP) : Ann := { at_ := an_MeetL a b, pins := [1], prune := 1, rows := [hAlloc + 1023, hSplit + 1030, hLit + 1048, hLit + 1052, hLit + 1032, hLit + 1036] }

theorem check_two (l : List DigP) : checkS l = 0 ∨ checkS l = 281 := by
 unfold checkS
 cases (decide (65536 < l.length) || !ascV l)
 · exact .inl rfl
 · exact .inr rfl
theorem good_two (x : Item) : goodV x = (bif goodB x then 0 else 280) := rfl
theorem all_snoc {xs : List Item} {k : Nat} (h : k < xs.length) (ha : (xs.take k).all goodB = true) (hg : goodB (xs.getD k T_Item.dflt) = true) : (xs.take (k + 1)).all goodB = true := by
 rw [take_snocI h, List.all_append, ha, List.all_cons, List.all_nil, hg]; rfl
theorem okSd_new {l : List DigP} {xs : List Item} (h : okR l xs) (hc : checkS l = 0) (ha : xs.all goodB = true) : okSd (newS l []) xs := by
 obtain ⟨h1, h2, h3⟩ := h
 have hc' := checkS_zero.1 hc
 rw [List.all_eq_true] at ha
 refine ⟨hc'.2, h1 hc, fun q hq => (by cases hq), h2, fun x hx => ?_, Nat.zero_le _, Nat.zero_le _, Nat.zero_le _⟩
 have hg := ha x hx
 refine ⟨hg, ?_⟩
 by_cases hcl : checkS (iL x) = 0
 · exact h3 x hx hcl
 · have hk := good_kinds hg
   unfold goodB at hg
   rw [Bool.and_eq_true] at hg
   have hg := hg.2
   rcases hk with h | h | h
   · rw [h] at hg
     have e : ((1 : Int) == 1) = true := rfl
     rw [e, cond_true, Bool.and_eq_true, decide_eq_true_eq] at hg
     omega
   · rw [h] at hg
     have e : ((2 : Int) == 1) = false := rfl
     have e2 : ((2 : Int) == 2) = true := rfl
     rw [e, cond_false, e2, cond_true, Bool.and_eq_true, decide_eq_true_eq] at hg
     omega
   · exact absurd h.2 hcl
theorem resp_ok {l : List DigP} {xs : List Item} (hc : checkS l = 0) (ha : xs.all goodB = true) : respV l xs = (xs.flatMap (outV l), risV (xs.flatMap (lackV l)), risV (xs.flatMap (otherV l)), 0) := by
 unfold respV
 rw [hc, ha]; rfl

theorem begin_two (a : List DigP) : beginW a = bif checkS a == 0 then ([sumV a ((0 : Int), zeroD)], 0) else ([], checkS a) := rfl
theorem meet_no {a b : List DigP} (h : ¬ checkS a = 0 ∨ ¬ checkS b = 0) : meetV a b = ([], [], 0, 281) := by
 unfold meetV
 rcases check_two a with ha | ha
 · rcases check_two b with hb | hb
   · rcases h with h | h
     · exact absurd ha h
     · exact absurd hb h
   · rw [ha, hb]; rfl
 · rw [ha]; rfl
theorem w02 : within 0 2 := ⟨by decide, by decide⟩
theorem w12 : within 1 2 := ⟨by decide, by decide⟩
theorem mod_n (x : Nat) : Int.tmod (ofN x + 1) 2 = (((x + 1) % 2 : Nat) : Int) := by
 show Int.tmod ((x : Int) + 1) 2 = _
 rw [Int.tmod_eq_emod_of_nonneg (by omega)]
 omega

theorem side_sum_vc (l : List DigP) (es : List (Pre × Item)) (out : List Item) (la lo : List DigP) (p : Pre) (h : okB l p) (hs : sumsOk l es) :
 ((!Option.isSome (mget (T.pair T.i64 (T.arr 32 T.u8)) es p)) = true →
  okB l p ∧
  ((sumV l p).1 = (sumV l p).1 ∧
  (sumV l p).2.1 = (sumV l p).2.1 ∧
  (sumV l p).2.2.1 = (sumV l p).2.2.1 ∧ (sumV l p).2.2.2.1 = (sumV l p).2.2.2.1 ∧ (sumV l p).2.2.2.2.1 = (sumV l p).2.2.2.2.1 ∧ (sumV l p).2.2.2.2.2 = (sumV l p).2.2.2.2.2) ∧
  l = l ∧ List.Perm (mput (T.pair T.i64 (T.arr 32 T.u8)) es p (sumV l p)) (sumsP l es p) ∧ out = out ∧ la = la ∧ lo = lo) ∧
  ((!Option.isSome (mget (T.pair T.i64 (T.arr 32 T.u8)) es p)) = false →
  ((Option.getD (mget (T.pair T.i64 (T.arr 32 T.u8)) es p) (T.dflt T_Item)).1 =
  (sumV l p).1 ∧
  (Option.getD (mget (T.pair T.i64 (T.arr 32 T.u8)) es p) (T.dflt T_Item)).2.1 =
  (sumV l p).2.1 ∧
  (Option.getD (mget (T.pair T.i64 (T.arr 32 T.u8)) es p)
  (T.dflt T_Item)).2.2.1 =
  (sumV l p).2.2.1 ∧
  (Option.getD (mget (T.pair T.i64 (T.arr 32 T.u8)) es p)
  (T.dflt T_Item)).2.2.2.1 =
  (sumV l p).2.2.2.1 ∧
  (Option.getD (mget (T.pair T.i64 (T.arr 32 T.u8)) es p)
  (T.dflt T_Item)).2.2.2.2.1 =
  (sumV l p).2.2.2.2.1 ∧
  (Option.getD (mget (T.pair T.i64 (T.arr 32 T.u8)) es p)
  (T.dflt T_Item)).2.2.2.2.2 =
  (sumV l p).2.2.2.2.2) ∧
  l = l ∧ List.Perm es (sumsP l es p) ∧ out = out ∧ la = la ∧ lo = lo) := by
 have e1 : sumsP l es p = bif (mget T_Pre es p).isSome then es else mput T_Pre es p (sumV l p) := rfl
 refine ⟨fun q => ⟨h, ⟨rfl, rfl, rfl, rfl, rfl, rfl⟩, rfl, ?_, rfl, rfl, rfl⟩, fun q => ?_⟩
 · have q : (mget T_Pre es p).isSome = false := by simpa using q
   rw [e1, q]
   exact List.Perm.refl _
 · have q : (mget T_Pre es p).isSome = true := by simpa using q
   obtain ⟨v, hv⟩ := Option.isSome_iff_exists.1 q
   have e2 := sums_get hs hv
   have hv : mget (T.pair T.i64 (T.arr 32 T.u8)) es p = some v := hv
   rw [e1, q, hv]
   subst e2
   exact ⟨⟨rfl, rfl, rfl, rfl, rfl, rfl⟩, rfl, List.Perm.refl _, rfl, rfl, rfl⟩

theorem side_lists_vc (l : List DigP) (es : List (Pre × Item)) (out : List Item) (la lo : List DigP) (k : Int) (p : Pre) (h : okB l p) (hs : out.length ≤ 2000000) :
 (ascV l = true ∧ rightB p = true ∧ List.length l ≤ 1000000) ∧
  List.length (belowV l p) ≤ 100000000 ∧
  List.length out + List.length [(k, p.1, p.2, ofN 0, List.replicate 32 0#8, belowV l p)] ≤ ROOM ∧
  l = l ∧ List.Perm es es ∧ out ++ [(k, p.1, p.2, ofN 0, List.replicate 32 0#8, belowV l p)] = out ++ [listI k p (belowV l p)] ∧ la = la ∧ lo = lo := by
 obtain ⟨a1, a2, a3⟩ := h
 have := belowV_le l p
 refine ⟨⟨a1, a2, a3⟩, by omega, ?_, rfl, List.Perm.refl _, rfl, rfl, rfl⟩
 show out.length + 1 ≤ ROOM
 unfold ROOM; omega

theorem side_told_vc (l : List DigP) (es : List (Pre × Item)) (out : List Item) (la lo : List DigP) (x : Item) (h : okB l (iP x)) (hs : ascV (iL x) = true) (h1 : (iL x).length ≤ 1000000) (h2 : la.length ≤ 200000000) (h3 : lo.length ≤ 200000000) :
 (ascV l = true ∧ rightB (x.2.1, x.2.2.1) = true ∧ List.length l ≤ 1000000) ∧
  (ascV (belowV l (x.2.1, x.2.2.1)) = true ∧ List.length (belowV l (x.2.1, x.2.2.1)) ≤ 1000000 ∧ List.length x.2.2.2.2.2 ≤ 1000000) ∧
  List.length la + List.length (lessV x.2.2.2.2.2 (belowV l (x.2.1, x.2.2.1))) ≤ ROOM ∧
  (ascV x.2.2.2.2.2 = true ∧ List.length x.2.2.2.2.2 ≤ 1000000 ∧ List.length (belowV l (x.2.1, x.2.2.1)) ≤ 1000000) ∧
  List.length lo + List.length (lessV (belowV l (x.2.1, x.2.2.1)) x.2.2.2.2.2) ≤ ROOM ∧
  l = l ∧
  List.Perm es es ∧
  out = out ∧
  la ++ lessV x.2.2.2.2.2 (belowV l (x.2.1, x.2.2.1)) = la ++ lessV (iL x) (belowV l (iP x)) ∧ lo ++ lessV (belowV l (x.2.1, x.2.2.1)) x.2.2.2.2.2 = lo ++ lessV (belowV l (iP x)) (iL x) := by
 obtain ⟨a1, a2, a3⟩ := h
 have b1 := belowV_le l (iP x)
 have b2 := lessV_le (iL x) (belowV l (iP x))
 have b3 := lessV_le (belowV l (iP x)) (iL x)
 have b4 := below_asc (iP x) a1
 refine ⟨⟨a1, a2, a3⟩, ⟨b4, by show (belowV l (iP x)).length ≤ _; omega, h1⟩, ?_, ⟨hs, h1, by show (belowV l (iP x)).length ≤ _; omega⟩, ?_, rfl, List.Perm.refl _, rfl, rfl, rfl⟩
 · show la.length + (lessV (iL x) (belowV l (iP x))).length ≤ ROOM
   unfold ROOM; omega
 · show lo.length + (lessV (belowV l (iP x)) (iL x)).length ≤ ROOM
   unfold ROOM; omega

theorem side_to_vc (l : List DigP) (es : List (Pre × Item)) (out : List Item) (la lo : List DigP) (x : Item) (h : okB l (iP x)) (hs : sumsOk l es) :
 ((okB l (x.2.1, x.2.2.1) ∧ sumsOk l es) ∧
  SObj.cells [SC.run (Run.one (DV.imm (T.arr 32 T.u8) l)), SC.ref (Ref.map 2), SC.ref (Ref.row 3), SC.ref (Ref.row 4), SC.ref (Ref.row 5)] false =
  SObj.cells
  [SC.run (Run.one (DV.imm (T.arr 32 T.u8) l)),
  SC.ref
  (Ref.map
  (match 1 with
  | 0 => 0
  | n => n + 1)),
  SC.ref
  (Ref.row
  (match
  match 1 with
  | 0 => 0
  | n => n + 1 with
  | 0 => 0
  | n => n + 1)),
  SC.ref
  (Ref.row
  (match
  match
  match 1 with
  | 0 => 0
  | n => n + 1 with
  | 0 => 0
  | n => n + 1 with
  | 0 => 0
  | n => n + 1)),
  SC.ref
  (Ref.row
  (match
  match
  match
  match 1 with
  | 0 => 0
  | n => n + 1 with
  | 0 => 0
  | n => n + 1 with
  | 0 => 0
  | n => n + 1 with
  | 0 => 0
  | n => n + 1))]
  false ∧
  SObj.row 49 68 T_Item out false =
  SObj.row 49 68 T_Item out false ∧
  SObj.row 42 32 (T.arr 32 T.u8) la false = SObj.row 42 32 (T.arr 32 T.u8) la false ∧ SObj.row 42 32 (T.arr 32 T.u8) lo false = SObj.row 42 32 (T.arr 32 T.u8) lo false) ∧
  (((sumV l (x.2.1, x.2.2.1)).2.2.2.1 == x.2.2.2.1 && eqL T.u8 (sumV l (x.2.1, x.2.2.1)).2.2.2.2.1 x.2.2.2.2.1) = true →
  0 = toV l x ∧ l = l ∧ List.Perm (sumsP l es (x.2.1, x.2.2.1)) (sumsP l es (iP x)) ∧ out = out ∧ la = la ∧ lo = lo) ∧
  (((sumV l (x.2.1, x.2.2.1)).2.2.2.1 == x.2.2.2.1 && eqL T.u8 (sumV l (x.2.1, x.2.2.1)).2.2.2.2.1 x.2.2.2.2.1) = false →
  ((decide ((sumV l (x.2.1, x.2.2.1)).2.2.2.1 ≤ 8) || x.2.1 == 256) = true → 1 = toV l x ∧ l = l ∧ List.Perm (sumsP l es (x.2.1, x.2.2.1)) (sumsP l es (iP x)) ∧ out = out ∧ la = la ∧ lo = lo) ∧
  ((decide ((sumV l (x.2.1, x.2.2.1)).2.2.2.1 ≤ 8) || x.2.1 == 256) = false →
  (decide (x.2.2.2.1 ≤ 8) = true → 2 = toV l x ∧ l = l ∧ List.Perm (sumsP l es (x.2.1, x.2.2.1)) (sumsP l es (iP x)) ∧ out = out ∧ la = la ∧ lo = lo) ∧
  (decide (x.2.2.2.1 ≤ 8) = false → 3 = toV l x ∧ l = l ∧ List.Perm (sumsP l es (x.2.1, x.2.2.1)) (sumsP l es (iP x)) ∧ out = out ∧ la = la ∧ lo = lo))) := by
 have e1 : toV l x = bif iN (sumV l (iP x)) == iN x && decide (iH (sumV l (iP x)) = iH x) then 0 else bif decide (iN (sumV l (iP x)) ≤ 8) || x.2.1 == 256 then 1 else bif decide (iN x ≤ 8) then 2 else 3 := rfl
 have e2 : ((sumV l (x.2.1, x.2.2.1)).2.2.2.1 == x.2.2.2.1 && eqL T.u8 (sumV l (x.2.1, x.2.2.1)).2.2.2.2.1 x.2.2.2.2.1) = (iN (sumV l (iP x)) == iN x && decide (iH (sumV l (iP x)) = iH x)) := by
  rw [eqL_u8]
  congr 1
  exact beq_dec _ _
 rw [e2]
 refine ⟨⟨⟨h, hs⟩, rfl, rfl, rfl, rfl⟩, fun q => ⟨?_, rfl, List.Perm.refl _, rfl, rfl, rfl⟩, fun q => ⟨fun q2 => ⟨?_, rfl, List.Perm.refl _, rfl, rfl, rfl⟩, fun q2 => ⟨fun q3 => ⟨?_, rfl, List.Perm.refl _, rfl, rfl, rfl⟩, fun q3 => ⟨?_, rfl, List.Perm.refl _, rfl, rfl, rfl⟩⟩⟩⟩
 · rw [e1, q]; rfl
 · have q2 : (decide (iN (sumV l (iP x)) ≤ 8) || x.2.1 == 256) = true := q2
   rw [e1, q, q2]; rfl
 · have q2 : (decide (iN (sumV l (iP x)) ≤ 8) || x.2.1 == 256) = false := q2
   have q3 : decide (iN x ≤ 8) = true := q3
   rw [e1, q, q2, q3]; rfl
 · have q2 : (decide (iN (sumV l (iP x)) ≤ 8) || x.2.1 == 256) = false := q2
   have q3 : decide (iN x ≤ 8) = false := q3
   rw [e1, q, q2, q3]; rfl

theorem side_itemsZ_vc (l : List DigP) (es : List (Pre × Item)) (xs : List Item) (h : okSd (newS l es) xs) (h32 : ∀ x ∈ xs, (iP x).2.length = 32) :
 (∃ (x : Nat),
  x ≤ List.length xs ∧
  0 = ofN x ∧
  l = (itemsS (newS l es) (List.take x xs)).1 ∧
  List.Perm es (itemsS (newS l es) (List.take x xs)).2.1 ∧
  (itemsS (newS l es) (List.take x xs)).2.2.1 = nilOf (Int × Int × List (BitVec 8) × Int × List (BitVec 8) × List (List (BitVec 8))) ∧
  (itemsS (newS l es) (List.take x xs)).2.2.2.1 = nilOf (List (BitVec 8)) ∧ (itemsS (newS l es) (List.take x xs)).2.2.2.2.1 = nilOf (List (BitVec 8))) ∧
  ∀ (x : Nat),
  x ≤ List.length xs →
  (decide (ofN x < ofN (List.length xs)) = true →
  within (ofN x) (List.length xs) ∧
  (((List.getD xs (Int.toNat (ofN x)) (T.dflt T_Item)).1 == 2) = true →
  (okB (itemsS (newS l es) (List.take x xs)).1
  ((List.getD xs (Int.toNat (ofN x)) (T.dflt T_Item)).2.1,
  (List.getD xs (Int.toNat (ofN x)) (T.dflt T_Item)).2.2.1) ∧
  List.length (itemsS (newS l es) (List.take x xs)).2.2.1 ≤ 2000000) ∧
  inI64 (ofN x + 1) ∧
  ∃ (x' : Nat),
  x' ≤ List.length xs ∧
  List.length xs - x' < List.length xs - x ∧
  ofN x + 1 = ofN x' ∧
  (itemsS (newS l es) (List.take x xs)).1 = (itemsS (newS l es) (List.take x' xs)).1 ∧
  List.Perm (itemsS (newS l es) (List.take x xs)).2.1 (itemsS (newS l es) (List.take x' xs)).2.1 ∧
  (itemsS (newS l es) (List.take x xs)).2.2.1 ++
  [listI 3
  ((List.getD xs (Int.toNat (ofN x))
  (T.dflt T_Item)).2.1,
  (List.getD xs (Int.toNat (ofN x))
  (T.dflt T_Item)).2.2.1)
  (belowV (itemsS (newS l es) (List.take x xs)).1
  ((List.getD xs (Int.toNat (ofN x))
  (T.dflt T_Item)).2.1,
  (List.getD xs (Int.toNat (ofN x))
  (T.dflt T_Item)).2.2.1))] =
  (itemsS (newS l es) (List.take x' xs)).2.2.1 ∧
  (itemsS (newS l es) (List.take x xs)).2.2.2.1 = (itemsS (newS l es) (List.take x' xs)).2.2.2.1 ∧
  (itemsS (newS l es) (List.take x xs)).2.2.2.2.1 = (itemsS (newS l es) (List.take x' xs)).2.2.2.2.1) ∧
  (((List.getD xs (Int.toNat (ofN x)) (T.dflt T_Item)).1 == 2) = false →
  (((List.getD xs (Int.toNat (ofN x)) (T.dflt T_Item)).1 == 3) = true →
  (okB (itemsS (newS l es) (List.take x xs)).1
  ((List.getD xs (Int.toNat (ofN x)) (T.dflt T_Item)).2.1,
  (List.getD xs (Int.toNat (ofN x)) (T.dflt T_Item)).2.2.1) ∧
  List.length (itemsS (newS l es) (List.take x xs)).2.2.1 ≤ 2000000) ∧
  (okB (itemsS (newS l es) (List.take x xs)).1
  (iP (List.getD xs (Int.toNat (ofN x)) (T.dflt T_Item))) ∧
  ascV (iL (List.getD xs (Int.toNat (ofN x)) (T.dflt T_Item))) =
  true ∧
  List.length
  (iL
  (List.getD xs (Int.toNat (ofN x))
  (T.dflt T_Item))) ≤
  1000000 ∧
  List.length (itemsS (newS l es) (List.take x xs)).2.2.2.1 ≤ 200000000 ∧ List.length (itemsS (newS l es) (List.take x xs)).2.2.2.2.1 ≤ 200000000) ∧
  inI64 (ofN x + 1) ∧
  ∃ (x' : Nat),
  x' ≤ List.length xs ∧
  List.length xs - x' < List.length xs - x ∧
  ofN x + 1 = ofN x' ∧
  (itemsS (newS l es) (List.take x xs)).1 = (itemsS (newS l es) (List.take x' xs)).1 ∧
  List.Perm (itemsS (newS l es) (List.take x xs)).2.1 (itemsS (newS l es) (List.take x' xs)).2.1 ∧
  (itemsS (newS l es) (List.take x xs)).2.2.1 ++
  [listI 4
  ((List.getD xs (Int.toNat (ofN x))
  (T.dflt T_Item)).2.1,
  (List.getD xs (Int.toNat (ofN x))
  (T.dflt T_Item)).2.2.1)
  (belowV (itemsS (newS l es) (List.take x xs)).1
  ((List.getD xs (Int.toNat (ofN x))
  (T.dflt T_Item)).2.1,
  (List.getD xs (Int.toNat (ofN x))
  (T.dflt T_Item)).2.2.1))] =
  (itemsS (newS l es) (List.take x' xs)).2.2.1 ∧
  (itemsS (newS l es) (List.take x xs)).2.2.2.1 ++
  lessV
  (iL
  (List.getD xs (Int.toNat (ofN x))
  (T.dflt T_Item)))
  (belowV (itemsS (newS l es) (List.take x xs)).1
  (iP
  (List.getD xs (Int.toNat (ofN x))
  (T.dflt T_Item)))) =
  (itemsS (newS l es) (List.take x' xs)).2.2.2.1 ∧
  (itemsS (newS l es) (List.take x xs)).2.2.2.2.1 ++
  lessV
  (belowV (itemsS (newS l es) (List.take x xs)).1
  (iP
  (List.getD xs (Int.toNat (ofN x))
  (T.dflt T_Item))))
  (iL
  (List.getD xs (Int.toNat (ofN x))
  (T.dflt T_Item))) =
  (itemsS (newS l es) (List.take x' xs)).2.2.2.2.1) ∧
  (((List.getD xs (Int.toNat (ofN x)) (T.dflt T_Item)).1 == 3) = false →
  (((List.getD xs (Int.toNat (ofN x)) (T.dflt T_Item)).1 == 4) =
  true →
  (okB (itemsS (newS l es) (List.take x xs)).1
  (iP (List.getD xs (Int.toNat (ofN x)) (T.dflt T_Item))) ∧
  ascV
  (iL
  (List.getD xs (Int.toNat (ofN x))
  (T.dflt T_Item))) =
  true ∧
  List.length
  (iL
  (List.getD xs (Int.toNat (ofN x))
  (T.dflt T_Item))) ≤
  1000000 ∧
  List.length (itemsS (newS l es) (List.take x xs)).2.2.2.1 ≤ 200000000 ∧ List.length (itemsS (newS l es) (List.take x xs)).2.2.2.2.1 ≤ 200000000) ∧
  inI64 (ofN x + 1) ∧
  ∃ (x' : Nat),
  x' ≤ List.length xs ∧
  List.length xs - x' < List.length xs - x ∧
  ofN x + 1 = ofN x' ∧
  (itemsS (newS l es) (List.take x xs)).1 = (itemsS (newS l es) (List.take x' xs)).1 ∧
  List.Perm (itemsS (newS l es) (List.take x xs)).2.1 (itemsS (newS l es) (List.take x' xs)).2.1 ∧
  (itemsS (newS l es) (List.take x xs)).2.2.1 = (itemsS (newS l es) (List.take x' xs)).2.2.1 ∧
  (itemsS (newS l es) (List.take x xs)).2.2.2.1 ++
  lessV
  (iL
  (List.getD xs (Int.toNat (ofN x))
  (T.dflt T_Item)))
  (belowV (itemsS (newS l es) (List.take x xs)).1
  (iP
  (List.getD xs (Int.toNat (ofN x))
  (T.dflt T_Item)))) =
  (itemsS (newS l es) (List.take x' xs)).2.2.2.1 ∧
  (itemsS (newS l es) (List.take x xs)).2.2.2.2.1 ++
  lessV
  (belowV (itemsS (newS l es) (List.take x xs)).1
  (iP
  (List.getD xs (Int.toNat (ofN x))
  (T.dflt T_Item))))
  (iL
  (List.getD xs (Int.toNat (ofN x))
  (T.dflt T_Item))) =
  (itemsS (newS l es) (List.take x' xs)).2.2.2.2.1) ∧
  (((List.getD xs (Int.toNat (ofN x)) (T.dflt T_Item)).1 == 4) =
  false →
  (okB (itemsS (newS l es) (List.take x xs)).1
  (iP (List.getD xs (Int.toNat (ofN x)) (T.dflt T_Item))) ∧
  sumsOk (itemsS (newS l es) (List.take x xs)).1 (itemsS (newS l es) (List.take x xs)).2.1) ∧
  ((toV (itemsS (newS l es) (List.take x xs)).1
  (List.getD xs (Int.toNat (ofN x))
  (T.dflt T_Item)) ==
  1) =
  true →
  (okB (itemsS (newS l es) (List.take x xs)).1
  ((List.getD xs (Int.toNat (ofN x))
  (T.dflt T_Item)).2.1,
  (List.getD xs (Int.toNat (ofN x))
  (T.dflt T_Item)).2.2.1) ∧
  List.length (itemsS (newS l es) (List.take x xs)).2.2.1 ≤ 2000000) ∧
  inI64 (ofN x + 1) ∧
  ∃ (x' : Nat),
  x' ≤ List.length xs ∧
  List.length xs - x' < List.length xs - x ∧
  ofN x + 1 = ofN x' ∧
  (itemsS (newS l es) (List.take x xs)).1 = (itemsS (newS l es) (List.take x' xs)).1 ∧
  List.Perm
  (sumsP (itemsS (newS l es) (List.take x xs)).1 (itemsS (newS l es) (List.take x xs)).2.1
  (iP
  (List.getD xs (Int.toNat (ofN x))
  (T.dflt T_Item))))
  (itemsS (newS l es) (List.take x' xs)).2.1 ∧
  (itemsS (newS l es) (List.take x xs)).2.2.1 ++
  [listI 3
  ((List.getD xs (Int.toNat (ofN x))
  (T.dflt T_Item)).2.1,
  (List.getD xs (Int.toNat (ofN x))
  (T.dflt
  T_Item)).2.2.1)
  (belowV (itemsS (newS l es) (List.take x xs)).1
  ((List.getD xs (Int.toNat (ofN x))
  (T.dflt T_Item)).2.1,
  (List.getD xs (Int.toNat (ofN x))
  (T.dflt
  T_Item)).2.2.1))] =
  (itemsS (newS l es) (List.take x' xs)).2.2.1 ∧
  (itemsS (newS l es) (List.take x xs)).2.2.2.1 = (itemsS (newS l es) (List.take x' xs)).2.2.2.1 ∧
  (itemsS (newS l es) (List.take x xs)).2.2.2.2.1 = (itemsS (newS l es) (List.take x' xs)).2.2.2.2.1) ∧
  ((toV (itemsS (newS l es) (List.take x xs)).1
  (List.getD xs (Int.toNat (ofN x))
  (T.dflt T_Item)) ==
  1) =
  false →
  ((toV (itemsS (newS l es) (List.take x xs)).1
  (List.getD xs (Int.toNat (ofN x))
  (T.dflt T_Item)) ==
  2) =
  true →
  List.length (itemsS (newS l es) (List.take x xs)).2.2.1 +
  List.length
  [(2,
  (List.getD xs (Int.toNat (ofN x))
  (T.dflt T_Item)).2.1,
  (List.getD xs (Int.toNat (ofN x))
  (T.dflt T_Item)).2.2.1,
  ofN 0, List.replicate 32 0#8, nilOf (List (BitVec 8)))] ≤
  ROOM ∧
  inI64 (ofN x + 1) ∧
  ∃ (x' : Nat),
  x' ≤ List.length xs ∧
  List.length xs - x' < List.length xs - x ∧
  ofN x + 1 = ofN x' ∧
  (itemsS (newS l es) (List.take x xs)).1 = (itemsS (newS l es) (List.take x' xs)).1 ∧
  List.Perm
  (sumsP (itemsS (newS l es) (List.take x xs)).1 (itemsS (newS l es) (List.take x xs)).2.1
  (iP
  (List.getD xs (Int.toNat (ofN x))
  (T.dflt T_Item))))
  (itemsS (newS l es) (List.take x' xs)).2.1 ∧
  (itemsS (newS l es) (List.take x xs)).2.2.1 ++
  [(2,
  (List.getD xs (Int.toNat (ofN x))
  (T.dflt T_Item)).2.1,
  (List.getD xs (Int.toNat (ofN x))
  (T.dflt
  T_Item)).2.2.1,
  ofN 0, List.replicate 32 0#8, nilOf (List (BitVec 8)))] =
  (itemsS (newS l es) (List.take x' xs)).2.2.1 ∧
  (itemsS (newS l es) (List.take x xs)).2.2.2.1 = (itemsS (newS l es) (List.take x' xs)).2.2.2.1 ∧
  (itemsS (newS l es) (List.take x xs)).2.2.2.2.1 = (itemsS (newS l es) (List.take x' xs)).2.2.2.2.1) ∧
  ((toV (itemsS (newS l es) (List.take x xs)).1
  (List.getD xs (Int.toNat (ofN x))
  (T.dflt T_Item)) ==
  2) =
  false →
  ((toV (itemsS (newS l es) (List.take x xs)).1
  (List.getD xs (Int.toNat (ofN x))
  (T.dflt T_Item)) ==
  3) =
  true →
  rightB
  ((List.getD xs (Int.toNat (ofN x))
  (T.dflt T_Item)).2.1,
  (List.getD xs (Int.toNat (ofN x))
  (T.dflt T_Item)).2.2.1) =
  true ∧
  (∃ (x_1 : Nat),
  x_1 ≤
  List.length
  (partsV
  (iP
  (List.getD xs (Int.toNat (ofN x))
  (T.dflt T_Item)))) ∧
  0 = ofN x_1 ∧
  (itemsS (newS l es) (List.take x xs)).1 = (newS l es).1 ∧
  List.Perm
  (sumsP (itemsS (newS l es) (List.take x xs)).1 (itemsS (newS l es) (List.take x xs)).2.1
  (iP
  (List.getD xs (Int.toNat (ofN x))
  (T.dflt T_Item))))
  (sumsK (newS l es).1
  (sumsP (newS l es).1 (itemsS (newS l es) (List.take (Int.toNat (ofN x)) xs)).2.1
  (iP
  (List.getD xs (Int.toNat (ofN x))
  (T.dflt T_Item))))
  (List.take x_1
  (partsV
  (iP
  (List.getD xs (Int.toNat (ofN x))
  (T.dflt T_Item)))))) ∧
  (itemsS (newS l es) (List.take x xs)).2.2.1 =
  (itemsS (newS l es) (List.take (Int.toNat (ofN x)) xs)).2.2.1 ++
  List.map (sumV (newS l es).1)
  (List.take x_1
  (partsV
  (iP
  (List.getD xs (Int.toNat (ofN x))
  (T.dflt
  T_Item))))) ∧
  (itemsS (newS l es) (List.take x xs)).2.2.2.1 = (itemsS (newS l es) (List.take (Int.toNat (ofN x)) xs)).2.2.2.1 ∧
  (itemsS (newS l es) (List.take x xs)).2.2.2.2.1 = (itemsS (newS l es) (List.take (Int.toNat (ofN x)) xs)).2.2.2.2.1) ∧
  ∀ (x_1 : Nat),
  x_1 ≤
  List.length
  (partsV
  (iP
  (List.getD xs (Int.toNat (ofN x))
  (T.dflt T_Item)))) →
  (decide
  (ofN x_1 <
  ofN
  (List.length
  (partsV
  ((List.getD xs (Int.toNat (ofN x))
  (T.dflt
  T_Item)).2.1,
  (List.getD xs (Int.toNat (ofN x))
  (T.dflt
  T_Item)).2.2.1)))) =
  true →
  within (ofN x_1)
  (List.length
  (partsV
  ((List.getD xs (Int.toNat (ofN x))
  (T.dflt T_Item)).2.1,
  (List.getD xs (Int.toNat (ofN x))
  (T.dflt
  T_Item)).2.2.1))) ∧
  ((okB (newS l es).1
  (List.getD
  (partsV
  ((List.getD xs (Int.toNat (ofN x))
  (T.dflt
  T_Item)).2.1,
  (List.getD xs (Int.toNat (ofN x))
  (T.dflt
  T_Item)).2.2.1))
  (Int.toNat (ofN x_1)) (T.dflt (T.pair T.i64 (T.arr 32 T.u8)))) ∧
  sumsOk (newS l es).1
  (sumsK (newS l es).1
  (sumsP (newS l es).1 (itemsS (newS l es) (List.take (Int.toNat (ofN x)) xs)).2.1
  (iP
  (List.getD xs (Int.toNat (ofN x))
  (T.dflt T_Item))))
  (List.take x_1
  (partsV
  (iP
  (List.getD xs (Int.toNat (ofN x))
  (T.dflt
  T_Item))))))) ∧
  SObj.cells
  [SC.run (Run.one (DV.imm (T.arr 32 T.u8) (newS l es).1)), SC.ref (Ref.map 2), SC.ref (Ref.row 3), SC.ref (Ref.row 4), SC.ref (Ref.row 5)]
  false =
  SObj.cells
  [SC.run (Run.one (DV.imm (T.arr 32 T.u8) (newS l es).1)),
  SC.ref
  (Ref.map
  (match 1 with
  | 0 => 0
  | n => n + 1)),
  SC.ref
  (Ref.row
  (match
  match 1 with
  | 0 => 0
  | n => n + 1 with
  | 0 => 0
  | n => n + 1)),
  SC.ref
  (Ref.row
  (match
  match
  match 1 with
  | 0 => 0
  | n => n + 1 with
  | 0 => 0
  | n => n + 1 with
  | 0 => 0
  | n => n + 1)),
  SC.ref
  (Ref.row
  (match
  match
  match
  match 1 with
  | 0 => 0
  | n => n + 1 with
  | 0 => 0
  | n => n + 1 with
  | 0 => 0
  | n => n + 1 with
  | 0 => 0
  | n => n + 1))]
  false ∧
  SObj.row 49 68 T_Item
  ((itemsS (newS l es) (List.take (Int.toNat (ofN x)) xs)).2.2.1 ++
  List.map (sumV (newS l es).1)
  (List.take x_1
  (partsV
  (iP
  (List.getD xs (Int.toNat (ofN x))
  (T.dflt
  T_Item))))))
  false =
  SObj.row 49 68 T_Item
  ((itemsS (newS l es) (List.take (Int.toNat (ofN x)) xs)).2.2.1 ++
  List.map (sumV (newS l es).1)
  (List.take x_1
  (partsV
  (iP
  (List.getD xs (Int.toNat (ofN x))
  (T.dflt
  T_Item))))))
  false ∧
  SObj.row 42 32 (T.arr 32 T.u8) (itemsS (newS l es) (List.take (Int.toNat (ofN x)) xs)).2.2.2.1 false =
  SObj.row 42 32 (T.arr 32 T.u8) (itemsS (newS l es) (List.take (Int.toNat (ofN x)) xs)).2.2.2.1 false ∧
  SObj.row 42 32 (T.arr 32 T.u8) (itemsS (newS l es) (List.take (Int.toNat (ofN x)) xs)).2.2.2.2.1 false =
  SObj.row 42 32 (T.arr 32 T.u8) (itemsS (newS l es) (List.take (Int.toNat (ofN x)) xs)).2.2.2.2.1 false) ∧
  List.length
  ((itemsS (newS l es) (List.take (Int.toNat (ofN x)) xs)).2.2.1 ++
  List.map (sumV (newS l es).1)
  (List.take x_1
  (partsV
  (iP
  (List.getD xs (Int.toNat (ofN x))
  (T.dflt
  T_Item)))))) +
  List.length
  [sumV (newS l es).1
  (List.getD
  (partsV
  ((List.getD xs (Int.toNat (ofN x))
  (T.dflt
  T_Item)).2.1,
  (List.getD xs (Int.toNat (ofN x))
  (T.dflt
  T_Item)).2.2.1))
  (Int.toNat (ofN x_1)) (T.dflt (T.pair T.i64 (T.arr 32 T.u8))))] ≤
  ROOM ∧
  inI64 (ofN x_1 + 1) ∧
  ∃ (x' : Nat),
  x' ≤
  List.length
  (partsV
  (iP
  (List.getD xs (Int.toNat (ofN x))
  (T.dflt
  T_Item)))) ∧
  List.length
  (partsV
  (iP
  (List.getD xs (Int.toNat (ofN x))
  (T.dflt
  T_Item)))) -
  x' <
  List.length
  (partsV
  (iP
  (List.getD xs (Int.toNat (ofN x))
  (T.dflt
  T_Item)))) -
  x_1 ∧
  ofN x_1 + 1 = ofN x' ∧
  (newS l es).1 = (newS l es).1 ∧
  List.Perm
  (sumsP (newS l es).1
  (sumsK (newS l es).1
  (sumsP (newS l es).1 (itemsS (newS l es) (List.take (Int.toNat (ofN x)) xs)).2.1
  (iP
  (List.getD xs (Int.toNat (ofN x))
  (T.dflt
  T_Item))))
  (List.take x_1
  (partsV
  (iP
  (List.getD xs (Int.toNat (ofN x))
  (T.dflt
  T_Item))))))
  (List.getD
  (partsV
  ((List.getD xs (Int.toNat (ofN x))
  (T.dflt
  T_Item)).2.1,
  (List.getD xs (Int.toNat (ofN x))
  (T.dflt
  T_Item)).2.2.1))
  (Int.toNat (ofN x_1)) (T.dflt (T.pair T.i64 (T.arr 32 T.u8)))))
  (sumsK (newS l es).1
  (sumsP (newS l es).1 (itemsS (newS l es) (List.take (Int.toNat (ofN x)) xs)).2.1
  (iP
  (List.getD xs (Int.toNat (ofN x))
  (T.dflt
  T_Item))))
  (List.take x'
  (partsV
  (iP
  (List.getD xs (Int.toNat (ofN x))
  (T.dflt
  T_Item)))))) ∧
  (itemsS (newS l es) (List.take (Int.toNat (ofN x)) xs)).2.2.1 ++
  List.map (sumV (newS l es).1)
  (List.take x_1
  (partsV
  (iP
  (List.getD xs (Int.toNat (ofN x))
  (T.dflt
  T_Item))))) ++
  [sumV (newS l es).1
  (List.getD
  (partsV
  ((List.getD xs (Int.toNat (ofN x))
  (T.dflt
  T_Item)).2.1,
  (List.getD xs (Int.toNat (ofN x))
  (T.dflt
  T_Item)).2.2.1))
  (Int.toNat (ofN x_1)) (T.dflt (T.pair T.i64 (T.arr 32 T.u8))))] =
  (itemsS (newS l es) (List.take (Int.toNat (ofN x)) xs)).2.2.1 ++
  List.map (sumV (newS l es).1)
  (List.take x'
  (partsV
  (iP
  (List.getD xs (Int.toNat (ofN x))
  (T.dflt
  T_Item))))) ∧
  (itemsS (newS l es) (List.take (Int.toNat (ofN x)) xs)).2.2.2.1 =
  (itemsS (newS l es) (List.take (Int.toNat (ofN x)) xs)).2.2.2.1 ∧
  (itemsS (newS l es) (List.take (Int.toNat (ofN x)) xs)).2.2.2.2.1 =
  (itemsS (newS l es) (List.take (Int.toNat (ofN x)) xs)).2.2.2.2.1) ∧
  (decide
  (ofN x_1 <
  ofN
  (List.length
  (partsV
  ((List.getD xs (Int.toNat (ofN x))
  (T.dflt
  T_Item)).2.1,
  (List.getD xs (Int.toNat (ofN x))
  (T.dflt
  T_Item)).2.2.1)))) =
  false →
  inI64 (ofN x + 1) ∧
  ∃ (x' : Nat),
  x' ≤ List.length xs ∧
  List.length xs - x' < List.length xs - x ∧
  ofN x + 1 = ofN x' ∧
  (newS l es).1 = (itemsS (newS l es) (List.take x' xs)).1 ∧
  List.Perm
  (sumsK (newS l es).1
  (sumsP (newS l es).1 (itemsS (newS l es) (List.take (Int.toNat (ofN x)) xs)).2.1
  (iP
  (List.getD xs (Int.toNat (ofN x))
  (T.dflt
  T_Item))))
  (List.take x_1
  (partsV
  (iP
  (List.getD xs (Int.toNat (ofN x))
  (T.dflt
  T_Item))))))
  (itemsS (newS l es) (List.take x' xs)).2.1 ∧
  (itemsS (newS l es) (List.take (Int.toNat (ofN x)) xs)).2.2.1 ++
  List.map (sumV (newS l es).1)
  (List.take x_1
  (partsV
  (iP
  (List.getD xs (Int.toNat (ofN x))
  (T.dflt
  T_Item))))) =
  (itemsS (newS l es) (List.take x' xs)).2.2.1 ∧
  (itemsS (newS l es) (List.take (Int.toNat (ofN x)) xs)).2.2.2.1 = (itemsS (newS l es) (List.take x' xs)).2.2.2.1 ∧
  (itemsS (newS l es) (List.take (Int.toNat (ofN x)) xs)).2.2.2.2.1 = (itemsS (newS l es) (List.take x' xs)).2.2.2.2.1)) ∧
  ((toV (itemsS (newS l es) (List.take x xs)).1
  (List.getD xs (Int.toNat (ofN x))
  (T.dflt T_Item)) ==
  3) =
  false →
  ((toV (itemsS (newS l es) (List.take x xs)).1
  (List.getD xs (Int.toNat (ofN x))
  (T.dflt T_Item)) ==
  0) =
  true →
  inI64 (ofN x + 1) ∧
  ∃ (x' : Nat),
  x' ≤ List.length xs ∧
  List.length xs - x' < List.length xs - x ∧
  ofN x + 1 = ofN x' ∧
  (itemsS (newS l es) (List.take x xs)).1 = (itemsS (newS l es) (List.take x' xs)).1 ∧
  List.Perm
  (sumsP (itemsS (newS l es) (List.take x xs)).1 (itemsS (newS l es) (List.take x xs)).2.1
  (iP
  (List.getD xs (Int.toNat (ofN x))
  (T.dflt T_Item))))
  (itemsS (newS l es) (List.take x' xs)).2.1 ∧
  (itemsS (newS l es) (List.take x xs)).2.2.1 = (itemsS (newS l es) (List.take x' xs)).2.2.1 ∧
  (itemsS (newS l es) (List.take x xs)).2.2.2.1 = (itemsS (newS l es) (List.take x' xs)).2.2.2.1 ∧
  (itemsS (newS l es) (List.take x xs)).2.2.2.2.1 = (itemsS (newS l es) (List.take x' xs)).2.2.2.2.1) ∧
  ((toV (itemsS (newS l es) (List.take x xs)).1
  (List.getD xs (Int.toNat (ofN x))
  (T.dflt T_Item)) ==
  0) =
  false →
  inI64 (ofN x + 1) ∧
  ∃ (x' : Nat),
  x' ≤ List.length xs ∧
  List.length xs - x' < List.length xs - x ∧
  ofN x + 1 = ofN x' ∧
  (itemsS (newS l es) (List.take x xs)).1 = (itemsS (newS l es) (List.take x' xs)).1 ∧
  List.Perm
  (sumsP (itemsS (newS l es) (List.take x xs)).1 (itemsS (newS l es) (List.take x xs)).2.1
  (iP
  (List.getD xs (Int.toNat (ofN x))
  (T.dflt T_Item))))
  (itemsS (newS l es) (List.take x' xs)).2.1 ∧
  (itemsS (newS l es) (List.take x xs)).2.2.1 = (itemsS (newS l es) (List.take x' xs)).2.2.1 ∧
  (itemsS (newS l es) (List.take x xs)).2.2.2.1 = (itemsS (newS l es) (List.take x' xs)).2.2.2.1 ∧
  (itemsS (newS l es) (List.take x xs)).2.2.2.2.1 = (itemsS (newS l es) (List.take x' xs)).2.2.2.2.1)))))))) ∧
  (decide (ofN x < ofN (List.length xs)) = false →
  (itemsS (newS l es) (List.take x xs)).1 = (itemsS (newS l es) xs).1 ∧
  List.Perm (itemsS (newS l es) (List.take x xs)).2.1 (itemsS (newS l es) xs).2.1 ∧
  (itemsS (newS l es) (List.take x xs)).2.2.1 = (itemsS (newS l es) xs).2.2.1 ∧
  (itemsS (newS l es) (List.take x xs)).2.2.2.1 = (itemsS (newS l es) xs).2.2.2.1 ∧ (itemsS (newS l es) (List.take x xs)).2.2.2.2.1 = (itemsS (newS l es) xs).2.2.2.2.1) := by
 refine ⟨⟨0, Nat.zero_le _, rfl, rfl, List.Perm.refl _, rfl, rfl, rfl⟩, fun x hx => ⟨fun q => ?_, fun q => ?_⟩⟩
 · have hlt := ltN28 q
   have hs := items_succ (s := (newS l es)) hlt
   have hf := items_fs h x hx
   have hf' := items_fs h (x + 1) hlt
   obtain ⟨k1, k2, k3, k4, k5, k6, k7, k8⟩ := h
   dsimp only [newS] at k1 k2 k3 k4 k5 k6 k7 k8
   have hm : xs.getD x T_Item.dflt ∈ xs := by
    rw [List.getD_eq_getElem?_getD, List.getElem?_eq_getElem hlt]; exact List.getElem_mem _
   have hg := k5 _ hm
   have hd := h32 _ hm
   have w := wN28 hlt
   rw [toN28]
   have e0 : ofN x = (x : Int) := rfl
   have in1 : inI64 (ofN x + 1) := inN28 (by omega)
   generalize hT : itemsS (newS l es) (xs.take x) = T at *
   obtain ⟨l', es', out', la', lo', u⟩ := T
   generalize xs.getD x T_Item.dflt = y at *
   obtain ⟨f1, f2, f3, f4, f5⟩ := hf
   dsimp only [newS, List.length_nil] at f1 f2 f3 f4 f5
   subst f1
   have hr := good_right hg.1
   have okb : okB l' (iP y) := ⟨k1, hr, by omega⟩
   have hlen : (iL y).length ≤ 1000 := hg.2
   have hkinds := good_kinds hg.1
   have fin : ∀ (es2 : List (Pre × Item)) (o2 : List Item) (a2 b2 : List DigP), es2 = sumsX l' es' y → o2 = out' ++ outV l' y → a2 = la' ++ lackV l' y → b2 = lo' ++ otherV l' y →
    ∃ x', x' ≤ xs.length ∧ xs.length - x' < xs.length - x ∧ ofN x + 1 = ofN x' ∧ l' = (itemsS (newS l' es) (xs.take x')).1 ∧ es2.Perm (itemsS (newS l' es) (xs.take x')).2.1 ∧ o2 = (itemsS (newS l' es) (xs.take x')).2.2.1 ∧ a2 = (itemsS (newS l' es) (xs.take x')).2.2.2.1 ∧ b2 = (itemsS (newS l' es) (xs.take x')).2.2.2.2.1 := by
    rintro _ _ _ _ rfl rfl rfl rfl
    refine ⟨x + 1, hlt, by omega, rfl, ?_⟩
    rw [hs]
    exact ⟨rfl, List.Perm.refl _, rfl, rfl, rfl⟩
   refine ⟨w, fun q2 => ?_, fun q2 => ⟨fun q3 => ?_, fun q3 => ⟨fun q4 => ?_, fun q4 => ?_⟩⟩⟩
   · obtain ⟨o1, o2, o3, o4⟩ := out2 (l := l') (x := y) (by simpa using q2)
     exact ⟨⟨okb, by show out'.length ≤ _; omega⟩, in1, fin _ _ _ _ (o4 _).symm (by rw [o1]; rfl) (by rw [o2, List.append_nil]) (by rw [o3, List.append_nil])⟩
   · have q3' : y.1 = 3 := by simpa using q3
     obtain ⟨o1, o2, o3, o4⟩ := out3 (l := l') (x := y) q3'
     have hasc : ascV (iL y) = true := by
      rcases hkinds with h | h | h
      · rw [h] at q3'; cases q3'
      · rw [h] at q3'; cases q3'
      · exact (checkS_zero.1 h.2).2
     exact ⟨⟨okb, by show out'.length ≤ _; omega⟩, ⟨okb, hasc, by omega, by show la'.length ≤ _; omega, by show lo'.length ≤ _; omega⟩, in1, fin _ _ _ _ (o4 _).symm (by rw [o1]; rfl) (by rw [o2]) (by rw [o3])⟩
   · have q4' : y.1 = 4 := by simpa using q4
     obtain ⟨o1, o2, o3, o4⟩ := out4 (l := l') (x := y) q4'
     have hasc : ascV (iL y) = true := by
      rcases hkinds with h | h | h
      · rw [h] at q4'; cases q4'
      · rw [h] at q4'; cases q4'
      · exact (checkS_zero.1 h.2).2
     exact ⟨⟨okb, hasc, by omega, by show la'.length ≤ _; omega, by show lo'.length ≤ _; omega⟩, in1, fin _ _ _ _ (o4 _).symm (by rw [o1, List.append_nil]) (by rw [o2]) (by rw [o3])⟩
   · obtain ⟨o2, o3, t0, t1, t2, t3⟩ := outS (l := l') (x := y) (by simpa using q2) (by simpa using q3) (by simpa using q4)
     refine ⟨⟨okb, f2⟩, fun q5 => ?_, fun q5 => ⟨fun q6 => ?_, fun q6 => ⟨fun q7 => ?_, fun q7 => ⟨fun q8 => ?_, fun q8 => ?_⟩⟩⟩⟩
     · obtain ⟨o1, o4⟩ := t1 (by simpa using q5)
       exact ⟨⟨okb, by show out'.length ≤ _; omega⟩, in1, fin _ _ _ _ (o4 _).symm (by rw [o1]; rfl) (by rw [o2, List.append_nil]) (by rw [o3, List.append_nil])⟩
     · obtain ⟨o1, o4⟩ := t2 (by simpa using q6)
       refine ⟨?_, in1, fin _ _ _ _ (o4 _).symm (by rw [o1]; rfl) (by rw [o2, List.append_nil]) (by rw [o3, List.append_nil])⟩
       show out'.length + 1 ≤ ROOM
       unfold ROOM; omega
     · obtain ⟨o1, o4⟩ := t3 (by simpa using q7)
       have hp4 := parts_le (iP y)
       refine ⟨hr, ⟨0, Nat.zero_le _, rfl, rfl, List.Perm.refl _, (List.append_nil _).symm, rfl, rfl⟩, fun j hj => ⟨fun q8 => ?_, fun q8 => ?_⟩⟩
       · have hlt8 : j < (partsV (iP y)).length := ltN28 q8
         rw [toN28]
         have hmq : (partsV (iP y)).getD j T_Pre.dflt ∈ partsV (iP y) := by
          rw [List.getD_eq_getElem?_getD, List.getElem?_eq_getElem hlt8]; exact List.getElem_mem _
         have hrq := parts_right hmq hr hd
         have e9 : (partsV (iP y)).take (j + 1) = (partsV (iP y)).take j ++ [(partsV (iP y)).getD j T_Pre.dflt] := by
          rw [← List.take_append_getElem hlt8, List.getD_eq_getElem?_getD, List.getElem?_eq_getElem hlt8]; rfl
         refine ⟨wN28 hlt8, ⟨⟨⟨k1, hrq, by show l'.length ≤ _; omega⟩, sumsK_ok (sumsP_ok _ f2)⟩, rfl, rfl, rfl, rfl⟩, ?_, inN28 (by omega), j + 1, hlt8, by omega, rfl, rfl, ?_, ?_, rfl, rfl⟩
         · rw [List.length_append, List.length_map, List.length_take]
           show out'.length + _ + 1 ≤ ROOM
           unfold ROOM; omega
         · rw [e9, sumsK_snoc]
           exact List.Perm.refl _
         · rw [e9, List.map_append, ← List.append_assoc]; rfl
       · have hge : (partsV (iP y)).length ≤ j := geN28 q8
         rw [List.take_of_length_le hge]
         exact ⟨in1, fin _ _ _ _ (o4 _).symm (by rw [o1]; rfl) (by rw [o2, List.append_nil]) (by rw [o3, List.append_nil])⟩
     · obtain ⟨o1, o4⟩ := t0 (by simpa using q8)
       exact ⟨in1, fin _ _ _ _ (o4 _).symm (by rw [o1, List.append_nil]) (by rw [o2, List.append_nil]) (by rw [o3, List.append_nil])⟩
     · exfalso
       rcases toV_four l' y with h | h | h | h
       · rw [h] at q8; cases q8
       · rw [h] at q5; cases q5
       · rw [h] at q6; cases q6
       · rw [h] at q7; cases q7
 · have : x = xs.length := by have := geN28 q; omega
   rw [this, List.take_length]
   exact ⟨rfl, List.Perm.refl _, rfl, rfl, rfl⟩

theorem recon_Respond_vc (l : List DigP) (xs : List Item) (h : okR l xs) :
 ((checkS l != 0) = true →
  nilOf (Int × Int × List (BitVec 8) × Int × List (BitVec 8) × List (List (BitVec 8))) = (respV l xs).1 ∧
  nilOf (List (BitVec 8)) = (respV l xs).2.1 ∧ nilOf (List (BitVec 8)) = (respV l xs).2.2.1 ∧ checkS l = (respV l xs).2.2.2) ∧
  ((checkS l != 0) = false →
  (∃ (x : Nat), (x ≤ List.length xs ∧ List.all (List.take x xs) goodB = true) ∧ 0 = ofN x) ∧
  ∀ (x : Nat),
  x ≤ List.length xs ∧ List.all (List.take x xs) goodB = true →
  (decide (ofN x < ofN (List.length xs)) = true →
  within (ofN x) (List.length xs) ∧
  ((goodV (List.getD xs (Int.toNat (ofN x)) (T.dflt T_Item)) != 0) =
  true →
  nilOf (Int × Int × List (BitVec 8) × Int × List (BitVec 8) × List (List (BitVec 8))) = (respV l xs).1 ∧
  nilOf (List (BitVec 8)) = (respV l xs).2.1 ∧
  nilOf (List (BitVec 8)) = (respV l xs).2.2.1 ∧
  goodV (List.getD xs (Int.toNat (ofN x)) (T.dflt T_Item)) =
  (respV l xs).2.2.2) ∧
  ((goodV (List.getD xs (Int.toNat (ofN x)) (T.dflt T_Item)) != 0) =
  false →
  inI64 (ofN x + 1) ∧ ∃ (x' : Nat), (x' ≤ List.length xs ∧ List.all (List.take x' xs) goodB = true) ∧ List.length xs - x' < List.length xs - x ∧ ofN x + 1 = ofN x')) ∧
  (decide (ofN x < ofN (List.length xs)) = false →
  okSd (newS l (nilOf ((Int × List (BitVec 8)) × Int × Int × List (BitVec 8) × Int × List (BitVec 8) × List (List (BitVec 8))))) xs ∧
  List.length (itemsS (newS l (nilOf ((Int × List (BitVec 8)) × Int × Int × List (BitVec 8) × Int × List (BitVec 8) × List (List (BitVec 8))))) xs).2.2.2.1 ≤ 100000000 ∧
  List.length (itemsS (newS l (nilOf ((Int × List (BitVec 8)) × Int × Int × List (BitVec 8) × Int × List (BitVec 8) × List (List (BitVec 8))))) xs).2.2.2.2.1 ≤ 100000000 ∧
  (itemsS (newS l (nilOf ((Int × List (BitVec 8)) × Int × Int × List (BitVec 8) × Int × List (BitVec 8) × List (List (BitVec 8))))) xs).2.2.1 = (respV l xs).1 ∧
  risV (itemsS (newS l (nilOf ((Int × List (BitVec 8)) × Int × Int × List (BitVec 8) × Int × List (BitVec 8) × List (List (BitVec 8))))) xs).2.2.2.1 = (respV l xs).2.1 ∧
  risV (itemsS (newS l (nilOf ((Int × List (BitVec 8)) × Int × Int × List (BitVec 8) × Int × List (BitVec 8) × List (List (BitVec 8))))) xs).2.2.2.2.1 = (respV l xs).2.2.1 ∧
  0 = (respV l xs).2.2.2)) := by
 refine ⟨fun q => ?_, fun q => ?_⟩
 · have q : ¬ checkS l = 0 := by simpa using q
   have e : checkS l = 281 := (check_two l).resolve_left q
   have e2 : respV l xs = ([], [], [], 281) := by
    unfold respV
    rw [e]; rfl
   rw [e2, e]
   exact ⟨rfl, rfl, rfl, rfl⟩
 · have hc : checkS l = 0 := by simpa using q
   refine ⟨⟨0, ⟨Nat.zero_le _, rfl⟩, rfl⟩, fun x hx => ⟨fun q2 => ?_, fun q2 => ?_⟩⟩
   · have hlt := ltN28 q2
     rw [toN28]
     have hm : xs.getD x T_Item.dflt ∈ xs := by
      rw [List.getD_eq_getElem?_getD, List.getElem?_eq_getElem hlt]; exact List.getElem_mem _
     have hs := all_snoc hlt hx.2
     generalize xs.getD x T_Item.dflt = y at *
     refine ⟨wN28 hlt, fun q3 => ?_, fun q3 => ?_⟩
     · have hb : goodB y = false := by
         cases hq : goodB y with
         | false => rfl
         | true => rw [good_two, hq] at q3; cases q3
       have ha : xs.all goodB = false := by
        cases hq : xs.all goodB with
        | false => rfl
        | true => rw [List.all_eq_true.1 hq y hm] at hb; cases hb
       have e2 : respV l xs = ([], [], [], 280) := by
        unfold respV
        rw [hc, ha]; rfl
       rw [e2, good_two, hb]
       exact ⟨rfl, rfl, rfl, rfl⟩
     · have hb : goodB y = true := by
         cases hq : goodB y with
         | true => rfl
         | false => rw [good_two, hq] at q3; cases q3
       exact ⟨inN28 (by have := h.2.1; omega), x + 1, ⟨hlt, hs hb⟩, by omega, rfl⟩
   · have hge := geN28 q2
     have ha : xs.all goodB = true := by
      have := hx.2
      rwa [List.take_of_length_le hge] at this
     have hs := okSd_new h hc ha
     have hf := items_fs hs xs.length (Nat.le_refl _)
     rw [List.take_length] at hf
     obtain ⟨_, a2, a3, a4⟩ := items_all xs (newS l [])
     have e1 := resp_ok hc ha
     obtain ⟨_, _, f3, f4, f5⟩ := hf
     have hxs := h.2.1
     have f4 : (itemsS (newS l []) xs).2.2.2.1.length ≤ 0 + 1000 * xs.length := f4
     have f5 : (itemsS (newS l []) xs).2.2.2.2.1.length ≤ 0 + 1000 * xs.length := f5
     rw [e1]
     exact ⟨hs, by show (itemsS (newS l []) xs).2.2.2.1.length ≤ _; omega, by show (itemsS (newS l []) xs).2.2.2.2.1.length ≤ _; omega, a2, congrArg risV a3, congrArg risV a4, rfl⟩

theorem recon_Meet_vc (a b : List DigP) (h : okMt a b) :
 (((beginW a).2 != 0 || checkS b != 0) = true → nilOf (List (BitVec 8)) = (meetV a b).1 ∧ nilOf (List (BitVec 8)) = (meetV a b).2.1 ∧ 0 = (meetV a b).2.2.1 ∧ 281 = (meetV a b).2.2.2) ∧
  (((beginW a).2 != 0 || checkS b != 0) = false →
  (∃ (x : Nat),
  (x ≤ 140 ∧ ∀ (j : Nat), j < x → ¬(stepsM a b j).1 = nilOf (Int × Int × List (BitVec 8) × Int × List (BitVec 8) × List (List (BitVec 8)))) ∧
  (0 = ofN x ∧ (beginW a).1 = (stepsM a b x).1) ∧ (stepsM a b x).2 = nilOf (List (BitVec 8)) ∧ (stepsM a b x).3 = nilOf (List (BitVec 8))) ∧
  ∀ (x : Nat),
  (x ≤ 140 ∧ ∀ (j : Nat), j < x → ¬(stepsM a b j).1 = nilOf (Int × Int × List (BitVec 8) × Int × List (BitVec 8) × List (List (BitVec 8)))) →
  (decide (0 < ofN (List.length (stepsM a b x).1)) = true →
  inI64 (ofN x + 1) ∧
  ofN 2 ≠ 0 ∧
  (0 ≤ Int.tmod (ofN x + 1) 2 ∧ Int.tmod (ofN x + 1) 2 ≤ 1) ∧
  (Int.tmod (ofN x + 1) 2 = 0 →
  within 0 2 ∧
  okR (List.getD [a, b] (Int.toNat 0) (T.dflt (T.slc (T.arr 32 T.u8)))) (stepsM a b x).1 ∧
  within 0 2 ∧
  List.length (stepsM a b x).2 + List.length (respV (List.getD [a, b] (Int.toNat 0) (T.dflt (T.slc (T.arr 32 T.u8)))) (stepsM a b x).1).2.1 ≤ ROOM ∧
  within 0 2 ∧
  inI64 (ofN x + 1) ∧
  ∃ (x' : Nat),
  (x' ≤ 140 ∧ ∀ (j : Nat), j < x' → ¬(stepsM a b j).1 = nilOf (Int × Int × List (BitVec 8) × Int × List (BitVec 8) × List (List (BitVec 8)))) ∧
  200 - x' < 200 - x ∧
  (ofN x + 1 = ofN x' ∧ (respV (List.getD [a, b] (Int.toNat 0) (T.dflt (T.slc (T.arr 32 T.u8)))) (stepsM a b x).1).1 = (stepsM a b x').1) ∧
  (stepsM a b x).2 ++ (respV (List.getD [a, b] (Int.toNat 0) (T.dflt (T.slc (T.arr 32 T.u8)))) (stepsM a b x).1).2.1 = (stepsM a b x').2 ∧
  (stepsM a b x).3 = (stepsM a b x').3) ∧
  (Int.tmod (ofN x + 1) 2 = 1 →
  within 1 2 ∧
  okR (List.getD [a, b] (Int.toNat 1) (T.dflt (T.slc (T.arr 32 T.u8)))) (stepsM a b x).1 ∧
  within 1 2 ∧
  List.length (stepsM a b x).3 + List.length (respV (List.getD [a, b] (Int.toNat 1) (T.dflt (T.slc (T.arr 32 T.u8)))) (stepsM a b x).1).2.1 ≤ ROOM ∧
  within 1 2 ∧
  inI64 (ofN x + 1) ∧
  ∃ (x' : Nat),
  (x' ≤ 140 ∧ ∀ (j : Nat), j < x' → ¬(stepsM a b j).1 = nilOf (Int × Int × List (BitVec 8) × Int × List (BitVec 8) × List (List (BitVec 8)))) ∧
  200 - x' < 200 - x ∧
  (ofN x + 1 = ofN x' ∧ (respV (List.getD [a, b] (Int.toNat 1) (T.dflt (T.slc (T.arr 32 T.u8)))) (stepsM a b x).1).1 = (stepsM a b x').1) ∧
  (stepsM a b x).2 = (stepsM a b x').2 ∧
  (stepsM a b x).3 ++ (respV (List.getD [a, b] (Int.toNat 1) (T.dflt (T.slc (T.arr 32 T.u8)))) (stepsM a b x).1).2.1 = (stepsM a b x').3)) ∧
  (decide (0 < ofN (List.length (stepsM a b x).1)) = false →
  within 0 2 ∧
  List.length (stepsM a b x).2 ≤ 100000000 ∧
  within 1 2 ∧
  List.length (stepsM a b x).3 ≤ 100000000 ∧ risV (stepsM a b x).2 = (meetV a b).1 ∧ risV (stepsM a b x).3 = (meetV a b).2.1 ∧ ofN x = (meetV a b).2.2.1 ∧ 0 = (meetV a b).2.2.2)) := by
 refine ⟨fun q => ?_, fun q => ?_⟩
 · have hno : ¬ checkS a = 0 ∨ ¬ checkS b = 0 := by
     by_cases ha : checkS a = 0
     · by_cases hb : checkS b = 0
       · rw [begin_two, ha, hb] at q; cases q
       · exact .inr hb
     · exact .inl ha
   rw [meet_no hno]
   exact ⟨rfl, rfl, rfl, rfl⟩
 · have hb : checkS b = 0 := by
     rw [Bool.or_eq_false_iff] at q
     simpa using q.2
   have ha : checkS a = 0 := by
    rcases check_two a with ha | ha
    · exact ha
    · rw [begin_two, ha] at q; cases q
   have la := h.1 ha
   have lb := h.2 hb
   have e0 : (beginW a).1 = [sumV a ((0 : Int), zeroD)] := by rw [begin_two, ha]; rfl
   rw [e0]
   refine ⟨⟨0, ⟨Nat.zero_le _, fun j hj => by omega⟩, ⟨rfl, rfl⟩, rfl, rfl⟩, fun x hx => ?_⟩
   have hw := way_ok ha hb la lb x
   have hm := bdM_mono (j := x) (k := 132)
   have hb132 := bdM_132
   refine ⟨fun q2 => ?_, fun q2 => ?_⟩
   · have q2 : (0 : Int) < (((stepsM a b x).way.length : Nat) : Int) := of_decide_eq_true q2
     have hne : (stepsM a b x).way ≠ [] := fun e => by rw [e] at q2; simp at q2
     have h131 := way_early hw hne
     have hok := way_okR ha hb la lb (k := x) (by omega)
     have hw1 := way_ok ha hb la lb (x + 1)
     have hm1 := bdM_mono (j := x + 1) (k := 132) (by omega)
     have hl1 := hw1.la
     have hl2 := hw1.lb
     have hin : inI64 (ofN x + 1) := inN28 (by omega)
     have hall : ∀ j, j < x + 1 → ¬ (stepsM a b j).way = [] := fun j hj => by
      by_cases e : j = x
      · rw [e]; exact hne
      · exact hx.2 j (by omega)
     rw [mod_n]
     refine ⟨hin, by decide, ⟨by omega, by omega⟩, fun q3 => ?_, fun q3 => ?_⟩
     · have hodd : ¬ x % 2 = 0 := by omega
       rw [steps_odd hodd] at hl1
       have hl1 : ((stepsM a b x).la ++ (respV a (stepsM a b x).way).2.1).length ≤ bdM (x + 1) := hl1
       rw [List.length_append] at hl1
       refine ⟨w02, hok a la, w02, ?_, w02, hin, x + 1, ⟨by omega, hall⟩, by omega, ⟨rfl, ?_⟩, ?_, ?_⟩
       · show (stepsM a b x).la.length + (respV a (stepsM a b x).way).2.1.length ≤ ROOM
         unfold ROOM; omega
       · rw [steps_odd hodd]; rfl
       · rw [steps_odd hodd]; rfl
       · rw [steps_odd hodd]
     · have heven : x % 2 = 0 := by omega
       rw [steps_even heven] at hl2
       have hl2 : ((stepsM a b x).lb ++ (respV b (stepsM a b x).way).2.1).length ≤ bdM (x + 1) := hl2
       rw [List.length_append] at hl2
       refine ⟨w12, hok b lb, w12, ?_, w12, hin, x + 1, ⟨by omega, hall⟩, by omega, ⟨rfl, ?_⟩, ?_, ?_⟩
       · show (stepsM a b x).lb.length + (respV b (stepsM a b x).way).2.1.length ≤ ROOM
         unfold ROOM; omega
       · rw [steps_even heven]; rfl
       · rw [steps_even heven]
       · rw [steps_even heven]; rfl
   · have q2 : ¬ (0 : Int) < (((stepsM a b x).way.length : Nat) : Int) := of_decide_eq_false q2
     have he : (stepsM a b x).way = [] := List.eq_nil_of_length_eq_zero (by omega)
     have h132 : x ≤ 132 := by
      by_cases h0 : x = 0
      · omega
      · have := way_early (way_ok ha hb la lb (x - 1)) (hx.2 (x - 1) (by omega))
        omega
     have hm := hm h132
     rw [meet_is ha hb he hx.2 (by omega)]
     exact ⟨w02, by have h := hw.la; show (stepsM a b x).la.length ≤ _; omega, w12, by have h := hw.lb; show (stepsM a b x).lb.length ≤ _; omega, rfl, rfl, rfl, rfl⟩

theorem side_sum_spec : Vse.Spec P f_recon_side_sum c_sSum := spec_keep _ (spec_gm (l := [(f_recon_summary, c_summary)]) ⟨recon_summary_spec, trivial⟩ h_recon_side_sum rfl rfl fun s x h _ _ => bodyG_ok an_S5 (side_sum_vc s.1 s.2.1 s.2.2.1 s.2.2.2.1 s.2.2.2.2.1 x.1 (got h).1 (got h).2) (by kernel_rfl))

theorem side_lists_spec : Vse.Spec P f_recon_side_lists c_sLists := spec_gm (l := [(f_recon_below, c_rbelow), (f_slices_Clone_Digest, c_CloneD)]) ⟨recon_below_spec, slices_CloneD_spec, trivial⟩ h_recon_side_lists rfl rfl fun s x h _ _ => bodyG_ok an_S1 (side_lists_vc s.1 s.2.1 s.2.2.1 s.2.2.2.1 s.2.2.2.2.1 x.1 x.2.1 (got h).1 (got h).2) (by kernel_rfl)

theorem side_told_spec : Vse.Spec P f_recon_side_told c_sTold := spec_gm (l := [(f_recon_below, c_rbelow), (f_recon_digests, c_digests), (f_recon_rowarapi_Digest_less, c_rowLess)]) ⟨recon_below_spec, recon_digests_spec, recon_less_spec, trivial⟩ h_recon_side_told rfl rfl fun s x h _ _ => bodyG_ok an_S1 (side_told_vc s.1 s.2.1 s.2.2.1 s.2.2.2.1 s.2.2.2.2.1 x.1 (got h).1 (got h).2.1 (got h).2.2.1 (got h).2.2.2.1 (got h).2.2.2.2) (by kernel_rfl)

theorem side_to_spec : Vse.Spec P f_recon_side_to c_sTo := spec_gm (l := [(f_recon_side_sum, c_sSum)]) ⟨side_sum_spec, trivial⟩ h_recon_side_to rfl rfl fun s x h _ _ => bodyG_ok an_S5 (side_to_vc s.1 s.2.1 s.2.2.1 s.2.2.2.1 s.2.2.2.2.1 x.1 (got h).1 (got h).2) (by kernel_rfl)

theorem okT_pre {xs : List Item} (h : okT (.slc T_Item) xs) : ∀ x ∈ xs, (iP x).2.length = 32 := fun x hx => (h.2 x hx).2.2.1.1
theorem side_itemsZ_spec : Vse.Spec P f_recon_side_items c_sItemsZ := spec_gmz (l := [(f_recon_side_lists, c_sLists), (f_recon_side_told, c_sTold), (f_recon_side_to, c_sTo), (f_recon_side_sum, c_sSum), (f_recon_parts, c_parts)]) ⟨side_lists_spec, side_told_spec, side_to_spec, side_sum_spec, recon_parts_spec, trivial⟩ h_recon_side_items rfl rfl fun s x h _ ok => bodyG_ok (an_sItems (newS s.1 s.2.1) x.1) (side_itemsZ_vc s.1 s.2.1 x.1 (got h) (okT_pre ok.1)) (by kernel_rfl)

theorem recon_Respond_spec : Vse.Spec P f_recon_Respond c_Respond := spec_fn (l := [(f_recon_Check, c_rCheckS), (f_recon_Good, c_Good), (f_recon_side_items, c_sItemsZ), (f_recon_digests, c_digests), (f_recon_rowarapi_Digest_of, c_rowOf)]) ⟨recon_Check_spec, recon_Good_spec, side_itemsZ_spec, recon_digests_spec, recon_of_spec, trivial⟩ h_recon_Respond rfl rfl fun x h _ => body_ok (an_Respond x.1 x.2.1) (recon_Respond_vc x.1 x.2.1 (got h)) (by kernel_rfl)

theorem recon_Meet_spec : Vse.Spec P f_recon_Meet c_Meet := spec_fn (l := [(f_recon_Begin, c_Begin), (f_recon_Check, c_rCheckS), (f_recon_Respond, c_Respond), (f_recon_digests, c_digests), (f_recon_rowarapi_Digest_of, c_rowOf)]) ⟨recon_Begin_spec, recon_Check_spec, recon_Respond_spec, recon_digests_spec, recon_of_spec, trivial⟩ h_recon_Meet rfl rfl fun x h _ => body_ok (an_Meet x.1 x.2.1) (recon_Meet_vc x.1 x.2.1 (got h)) (by kernel_rfl)

end Go.Sal
