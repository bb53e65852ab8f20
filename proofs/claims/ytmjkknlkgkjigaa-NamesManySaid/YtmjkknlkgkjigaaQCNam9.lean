/- NamesMany: more paths than there may be. -/
import Derived.Test.YtmjkknlkgkjigaaQCNam7
set_option maxRecDepth 100000
namespace Go.Sal
open Go.Vse Go.Sal.Nm

def digV (n : Nat) : BitVec 8 := BitVec.ofInt 8 (48 + ((n % 10 : Nat) : Int))
def numS (n : Nat) : List (BitVec 8) := if n < 10 then [digV n] else numS (n / 10) ++ [digV n]
termination_by n
def c_numM : PC := D [.i64] [.str] (fun x => some (0 ≤ x.1 ∧ x.1 ≤ 1000000)) (fun x => (numS x.1.toNat, ()))
def an_numL (n : Nat) : Nat → SState → Option LoopAnn
  | 2, _ => some { X := Nat × List (BitVec 8), slots := fun s => [(0, .sv (.dv (.i64 (ofN s.1)))), (3, .sv (.dv (.str s.2)))], objs := fun _ => [], inv := fun s => numS s.1 ++ s.2 = numS n ∧ s.1 ≤ n ∧ s.2.length + s.1 ≤ n, meas := fun s => s.1 }
  | _, _ => none
def an_num (n : Nat) : Ann := { at_ := an_numL n, prune := 1 }
def recN (i : Nat) : Rec := ((i : Int) + 1, 1, List.replicate 32 0#8, 2, 0, 112#8 :: numS i, [])
def manyL : List Rec := (List.range 1024).map recN
def x_mapM (S : SState) (t : Nat) : Nat :=
  match Go.Vse.look (x_celN S t) S.hp with
  | .cells [.ref (.map m)] _ => m
  | _ => 0
def an_ManyL : Nat → SState → Option LoopAnn
  | 7, S => some { X := Nat, slots := fun k => [(4, .sv (.dv (.i64 (ofN k))))], objs := fun k => oAt T_fsN (x_celN S 3) (x_mapM S 3) (ofK manyL k, ()), inv := fun k => k ≤ 1024, meas := fun k => 1024 - k }
  | _, _ => none
def an_Many : Ann := { at_ := an_ManyL, prune := 1, rows := [1043 + STRIDE * 2] }

theorem numS_lt {n : Nat} (h : n < 10) : numS n = [digV n] := by rw [numS, if_pos h]
theorem numS_ge {n : Nat} (h : ¬ n < 10) : numS n = numS (n / 10) ++ [digV n] := by rw [numS, if_neg h]
theorem dig_val : ∀ m : Fin 10, (BitVec.ofInt 8 (48 + ((m.val : Nat) : Int))).toNat = 48 + m.val := by decide
theorem dig_ok : ∀ m : Fin 10, okChar (BitVec.ofInt 8 (48 + ((m.val : Nat) : Int))) = true := by decide
theorem digV_val (n : Nat) : (digV n).toNat = 48 + n % 10 := dig_val ⟨n % 10, Nat.mod_lt _ (by decide)⟩
theorem digV_ok (n : Nat) : okChar (digV n) = true := dig_ok ⟨n % 10, Nat.mod_lt _ (by decide)⟩
def valD (l : List (BitVec 8)) : Nat := l.foldl (fun a d => 10 * a + (d.toNat - 48)) 0
theorem valD_numS (n : Nat) : valD (numS n) = n := by
  induction n using Nat.strongRecOn with
  | ind n ih =>
    by_cases h : n < 10
    · rw [numS_lt h]
      show 10 * 0 + ((digV n).toNat - 48) = n
      rw [digV_val, Nat.mod_eq_of_lt h]; omega
    · rw [numS_ge h]
      have e := ih (n / 10) (by omega)
      unfold valD at e ⊢
      rw [List.foldl_append, e]
      show 10 * (n / 10) + ((digV n).toNat - 48) = n
      rw [digV_val]; omega
theorem numS_inj {m n : Nat} (h : numS m = numS n) : m = n := by rw [← valD_numS m, h, valD_numS]
theorem numS_len (n : Nat) : 9 * (numS n).length ≤ n + 9 := by
  induction n using Nat.strongRecOn with
  | ind n ih =>
    by_cases h : n < 10
    · rw [numS_lt h]; simp
    · rw [numS_ge h, List.length_append, List.length_singleton]
      have := ih (n / 10) (by omega)
      omega
theorem numS_ok (n : Nat) : (numS n).all okChar = true := by
  induction n using Nat.strongRecOn with
  | ind n ih =>
    by_cases h : n < 10
    · rw [numS_lt h]; simp [digV_ok]
    · rw [numS_ge h, List.all_append, ih (n / 10) (by omega)]; simp [digV_ok]
theorem recN_ok {i : Nat} (h : i < 1024) : checkV (recN i) = 0 := by
  have hp : isPath (112#8 :: numS i) = true := by
    unfold isPath
    have := numS_len i
    rw [List.all_cons, numS_ok, List.length_cons]
    have h1 : decide (1 ≤ (numS i).length + 1) = true := decide_eq_true (by omega)
    have h2 : decide ((numS i).length + 1 ≤ 255) = true := decide_eq_true (by omega)
    rw [h1, h2]; rfl
  have hf : fitsV (recN i) = true := by
    unfold fitsV recN
    show (if (2 : Int) = 1 then _ else if (2 : Int) = 3 then _ else if (2 : Int) = 2 then ((0 : Int) == 0 && isPath (112#8 :: numS i) && (sizeV []).2 == 0) else false) = true
    rw [if_neg (by decide), if_neg (by decide), if_pos rfl, hp]; rfl
  unfold checkV
  have h1 : (1 : Int) ≤ (i : Int) + 1 := by omega
  have h2 : (i : Int) + 1 ≤ 1073741824 := by omega
  exact if_pos ⟨h1, h2, (by decide : (1 : Int) ≤ 1), (by decide : (1 : Int) ≤ 1073741824), hf⟩
def manyE (k : Nat) : Files := (List.range k).map fun i => (112#8 :: numS i, fileOf (recN i))
theorem manyE_len (k : Nat) : (manyE k).length = k := by unfold manyE; rw [List.length_map, List.length_range]
theorem manyE_ne {k : Nat} : ∀ p ∈ manyE k, 112#8 :: numS k ≠ p.1 := by
  intro p hp e
  unfold manyE at hp
  obtain ⟨i, hi, rfl⟩ := List.mem_map.1 hp
  have hi := List.mem_range.1 hi
  have e : 112#8 :: numS k = 112#8 :: numS i := e
  have := numS_inj (List.cons.inj e).2
  omega
theorem many_get {k : Nat} (h : k < 1024) : manyL.getD k T_Rec.dflt = recN k := by
  unfold manyL
  simp [List.getD, h]
theorem many_may {k : Nat} (h : k < 1024) : mayV (manyE k) (recN k) = 0 := by
  unfold mayV
  rw [recN_ok h]
  have h1 : decide ((1024 : Int) ≤ ((manyE k).length : Int)) = false := decide_eq_false (by rw [manyE_len]; omega)
  rw [h1, Bool.and_false]
  rfl
theorem ofK_many : ∀ k, k ≤ 1024 → ofK manyL k = manyE k
  | 0, _ => rfl
  | k + 1, h => by
    have hk : k < 1024 := h
    show applyV (ofK manyL k) (manyL.getD k T_Rec.dflt) = _
    rw [ofK_many k (by omega), many_get hk]
    unfold applyV
    rw [decide_eq_true (many_may hk), cond_true]
    show mput .str (manyE k) (112#8 :: numS k) (fileOf (recN k)) = _
    rw [mput_newS manyE_ne]
    unfold manyE
    rw [List.range_succ, List.map_append]; rfl

theorem law15_number_vc (n : Nat) (h : n ≤ 1000000) :
    (∃ (x : Nat × List (BitVec 8)), (numS x.1 ++ x.2 = numS n ∧ x.1 ≤ n ∧ List.length x.2 + x.1 ≤ n) ∧ ofN n = ofN x.1 ∧ List.map UInt8.toBitVec (nilOf UInt8) = x.2) ∧
      ∀ (x : Nat × List (BitVec 8)),
      numS x.1 ++ x.2 = numS n ∧ x.1 ≤ n ∧ List.length x.2 + x.1 ≤ n →
      (decide (9 < ofN x.1) = true →
      ofN 10 ≠ 0 ∧
      inI64 (48 + Int.tmod (ofN x.1) 10) ∧
      List.length [BitVec.ofInt 8 (48 + Int.tmod (ofN x.1) 10)] + List.length x.2 ≤ ROOM ∧
      (ofN 10 ≠ 0 ∧ inI64 (Int.tdiv (ofN x.1) 10)) ∧
      ∃ (x' : Nat × List (BitVec 8)),
      (numS x'.1 ++ x'.2 = numS n ∧ x'.1 ≤ n ∧ List.length x'.2 + x'.1 ≤ n) ∧
      x'.1 < x.1 ∧ Int.tdiv (ofN x.1) 10 = ofN x'.1 ∧ [BitVec.ofInt 8 (48 + Int.tmod (ofN x.1) 10)] ++ x.2 = x'.2) ∧
      (decide (9 < ofN x.1) = false → inI64 (48 + ofN x.1) ∧ List.length [BitVec.ofInt 8 (48 + ofN x.1)] + List.length x.2 ≤ ROOM ∧ [BitVec.ofInt 8 (48 + ofN x.1)] ++ x.2 = numS n) := by
  refine ⟨⟨(n, []), ⟨List.append_nil _, Nat.le_refl _, by simp⟩, rfl, rfl⟩, fun x hx => ⟨fun q => ?_, fun q => ?_⟩⟩
  · obtain ⟨i, t⟩ := x
    obtain ⟨h1, h2, h3⟩ := hx
    dsimp only at h1 h2 h3 q ⊢
    have hi : 9 < i := by
      have q : (9 : Int) < (i : Int) := of_decide_eq_true q
      omega
    have e1 : Int.tmod (ofN i) 10 = ((i % 10 : Nat) : Int) := by
      show Int.tmod (Int.ofNat i) (Int.ofNat 10) = Int.ofNat (i % 10)
      rfl
    have e2 : Int.tdiv (ofN i) 10 = ((i / 10 : Nat) : Int) := by
      show Int.tdiv (Int.ofNat i) (Int.ofNat 10) = Int.ofNat (i / 10)
      rfl
    rw [e1, e2]
    refine ⟨by decide, by unfold inI64; omega, ?_, ⟨by decide, by unfold inI64; omega⟩, (i / 10, digV i :: t), ⟨?_, ?_, ?_⟩, ?_, rfl, rfl⟩
    · show 1 + t.length ≤ ROOM
      unfold ROOM; omega
    · rw [← h1, numS_ge (n := i) (by omega), List.append_assoc]; rfl
    · show i / 10 ≤ n; omega
    · show t.length + 1 + i / 10 ≤ n; omega
    · show i / 10 < i; omega
  · obtain ⟨i, t⟩ := x
    obtain ⟨h1, h2, h3⟩ := hx
    dsimp only at h1 h2 h3 q ⊢
    have hi : i < 10 := by
      have q : ¬ (9 : Int) < (i : Int) := of_decide_eq_false q
      omega
    refine ⟨by show inI64 (48 + (i : Int)); unfold inI64; omega, ?_, ?_⟩
    · show 1 + t.length ≤ ROOM
      unfold ROOM; omega
    · rw [← h1, numS_lt hi]
      unfold digV
      rw [Nat.mod_eq_of_lt hi]
def moreR : Rec := (1, 1, List.replicate 32 0#8, 2, 0, [109#8, 111#8, 114#8, 101#8], [])
def p5R : Rec := (7, 1, List.replicate 32 0#8, 2, 0, [112#8, 53#8], [])
theorem more_may : mayV (manyE 1024) moreR = 3 := by
  have hg : mget .str (manyE 1024) [109#8, 111#8, 114#8, 101#8] = none := mget_noneS fun p hp e => by
    unfold manyE at hp
    obtain ⟨i, _, rfl⟩ := List.mem_map.1 hp
    have e : 112#8 :: numS i = [109#8, 111#8, 114#8, 101#8] := e
    have := (List.cons.inj e).1
    exact absurd this (by decide)
  have hc : checkV moreR = 0 := rfl
  unfold mayV
  rw [hc]
  show (bif true then (bif ((2 : Int) == 3 && !(mget .str (manyE 1024) [109#8, 111#8, 114#8, 101#8]).isSome) then 150 else bif ((2 : Int) == 2 && !(mget .str (manyE 1024) [109#8, 111#8, 114#8, 101#8]).isSome && decide ((1024 : Int) ≤ ((manyE 1024).length : Int))) then 3 else 0) else 0) = 3
  rw [hg, manyE_len]; rfl
theorem p5_mem : mget .str (manyE 1024) [112#8, 53#8] = some (fileOf (recN 5)) := by
  have hk := keysN_ofK manyL 1024
  rw [ofK_many 1024 (Nat.le_refl _)] at hk
  refine (Go.Vse.mget_mem (k := .str) hk).2 ?_
  unfold manyE
  refine List.mem_map.2 ⟨5, List.mem_range.2 (by decide), ?_⟩
  have e : numS 5 = [53#8] := by rw [numS_lt (by decide)]; rfl
  rw [e]
theorem p5_may : mayV (manyE 1024) p5R = 0 := by
  have hc : checkV p5R = 0 := rfl
  unfold mayV
  rw [hc]
  show (bif true then (bif ((2 : Int) == 3 && !(mget .str (manyE 1024) [112#8, 53#8]).isSome) then 150 else bif ((2 : Int) == 2 && !(mget .str (manyE 1024) [112#8, 53#8]).isSome && decide ((1024 : Int) ≤ ((manyE 1024).length : Int))) then 3 else 0) else 0) = 0
  rw [p5_mem]; rfl
theorem more_apply : applyV (manyE 1024) moreR = manyE 1024 := by
  unfold applyV
  rw [more_may]; rfl
theorem p5_len : (applyV (manyE 1024) p5R).length = 1024 := by
  unfold applyV
  rw [p5_may]
  show (mput .str (manyE 1024) [112#8, 53#8] (fileOf p5R)).length = 1024
  rw [mput_lenS, p5_mem, manyE_len]; rfl
theorem paths_apply {es : Files} {r : Rec} (h : pathsN es) : pathsN (applyV es r) := by
  unfold applyV
  cases decide (mayV es r = 0) with
  | false => exact h
  | true =>
    rw [cond_true]
    cases r.2.2.2.1 == 2 with
    | true =>
      rw [cond_true]
      intro p hp
      have hp : p ∈ mput .str es r.2.2.2.2.2.1 (fileOf r) := hp
      have key : ∀ {l : Files}, pathsN l → p ∈ mput .str l r.2.2.2.2.2.1 (fileOf r) → p.2.1 = p.1 := by
        intro l
        induction l with
        | nil =>
          intro _ h1
          have h1 : p ∈ [(r.2.2.2.2.2.1, fileOf r)] := h1
          rw [List.mem_singleton.1 h1]; rfl
        | cons q t ih =>
          intro h0 h1
          rw [mput_consS] at h1
          split at h1
          · rename_i e
            rcases List.mem_cons.1 h1 with h1 | h1
            · rw [h1]; exact e
            · exact h0 p (List.mem_cons_of_mem _ h1)
          · rcases List.mem_cons.1 h1 with h1 | h1
            · rw [h1]; exact h0 q (List.mem_cons_self ..)
            · exact ih (fun a ha => h0 a (List.mem_cons_of_mem _ ha)) h1
      exact key h hp
    | false =>
      rw [cond_false]
      cases r.2.2.2.1 == 3 with
      | true => exact fun p hp => h p (mdel_memS hp)
      | false => exact h
theorem paths_K (l : List Rec) : ∀ k, pathsN (ofK l k)
  | 0 => fun p h => by cases h
  | k + 1 => paths_apply (paths_K l k)
theorem listV_len (es : Files) : (listV es []).length = es.length := by
  unfold listV filesV
  rw [(sortF_perm _ _).length_eq, List.length_map, show (es.filter fun p => preV p.1 []) = es from List.filter_eq_self.2 fun p hp => by simp [preV]]

theorem law15_NamesMany_vc (k : Int) :
    ((k != 1) = true → true = true) ∧
      ((k != 1) = false →
      (false = true → false = true) ∧
      (false = false →
      (∃ (x : Nat), x ≤ 1024 ∧ 0 = ofN x ∧ List.Perm (nilOf (List (BitVec 8) × List (BitVec 8) × Int × Int × List (List (BitVec 8) × Int))) (ofK manyL x)) ∧
      ∀ (x : Nat),
      x ≤ 1024 →
      (decide (ofN x < 1024) = true →
      inI64 (ofN x + 1) ∧
      (0 ≤ ofN x ∧ ofN x ≤ 1000000) ∧
      List.length (List.map UInt8.toBitVec [112]) + List.length (numS (Int.toNat (ofN x))) ≤ ROOM ∧
      okN (ofK manyL x) ∧
      ((mayV (ofK manyL x) (ofN x + 1, 1, List.replicate 32 0#8, 2, ofN 0, List.map UInt8.toBitVec [112] ++ numS (Int.toNat (ofN x)), nilOf (List (BitVec 8) × Int)) != 0) = true →
      false = true) ∧
      ((mayV (ofK manyL x) (ofN x + 1, 1, List.replicate 32 0#8, 2, ofN 0, List.map UInt8.toBitVec [112] ++ numS (Int.toNat (ofN x)), nilOf (List (BitVec 8) × Int)) != 0) =
      false →
      inI64 (ofN x + 1) ∧
      ∃ (x' : Nat),
      x' ≤ 1024 ∧
      1024 - x' < 1024 - x ∧
      ofN x + 1 = ofN x' ∧
      List.Perm
      (applyV (ofK manyL x)
      (ofN x + 1, 1, List.replicate 32 0#8, 2, ofN 0, List.map UInt8.toBitVec [112] ++ numS (Int.toNat (ofN x)), nilOf (List (BitVec 8) × Int)))
      (ofK manyL x'))) ∧
      (decide (ofN x < 1024) = false →
      okN (ofK manyL x) ∧
      okN (applyV (ofK manyL x) (1, 1, List.replicate 32 0#8, 2, ofN 0, List.map UInt8.toBitVec [109, 111, 114, 101], nilOf (List (BitVec 8) × Int))) ∧
      okN
      (applyV (applyV (ofK manyL x) (1, 1, List.replicate 32 0#8, 2, ofN 0, List.map UInt8.toBitVec [109, 111, 114, 101], nilOf (List (BitVec 8) × Int)))
      (7, 1, List.replicate 32 0#8, 2, ofN 0, List.map UInt8.toBitVec [112, 53], nilOf (List (BitVec 8) × Int))) ∧
      ((mayV (ofK manyL x) (1, 1, List.replicate 32 0#8, 2, ofN 0, List.map UInt8.toBitVec [109, 111, 114, 101], nilOf (List (BitVec 8) × Int)) == 3 &&
      mayV (applyV (ofK manyL x) (1, 1, List.replicate 32 0#8, 2, ofN 0, List.map UInt8.toBitVec [109, 111, 114, 101], nilOf (List (BitVec 8) × Int)))
      (7, 1, List.replicate 32 0#8, 2, ofN 0, List.map UInt8.toBitVec [112, 53], nilOf (List (BitVec 8) × Int)) ==
      0 &&
      (statV
      (applyV (applyV (ofK manyL x) (1, 1, List.replicate 32 0#8, 2, ofN 0, List.map UInt8.toBitVec [109, 111, 114, 101], nilOf (List (BitVec 8) × Int)))
      (7, 1, List.replicate 32 0#8, 2, ofN 0, List.map UInt8.toBitVec [112, 53], nilOf (List (BitVec 8) × Int)))
      (List.map UInt8.toBitVec [112, 53])).2 ==
      0 &&
      (statV
      (applyV (applyV (ofK manyL x) (1, 1, List.replicate 32 0#8, 2, ofN 0, List.map UInt8.toBitVec [109, 111, 114, 101], nilOf (List (BitVec 8) × Int)))
      (7, 1, List.replicate 32 0#8, 2, ofN 0, List.map UInt8.toBitVec [112, 53], nilOf (List (BitVec 8) × Int)))
      (List.map UInt8.toBitVec [112, 53])).1.2.2.1 ==
      7) =
      true →
      (okN
      (applyV (applyV (ofK manyL x) (1, 1, List.replicate 32 0#8, 2, ofN 0, List.map UInt8.toBitVec [109, 111, 114, 101], nilOf (List (BitVec 8) × Int)))
      (7, 1, List.replicate 32 0#8, 2, ofN 0, List.map UInt8.toBitVec [112, 53], nilOf (List (BitVec 8) × Int))) ∧
      pathsN
      (applyV (applyV (ofK manyL x) (1, 1, List.replicate 32 0#8, 2, ofN 0, List.map UInt8.toBitVec [109, 111, 114, 101], nilOf (List (BitVec 8) × Int)))
      (7, 1, List.replicate 32 0#8, 2, ofN 0, List.map UInt8.toBitVec [112, 53], nilOf (List (BitVec 8) × Int)))) ∧
      (true &&
      ofN
      (List.length
      (listV
      (applyV (applyV (ofK manyL x) (1, 1, List.replicate 32 0#8, 2, ofN 0, List.map UInt8.toBitVec [109, 111, 114, 101], nilOf (List (BitVec 8) × Int)))
      (7, 1, List.replicate 32 0#8, 2, ofN 0, List.map UInt8.toBitVec [112, 53], nilOf (List (BitVec 8) × Int)))
      (List.map UInt8.toBitVec (nilOf UInt8)))) ==
      1024 &&
      true) =
      true) ∧
      ((mayV (ofK manyL x) (1, 1, List.replicate 32 0#8, 2, ofN 0, List.map UInt8.toBitVec [109, 111, 114, 101], nilOf (List (BitVec 8) × Int)) == 3 &&
      mayV (applyV (ofK manyL x) (1, 1, List.replicate 32 0#8, 2, ofN 0, List.map UInt8.toBitVec [109, 111, 114, 101], nilOf (List (BitVec 8) × Int)))
      (7, 1, List.replicate 32 0#8, 2, ofN 0, List.map UInt8.toBitVec [112, 53], nilOf (List (BitVec 8) × Int)) ==
      0 &&
      (statV
      (applyV (applyV (ofK manyL x) (1, 1, List.replicate 32 0#8, 2, ofN 0, List.map UInt8.toBitVec [109, 111, 114, 101], nilOf (List (BitVec 8) × Int)))
      (7, 1, List.replicate 32 0#8, 2, ofN 0, List.map UInt8.toBitVec [112, 53], nilOf (List (BitVec 8) × Int)))
      (List.map UInt8.toBitVec [112, 53])).2 ==
      0 &&
      (statV
      (applyV (applyV (ofK manyL x) (1, 1, List.replicate 32 0#8, 2, ofN 0, List.map UInt8.toBitVec [109, 111, 114, 101], nilOf (List (BitVec 8) × Int)))
      (7, 1, List.replicate 32 0#8, 2, ofN 0, List.map UInt8.toBitVec [112, 53], nilOf (List (BitVec 8) × Int)))
      (List.map UInt8.toBitVec [112, 53])).1.2.2.1 ==
      7) =
      false →
      false = true)))) := by
  have e0 : (List.map UInt8.toBitVec (nilOf UInt8)) = [] := rfl
  have e1 : ((1, 1, List.replicate 32 0#8, 2, ofN 0, List.map UInt8.toBitVec [109, 111, 114, 101], nilOf (List (BitVec 8) × Int)) : Rec) = moreR := rfl
  have e2 : ((7, 1, List.replicate 32 0#8, 2, ofN 0, List.map UInt8.toBitVec [112, 53], nilOf (List (BitVec 8) × Int)) : Rec) = p5R := rfl
  have e3 : (List.map UInt8.toBitVec [112, 53]) = [112#8, 53#8] := rfl
  rw [e1, e2, e3, e0]
  refine ⟨fun _ => rfl, fun _ => ⟨(fun h => nomatch h), fun _ => ⟨⟨0, Nat.zero_le _, rfl, List.Perm.refl _⟩, fun x hx => ⟨fun q => ?_, fun q => ?_⟩⟩⟩⟩
  · have hlt : x < 1024 := ltN15 (n := 1024) q
    have e4 : ((ofN x + 1, 1, List.replicate 32 0#8, 2, ofN 0, List.map UInt8.toBitVec [112] ++ numS (Int.toNat (ofN x)), nilOf (List (BitVec 8) × Int)) : Rec) = recN x := rfl
    rw [e4, ofK_many x hx]
    have hn := numS_len x
    have hE := ofK_ok manyL x
    rw [ofK_many x hx] at hE
    refine ⟨i64N hlt (by unfold LIM; omega), ⟨by show (0 : Int) ≤ (x : Int); omega, by show (x : Int) ≤ 1000000; omega⟩, ?_, okF_N hE, fun q2 => ?_, fun q2 => ⟨i64N hlt (by unfold LIM; omega), x + 1, hlt, by omega, rfl, ?_⟩⟩
    · show 1 + (numS x).length ≤ ROOM
      unfold ROOM; omega
    · rw [many_may hlt] at q2; cases q2
    · show (applyV (manyE x) (recN x)).Perm (applyV (ofK manyL x) (manyL.getD x T_Rec.dflt))
      rw [ofK_many x hx, many_get hlt]
  · have hx2 : x = 1024 := by have := geN15 (n := 1024) q; omega
    subst hx2
    have hE := ofK_ok manyL 1024
    have hP := paths_K manyL 1024
    have hK := keysN_ofK manyL 1024
    rw [ofK_many 1024 (Nat.le_refl _)] at hE hP hK ⊢
    rw [more_apply]
    have hE2 := okF_apply (r := p5R) hE
    refine ⟨okF_N hE, okF_N hE, okF_N hE2, fun _ => ⟨⟨okF_N hE2, paths_apply hP⟩, ?_⟩, fun q2 => ?_⟩
    · rw [listV_len, p5_len]; rfl
    · have e5 : statV (applyV (manyE 1024) p5R) [112#8, 53#8] = (fileOf p5R, 0) := stat_put p5_may rfl rfl
      rw [more_may, p5_may, e5] at q2
      exact absurd q2 (by decide)

theorem law15_number_spec : Vse.Spec P f_law15_number c_numM := spec_fn (l := []) trivial h_law15_number rfl rfl fun x h _ => by
  obtain ⟨i, u⟩ := x
  obtain ⟨h1, h2⟩ : (0 : Int) ≤ i ∧ i ≤ 1000000 := h
  obtain ⟨n, rfl⟩ := Int.eq_ofNat_of_zero_le h1
  have h3 : n ≤ 1000000 := by
    have h2 : (n : Int) ≤ 1000000 := h2
    omega
  exact body_ok (an_num n) (law15_number_vc n h3) (by kernel_rfl)
theorem law15_NamesMany_spec : Vse.Spec P f_law15_NamesMany (c_lw15 [.i64]) :=
  spec_fn (l := [(f_law15_alive, c_nAlive), (f_names_New, c_nNew), (f_law15_number, c_numM), (f_names_Names_Apply, c_nApply), (f_names_Names_Stat, c_nStat), (f_names_Names_List, c_nList)])
    ⟨law15_alive_spec, names_New_spec, law15_number_spec, names_Apply_spec, names_Stat_spec, names_List_spec, trivial⟩ h_law15_NamesMany rfl rfl
    fun x _ _ => body_ok an_Many (law15_NamesMany_vc x.1) (by kernel_rfl)
end Go.Sal
