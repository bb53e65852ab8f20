/- The end of a law's proof: out of its contract, what the statement's row asks. -/
import Derived.Test.YtdddnamfecgkeaaDoorWVseTyped
import Derived.WalkKit
import Derived.ProofKit
import Derived.OpenShut
import Derived.JoinedCond
import Derived.ReadAgain
import Derived.ChangeCalls
namespace Go.Vse
open Go.ChangeShapes Go.WideShapes Go.ChangeAt Go.RowKit

def memOf (w : World) : Mem := fun b o => w.cell? ⟨b, o, none⟩
theorem memOf_ok (w : World) : memOk (memOf w) w := fun _ _ _ h => h

def foldL : List T → T
 | [] => .unit
 | [c] => c
 | c :: r => .pair c (foldL r)
theorem foldL_cons {H : Mem} (c : T) (r : List T) {x : c.den} {y : (foldL r).den} {a b : List Value} (h1 : eltRel H c x a) (h2 : eltRel H (foldL r) y b) : ∃ z : (foldL (c :: r)).den, eltRel H (foldL (c :: r)) z (a ++ b) := by
 cases r with
 | nil =>
   have : b = [] := h2
   subst this
   exact ⟨x, by rw [List.append_nil]; exact h1⟩
 | cons d r => exact ⟨(x, y), a, b, rfl, h1, h2⟩
theorem foldL_append {H : Mem} : ∀ (l m : List T) {x : (foldL l).den} {y : (foldL m).den} {a b : List Value}, eltRel H (foldL l) x a → eltRel H (foldL m) y b → ∃ z : (foldL (l ++ m)).den, eltRel H (foldL (l ++ m)) z (a ++ b)
 | [], m, x, y, a, b, h1, h2 => by
   have : a = [] := h1
   subst this
   exact ⟨y, by simpa using h2⟩
 | [c], m, x, y, a, b, h1, h2 => foldL_cons c m h1 h2
 | c :: d :: r, m, x, y, a, b, h1, h2 => by
   obtain ⟨a1, a2, rfl, h3, h4⟩ := h1
   obtain ⟨z, hz⟩ := foldL_append (d :: r) m h4 h2
   obtain ⟨z', hz'⟩ := foldL_cons c ((d :: r) ++ m) h3 hz
   exact ⟨z', by simpa [List.append_assoc] using hz'⟩
theorem foldL_size : ∀ (l m : List T), (foldL (l ++ m)).size = (foldL l).size + (foldL m).size
 | [], m => by simp [foldL, T.size]
 | [c], [] => by simp [foldL, T.size]
 | [c], d :: m => by simp [foldL, T.size]
 | c :: d :: r, m => by
   have := foldL_size (d :: r) m
   simp only [List.cons_append, foldL, T.size] at this ⊢
   omega

def fieldLeaves (f : TypeId → Option (List T)) (P : Program) : Nat → List Field → Option (List T)
 | _, [] => some []
 | off, fd :: r => match f fd.type with
   | some l => bif Nat.beq fd.offset off && Nat.beq (P.cellsOf fd.type) (foldL l).size then (match fieldLeaves f P (off + (foldL l).size) r with
     | some m => some (l ++ m)
     | none => none) else none
   | none => none
def leavesT (P : Program) : Nat → TypeId → Option (List T)
 | 0, _ => none
 | k + 1, t => match P.underlying t with
   | some .bool => some [.bool]
   | some (.int .u8) => some [.u8]
   | some (.int .u16) => some [.u16]
   | some (.int .u32) => some [.u32]
   | some (.int .u64) => some [.u64]
   | some (.int .i64) => some [.i64]
   | some .string => some [.str]
   | some (.slice e) => match leavesT P k e with
     | some l => bif Nat.beq (P.cellsOf e) (foldL l).size && Nat.ble 1 (foldL l).size then some [.slc (foldL l)] else none
     | none => none
   | some (.array n e) => match leavesT P k e with
     | some l => bif Nat.beq (P.cellsOf e) (foldL l).size && Nat.beq (P.cellsOf t) (n * (foldL l).size) then some [.arr n (foldL l)] else none
     | none => none
   | some (.struct fs) => match fieldLeaves (leavesT P k) P 0 fs.toList with
     | some l => bif Nat.beq (P.cellsOf t) (foldL l).size then some l else none
     | none => none
   | _ => none

variable {H : Type} {enc : TypeId × Value → H} {P : Program} {w : World} {sp : Nat → Bool}

theorem bytes_toBA (s : ByteArray) : toBA (bytesOf s) = s := by
 apply WideShapes.bytes_inj
 have : ∀ l : List UInt8, l.map (UInt8.ofBitVec ∘ fun x => x.toBitVec) = l := fun l => by
  induction l with
  | nil => rfl
  | cons a r ih => simp [ih]
 simp [toBA, bytesOf, List.map_map, this]
theorem bytesOf_length (s : ByteArray) : (bytesOf s).length = s.size := by
 show (s.data.toList.map _).length = s.data.size
 rw [List.length_map, Array.length_toList]

theorem cells_mem {a : Addr} {n : Nat} {cs : List Value} (h : w.cells? 0 a n = some cs) : cs.length = n ∧ ∀ i, i < n → w.cell? (a.add i) = cs[i]? := by
 unfold World.cells? at h
 rw [if_pos (Nat.zero_le _)] at h
 have hl : cs.length = n := by simpa using mapM_some_length h
 exact ⟨hl, fun i hi => mapM_some_get h i i (by simp [hi])⟩

theorem u_rel {k : IntKind} {n : Int} {b : Nat} (hk : (Lit.int k n).wf = true) (hs : k.signed = false) (hb : k.bits = b) : ∃ x : BitVec b, n = (x.toNat : Int) := by
 simp only [Lit.wf, IntKind.min, IntKind.max, hs, hb, Bool.and_eq_true, decide_eq_true_eq, Bool.false_eq_true, if_false] at hk
 obtain ⟨m, rfl⟩ := Int.eq_ofNat_of_zero_le hk.1
 refine ⟨BitVec.ofNat b m, ?_⟩
 have : m < 2 ^ b := by
  have h2 := hk.2
  have e : ((2 ^ b : Nat) : Int) = (2 : Int) ^ b := by simp
  omega
 rw [BitVec.toNat_ofNat, Nat.mod_eq_of_lt this]

theorem add_add' (a : Addr) (m n : Nat) : (a.add m).add n = a.add (m + n) := by
 unfold Addr.add
 by_cases hm : m = 0 <;> by_cases hn : n = 0 <;> simp [hm, hn, Nat.add_assoc]
theorem spot_none {a : Addr} {v : Value} (h : w.cell? a = some v) : a.spot = none := by
 unfold World.cell? at h
 split at h
 · split at h
   · cases h
   · rename_i hs; simpa using hs
 · cases h
theorem rows_of {c : T} {a : Addr} : ∀ n : Nat, (∀ i, i < n → ∃ (cs : List Value) (y : c.den), w.cells? 0 (a.add (i * c.size)) c.size = some cs ∧ eltRel (memOf w) c y cs) →
 ∃ (ys : List c.den) (cs : List Value), ys.length = n ∧ cs.length = n * c.size ∧ rowRel (eltRel (memOf w) c) ys cs ∧ ∀ j, j < n * c.size → w.cell? (a.add j) = cs[j]?
 | 0, _ => ⟨[], [], rfl, by simp, rfl, fun j hj => by simp at hj⟩
 | n + 1, h => by
   obtain ⟨ys, cs, h1, h2, h3, h4⟩ := rows_of n fun i hi => h i (by omega)
   obtain ⟨cs', y, h5, h6⟩ := h n (by omega)
   obtain ⟨h7, h8⟩ := cells_mem h5
   refine ⟨ys ++ [y], cs ++ cs', by simp [h1], by simp [h2, h7, Nat.add_mul], rowRel_append.2 ⟨cs, cs', rfl, h3, cs', [], by simp, h6, rfl⟩, fun j hj => ?_⟩
   by_cases hlt : j < n * c.size
   · rw [List.getElem?_append_left (by omega)]; exact h4 j hlt
   · rw [List.getElem?_append_right (by omega), h2]
     have := h8 (j - n * c.size) (by rw [Nat.add_mul] at hj; omega)
     rw [add_add'] at this
     rw [← this]
     congr 2
     omega
theorem chunks_of {c : T} {Hm : Mem} : ∀ (n : Nat) (cs : List Value), cs.length = n * c.size → (∀ i, i < n → ∃ y : c.den, eltRel Hm c y ((cs.drop (i * c.size)).take c.size)) → ∃ ys : List c.den, ys.length = n ∧ rowRel (eltRel Hm c) ys cs
 | 0, cs, h, _ => by
   have h : cs = [] := by simpa using h
   subst h
   exact ⟨[], rfl, rfl⟩
 | n + 1, cs, h, hc => by
   obtain ⟨y, hy⟩ := hc 0 (by omega)
   simp at hy
   obtain ⟨ys, h1, h2⟩ := chunks_of (c := c) (Hm := Hm) n (cs.drop c.size) (by rw [List.length_drop, h, Nat.add_mul]; omega) fun i hi => by
    obtain ⟨y, hy⟩ := hc (i + 1) (by omega)
    refine ⟨y, ?_⟩
    rw [List.drop_drop]
    rw [Nat.add_mul, Nat.one_mul] at hy
    rwa [Nat.add_comm]
   exact ⟨y :: ys, by simp [h1], cs.take c.size, cs.drop c.size, by simp, hy, h2⟩
theorem fields_of {Hm : Mem} {k : Nat} (ih : ∀ (t : TypeId) (l : List T), leavesT P k t = some l → ∀ cs, (∃ (fuel : Nat) (x : DataW H × List MemPlace), DataW.trod enc P w 0 (fun _ => true) true fuel t cs = some x) → ∃ y : (foldL l).den, eltRel Hm (foldL l) y cs) :
 ∀ (fs : List Field) (off : Nat) (l : List T), fieldLeaves (leavesT P k) P off fs = some l → ∀ cs : List Value, off + (foldL l).size ≤ cs.length →
  (∀ f ∈ fs, ∃ (fuel : Nat) (x : DataW H × List MemPlace), DataW.trod enc P w 0 (fun _ => true) true fuel f.type ((cs.drop f.offset).take (P.cellsOf f.type)) = some x) →
  ∃ y : (foldL l).den, eltRel Hm (foldL l) y ((cs.drop off).take (foldL l).size)
 | [], off, l, h, cs, hl, _ => by
   simp [fieldLeaves] at h; subst h
   exact ⟨(), by simp [foldL, T.size, eltRel]⟩
 | fd :: r, off, l, h, cs, hl, hf => by
   simp only [fieldLeaves] at h
   split at h
   · rename_i l1 h1
     cases hb : (Nat.beq fd.offset off && Nat.beq (P.cellsOf fd.type) (foldL l1).size) with
     | false => rw [hb] at h; simp at h
     | true =>
       rw [hb] at h
       simp only [Bool.and_eq_true] at hb
       have e1 := Nat.eq_of_beq_eq_true hb.1
       have e2 := Nat.eq_of_beq_eq_true hb.2
       simp only [cond_true] at h
       split at h
       · rename_i m hm
         simp at h; subst h
         rw [foldL_size] at hl ⊢
         obtain ⟨y1, hy1⟩ := ih fd.type l1 h1 _ (hf fd (by simp))
         obtain ⟨y2, hy2⟩ := fields_of ih r _ m hm cs (by omega) fun f hf' => hf f (by simp [hf'])
         rw [e1, e2] at hy1
         obtain ⟨z, hz⟩ := foldL_append l1 m hy1 hy2
         refine ⟨z, ?_⟩
         rw [List.take_add]
         rwa [List.drop_drop]
       · cases h
   · cases h

theorem read_T : ∀ (k : Nat) (t : TypeId) (l : List T), leavesT P k t = some l → ∀ (cs : List Value), (∃ (fuel : Nat) (x : DataW H × List MemPlace), DataW.trod enc P w 0 (fun _ => true) true fuel t cs = some x) → ∃ y : (foldL l).den, eltRel (memOf w) (foldL l) y cs := by
 intro k
 induction k with
 | zero => intro t l h; simp [leavesT] at h
 | succ k ih =>
   rintro t l h cs ⟨fuel, x, hx⟩
   cases fuel with
   | zero => simp [DataW.trod] at hx
   | succ fuel =>
     simp only [leavesT] at h
     rw [DataW.trod_step] at hx
     unfold DataW.trodStep at hx
     split at h
     · rename_i hu
       simp at h; subst h
       rw [hu] at hx
       cases cs with
       | nil => simp at hx
       | cons v r =>
         cases r with
         | cons v2 r => cases v <;> simp at hx
         | nil =>
           cases v <;> simp at hx
           exact ⟨_, rfl⟩
     · rename_i hu
       simp at h; subst h
       rw [hu] at hx
       cases cs with
       | nil => simp at hx
       | cons v r =>
         cases r with
         | cons v2 r => cases v <;> simp at hx
         | nil =>
           cases v <;> simp at hx
           obtain ⟨⟨rfl, hw⟩, _⟩ := hx
           obtain ⟨x, rfl⟩ := u_rel (b := 8) hw rfl rfl
           exact ⟨x, rfl⟩
     · rename_i hu
       simp at h; subst h
       rw [hu] at hx
       cases cs with
       | nil => simp at hx
       | cons v r =>
         cases r with
         | cons v2 r => cases v <;> simp at hx
         | nil =>
           cases v <;> simp at hx
           obtain ⟨⟨rfl, hw⟩, _⟩ := hx
           obtain ⟨x, rfl⟩ := u_rel (b := 16) hw rfl rfl
           exact ⟨x, rfl⟩
     · rename_i hu
       simp at h; subst h
       rw [hu] at hx
       cases cs with
       | nil => simp at hx
       | cons v r =>
         cases r with
         | cons v2 r => cases v <;> simp at hx
         | nil =>
           cases v <;> simp at hx
           obtain ⟨⟨rfl, hw⟩, _⟩ := hx
           obtain ⟨x, rfl⟩ := u_rel (b := 32) hw rfl rfl
           exact ⟨x, rfl⟩
     · rename_i hu
       simp at h; subst h
       rw [hu] at hx
       cases cs with
       | nil => simp at hx
       | cons v r =>
         cases r with
         | cons v2 r => cases v <;> simp at hx
         | nil =>
           cases v <;> simp at hx
           obtain ⟨⟨rfl, hw⟩, _⟩ := hx
           obtain ⟨x, rfl⟩ := u_rel (b := 64) hw rfl rfl
           exact ⟨x, rfl⟩
     · rename_i hu
       simp at h; subst h
       rw [hu] at hx
       cases cs with
       | nil => simp at hx
       | cons v r =>
         cases r with
         | cons v2 r => cases v <;> simp at hx
         | nil =>
           cases v <;> simp at hx
           obtain ⟨⟨rfl, hw⟩, _⟩ := hx
           refine ⟨_, rfl, ?_⟩
           simpa [Lit.wf, IntKind.min, IntKind.max, IntKind.signed, IntKind.bits, inI64] using hw
     · rename_i hu
       simp at h; subst h
       rw [hu] at hx
       cases cs with
       | nil => simp at hx
       | cons v r =>
         cases r with
         | cons v2 r => cases v <;> simp at hx
         | nil =>
           cases v <;> simp at hx
           rename_i s
           exact ⟨bytesOf s, by rw [bytes_toBA], by rw [bytesOf_length]; have h2 := hx.1; unfold maxLen at h2; unfold LIM; omega⟩
     · rename_i e hu
       split at h
       · rename_i le hle
         cases hb : (Nat.beq (P.cellsOf e) (foldL le).size && Nat.ble 1 (foldL le).size) with
         | false => rw [hb] at h; simp at h
         | true =>
           rw [hb] at h; simp at h; subst h
           simp only [Bool.and_eq_true] at hb
           have e1 := Nat.eq_of_beq_eq_true hb.1
           have e2 := Nat.le_of_ble_eq_true hb.2
           rw [hu] at hx
           cases cs with
           | nil => simp at hx
           | cons v r =>
             cases r with
             | cons v2 r => cases v <;> simp at hx
             | nil =>
               cases v <;> simp at hx
               rename_i a len cap
               cases a with
               | none =>
                 cases len <;> cases cap <;> simp at hx
                 exact ⟨[], _, rfl, by simp, .inl ⟨rfl, .inl rfl⟩⟩
               | some a =>
                 simp only at hx
                 split at hx
                 · rename_i hcap
                   simp only [Option.bind_eq_some_iff, Option.map_eq_some_iff] at hx
                   obtain ⟨elems, hel, rest, hrest, _⟩ := hx
                   have hlen : elems.length = len := by simpa using mapM_some_length hel
                   have hone : ∀ i, i < len → ∃ (cs : List Value) (y : (foldL le).den), w.cells? 0 (a.add (i * (foldL le).size)) (foldL le).size = some cs ∧ eltRel (memOf w) (foldL le) y cs := by
                    intro i hi
                    have := mapM_some_get hel i i (by simp [hi])
                    rw [List.getElem?_eq_getElem (by omega), e1] at this
                    simp only [Option.bind_eq_some_iff] at this
                    obtain ⟨cs, hcs, hr⟩ := this
                    obtain ⟨y, hy⟩ := ih e le hle cs ⟨fuel, _, hr⟩
                    exact ⟨cs, y, hcs, hy⟩
                   obtain ⟨ys, cs, h1, h2, h3, h4⟩ := rows_of len hone
                   have hmax : len ≤ 9223372036854775807 := by have := hcap.1; have := hcap.2; unfold maxLen at this; omega
                   refine ⟨ys, _, rfl, by rw [h1]; exact hmax, ?_⟩
                   have hsp : 0 < cap → a.spot = none := by
                    intro hc
                    by_cases h0 : 0 < len
                    · have := h4 0 (Nat.mul_pos h0 e2)
                      rw [List.getElem?_eq_getElem (by rw [h2]; exact Nat.mul_pos h0 e2)] at this
                      have := spot_none this
                      simpa [Addr.add] using this
                    · have h0 : len = 0 := by omega
                      subst h0
                      have hrl : rest.length = cap := by simpa using mapM_some_length hrest
                      have := mapM_some_get hrest 0 0 (by simp; exact List.getElem?_range hc)
                      have hr0 : rest[0]? = some (rest[0]'(by rw [hrl]; exact hc)) := List.getElem?_eq_getElem _
                      rw [hr0, e1] at this
                      simp only [Option.bind_eq_some_iff] at this
                      obtain ⟨cs', hcs', _⟩ := this
                      obtain ⟨g1, g2⟩ := cells_mem hcs'
                      have g3 := g2 0 (by omega)
                      rw [List.getElem?_eq_getElem (by omega)] at g3
                      have := spot_none g3
                      simpa [Addr.add] using this
                   by_cases hc : 0 < cap
                   · have hs := hsp hc
                     obtain ⟨b, off, spot⟩ := a
                     simp only at hs; subst hs
                     refine .inr ⟨b, off, cap, cs, by rw [h1], by rw [h1]; exact hcap.1, h3, fun j hj => ?_⟩
                     have := h4 j (by omega)
                     rw [← this]
                     unfold memOf Addr.add
                     by_cases hj0 : j = 0
                     · subst hj0; simp
                     · simp [hj0]
                   · have hc0 : cap = 0 := by omega
                     have hl0 : len = 0 := by have := hcap.1; omega
                     subst hc0; subst hl0
                     exact .inl ⟨List.eq_nil_of_length_eq_zero h1, .inr ⟨a, rfl⟩⟩
                 · cases hx
       · cases h
     · rename_i n e hu
       split at h
       · rename_i le hle
         cases hb : (Nat.beq (P.cellsOf e) (foldL le).size && Nat.beq (P.cellsOf t) (n * (foldL le).size)) with
         | false => rw [hb] at h; simp at h
         | true =>
           rw [hb] at h; simp at h; subst h
           simp only [Bool.and_eq_true] at hb
           have e1 := Nat.eq_of_beq_eq_true hb.1
           have e2 := Nat.eq_of_beq_eq_true hb.2
           rw [hu] at hx
           simp only at hx
           split at hx
           · rename_i hl
             simp only [Option.map_eq_some_iff] at hx
             obtain ⟨xs, hxs, _⟩ := hx
             have hxl : xs.length = n := by simpa using mapM_some_length hxs
             obtain ⟨ys, h1, h2⟩ := chunks_of (c := foldL le) (Hm := memOf w) n cs (by rw [hl, e2]) fun i hi => by
              have := mapM_some_get hxs i i (by simp [hi])
              rw [List.getElem?_eq_getElem (by omega), e1] at this
              exact ih e le hle _ ⟨fuel, _, this⟩
             exact ⟨ys, h1, h2⟩
           · cases hx
       · cases h
     · rename_i fs hu
       split at h
       · rename_i l' hl'
         cases hb : Nat.beq (P.cellsOf t) (foldL l').size with
         | false => rw [hb] at h; simp at h
         | true =>
           rw [hb] at h; simp at h; subst h
           have e1 := Nat.eq_of_beq_eq_true hb
           rw [hu] at hx
           simp only at hx
           split at hx
           · rename_i hl
             simp only [Option.map_eq_some_iff] at hx
             obtain ⟨xs, hxs, _⟩ := hx
             have hxl := mapM_some_length hxs
             have := fields_of (enc := enc) (w := w) (P := P) (Hm := memOf w) (k := k) ih fs.toList 0 l' hl' cs (by omega) fun f hf => by
              obtain ⟨i, hi, rfl⟩ := List.getElem_of_mem hf
              have := mapM_some_get hxs i _ (List.getElem?_eq_getElem hi)
              rw [List.getElem?_eq_getElem (by omega)] at this
              exact ⟨fuel, _, this⟩
             rwa [List.drop_zero, ← e1, ← hl, List.take_length] at this
           · cases hx
       · cases h
     · cases h

/-! ### the arguments, as a contract has them -/
def aggT : T → Bool
 | .arr _ _ | .pair _ _ => true
 | _ => false
def shapeB (P : Program) (t : TypeId) (c : T) : Bool := match P.underlying t with
 | some (.struct _) | some (.array _ _) => aggT c
 | _ => !aggT c
def ParamAs (P : Program) (t : TypeId) (c : T) : Prop := ∃ k l, leavesT P k t = some l ∧ foldL l = c ∧ shapeB P t c = true
def ParamsAs (P : Program) : List TypeId → List T → Prop
 | [], [] => True
 | t :: ts, c :: cs => ParamAs P t c ∧ ParamsAs P ts cs
 | _, _ => False

def paramB (P : Program) (k : Nat) (t : TypeId) (c : T) : Bool := match leavesT P k t with
 | some l => decide (foldL l = c) && shapeB P t c
 | none => false
def paramsB (P : Program) (k : Nat) : List TypeId → List T → Bool
 | [], [] => true
 | t :: ts, c :: cs => paramB P k t c && paramsB P k ts cs
 | _, _ => false
theorem params_as {P : Program} (k : Nat) : ∀ {ts : List TypeId} {cs : List T}, paramsB P k ts cs = true → ParamsAs P ts cs
 | [], [], _ => trivial
 | [], _ :: _, h => by cases h
 | _ :: _, [], h => by cases h
 | t :: ts, c :: cs, h => by
   simp only [paramsB, Bool.and_eq_true] at h
   refine ⟨?_, params_as k h.2⟩
   have h1 := h.1
   unfold paramB at h1
   split at h1
   · rename_i l hl
     simp only [Bool.and_eq_true, decide_eq_true_eq] at h1
     exact ⟨k, l, hl, h1.1, h1.2⟩
   · cases h1

theorem arg_rel {t : TypeId} {c : T} (h : ParamAs P t c) {W : World} {base : Nat} {v : Value} {d : DataW H} {ps : List MemPlace} (hv : Value.okWide P W .any base t v)
 (ht : DataW.Trod enc P W 0 (fun _ => true) true t v d ps) : ∃ x : c.den, ∀ ρ, svRel (memOf W) ρ (svOfT c x) v := by
 obtain ⟨k, l, hl, rfl, hs⟩ := h
 obtain ⟨fuel, hfu⟩ := ht
 obtain ⟨y, hy⟩ := read_T k t l hl _ ⟨fuel, _, hfu⟩
 refine ⟨y, fun ρ => ?_⟩
 generalize foldL l = c at *
 by_cases ha : aggT c = true
 · have : ∃ cs, v = .agg cs := by
     unfold shapeB at hs
     unfold Value.okWide at hv
     split at hs
     · rename_i hu; rw [hu] at hv; obtain ⟨cs, h, _⟩ := hv; exact ⟨cs, h⟩
     · rename_i hu; rw [hu] at hv; obtain ⟨cs, h, _⟩ := hv; exact ⟨cs, h⟩
     · simp [ha] at hs
   obtain ⟨cs, rfl⟩ := this
   have hy : eltRel (memOf W) c y cs.toList := hy
   have h2 : svRel (memOf W) ρ (.agg (ofRuns (Vse.enc c y))) (.agg cs) := ⟨cs.toList, by simp, scsRel_ofRuns.2 ((enc_rel c y _).2 hy)⟩
   cases c <;> first | exact h2 | simp [aggT] at ha
 · have hn : ∀ cs, v ≠ .agg cs := by
     rintro cs rfl
     unfold shapeB at hs
     unfold Value.okWide at hv
     split at hs
     · exact ha hs
     · exact ha hs
     · rename_i h1 h2
       split at hv
       · rename_i hu; exact h1 _ hu
       · rename_i hu; exact h2 _ _ hu
       · unfold Cell.okWide at hv
         split at hv <;> first | (rename_i h; cases h) | skip
         all_goals (unfold Cell.ok at hv; split at hv <;> simp_all)
   have hc : v.cells.toList = [v] := by
    cases v <;> first | rfl | exact absurd rfl (hn _)
   rw [hc] at hy
   cases c <;> first
    | (exact absurd rfl ha)
    | (have hy : [v] = [_] := hy; simp at hy; exact hy)
    | (obtain ⟨hy, h2⟩ := hy; simp at hy; exact ⟨hy, h2⟩)
    | (have hy : [v] = [] := hy; simp at hy)
    | (obtain ⟨v', hy, h2⟩ := hy; simp at hy; subst hy; exact h2)

theorem args_rel {W : World} {base : Nat} : ∀ {ts : List TypeId} {cs : List T}, ParamsAs P ts cs → ∀ {vs : List Value} {ds : List (DataW H)} {ps : List MemPlace},
 (∀ (j : Nat) t v, ts[j]? = some t → vs[j]? = some v → Value.okWide P W .any base t v) → DataW.TrodAll enc P W 0 (fun _ => true) true ts vs ds ps → ∃ x : dens cs, datsRel (memOf W) (svsOf cs x) vs
 | [], [], _, vs, ds, ps, _, h => by
   cases vs with
   | nil => exact ⟨(), rfl⟩
   | cons v r => cases ds <;> exact absurd h (by simp [DataW.TrodAll])
 | t :: ts, c :: cs, ⟨h1, h2⟩, vs, ds, ps, hv, h => by
   cases vs with
   | nil => cases ds <;> exact absurd h (by simp [DataW.TrodAll])
   | cons v r =>
     cases ds with
     | nil => exact absurd h (by simp [DataW.TrodAll])
     | cons d ds =>
       obtain ⟨p, q, h3, h4, _⟩ := h
       obtain ⟨x, hx⟩ := arg_rel h1 (hv 0 t v rfl rfl) h3
       obtain ⟨y, hy⟩ := args_rel h2 (fun j t v ht hv' => hv (j + 1) t v ht hv') h4
       exact ⟨(x, y), v, r, rfl, hx, hy⟩
 | [], _ :: _, h, _, _, _, _, _ => h.elim
 | _ :: _, [], h, _, _, _, _, _ => h.elim

/-! ### what is read behind the call -/
theorem trodAll_carry {W W' : World} {base : Nat} {held : Bool} : ∀ {ts : List TypeId} {vs : List Value} {ds : List (DataW H)} {ps : List MemPlace}, DataW.TrodAll enc P W base sp held ts vs ds ps → (∀ p ∈ ps, W.sameAt W' p) → DataW.TrodAll enc P W' base sp held ts vs ds ps
 | [], [], [], _, h, _ => h
 | _ :: _, _ :: _, _ :: _, _, ⟨p, q, ⟨n, h1⟩, h2, e⟩, hs => ⟨p, q, ⟨n, DataW.trod_carry n _ _ _ h1 (fun x hx => hs x (by rw [e]; exact List.mem_append_left _ hx))⟩, trodAll_carry h2 (fun x hx => hs x (by rw [e]; exact List.mem_append_right _ hx)), e⟩
 | [], [], _ :: _, _, h, _ => h.elim
 | [], _ :: _, _, _, h, _ => by cases ‹List (DataW H)› <;> exact h.elim
 | _ :: _, [], _, _, h, _ => by cases ‹List (DataW H)› <;> exact h.elim
 | _ :: _, _ :: _, [], _, h, _ => h.elim

theorem same_at {W W' : World} (h : SameBut none W W') {p : MemPlace} (hp : p.block < W.heap.size) : W.sameAt W' p := by
 have := h.heap p.block hp (by simp)
 cases p with
 | cell b off =>
   show W'.cell? ⟨b, off, none⟩ = W.cell? ⟨b, off, none⟩
   unfold World.cell?
   have : W'.heap[b]? = W.heap[b]? := this
   simp only [this]
 | map b => exact this
theorem kept_of {W W' : World} {may : MemPlace → Prop} (h : SameBut none W W') : W.keptBut W' may := by
 refine ⟨h.os, h.output.1, fun i hi => ?_⟩
 rw [h.heap i hi (by simp)]
 split
 · rename_i h1 h2
   rw [h1] at h2
   cases h2
   exact ⟨rfl, rfl, rfl, fun _ _ => rfl⟩
 · rename_i h1 h2
   rw [h1] at h2
   cases h2
   exact .inr ⟨rfl, rfl⟩
 · rfl

/-! ### what is encoded is decoded -/
theorem dec1_of : ∀ (t : T) (x : t.den) (r : List Run), dec1 t (Vse.enc t x ++ r) = some (x, r) := by
 intro t
 induction t with
 | u8 | u16 | u32 | u64 | i64 | bool | str => intro x r; rfl
 | unit => intro x r; rfl
 | arr n t ih =>
   intro x r
   show (if h : t = t then bif Nat.beq n n then some (castL h x, r) else none else none) = _
   have : Nat.beq n n = true := Nat.beq_refl n
   rw [dif_pos rfl, this]
   rfl
 | slc t ih =>
   intro x r
   show (if h : t = t then some (castL h x, r) else none) = _
   rw [dif_pos rfl]
   rfl
 | pair a b iha ihb =>
   intro x r
   have e : Vse.enc (.pair a b) x ++ r = Vse.enc a x.1 ++ (Vse.enc b x.2 ++ r) := by simp [Vse.enc, app0_eq]
   rw [e]
   simp only [dec1, iha, ihb]
theorem runsOf_ofRuns : ∀ rs : List Run, runsOf (ofRuns rs) = some rs
 | [] => rfl
 | r :: rs => by
   have h := runsOf_ofRuns rs
   have e : ofRuns (r :: rs) = .run r :: ofRuns rs := by simp [ofRuns, mapL_eq]
   rw [e]
   simp only [runsOf, h]
theorem decCs_of (t : T) (x : t.den) : decCs t (ofRuns (Vse.enc t x)) = some x := by
 have := dec1_of t x []
 rw [List.append_nil] at this
 simp only [decCs, runsOf_ofRuns, this]
theorem decs_of : ∀ (cs : List T), (∀ c ∈ cs, c ≠ .unit) → ∀ x : dens cs, decs cs (svsOf cs x) = some x
 | [], _, _ => rfl
 | c :: cs, h, x => by
   have h1 : decArg c (svOfT c x.1) = some x.1 := by
    cases c with
    | u8 | u16 | u32 | u64 | i64 | bool | str => rfl
    | unit => exact absurd rfl (h _ (by simp))
    | slc t =>
      show (if h : t = t then some (castL h x.1) else none) = _
      rw [dif_pos rfl]
      rfl
    | arr n t => exact decCs_of (.arr n t) x.1
    | pair a b => exact decCs_of (.pair a b) x.1
   have h2 := decs_of cs (fun c hc => h c (by simp [hc])) x.2
   simp only [svsOf, decs, h1, h2]

theorem law_callsG {f : FuncId} {fn : Func} {ts : List T} (spec : Spec P f (D ts [.bool] (fun _ => none) (fun _ => (true, ())))) (hp : ParamsAs P fn.params.toList ts)
 {tb : TypeId} (hr : fn.resultTypes.toList = [tb]) (hb : P.underlying tb = some .bool)
 (k1 : laidOutB P = true) (k2 : mapsRowed P = true) (k3 : ((List.range P.types.size).all fun t => match P.underlying t with | some (.slice e) => decide (0 < P.cellsOf e) | _ => true) = true)
 (hu : ∀ c ∈ ts, c ≠ .unit) (hlt : (fn.params.toList.all fun t => decide (t < P.types.size)) = true)
 {s : ChangeSpec} (hv : s.vars = []) (hs : ∀ ds : List (DataW H), ds.length = fn.params.toList.length → s.fn H ds = { results := [.lit (.bool true)], args := ds })
 {W : World} {base : Nat} {args : Array Value} {ds gs : List (DataW H)} {before : List MemPlace}
 (hval : ∀ (j : Nat) t v, fn.params[j]? = some t → args[j]? = some v → Value.okWide P W .any base t v)
 (hW : DataW.Whole enc P fn.params.toList s.vars false W args.toList ds gs before) (hg : HasG P (memOf W)) :
 Calls P f args W fun e W' => ∃ v, e = .returned v ∧ s.post enc P fn false true false false W args v W' := by
 have hW' := hW
 obtain ⟨p, q, hA, hV, rfl, hfz, hnd⟩ := hW
 rw [hv] at hV
 obtain ⟨rfl, rfl⟩ := trodVars_none hV
 obtain ⟨x, hx⟩ := args_rel (base := base) hp (fun j t v h1 h2 => hval j t v (by simpa using h1) (by simpa using h2)) hA
 have hdec : (D ts [.bool] (fun _ => none) (fun _ => (true, ()))).ct (svsOf ts x) = some ⟨none, .sv (.dv (.bool true)), none, none⟩ := by
  have : decs ts (svsOf ts x) = some x := decs_of ts hu x
  simp only [D, cFn, this]
  rfl
 have hans := spec.does (memOf W) W (svsOf ts x) args.toList none _ hdec trivial ⟨rfl, hx⟩ (memOf_ok W) hg
 unfold Answers at hans
 have hlen : ds.length = fn.params.toList.length := (trodAll_length hA).2
 rw [show args.toList.toArray = args from by simp] at hans
 refine hans.mono fun e W' ⟨v, H', u, he, _, hsame, _, _, _, _, hout⟩ => ⟨v, he, ?_⟩
 have hv1 : v = .bool true := hout (fun _ => u) #[] rfl
 subst hv1
 have hpl : ∀ y ∈ p, y.block < W.heap.size := fun y hy => hW'.lt y (by simp [hy])
 have hA2 : DataW.TrodAll enc P W' 0 (fun b => decide (b < W.heap.size)) true fn.params.toList args.toList ds p :=
  trodAll_carry (DataW.TrodAll.respare (kids_rows k1 k2) (slices_full_of P k3) (fun t ht => by simpa using List.all_eq_true.1 hlt t ht) hA (fun y hy => by simpa using hpl y hy)) fun y hy => same_at hsame (hpl y hy)
 have hsz : fn.resultTypes.size = 1 := by rw [← Array.length_toList, hr]; rfl
 refine ⟨ds, [], p ++ [], [], p, [], hW', ?_, ?_, ?_, kept_of hsame, fun h => by cases h⟩
 · rw [show ds ++ [] = ds from List.append_nil _, hs ds hlen, hsz, hr]
   exact trodAll_cons_mk (p := []) (p' := []) ⟨1, by simp [DataW.trod, Value.cells, hb]⟩ trodAll_mk0
 · rw [show ds ++ [] = ds from List.append_nil _, hs ds hlen]; exact hA2
 · rw [show ds ++ [] = ds from List.append_nil _, hs ds hlen, hv]; rfl

end Go.Vse
