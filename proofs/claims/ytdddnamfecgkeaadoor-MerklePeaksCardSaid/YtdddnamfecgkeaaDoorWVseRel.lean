/- What symbolic values say of the machine's values; lemmas on rows and runs. -/
import Derived.Test.YtdddnamfecgkeaaDoorWVseExec
import Derived.Laws.AppendOwn
import Derived.Laws.CopyRow
import Derived.Laws.MakeOwn
import Derived.Laws.Entries
import Derived.Maps.RangeRun
namespace Go.Vse

abbrev Mem := Nat → Nat → Option Value
abbrev Lab := Nat → Option Value

def LIM : Nat := 9223372036854775807
def toBA (l : List (BitVec 8)) : ByteArray := ⟨(l.map UInt8.ofBitVec).toArray⟩

def rowRel {α : Type} (R : α → List Value → Prop) : List α → List Value → Prop
 | [], cs => cs = []
 | x :: xs, cs => ∃ a b, cs = a ++ b ∧ R x a ∧ rowRel R xs b

def cellsIn (H : Mem) (b off : Nat) (cs : List Value) : Prop := ∀ i, i < cs.length → H b (off + i) = cs[i]?

def noneV (v : Value) : Prop := v = .slice none 0 0 ∨ ∃ a, v = .slice (some a) 0 0
def sliceRel {α : Type} (H : Mem) (R : α → List Value → Prop) (xs : List α) (v : Value) : Prop :=
 xs.length ≤ LIM ∧ ((xs = [] ∧ noneV v) ∨
  ∃ b off cap cs, v = .slice (some ⟨b, off, none⟩) xs.length cap ∧ xs.length ≤ cap ∧ rowRel R xs cs ∧ cellsIn H b off cs)

def eltRel (H : Mem) : (t : T) → t.den → List Value → Prop
 | .u8, x, cs => cs = [.int .u8 (x.toNat : Int)]
 | .u16, x, cs => cs = [.int .u16 (x.toNat : Int)]
 | .u32, x, cs => cs = [.int .u32 (x.toNat : Int)]
 | .u64, x, cs => cs = [.int .u64 (x.toNat : Int)]
 | .i64, n, cs => cs = [.int .i64 n] ∧ inI64 n
 | .bool, b, cs => cs = [.bool b]
 | .str, l, cs => cs = [.string (toBA l)] ∧ l.length ≤ LIM
 | .unit, _, cs => cs = []
 | .arr n t, xs, cs => xs.length = n ∧ rowRel (eltRel H t) xs cs
 | .slc t, xs, cs => ∃ v, cs = [v] ∧ sliceRel H (eltRel H t) xs v
 | .pair a b, p, cs => ∃ c d, cs = c ++ d ∧ eltRel H a p.1 c ∧ eltRel H b p.2 d

def dvRel (H : Mem) : DV → Value → Prop
 | .u8 x, v => v = .int .u8 (x.toNat : Int)
 | .u16 x, v => v = .int .u16 (x.toNat : Int)
 | .u32 x, v => v = .int .u32 (x.toNat : Int)
 | .u64 x, v => v = .int .u64 (x.toNat : Int)
 | .i64 n, v => v = .int .i64 n ∧ inI64 n
 | .bool b, v => v = .bool b
 | .str l, v => v = .string (toBA l) ∧ l.length ≤ LIM
 | .nils _, v => v = .slice none 0 0
 | .imm t xs, v => sliceRel H (eltRel H t) xs v
 | .cst u, v => v = u ∧ isNilV u = true

def runRel (H : Mem) : Run → List Value → Prop
 | .one d, cs => ∃ v, cs = [v] ∧ dvRel H d v
 | .many t n xs, cs => xs.length = n ∧ rowRel (eltRel H t) xs cs
def runsRel (H : Mem) : List Run → List Value → Prop
 | [], cs => cs = []
 | r :: rs, cs => ∃ a b, cs = a ++ b ∧ runRel H r a ∧ runsRel H rs b

def pathOff : List Hop → Nat
 | [] => 0
 | h :: p => h.off + h.e * h.s + pathOff p
def litOk : List Hop → Prop
 | [] => True
 | h :: p => (h.lit = true → h.e < h.n) ∧ litOk p

def datV (H : Mem) (agg : Bool) (t : T) (x : t.den) (v : Value) : Prop := ∃ cs, eltRel H t x cs ∧ (if agg = true then v = .agg cs.toArray else cs = [v])
def entRel (H : Mem) (ka : Bool) (kt : T) (va : Bool) (vt : T) : List (kt.den × vt.den) → List MapEntry → Prop
 | [], [] => True
 | p :: r, e :: s => datV H ka kt p.1 e.key ∧ datV H va vt p.2 e.val ∧ entRel H ka kt va vt r s
 | _, _ => False

def refRel (ρ : Lab) : Ref → Value → Prop
 | .cell l p off, v => ∃ b, ρ l = some (.pointer (some ⟨b, 0, none⟩)) ∧ v = .pointer (some ⟨b, pathOff p + off, none⟩) ∧ litOk p
 | .win l p off t start len n _, v => ∃ b cap, ρ l = some (.pointer (some ⟨b, 0, none⟩)) ∧ v = .slice (some ⟨b, pathOff p + off + start * t.size, none⟩) len cap ∧
     litOk p ∧ start + len ≤ n ∧ len ≤ cap ∧ len ≤ LIM
 | .map l, v => ∃ r, ρ l = some (.map (some r)) ∧ v = .map (some r)
 | .row l, v => ρ l = some v ∧ ∃ a n c, v = .slice a n c
 | .elt l p off, v => ∃ b n c, ρ l = some (.slice (some ⟨b, 0, none⟩) n c) ∧ v = .pointer (some ⟨b, pathOff p + off, none⟩) ∧ litOk p
 | .ewin l p off t start len n, v => ∃ b m c cap, ρ l = some (.slice (some ⟨b, 0, none⟩) m c) ∧ v = .slice (some ⟨b, pathOff p + off + start * t.size, none⟩) len cap ∧
     litOk p ∧ start + len ≤ n ∧ len ≤ cap ∧ len ≤ LIM
 | .cwin l n, v => ∃ b, ρ l = some (.pointer (some ⟨b, 0, none⟩)) ∧ v = .slice (some ⟨b, 0, none⟩) n n ∧ n ≤ LIM

def ownRel (H : Mem) (ρ : Lab) (k : Nat) (t : T) (xs : List t.den) (v : Value) : Prop :=
 ρ k = some v ∧ sliceRel H (eltRel H t) xs v ∧ (∀ a n c, v = .slice (some a) n c → a.off = 0)
def fullRel (H : Mem) (t : T) (xs : List t.den) (v : Value) : Prop :=
 sliceRel H (eltRel H t) xs v ∧ (∀ a n c, v = .slice (some a) n c → c = n)

def scRel (H : Mem) (ρ : Lab) : SC → List Value → Prop
 | .run r, cs => runRel H r cs
 | .ref r, cs => ∃ v, cs = [v] ∧ refRel ρ r v
 | .own k t xs, cs => ∃ v, cs = [v] ∧ ownRel H ρ k t xs v
def scsRel (H : Mem) (ρ : Lab) : List SC → List Value → Prop
 | [], cs => cs = []
 | r :: rs, cs => ∃ a b, cs = a ++ b ∧ scRel H ρ r a ∧ scsRel H ρ rs b

def capsRel (H : Mem) : List (List Run) → List Value → Prop
 | [], vs => vs = []
 | rs :: r, vs => ∃ b off cs w, vs = .pointer (some ⟨b, off, none⟩) :: w ∧ runsRel H rs cs ∧ cellsIn H b off cs ∧ capsRel H r w

def svRel (H : Mem) (ρ : Lab) : SV → Value → Prop
 | .dv d, v => dvRel H d v
 | .own k t xs, v => ownRel H ρ k t xs v
 | .full t xs, v => fullRel H t xs v
 | .ref r, v => refRel ρ r v
 | .ipt rs, v => ∃ b off cs, v = .pointer (some ⟨b, off, none⟩) ∧ runsRel H rs cs ∧ cellsIn H b off cs
 | .agg cs, v => ∃ vs : List Value, v = .agg vs.toArray ∧ scsRel H ρ cs vs
 | .yld k, v => ρ k = some v
 | .clr f cs, v => ∃ vs : List Value, v = .func (.func f) #[] vs.toArray ∧ scsRel H ρ cs vs
 | .clo f [], v => v = .func (.func f) #[] #[]
 | .clo f (c :: r), v => ∃ vs : List Value, v = .func (.func f) #[] vs.toArray ∧ capsRel H (c :: r) vs
 | .top, _ => True
def svsRel (H : Mem) (ρ : Lab) : List SV → List Value → Prop
 | [], vs => vs = []
 | s :: r, vs => ∃ v w, vs = v :: w ∧ svRel H ρ s v ∧ svsRel H ρ r w

def slRel (H : Mem) (ρ : Lab) (a : Array Value) : Sl → Value → Prop
 | .sv s, v => svRel H ρ s v
 | .tup ss, v => ∃ vs : List Value, v = .tuple vs.toArray ∧ svsRel H ρ ss vs
 | .cond g want s, v => (a[g]? = some (.bool want) → svRel H ρ s v) ∧ (a[g]? ≠ some (.bool want) → v = undef)
 | .un, _ => True

section rows
variable {α : Type} {R : α → List Value → Prop}

theorem rowRel_append {xs ys : List α} {cs : List Value} : rowRel R (xs ++ ys) cs ↔ ∃ a b, cs = a ++ b ∧ rowRel R xs a ∧ rowRel R ys b := by
 induction xs generalizing cs with
 | nil =>
   simp only [List.nil_append, rowRel]
   exact ⟨fun h => ⟨[], cs, rfl, rfl, h⟩, fun ⟨_, _, hab, ha, h⟩ => by subst ha; subst hab; simpa using h⟩
 | cons x xs ih =>
   simp only [List.cons_append, rowRel, ih]
   constructor
   · rintro ⟨a, _, rfl, hx, a', b', rfl, h1, h2⟩
     exact ⟨a ++ a', b', by simp, ⟨a, a', rfl, hx, h1⟩, h2⟩
   · rintro ⟨_, b, rfl, ⟨a, a', rfl, hx, h1⟩, h2⟩
     exact ⟨a, a' ++ b, by simp, hx, a', b, rfl, h1, h2⟩

theorem rowRel_length {s : Nat} (hs : ∀ x cs, R x cs → cs.length = s) {xs : List α} {cs : List Value} (h : rowRel R xs cs) : cs.length = xs.length * s := by
 induction xs generalizing cs with
 | nil => simp [rowRel] at h; simp [h]
 | cons x xs ih =>
   obtain ⟨a, b, rfl, hx, hr⟩ := h
   simp [hs x a hx, ih hr, Nat.add_mul, Nat.add_comm]

theorem rowRel_mono {R' : α → List Value → Prop} (hR : ∀ x cs, R x cs → R' x cs) {xs : List α} {cs : List Value} (h : rowRel R xs cs) : rowRel R' xs cs := by
 induction xs generalizing cs with
 | nil => exact h
 | cons x xs ih =>
   obtain ⟨a, b, rfl, hx, hr⟩ := h
   exact ⟨a, b, rfl, hR _ _ hx, ih hr⟩

theorem rowRel_take {s : Nat} (hs : ∀ x cs, R x cs → cs.length = s) {xs : List α} {cs : List Value} (h : rowRel R xs cs) (n : Nat) :
 rowRel R (xs.take n) (cs.take (n * s)) ∧ rowRel R (xs.drop n) (cs.drop (n * s)) := by
 have h' := h
 rw [← List.take_append_drop n xs, rowRel_append] at h'
 obtain ⟨a, b, rfl, h1, h2⟩ := h'
 have l1 := rowRel_length hs h1
 by_cases hn : n ≤ xs.length
 · have : a.length = n * s := by rw [l1, List.length_take, Nat.min_eq_left hn]
   rw [← this]; simp [h1, h2]
 · have hd : xs.drop n = [] := List.drop_eq_nil_of_le (by omega)
   rw [hd] at h2
   simp only [rowRel] at h2
   subst h2
   have : a.length ≤ n * s := by rw [l1]; exact Nat.mul_le_mul_right _ (List.length_take_le _ _)
   rw [List.append_nil, List.take_of_length_le this, List.drop_eq_nil_of_le this, hd]
   exact ⟨h1, rfl⟩

end rows

theorem eltRel_length {H : Mem} : ∀ (t : T) (x : t.den) (cs : List Value), eltRel H t x cs → cs.length = t.size
 | .u8, _, _, h => by simp only [eltRel] at h; subst h; rfl
 | .u16, _, _, h => by simp only [eltRel] at h; subst h; rfl
 | .u32, _, _, h => by simp only [eltRel] at h; subst h; rfl
 | .u64, _, _, h => by simp only [eltRel] at h; subst h; rfl
 | .i64, _, _, h => by simp only [eltRel] at h; rw [h.1]; rfl
 | .bool, _, _, h => by simp only [eltRel] at h; subst h; rfl
 | .str, _, _, h => by simp only [eltRel] at h; rw [h.1]; rfl
 | .unit, _, _, h => by simp only [eltRel] at h; subst h; rfl
 | .arr n t, xs, cs, h => by
   simp only [eltRel] at h
   have := rowRel_length (fun x cs hx => eltRel_length t x cs hx) h.2
   rw [this, h.1]; rfl
 | .slc t, _, _, h => by
   simp only [eltRel] at h
   obtain ⟨v, rfl, _⟩ := h; rfl
 | .pair a b, p, _, h => by
   simp only [eltRel] at h
   obtain ⟨c, d, rfl, h1, h2⟩ := h
   simp [eltRel_length a _ _ h1, eltRel_length b _ _ h2, T.size]

theorem runRel_length {H : Mem} {r : Run} {cs : List Value} (h : runRel H r cs) : cs.length = r.size := by
 cases r with
 | one d => obtain ⟨v, rfl, _⟩ := h; rfl
 | many t n xs => rw [rowRel_length (eltRel_length t) h.2, h.1]; rfl
theorem scRel_length {H : Mem} {ρ : Lab} {c : SC} {cs : List Value} (h : scRel H ρ c cs) : cs.length = c.size := by
 cases c with
 | run r => exact runRel_length h
 | ref r => obtain ⟨v, rfl, _⟩ := h; rfl
 | own k t xs => obtain ⟨v, rfl, _⟩ := h; rfl
theorem scsRel_length {H : Mem} {ρ : Lab} : ∀ {l : List SC} {cs : List Value}, scsRel H ρ l cs → cs.length = sizeL l
 | [], _, h => by simp only [scsRel] at h; subst h; rfl
 | c :: r, _, h => by
   obtain ⟨a, b, rfl, h1, h2⟩ := h
   simp [scRel_length h1, scsRel_length h2, sizeL]

def Mem.le (H H' : Mem) : Prop := ∀ b o v, H b o = some v → H' b o = some v
def Lab.le (ρ ρ' : Lab) : Prop := ∀ l v, ρ l = some v → ρ' l = some v
theorem Mem.le_refl (H : Mem) : H.le H := fun _ _ _ h => h
theorem Mem.le_trans {A B C : Mem} (h : A.le B) (h' : B.le C) : A.le C := fun b o v x => h' b o v (h b o v x)
theorem Lab.le_refl (ρ : Lab) : ρ.le ρ := fun _ _ h => h
theorem Lab.le_trans {A B C : Lab} (h : A.le B) (h' : B.le C) : A.le C := fun l v x => h' l v (h l v x)

theorem cellsIn_mono {H H' : Mem} (hH : H.le H') {b off : Nat} {cs : List Value} (h : cellsIn H b off cs) : cellsIn H' b off cs := by
 intro i hi
 have := h i hi
 rw [List.getElem?_eq_getElem hi] at this ⊢
 exact hH _ _ _ this
theorem sliceRel_mono {H H' : Mem} (hH : H.le H') {α : Type} {R R' : α → List Value → Prop} (hR : ∀ x cs, R x cs → R' x cs) {xs : List α} {v : Value}
 (h : sliceRel H R xs v) : sliceRel H' R' xs v := by
 obtain ⟨hl, h⟩ := h
 refine ⟨hl, ?_⟩
 rcases h with h | ⟨b, off, cap, cs, hv, hc, hr, hi⟩
 · exact .inl h
 · exact .inr ⟨b, off, cap, cs, hv, hc, rowRel_mono hR hr, cellsIn_mono hH hi⟩
theorem eltRel_mono {H H' : Mem} (hH : H.le H') : ∀ (t : T) (x : t.den) (cs : List Value), eltRel H t x cs → eltRel H' t x cs
 | .u8, _, _, h => h
 | .u16, _, _, h => h
 | .u32, _, _, h => h
 | .u64, _, _, h => h
 | .i64, _, _, h => h
 | .bool, _, _, h => h
 | .str, _, _, h => h
 | .unit, _, _, h => h
 | .arr n t, _, _, h => ⟨h.1, rowRel_mono (eltRel_mono hH t) h.2⟩
 | .slc t, _, _, h => by
   obtain ⟨v, hv, hs⟩ := h
   exact ⟨v, hv, sliceRel_mono hH (eltRel_mono hH t) hs⟩
 | .pair a b, _, _, h => by
   obtain ⟨c, d, hcd, h1, h2⟩ := h
   exact ⟨c, d, hcd, eltRel_mono hH a _ _ h1, eltRel_mono hH b _ _ h2⟩
theorem dvRel_mono {H H' : Mem} (hH : H.le H') {d : DV} {v : Value} (h : dvRel H d v) : dvRel H' d v := by
 cases d <;> first | exact h | exact sliceRel_mono hH (eltRel_mono hH _) h
theorem runRel_mono {H H' : Mem} (hH : H.le H') {r : Run} {cs : List Value} (h : runRel H r cs) : runRel H' r cs := by
 cases r with
 | one d => obtain ⟨v, hv, hd⟩ := h; exact ⟨v, hv, dvRel_mono hH hd⟩
 | many t n xs => exact ⟨h.1, rowRel_mono (eltRel_mono hH t) h.2⟩
theorem runsRel_mono {H H' : Mem} (hH : H.le H') : ∀ {rs : List Run} {cs : List Value}, runsRel H rs cs → runsRel H' rs cs
 | [], _, h => h
 | _ :: _, _, ⟨a, b, hab, h1, h2⟩ => ⟨a, b, hab, runRel_mono hH h1, runsRel_mono hH h2⟩
theorem refRel_mono {ρ ρ' : Lab} (hρ : ρ.le ρ') {r : Ref} {v : Value} (h : refRel ρ r v) : refRel ρ' r v := by
 cases r with
 | cell l p off => obtain ⟨b, h1, h2⟩ := h; exact ⟨b, hρ _ _ h1, h2⟩
 | win l p off t start len n lit => obtain ⟨b, cap, h1, h2⟩ := h; exact ⟨b, cap, hρ _ _ h1, h2⟩
 | map l => obtain ⟨r, h1, h2⟩ := h; exact ⟨r, hρ _ _ h1, h2⟩
 | row l => exact ⟨hρ _ _ h.1, h.2⟩
 | elt l p off => obtain ⟨b, n, c, h1, h2⟩ := h; exact ⟨b, n, c, hρ _ _ h1, h2⟩
 | ewin l p off t start len n => obtain ⟨b, m, c, cap, h1, h2⟩ := h; exact ⟨b, m, c, cap, hρ _ _ h1, h2⟩
 | cwin l n => obtain ⟨b, h1, h2⟩ := h; exact ⟨b, hρ _ _ h1, h2⟩
theorem datV_mono {H H' : Mem} (hH : H.le H') {agg : Bool} {t : T} {x : t.den} {v : Value} (h : datV H agg t x v) : datV H' agg t x v := by
 obtain ⟨cs, h1, h2⟩ := h; exact ⟨cs, eltRel_mono hH t _ _ h1, h2⟩
theorem entRel_mono {H H' : Mem} (hH : H.le H') {ka : Bool} {kt : T} {va : Bool} {vt : T} : ∀ {es : List (kt.den × vt.den)} {en : List MapEntry}, entRel H ka kt va vt es en → entRel H' ka kt va vt es en
 | [], [], h => h
 | _ :: _, _ :: _, ⟨h1, h2, h3⟩ => ⟨datV_mono hH h1, datV_mono hH h2, entRel_mono hH h3⟩
 | [], _ :: _, h => h.elim
 | _ :: _, [], h => h.elim
theorem ownRel_mono {H H' : Mem} (hH : H.le H') {ρ ρ' : Lab} (hρ : ρ.le ρ') {k : Nat} {t : T} {xs : List t.den} {v : Value} (h : ownRel H ρ k t xs v) : ownRel H' ρ' k t xs v :=
 ⟨hρ _ _ h.1, sliceRel_mono hH (eltRel_mono hH t) h.2.1, h.2.2⟩
theorem scRel_mono {H H' : Mem} (hH : H.le H') {ρ ρ' : Lab} (hρ : ρ.le ρ') {c : SC} {cs : List Value} (h : scRel H ρ c cs) : scRel H' ρ' c cs := by
 cases c with
 | run r => exact runRel_mono hH h
 | ref r => obtain ⟨v, hv, hr⟩ := h; exact ⟨v, hv, refRel_mono hρ hr⟩
 | own k t xs => obtain ⟨v, hv, hr⟩ := h; exact ⟨v, hv, ownRel_mono hH hρ hr⟩
theorem scsRel_mono {H H' : Mem} (hH : H.le H') {ρ ρ' : Lab} (hρ : ρ.le ρ') : ∀ {l : List SC} {cs : List Value}, scsRel H ρ l cs → scsRel H' ρ' l cs
 | [], _, h => h
 | _ :: _, _, ⟨a, b, hab, h1, h2⟩ => ⟨a, b, hab, scRel_mono hH hρ h1, scsRel_mono hH hρ h2⟩
theorem capsRel_mono {H H' : Mem} (hH : H.le H') : ∀ {l : List (List Run)} {vs : List Value}, capsRel H l vs → capsRel H' l vs
 | [], _, h => h
 | _ :: _, _, ⟨b, off, cs, w, hv, h1, h2, h3⟩ => ⟨b, off, cs, w, hv, runsRel_mono hH h1, cellsIn_mono hH h2, capsRel_mono hH h3⟩
theorem svRel_mono {H H' : Mem} (hH : H.le H') {ρ ρ' : Lab} (hρ : ρ.le ρ') {s : SV} {v : Value} (h : svRel H ρ s v) : svRel H' ρ' s v := by
 cases s with
 | dv d => exact dvRel_mono hH h
 | own k t xs => exact ownRel_mono hH hρ h
 | full t xs => exact ⟨sliceRel_mono hH (eltRel_mono hH t) h.1, h.2⟩
 | ref r => exact refRel_mono hρ h
 | ipt rs => obtain ⟨b, off, cs, hv, h1, h2⟩ := h; exact ⟨b, off, cs, hv, runsRel_mono hH h1, cellsIn_mono hH h2⟩
 | agg cs => obtain ⟨vs, hv, h1⟩ := h; exact ⟨vs, hv, scsRel_mono hH hρ h1⟩
 | yld k => exact hρ _ _ h
 | clr f cs => obtain ⟨vs, hv, h1⟩ := h; exact ⟨vs, hv, scsRel_mono hH hρ h1⟩
 | clo f caps =>
   cases caps with
   | nil => exact h
   | cons c r => obtain ⟨vs, e, h⟩ := h; exact ⟨vs, e, capsRel_mono hH h⟩
 | top => trivial
theorem svsRel_mono {H H' : Mem} (hH : H.le H') {ρ ρ' : Lab} (hρ : ρ.le ρ') : ∀ {l : List SV} {vs : List Value}, svsRel H ρ l vs → svsRel H' ρ' l vs
 | [], _, h => h
 | _ :: _, _, ⟨v, w, hv, h1, h2⟩ => ⟨v, w, hv, svRel_mono hH hρ h1, svsRel_mono hH hρ h2⟩
theorem slRel_mono {H H' : Mem} (hH : H.le H') {ρ ρ' : Lab} (hρ : ρ.le ρ') {a : Array Value} {s : Sl} {v : Value} (h : slRel H ρ a s v) : slRel H' ρ' a s v := by
 cases s with
 | sv s => exact svRel_mono hH hρ h
 | tup ss => obtain ⟨vs, hv, h1⟩ := h; exact ⟨vs, hv, svsRel_mono hH hρ h1⟩
 | cond g want s => exact ⟨fun hg => svRel_mono hH hρ (h.1 hg), h.2⟩
 | un => trivial

theorem app_eq {α : Type} (a b : List α) : app a b = a ++ b := by induction a with | nil => rfl | cons x r ih => simp [app, ih]
theorem app0_eq (a b : List Run) : app0 a b = a ++ b := by induction a with | nil => rfl | cons x r ih => simp [app0, ih]
theorem mapL_eq {α β : Type} (f : α → β) (l : List α) : mapL f l = l.map f := by induction l with | nil => rfl | cons x r ih => simp [mapL, ih]
theorem lenL_eq {α : Type} (l : List α) : lenL l = l.length := by induction l with | nil => rfl | cons x r ih => simp [lenL, ih]

theorem scsRel_append {H : Mem} {ρ : Lab} {xs ys : List SC} {cs : List Value} : scsRel H ρ (xs ++ ys) cs ↔ ∃ a b, cs = a ++ b ∧ scsRel H ρ xs a ∧ scsRel H ρ ys b := by
 induction xs generalizing cs with
 | nil =>
   simp only [List.nil_append, scsRel]
   exact ⟨fun h => ⟨[], cs, rfl, rfl, h⟩, fun ⟨_, _, hab, ha, h⟩ => by subst ha; subst hab; simpa using h⟩
 | cons x xs ih =>
   simp only [List.cons_append, scsRel, ih]
   constructor
   · rintro ⟨a, _, rfl, hx, a', b', rfl, h1, h2⟩
     exact ⟨a ++ a', b', by simp, ⟨a, a', rfl, hx, h1⟩, h2⟩
   · rintro ⟨_, b, rfl, ⟨a, a', rfl, hx, h1⟩, h2⟩
     exact ⟨a, a' ++ b, by simp, hx, a', b, rfl, h1, h2⟩
theorem runsRel_append {H : Mem} {xs ys : List Run} {cs : List Value} : runsRel H (xs ++ ys) cs ↔ ∃ a b, cs = a ++ b ∧ runsRel H xs a ∧ runsRel H ys b := by
 induction xs generalizing cs with
 | nil =>
   simp only [List.nil_append, runsRel]
   exact ⟨fun h => ⟨[], cs, rfl, rfl, h⟩, fun ⟨_, _, hab, ha, h⟩ => by subst ha; subst hab; simpa using h⟩
 | cons x xs ih =>
   simp only [List.cons_append, runsRel, ih]
   constructor
   · rintro ⟨a, _, rfl, hx, a', b', rfl, h1, h2⟩
     exact ⟨a ++ a', b', by simp, ⟨a, a', rfl, hx, h1⟩, h2⟩
   · rintro ⟨_, b, rfl, ⟨a, a', rfl, hx, h1⟩, h2⟩
     exact ⟨a, a' ++ b, by simp, hx, a', b, rfl, h1, h2⟩

theorem scsRel_ofRuns {H : Mem} {ρ : Lab} : ∀ {rs : List Run} {cs : List Value}, scsRel H ρ (ofRuns rs) cs ↔ runsRel H rs cs
 | [], _ => Iff.rfl
 | r :: rs, cs => by
   simp only [ofRuns, mapL, scsRel, runsRel, scRel]
   constructor
   · rintro ⟨a, b, h, h1, h2⟩; exact ⟨a, b, h, h1, scsRel_ofRuns.1 h2⟩
   · rintro ⟨a, b, h, h1, h2⟩; exact ⟨a, b, h, h1, scsRel_ofRuns.2 h2⟩

theorem enc_rel {H : Mem} : ∀ (t : T) (x : t.den) (cs : List Value), runsRel H (enc t x) cs ↔ eltRel H t x cs
 | .u8, _, cs => by simp [enc, runsRel, runRel, dvRel, eltRel]
 | .u16, _, cs => by simp [enc, runsRel, runRel, dvRel, eltRel]
 | .u32, _, cs => by simp [enc, runsRel, runRel, dvRel, eltRel]
 | .u64, _, cs => by simp [enc, runsRel, runRel, dvRel, eltRel]
 | .i64, _, cs => by
   simp only [enc, runsRel, runRel, dvRel, eltRel]
   constructor
   · rintro ⟨a, b, rfl, ⟨v, rfl, rfl, h⟩, rfl⟩; exact ⟨rfl, h⟩
   · rintro ⟨rfl, h⟩; exact ⟨_, _, (List.append_nil _).symm, ⟨_, rfl, rfl, h⟩, rfl⟩
 | .bool, _, cs => by simp [enc, runsRel, runRel, dvRel, eltRel]
 | .str, _, cs => by
   simp only [enc, runsRel, runRel, dvRel, eltRel]
   constructor
   · rintro ⟨a, b, rfl, ⟨v, rfl, rfl, h⟩, rfl⟩; exact ⟨rfl, h⟩
   · rintro ⟨rfl, h⟩; exact ⟨_, _, (List.append_nil _).symm, ⟨_, rfl, rfl, h⟩, rfl⟩
 | .unit, _, cs => by simp [enc, runsRel, eltRel]
 | .arr n t, xs, cs => by simp [enc, runsRel, runRel, eltRel]
 | .slc t, xs, cs => by simp [enc, runsRel, runRel, eltRel, dvRel]
 | .pair a b, p, cs => by
   simp only [enc, app0_eq, runsRel_append, eltRel]
   constructor
   · rintro ⟨c, d, h, h1, h2⟩; exact ⟨c, d, h, (enc_rel a _ _).1 h1, (enc_rel b _ _).1 h2⟩
   · rintro ⟨c, d, h, h1, h2⟩; exact ⟨c, d, h, (enc_rel a _ _).2 h1, (enc_rel b _ _).2 h2⟩

end Go.Vse

namespace Go.Vse

def vcT : Option Prop → Prop
 | none => True
 | some p => p
theorem vcT_and {a b : Option Prop} (h : vcT (andVC a b)) : vcT a ∧ vcT b := by
 cases a <;> cases b <;> simp_all [andVC, vcT]
theorem owe_vc {v : Option Prop} {q : Prop} (h : owe v q) : vcT v ∧ q := by
 cases v <;> simp_all [owe, vcT]
theorem rowRel_at {α : Type} {R : α → List Value → Prop} {xs : List α} {cs : List Value} {s : Nat} (hs : ∀ x cs, R x cs → cs.length = s)
 (h : rowRel R xs cs) {i : Nat} (hi : i < xs.length) (d : α) :
 ∃ A M C, cs = A ++ (M ++ C) ∧ A.length = i * s ∧ R (xs.getD i d) M ∧ ∀ x M', R x M' → rowRel R (xs.set i x) (A ++ (M' ++ C)) := by
 induction xs generalizing cs i with
 | nil => simp at hi
 | cons x xs ih =>
   obtain ⟨a, b, rfl, hx, hr⟩ := h
   cases i with
   | zero => exact ⟨[], a, b, rfl, by simp, by simpa using hx, fun y M' hy => ⟨M', b, rfl, hy, hr⟩⟩
   | succ i =>
     obtain ⟨A, M, C, rfl, hA, hM, hset⟩ := ih hr (by simpa using hi)
     exact ⟨a ++ A, M, C, by simp, by simp [hs x a hx, hA, Nat.succ_mul, Nat.add_comm], by simpa using hM, fun y M' hy => ⟨a, _, by simp, hx, hset y M' hy⟩⟩

theorem dropC_sound {H : Mem} {ρ : Lab} : ∀ {cs : List SC} {n : Nat} {ds : List SC} {vs : List Value}, dropC cs n = some ds → scsRel H ρ cs vs →
 ∃ A C, vs = A ++ C ∧ A.length = n ∧ scsRel H ρ ds C := by
 intro cs
 induction cs with
 | nil =>
   intro n ds vs h hr
   cases n with
   | zero => simp [dropC] at h; subst h; exact ⟨[], vs, rfl, rfl, hr⟩
   | succ n => simp [dropC] at h
 | cons c r ih =>
   intro n ds vs h hr
   cases n with
   | zero => simp [dropC] at h; subst h; exact ⟨[], vs, rfl, rfl, hr⟩
   | succ n =>
     simp only [dropC] at h
     obtain ⟨a, b, rfl, hc, hrr⟩ := hr
     cases hb : Nat.ble c.size (n + 1) with
     | false => rw [hb] at h; simp at h
     | true =>
       rw [hb] at h; simp only [cond_true] at h
       obtain ⟨A, C, rfl, hA, hC⟩ := ih h hrr
       refine ⟨a ++ A, C, by simp, ?_, hC⟩
       have := Nat.le_of_ble_eq_true hb
       simp [scRel_length hc, hA]; omega

theorem takeC_sound {H : Mem} {ρ : Lab} : ∀ {cs : List SC} {n : Nat} {ds : List SC} {vs : List Value}, takeC cs n = some ds → scsRel H ρ cs vs →
 ∃ A C, vs = A ++ C ∧ A.length = n ∧ scsRel H ρ ds A := by
 intro cs
 induction cs with
 | nil =>
   intro n ds vs h hr
   cases n with
   | zero => simp [takeC] at h; subst h; exact ⟨[], vs, rfl, rfl, rfl⟩
   | succ n => simp [takeC] at h
 | cons c r ih =>
   intro n ds vs h hr
   cases n with
   | zero => simp [takeC] at h; subst h; exact ⟨[], vs, rfl, rfl, rfl⟩
   | succ n =>
     simp only [takeC] at h
     obtain ⟨a, b, rfl, hc, hrr⟩ := hr
     cases hb : Nat.ble c.size (n + 1) with
     | false => rw [hb] at h; simp at h
     | true =>
       rw [hb] at h; simp only [cond_true] at h
       cases ht : takeC r (n + 1 - c.size) with
       | none => rw [ht] at h; simp at h
       | some l =>
         rw [ht] at h; simp at h; subst h
         obtain ⟨A, C, rfl, hA, hC⟩ := ih ht hrr
         refine ⟨a ++ A, C, by simp, ?_, a, A, rfl, hc, hC⟩
         have := Nat.le_of_ble_eq_true hb
         simp [scRel_length hc, hA]; omega

theorem replC_sound {H : Mem} {ρ : Lab} {cs new es : List SC} {off n : Nat} {vs : List Value} (h : replC cs off n new = some es) (hr : scsRel H ρ cs vs) :
 ∃ A M C, vs = A ++ (M ++ C) ∧ A.length = off ∧ M.length = n ∧ ∀ nv, scsRel H ρ new nv → scsRel H ρ es (A ++ (nv ++ C)) := by
 unfold replC at h
 split at h
 · rename_i a b ha hb
   simp at h; subst h
   obtain ⟨A, X, rfl, hA, hra⟩ := takeC_sound ha hr
   obtain ⟨Y, C, hYC, hY, hrb⟩ := dropC_sound hb hr
   have e1 : Y = A ++ Y.drop off := by
    have := congrArg (List.take off) hYC
    rw [List.take_append_of_le_length (by omega), List.take_append_of_le_length (by omega), ← hA, List.take_length] at this
    conv => lhs; rw [← List.take_append_drop off Y]
    rw [← hA, ← this]
   refine ⟨A, Y.drop off, C, ?_, hA, by simp [hY], fun nv hn => ?_⟩
   · rw [hYC]; conv => lhs; rw [e1]
     simp
   · rw [app_eq, app_eq]
     exact scsRel_append.2 ⟨A, nv ++ C, rfl, hra, scsRel_append.2 ⟨nv, C, rfl, hn, hrb⟩⟩
 · simp at h

theorem modC_sound {H : Mem} {ρ : Lab} {f : SC → Option SC} : ∀ {cs : List SC} {off : Nat} {es : List SC} {vs : List Value}, modC f cs off = some es → scsRel H ρ cs vs →
 ∃ A M C c d rest, vs = A ++ (M ++ C) ∧ A.length = off ∧ f c = some d ∧ scRel H ρ c M ∧ dropC cs off = some (c :: rest) ∧ ∀ M', scRel H ρ d M' → scsRel H ρ es (A ++ (M' ++ C)) := by
 intro cs
 induction cs with
 | nil => intro off es vs h; simp [modC] at h
 | cons c r ih =>
   intro off es vs h hr
   obtain ⟨a, b, rfl, hc, hrr⟩ := hr
   cases off with
   | zero =>
     simp only [modC] at h
     cases hf : f c with
     | none => rw [hf] at h; simp at h
     | some d =>
       rw [hf] at h; simp at h; subst h
       exact ⟨[], a, b, c, d, r, rfl, rfl, hf, hc, rfl, fun M' hM => ⟨M', b, rfl, hM, hrr⟩⟩
   | succ n =>
     simp only [modC] at h
     cases hb : Nat.ble c.size (n + 1) with
     | false => rw [hb] at h; simp at h
     | true =>
       rw [hb] at h; simp only [cond_true] at h
       cases ht : modC f r (n + 1 - c.size) with
       | none => rw [ht] at h; simp at h
       | some l =>
         rw [ht] at h; simp at h; subst h
         obtain ⟨A, M, C, c', d, rest, rfl, hA, hf, hM, hdr, hall⟩ := ih ht hrr
         refine ⟨a ++ A, M, C, c', d, rest, by simp, ?_, hf, hM, by simp [dropC, hb, hdr], fun M' h' => ⟨a, _, by simp, hc, hall M' h'⟩⟩
         have := Nat.le_of_ble_eq_true hb
         simp [scRel_length hc, hA]; omega

theorem normRun_sound {H : Mem} {r : Run} {vs : List Value} (h : runRel H r vs) : runRel H (normRun r) vs := by
 cases r with
 | one d =>
   cases d with
   | nils t => obtain ⟨v, hv, hd⟩ := h; exact ⟨v, hv, by simp, .inl ⟨rfl, .inl hd⟩⟩
   | _ => exact h
 | many t n xs => exact h
theorem toRun_sound {H : Mem} {ρ : Lab} {c : SC} {r : Run} {vs : List Value} (h : toRun c = some r) (hr : scRel H ρ c vs) : runRel H r vs := by
 cases c with
 | run x => simp [toRun] at h; subst h; exact normRun_sound hr
 | ref x => simp [toRun] at h
 | own k t xs =>
   simp [toRun] at h; subst h
   obtain ⟨v, rfl, ho⟩ := hr
   exact ⟨v, rfl, ho.2.1⟩
theorem toRuns_sound {H : Mem} {ρ : Lab} : ∀ {cs : List SC} {rs : List Run} {vs : List Value}, toRuns cs = some rs → scsRel H ρ cs vs → runsRel H rs vs
 | [], rs, vs, h, hr => by simp [toRuns, optMap] at h; subst h; exact hr
 | c :: cs, rs, vs, h, hr => by
   obtain ⟨a, b, rfl, h1, h2⟩ := hr
   simp only [toRuns, optMap] at h
   split at h
   · simp at h
   · rename_i y hy
     split at h
     · simp at h
     · rename_i ys hys
       simp at h; subst h
       exact ⟨a, b, rfl, toRun_sound hy h1, toRuns_sound hys h2⟩

theorem castL_rel {H : Mem} {t u : T} (h : t = u) {xs : List t.den} {cs : List Value} (hr : rowRel (eltRel H t) xs cs) : rowRel (eltRel H u) (castL h xs) cs := by
 subst h; exact hr
theorem castL_length {t u : T} (h : t = u) (xs : List t.den) : (castL h xs).length = xs.length := by subst h; rfl
theorem castL_slice {H : Mem} {t u : T} (h : t = u) {xs : List t.den} {v : Value} (hr : sliceRel H (eltRel H t) xs v) : sliceRel H (eltRel H u) (castL h xs) v := by
 subst h; exact hr

theorem dec_sound {H : Mem} : ∀ (t : T) {rs rs' : List Run} {x : t.den} {vs : List Value}, dec t rs = some (x, rs') → runsRel H rs vs →
 ∃ a b, vs = a ++ b ∧ eltRel H t x a ∧ runsRel H rs' b := by
 intro t
 induction t with
 | pair a b iha ihb =>
   intro rs rs' x vs h hr
   simp only [dec] at h
   split at h
   · rename_i x1 rs1 h1
     split at h
     · rename_i y1 rs2 h2
       simp at h; obtain ⟨rfl, rfl⟩ := h
       obtain ⟨a1, b1, rfl, he1, hr1⟩ := iha h1 hr
       obtain ⟨a2, b2, rfl, he2, hr2⟩ := ihb h2 hr1
       exact ⟨a1 ++ a2, b2, by simp, ⟨a1, a2, rfl, he1, he2⟩, hr2⟩
     · simp at h
   · simp at h
 | unit =>
   intro rs rs' x vs h hr
   simp [dec] at h; subst h
   exact ⟨[], vs, rfl, rfl, hr⟩
 | arr n t ih =>
   intro rs rs' x vs h hr
   cases rs with
   | nil => simp [dec] at h
   | cons r rs =>
     cases r with
     | one d => simp [dec] at h
     | many t' n' xs =>
       simp only [dec] at h
       split at h
       · rename_i ht
         cases hb : Nat.beq n' n with
         | false => rw [hb] at h; simp at h
         | true =>
           rw [hb] at h; simp at h; obtain ⟨rfl, rfl⟩ := h
           obtain ⟨a, b, rfl, ⟨hl, hrow⟩, hr2⟩ := hr
           exact ⟨a, b, rfl, ⟨by rw [castL_length, hl]; exact Nat.eq_of_beq_eq_true hb, castL_rel ht hrow⟩, hr2⟩
       · simp at h
 | slc t ih =>
   intro rs rs' x vs h hr
   cases rs with
   | nil => simp [dec] at h
   | cons r rs =>
     cases r with
     | many t' n' xs => simp [dec] at h
     | one d =>
       cases d with
       | imm t' xs =>
         simp only [dec] at h
         split at h
         · rename_i ht
           simp at h; obtain ⟨rfl, rfl⟩ := h
           obtain ⟨a, b, rfl, ⟨v, rfl, hv⟩, hr2⟩ := hr
           exact ⟨_, b, rfl, ⟨v, rfl, castL_slice ht hv⟩, hr2⟩
         · simp at h
       | nils t' =>
         simp [dec] at h; obtain ⟨rfl, rfl⟩ := h
         obtain ⟨a, b, rfl, ⟨v, rfl, hv⟩, hr2⟩ := hr
         exact ⟨_, b, rfl, ⟨v, rfl, by simp [LIM], .inl ⟨rfl, .inl hv⟩⟩, hr2⟩
       | _ => simp [dec] at h
 | u8 | u16 | u32 | u64 | bool =>
   intro rs rs' x vs h hr
   cases rs with
   | nil => simp [dec] at h
   | cons r rs =>
     cases r with
     | many t' n' xs => simp [dec] at h
     | one d =>
       cases d <;> simp [dec] at h
       obtain ⟨rfl, rfl⟩ := h
       obtain ⟨a, b, rfl, ⟨v, rfl, hv⟩, hr2⟩ := hr
       simp only [dvRel] at hv
       exact ⟨_, b, rfl, by simp [eltRel, hv], hr2⟩
 | i64 | str =>
   intro rs rs' x vs h hr
   cases rs with
   | nil => simp [dec] at h
   | cons r rs =>
     cases r with
     | many t' n' xs => simp [dec] at h
     | one d =>
       cases d <;> simp [dec] at h
       obtain ⟨rfl, rfl⟩ := h
       obtain ⟨a, b, rfl, ⟨v, rfl, hv⟩, hr2⟩ := hr
       simp only [dvRel] at hv
       exact ⟨_, b, rfl, ⟨by simp [hv.1], hv.2⟩, hr2⟩

theorem decAll_sound {H : Mem} {ρ : Lab} {t : T} {cs : List SC} {x : t.den} {vs : List Value} (h : decAll t cs = some x) (hr : scsRel H ρ cs vs) : eltRel H t x vs := by
 unfold decAll at h
 split at h
 · rename_i rs hrs
   split at h
   · rename_i x' hd
     simp at h; subst h
     obtain ⟨a, b, rfl, h1, h2⟩ := dec_sound t hd (toRuns_sound hrs hr)
     simp only [runsRel] at h2; subst h2; simpa using h1
   · simp at h
 · simp at h

theorem hop_in {h : Hop} {t : T} {n : Nat} (hf : fitsHop h t n = true) (hl : h.lit = true → h.e < h.n) {q : Option Prop} (hv : vcT (andVC (bif h.lit then none else some (h.e < n)) q)) :
 t.size = h.s ∧ h.e < n ∧ vcT q := by
 unfold fitsHop at hf
 simp only [Bool.and_eq_true, Bool.or_eq_true, Bool.not_eq_true'] at hf
 obtain ⟨h1, h2⟩ := vcT_and hv
 refine ⟨Nat.eq_of_beq_eq_true hf.1, ?_, h2⟩
 cases hb : h.lit with
 | true =>
   have := hl hb
   rcases hf.2 with h3 | h3
   · simp [hb] at h3
   · exact Nat.lt_of_lt_of_le this (Nat.le_of_ble_eq_true h3)
 | false => rw [hb] at h1; exact h1

theorem descend_sound {H : Mem} {ρ : Lab} : ∀ {p : List Hop} {cs ds : List SC} {vs : List Value}, descend cs p = some ds → scsRel H ρ cs vs → litOk p → vcT (pathVC cs p) →
 ∃ A M C, vs = A ++ (M ++ C) ∧ A.length = pathOff p ∧ scsRel H ρ ds M := by
 intro p
 induction p with
 | nil => intro cs ds vs h hr _ _; simp [descend] at h; subst h; exact ⟨[], vs, [], by simp, rfl, hr⟩
 | cons h p ih =>
   intro cs ds vs hd hr hl hv
   simp only [descend] at hd
   simp only [pathVC] at hv
   split at hd
   · rename_i t n xs rest heq
     rw [heq] at hv
     simp only at hv
     cases hf : fitsHop h t n with
     | false => rw [hf] at hd; simp at hd
     | true =>
       rw [hf] at hd; simp only [cond_true] at hd
       obtain ⟨hs, he, hv'⟩ := hop_in hf hl.1 hv
       obtain ⟨A, C, rfl, hA, hC⟩ := dropC_sound heq hr
       obtain ⟨a, b, rfl, ⟨hn, hrow⟩, _⟩ := hC
       obtain ⟨A2, M2, C2, rfl, hA2, hM2, _⟩ := rowRel_at (eltRel_length t) hrow (i := h.e) (by omega) t.dflt
       obtain ⟨A3, M3, C3, rfl, hA3, hM3⟩ := ih hd (scsRel_ofRuns.2 ((enc_rel t _ _).2 hM2)) hl.2 hv'
       refine ⟨A ++ (A2 ++ A3), M3, C3 ++ (C2 ++ b), by simp, ?_, hM3⟩
       simp [hA, hA2, hA3, pathOff, hs]; omega
   · simp at hd

theorem modAt_sound {H : Mem} {ρ : Lab} {f : List SC → Option (List SC)} : ∀ {p : List Hop} {cs es : List SC} {vs : List Value}, modAt f p cs = some es → scsRel H ρ cs vs →
 litOk p → vcT (pathVC cs p) →
 ∃ A M C ds fs, vs = A ++ (M ++ C) ∧ A.length = pathOff p ∧ f ds = some fs ∧ scsRel H ρ ds M ∧
  ∀ M', scsRel H ρ fs M' → M'.length = M.length → scsRel H ρ es (A ++ (M' ++ C)) := by
 intro p
 induction p with
 | nil => intro cs es vs h hr _ _; exact ⟨[], vs, [], cs, es, by simp, rfl, h, hr, fun M' h' _ => by simpa using h'⟩
 | cons h p ih =>
   intro cs es vs hd hr hl hv
   simp only [modAt] at hd
   obtain ⟨A, M, C, c, d, rest, rfl, hA, hfc, hM, hdr, hall⟩ := modC_sound hd hr
   split at hfc
   · rename_i t n xs
     cases hf : fitsHop h t n with
     | false => rw [hf] at hfc; simp at hfc
     | true =>
       rw [hf] at hfc; simp only [cond_true] at hfc
       split at hfc
       · rename_i cs' hmod
         split at hfc
         · rename_i x hx
           simp at hfc; subst hfc
           simp only [pathVC, hdr] at hv
           obtain ⟨hs, he, hv'⟩ := hop_in hf hl.1 hv
           obtain ⟨hn, hrow⟩ := hM
           obtain ⟨A2, M2, C2, rfl, hA2, hM2, hset⟩ := rowRel_at (eltRel_length t) hrow (i := h.e) (by omega) t.dflt
           obtain ⟨A3, M3, C3, ds, fs, rfl, hA3, hfd, hM3, hall3⟩ := ih hmod (scsRel_ofRuns.2 ((enc_rel t _ _).2 hM2)) hl.2 hv'
           refine ⟨A ++ (A2 ++ A3), M3, C3 ++ (C2 ++ C), ds, fs, by simp, ?_, hfd, hM3, fun M' hM' hlen => ?_⟩
           · simp [hA, hA2, hA3, pathOff, hs]; omega
           · have h1 := decAll_sound hx (hall3 M' hM' hlen)
             have h2 := hset x _ h1
             have h3 := hall (A2 ++ ((A3 ++ (M' ++ C3)) ++ C2)) ⟨by simpa using hn, h2⟩
             simpa using h3
         · simp at hfc
       · simp at hfc
   · simp at hfc

end Go.Vse

namespace Go.Vse

def blk : Value → Option Nat
 | .pointer (some a) => some a.block
 | .slice (some a) _ _ => some a.block
 | .map (some r) => some r
 | _ => none
def baseOf (ρ : Lab) (l : Nat) : Option Nat := (ρ l).bind blk

def farF (f : Nat × Nat) (n : Nat) : Prop := ∀ o, o < n → ¬ (f.1 ≤ o ∧ o < f.2)
theorem farF_zero (n : Nat) : farF (0, 0) n := fun o _ h => by have := h.2; simp at this
theorem farF_size (n : Nat) : farF (n, n + 1) n := fun o ho h => by have := h.1; simp at this; omega
def ownsR (w : World) (e : TypeId) (size : Nat) (v : Value) (n : Nat) (xs : List Value) : Prop :=
 xs.length = n * size ∧ ((v = .slice none 0 0 ∧ n = 0) ∨
  ∃ g cap cur f, v = .slice (some ⟨g, 0, none⟩) n cap ∧ farF f cur.size ∧ w.heap[g]? = some (.cells cur e f) ∧ n ≤ cap ∧ cap ≤ maxLen ∧ cur.size = cap * size ∧ cur.toList.take (n * size) = xs)
theorem ownsR_nil (w : World) (e : TypeId) (size : Nat) : ownsR w e size (.slice none 0 0) 0 [] := ⟨by simp, .inl ⟨rfl, rfl⟩⟩

def rowOwn (H : Mem) (w : World) (e : TypeId) (s : Nat) (t : T) (xs : List t.den) (v : Value) (ro : Bool) : Prop :=
 s = t.size ∧ ((v = .slice none 0 0 ∧ xs = []) ∨ ∃ g cap cur f, v = .slice (some ⟨g, 0, none⟩) xs.length cap ∧ farF f cur.size ∧ w.heap[g]? = some (.cells cur e f) ∧ xs.length ≤ cap ∧ cap ≤ maxLen ∧ cur.size = cap * s ∧
  rowRel (eltRel H t) xs (cur.toList.take (xs.length * s)) ∧ (ro = false → ∀ o, H g o = none))
def entsRel (H : Mem) (ka : Bool) (kt : T) (va : Bool) (vt : T) (es : List (kt.den × vt.den)) (en : List MapEntry) : Prop := (es.map (·.1)).Nodup ∧ ∃ fs, fs.Perm es ∧ entRel H ka kt va vt fs en
def curRel (H : Mem) (ka : Bool) (kt : T) (va : Bool) (vt : T) (cur : Option (kt.den × vt.den)) (g : Gh) (seen : Array Nat) : Prop :=
 match cur with
 | none => True
 | some c => ∃ (e : MapEntry) (s : Array Nat), e ∈ g.en.toList ∧ seen = s.push e.born ∧ datV H ka kt c.1 e.key ∧ datV H va vt c.2 e.val
theorem entsRel_mono {H H' : Mem} (hH : H.le H') {ka : Bool} {kt : T} {va : Bool} {vt : T} {es : List (kt.den × vt.den)} {en : List MapEntry} (h : entsRel H ka kt va vt es en) : entsRel H' ka kt va vt es en :=
 ⟨h.1, h.2.imp fun _ h => ⟨h.1, entRel_mono hH h.2⟩⟩
theorem curRel_mono {H H' : Mem} (hH : H.le H') {ka : Bool} {kt : T} {va : Bool} {vt : T} {cur : Option (kt.den × vt.den)} {g : Gh} {seen : Array Nat} (h : curRel H ka kt va vt cur g seen) : curRel H' ka kt va vt cur g seen := by
 unfold curRel at *
 split at h
 · trivial
 · obtain ⟨e, s, h1, h2, h3, h4⟩ := h
   exact ⟨e, s, h1, h2, datV_mono hH h3, datV_mono hH h4⟩
def objRel (H : Mem) (ρ : Lab) (w : World) (l : Nat) : SObj → Prop
 | .gone => True
 | .cells cs ro => ∃ b c ty, ρ l = some (.pointer (some ⟨b, 0, none⟩)) ∧ w.heap[b]? = some (.cells c ty (0, 0)) ∧ scsRel H ρ cs c.toList ∧ (ro = false → ∀ o, H b o = none)
 | .tok e s => ∃ v n xs, ρ l = some v ∧ ownsR w e s v n xs ∧ ∀ g, v.ownBlock = some g → ∀ o, n * s ≤ o → H g o = none
 | .row e s t xs ro => ∃ v, ρ l = some v ∧ rowOwn H w e s t xs v ro
 | .mp ka kt va vt es => ∃ r en clock, ρ l = some (.map (some r)) ∧ w.heap[r]? = some (.map en clock) ∧ entsRel H ka kt va vt es en.toList ∧ (en.toList.map (·.born)).Nodup ∧ (∀ e ∈ en.toList, e.born < clock) ∧ ∀ o, H r o = none
 | .mpi ka kt va vt es g => ρ l = some (.map (some g.r)) ∧ w.heap[g.r]? = some (.map g.en g.clock) ∧ entsRel H ka kt va vt es g.en.toList ∧ (g.en.toList.map (·.born)).Nodup ∧ (∀ e ∈ g.en.toList, e.born < g.clock) ∧ ∀ o, H g.r o = none
 | .it ka kt va vt left cur g => ∃ b seen, ρ l = some (.pointer (some ⟨b, 0, none⟩)) ∧ w.heap[b]? = some (.mapIter (some g.r) g.clock seen g.clock) ∧ (∃ es, es.Perm left ∧ entRel H ka kt va vt es (leftOf g.en seen).toList) ∧ curRel H ka kt va vt cur g seen ∧ ∀ o, H b o = none

def outOk (w w' : World) : Prop := w'.output = w.output ∧ w.drawn ≤ w'.drawn
theorem outOk.trans {a b c : World} (h : outOk b c) (h' : outOk a b) : outOk a c := ⟨h.1.trans h'.1, Nat.le_trans h'.2 h.2⟩
theorem outOk.refl (w : World) : outOk w w := ⟨rfl, Nat.le_refl _⟩
structure Env where
 w0 : World
 H0 : Mem
 own0 : List Nat
 pin : Nat → Option Value
 defs : List Deferred

structure MInv (E : Env) (H : Mem) (ρ : Lab) (hp : List (Nat × SObj)) (N : Nat → Prop) (w : World) : Prop where
 mem : ∀ b o v, H b o = some v → w.cell? ⟨b, o, none⟩ = some v
 objs : ∀ l, objRel H ρ w l (look l hp)
 sep : ∀ l l' b, look l hp ≠ .gone → look l' hp ≠ .gone → l ≠ l' → baseOf ρ l = some b → baseOf ρ l' ≠ some b
 fresh : ∀ l b, look l hp ≠ .gone → baseOf ρ l = some b → E.w0.heap.size ≤ b ∨ b ∈ E.own0
 bound : ∀ l, N l → ρ l = none
 keepH : E.H0.le H
 newH : ∀ b o, H b o ≠ none → E.H0 b o ≠ none ∨ E.w0.heap.size ≤ b ∨ b ∈ E.own0
 frame : ∀ b, b < E.w0.heap.size → b ∉ E.own0 → w.heap[b]? = E.w0.heap[b]?
 grow : E.w0.heap.size ≤ w.heap.size
 os : w.os = E.w0.os
 tape : w.tape = E.w0.tape
 output : outOk E.w0 w
 root : ∀ l v, E.pin l = some v → ρ l = some v

theorem look_put (l k : Nat) (o : SObj) (hp : List (Nat × SObj)) : look k (put l o hp) = if k = l then o else look k hp := by
 induction hp with
 | nil =>
   simp only [put, look]
   by_cases h : k = l
   · subst h; simp
   · have : Nat.beq l k = false := by cases hb : Nat.beq l k with | false => rfl | true => exact absurd (Nat.eq_of_beq_eq_true hb).symm h
     simp [h, this]
 | cons x r ih =>
   obtain ⟨m, p⟩ := x
   simp only [put]
   cases hb : Nat.beq m l with
   | true =>
     have hm := Nat.eq_of_beq_eq_true hb
     subst hm
     simp only [cond_true, look]
     by_cases h : k = m
     · subst h; simp
     · have : Nat.beq m k = false := by cases hb : Nat.beq m k with | false => rfl | true => exact absurd (Nat.eq_of_beq_eq_true hb).symm h
       simp [h, this]
   | false =>
     simp only [cond_false, look]
     cases hk : Nat.beq m k with
     | true =>
       have := Nat.eq_of_beq_eq_true hk
       subst this
       have : m ≠ l := fun e => by subst e; simp at hb
       simp [this]
     | false => simpa using ih

variable {E : Env} {H : Mem} {ρ : Lab} {hp : List (Nat × SObj)} {lab : Nat} {N : Nat → Prop} {w : World}

theorem lt_of_cell {b o : Nat} {v : Value} (h : w.cell? ⟨b, o, none⟩ = some v) : b < w.heap.size := by
 rcases Nat.lt_or_ge b w.heap.size with hl | hl
 · exact hl
 · simp [World.cell?, Array.getElem?_eq_none hl] at h

theorem MInv.memLt (I : MInv E H ρ hp N w) {b o : Nat} (h : w.heap.size ≤ b) : H b o = none := by
 cases hv : H b o with
 | none => rfl
 | some v => exact absurd (lt_of_cell (I.mem b o v hv)) (by omega)

theorem MInv.later (I : MInv E H ρ hp N w) {N' : Nat → Prop} (h : ∀ l, N' l → N l) : MInv E H ρ hp N' w :=
 { I with bound := fun l hl => I.bound l (h l hl) }
def but (N : Nat → Prop) (k : Nat) : Nat → Prop := fun l => N l ∧ l ≠ k ∧ l % STRIDE ≠ k

theorem but_le {N : Nat → Prop} {k : Nat} : ∀ l, but N k l → N l := fun _ h => h.1

def setLab (ρ : Lab) (l : Nat) (v : Value) : Lab := fun k => if k = l then some v else ρ k
theorem setLab_le {l : Nat} {v : Value} (h : ρ l = none) : ρ.le (setLab ρ l v) := by
 intro k u hk
 unfold setLab
 split
 · rename_i e; subst e; rw [h] at hk; cases hk
 · exact hk

theorem gone_of_none (I : MInv E H ρ hp N w) {l : Nat} (h : ρ l = none) : look l hp = .gone := by
 have := I.objs l
 cases hl : look l hp with
 | gone => rfl
 | cells cs ro => rw [hl] at this; obtain ⟨b, c, ty, h1, _⟩ := this; rw [h] at h1; cases h1
 | tok e s => rw [hl] at this; obtain ⟨v, n, xs, h1, _⟩ := this; rw [h] at h1; cases h1
 | row e s t xs ro => rw [hl] at this; obtain ⟨v, h1, _⟩ := this; rw [h] at h1; cases h1
 | mp ka kt va vt es => rw [hl] at this; obtain ⟨r, en, clock, h1, _⟩ := this; rw [h] at h1; cases h1
 | mpi ka kt va vt es g => rw [hl] at this; obtain ⟨h1, _⟩ := this; rw [h] at h1; cases h1
 | it ka kt va vt es c g => rw [hl] at this; obtain ⟨b, s, h1, _⟩ := this; rw [h] at h1; cases h1

theorem ownBlock_blk (v : Value) : ∀ g, v.ownBlock = some g → blk v = some g := by
 intro g h
 cases v <;> simp [Value.ownBlock] at h
 rename_i a n c
 cases a <;> simp at h
 simp [blk, h]

theorem objRel_mono {H' : Mem} {ρ' : Lab} (hH : H.le H') (hρ : ρ.le ρ') {w' : World} {l : Nat} {o : SObj} (h : objRel H ρ w l o)
 (hw : ∀ b, baseOf ρ l = some b → w'.heap[b]? = w.heap[b]?) (hnew : ∀ b, baseOf ρ l = some b → ∀ o, H' b o = H b o) : objRel H' ρ' w' l o := by
 cases o with
 | gone => trivial
 | cells cs ro =>
   obtain ⟨b, c, ty, h1, h2, h3, h4⟩ := h
   have hb : baseOf ρ l = some b := by simp [baseOf, h1, blk]
   exact ⟨b, c, ty, hρ _ _ h1, by rw [hw b hb]; exact h2, scsRel_mono hH hρ h3, fun hr o => by rw [hnew b hb]; exact h4 hr o⟩
 | tok e s =>
   obtain ⟨v, n, xs, h1, h2, h3⟩ := h
   refine ⟨v, n, xs, hρ _ _ h1, ⟨h2.1, ?_⟩, fun g hg o ho => ?_⟩
   · rcases h2.2 with hn | ⟨g, cap, cur, f, hv, hb0, hg, rest⟩
     · exact .inl hn
     · have hb : baseOf ρ l = some g := by subst hv; simp [baseOf, h1, blk]
       exact .inr ⟨g, cap, cur, f, hv, hb0, by rw [hw g hb]; exact hg, rest⟩
   · have hb : baseOf ρ l = some g := by simp [baseOf, h1, ownBlock_blk v g hg]
     rw [hnew g hb]; exact h3 g hg o ho
 | row e s t xs ro =>
   obtain ⟨v, h1, hs, h2⟩ := h
   refine ⟨v, hρ _ _ h1, hs, ?_⟩
   rcases h2 with hn | ⟨g, cap, cur, f, hv, hb0, hg, h4, h5, h6, h7, h8⟩
   · exact .inl hn
   · have hb : baseOf ρ l = some g := by subst hv; simp [baseOf, h1, blk]
     exact .inr ⟨g, cap, cur, f, hv, hb0, by rw [hw g hb]; exact hg, h4, h5, h6, rowRel_mono (eltRel_mono hH t) h7, fun hr o => by rw [hnew g hb]; exact h8 hr o⟩
 | mp ka kt va vt es =>
   obtain ⟨r, en, clock, h1, h2, h3, h4, h5, h6⟩ := h
   have hb : baseOf ρ l = some r := by simp [baseOf, h1, blk]
   exact ⟨r, en, clock, hρ _ _ h1, by rw [hw r hb]; exact h2, entsRel_mono hH h3, h4, h5, fun o => by rw [hnew r hb]; exact h6 o⟩
 | mpi ka kt va vt es g =>
   obtain ⟨h1, h2, h3, h4, h5, h6⟩ := h
   have hb : baseOf ρ l = some g.r := by simp [baseOf, h1, blk]
   exact ⟨hρ _ _ h1, by rw [hw _ hb]; exact h2, entsRel_mono hH h3, h4, h5, fun o => by rw [hnew _ hb]; exact h6 o⟩
 | it ka kt va vt es c g =>
   obtain ⟨b, s, h1, h2, ⟨fs, h3, h4⟩, h5, h6⟩ := h
   have hb : baseOf ρ l = some b := by simp [baseOf, h1, blk]
   exact ⟨b, s, hρ _ _ h1, by rw [hw b hb]; exact h2, ⟨fs, h3, entRel_mono hH h4⟩, curRel_mono hH h5, fun o => by rw [hnew b hb]; exact h6 o⟩

theorem base_lt (I : MInv E H ρ hp N w) {l b : Nat} (hl : look l hp ≠ .gone) (hb : baseOf ρ l = some b) : b < w.heap.size := by
 have := I.objs l
 cases ho : look l hp with
 | gone => exact absurd ho hl
 | cells cs ro =>
   rw [ho] at this; obtain ⟨b', c, ty, h1, h2, _⟩ := this
   have : b' = b := by simpa [baseOf, h1, blk] using hb
   subst this
   exact (Array.getElem?_eq_some_iff.1 h2).1
 | tok e s =>
   rw [ho] at this; obtain ⟨v, n, xs, h1, h2, _⟩ := this
   rcases h2.2 with ⟨rfl, _⟩ | ⟨g, cap, cur, f, rfl, _, hg, _⟩
   · simp [baseOf, h1, blk] at hb
   · have : g = b := by simpa [baseOf, h1, blk] using hb
     subst this
     exact (Array.getElem?_eq_some_iff.1 hg).1
 | row e s t xs ro =>
   rw [ho] at this; obtain ⟨v, h1, _, h2⟩ := this
   rcases h2 with ⟨rfl, _⟩ | ⟨g, cap, cur, f, rfl, _, hg, _⟩
   · simp [baseOf, h1, blk] at hb
   · have : g = b := by simpa [baseOf, h1, blk] using hb
     subst this
     exact (Array.getElem?_eq_some_iff.1 hg).1
 | mp ka kt va vt es =>
   rw [ho] at this; obtain ⟨r, en, clock, h1, h2, _⟩ := this
   have : r = b := by simpa [baseOf, h1, blk] using hb
   subst this
   exact (Array.getElem?_eq_some_iff.1 h2).1
 | mpi ka kt va vt es g =>
   rw [ho] at this; obtain ⟨h1, h2, _⟩ := this
   have : g.r = b := by simpa [baseOf, h1, blk] using hb
   subst this
   exact (Array.getElem?_eq_some_iff.1 h2).1
 | it ka kt va vt es c g =>
   rw [ho] at this; obtain ⟨b', s, h1, h2, _⟩ := this
   have : b' = b := by simpa [baseOf, h1, blk] using hb
   subst this
   exact (Array.getElem?_eq_some_iff.1 h2).1

theorem baseOf_setLab {l k : Nat} {v : Value} : baseOf (setLab ρ l v) k = if k = l then blk v else baseOf ρ k := by
 unfold baseOf setLab
 split <;> simp

structure Same (w w' : World) : Prop where
 heap : ∀ b, b < w.heap.size → w'.heap[b]? = w.heap[b]?
 size : w.heap.size ≤ w'.heap.size
 os : w'.os = w.os
 tape : w'.tape = w.tape
 output : outOk w w'
theorem Same.refl (w : World) : Same w w := ⟨fun _ _ => rfl, Nat.le_refl _, rfl, rfl, rfl, Nat.le_refl _⟩
theorem Same.alloc (w : World) (o : Obj) : Same w (w.alloc o) := ⟨fun b hb => heap_alloc_old w o hb, by simp, rfl, rfl, rfl, Nat.le_refl _⟩
theorem Same.drew (w : World) : Same w w.drew := ⟨fun _ _ => rfl, Nat.le_refl _, rfl, rfl, rfl, Nat.le_succ _⟩
theorem Same.trans {a b c : World} (h : Same a b) (h' : Same b c) : Same a c :=
 ⟨fun i hi => (h'.heap i (Nat.lt_of_lt_of_le hi h.size)).trans (h.heap i hi), Nat.le_trans h.size h'.size, h'.os.trans h.os, h'.tape.trans h.tape, h'.output.trans h.output⟩
theorem Same.cell {w w' : World} (h : Same w w') {b o : Nat} {v : Value} (hc : w.cell? ⟨b, o, none⟩ = some v) : w'.cell? ⟨b, o, none⟩ = some v := by
 have := h.heap b (lt_of_cell hc)
 unfold World.cell? at *
 simp only at *
 rw [this]; exact hc

theorem MInv.grown (I : MInv E H ρ hp N w) {w' : World} (hs : Same w w') {H' : Mem} (hH : H.le H') (hmem : ∀ b o v, H' b o = some v → w'.cell? ⟨b, o, none⟩ = some v)
 (hnew : ∀ b, b < w.heap.size → ∀ o, H' b o = H b o) : MInv E H' ρ hp N w' where
 mem := hmem
 objs l := by
  by_cases hl : look l hp = .gone
  · rw [hl]; trivial
  · exact objRel_mono hH (Lab.le_refl ρ) (I.objs l) (fun b hb => hs.heap b (base_lt I hl hb)) (fun b hb => hnew b (base_lt I hl hb))
 sep := I.sep
 fresh := I.fresh
 bound := I.bound
 keepH := Mem.le_trans I.keepH hH
 newH b o h := by
  by_cases hb : b < w.heap.size
  · rw [hnew b hb] at h; exact I.newH b o h
  · exact .inr (.inl (by have := I.grow; omega))
 frame b hb ho := (hs.heap b (Nat.lt_of_lt_of_le hb I.grow)).trans (I.frame b hb ho)
 grow := Nat.le_trans I.grow hs.size
 os := hs.os.trans I.os
 tape := hs.tape.trans I.tape
 output := hs.output.trans I.output
 root := I.root

theorem MInv.same (I : MInv E H ρ hp N w) {w' : World} (hs : Same w w') : MInv E H ρ hp N w' :=
 I.grown hs (Mem.le_refl H) (fun b o v h => hs.cell (I.mem b o v h)) (fun _ _ _ => rfl)

theorem MInv.label (I : MInv E H ρ hp N w) (hN : N lab) {v : Value} {o : SObj} (ho : objRel H (setLab ρ lab v) w lab o)
 (hb : ∀ b, blk v = some b → (E.w0.heap.size ≤ b ∨ b ∈ E.own0) ∧ ∀ l, look l hp ≠ .gone → baseOf ρ l ≠ some b) :
 MInv E H (setLab ρ lab v) (put lab o hp) (but N lab) w where
 mem := I.mem
 objs l := by
  rw [look_put]
  split
  · rename_i e; subst e; exact ho
  · exact objRel_mono (Mem.le_refl H) (setLab_le (I.bound lab hN)) (I.objs l) (fun _ _ => rfl) (fun _ _ _ => rfl)
 sep l l' b h1 h2 hne e1 := by
  rw [look_put] at h1 h2
  rw [baseOf_setLab] at e1 ⊢
  by_cases a1 : l = lab
  · rw [if_pos a1] at e1
    have a2 : l' ≠ lab := fun e => hne (a1.trans e.symm)
    rw [if_neg a2] at h2 ⊢
    exact (hb b e1).2 l' h2
  · rw [if_neg a1] at h1 e1
    by_cases a2 : l' = lab
    · rw [if_pos a2]
      intro e
      exact (hb b e).2 l h1 e1
    · rw [if_neg a2] at h2 ⊢
      exact I.sep l l' b h1 h2 hne e1
 fresh l b h1 e1 := by
  rw [look_put] at h1
  rw [baseOf_setLab] at e1
  by_cases a1 : l = lab
  · rw [if_pos a1] at e1; exact (hb b e1).1
  · rw [if_neg a1] at h1 e1; exact I.fresh l b h1 e1
 bound l hl := by
  unfold setLab
  rw [if_neg hl.2.1]
  exact I.bound l hl.1
 keepH := I.keepH
 newH := I.newH
 frame := I.frame
 grow := I.grow
 os := I.os
 tape := I.tape
 output := I.output
 root := fun l v hv => setLab_le (I.bound lab hN) l v (I.root l v hv)

theorem MInv.alloc (I : MInv E H ρ hp N w) (hN : N lab) {cs : List SC} {c : Array Value} (ty : TypeId) (h : scsRel H ρ cs c.toList) :
 MInv E H (setLab ρ lab (.pointer (some ⟨w.heap.size, 0, none⟩))) (put lab (.cells cs false) hp) (but N lab) (w.alloc (.cells c ty)) ∧
 ρ.le (setLab ρ lab (.pointer (some ⟨w.heap.size, 0, none⟩))) := by
 have hle := setLab_le (v := .pointer (some ⟨w.heap.size, 0, none⟩)) (I.bound lab hN)
 refine ⟨(I.same (Same.alloc w _)).label hN ?_ ?_, hle⟩
 · exact ⟨w.heap.size, c, ty, by simp [setLab], heap_alloc_new w _, scsRel_mono (Mem.le_refl H) hle h, fun _ o => I.memLt (Nat.le_refl _)⟩
 · intro b hb
   simp [blk] at hb
   subst hb
   exact ⟨.inl I.grow, fun l hl e => Nat.lt_irrefl _ (base_lt I hl e)⟩

def extH (H : Mem) (b n : Nat) (c : List Value) : Mem := fun b' o => if b' = b ∧ o < n then c[o]? else H b' o

theorem MInv.store (I : MInv E H ρ hp N w) {l b : Nat} {cs cs' : List SC} {c c' : Array Value} {ty : TypeId} (hl : look l hp = .cells cs false)
 (hρ : ρ l = some (.pointer (some ⟨b, 0, none⟩))) (hb : w.heap[b]? = some (.cells c ty (0, 0))) (hc : scsRel H ρ cs' c'.toList) :
 MInv E H ρ (put l (.cells cs' false) hp) N (w.setRow b c') := by
 have hbase : baseOf ρ l = some b := by simp [baseOf, hρ, blk]
 have hne : look l hp ≠ .gone := by rw [hl]; simp
 have hH : ∀ o, H b o = none := by
  have := I.objs l
  rw [hl] at this
  obtain ⟨b', _, _, h1, _, _, h4⟩ := this
  rw [hρ] at h1
  simp at h1; subst h1
  exact h4 rfl
 have hoth : ∀ k, k ≠ b → (w.setRow b c').heap[k]? = w.heap[k]? := fun k hk => setRow_other w b k c' hk
 have alive : ∀ k, look k (put l (.cells cs' false) hp) ≠ .gone → look k hp ≠ .gone := by
  intro k hk
  rw [look_put] at hk
  split at hk
  · rename_i e; subst e; exact hne
  · exact hk
 exact {
  mem := fun b' o v hv => by
   have hne : b' ≠ b := fun e => by subst e; rw [hH] at hv; cases hv
   have := I.mem b' o v hv
   unfold World.cell? at *
   simp only at *
   rw [hoth b' hne]; exact this
  objs := fun k => by
   rw [look_put]
   split
   · rename_i e; subst e
     exact ⟨b, c', ty, hρ, setRow_heap w b c _ ty _ hb, hc, fun _ => hH⟩
   · rename_i hk
     by_cases hg : look k hp = .gone
     · rw [hg]; trivial
     · exact objRel_mono (Mem.le_refl H) (Lab.le_refl ρ) (I.objs k) (fun b' e => hoth b' (fun eb => by subst eb; exact I.sep k l b' hg hne hk e hbase)) (fun _ _ _ => rfl)
  sep := fun k k' b' h1 h2 => I.sep k k' b' (alive k h1) (alive k' h2)
  fresh := fun k b' h1 => I.fresh k b' (alive k h1)
  bound := I.bound
  keepH := I.keepH
  newH := I.newH
  frame := fun b' hb' ho => by
   have hne : b' ≠ b := fun e => by
    subst e
    rcases I.fresh l b' hne hbase with h | h
    · omega
    · exact ho h
   rw [hoth b' hne]; exact I.frame b' hb' ho
  grow := by simpa using I.grow
  os := I.os
  tape := I.tape
  output := I.output
  root := I.root }

theorem MInv.rewrite (I : MInv E H ρ hp N w) {l b : Nat} {o' : SObj} {c c' : Array Value} {ty : TypeId} {f : Nat × Nat} (hne : look l hp ≠ .gone)
 (hbase : baseOf ρ l = some b) (_hb : w.heap[b]? = some (.cells c ty f)) (hH : ∀ o, H b o = none) (ho : objRel H ρ (w.setRow b c') l o') :
 MInv E H ρ (put l o' hp) N (w.setRow b c') := by
 have hoth : ∀ k, k ≠ b → (w.setRow b c').heap[k]? = w.heap[k]? := fun k hk => setRow_other w b k c' hk
 have alive : ∀ k, look k (put l o' hp) ≠ .gone → look k hp ≠ .gone := by
  intro k hk
  rw [look_put] at hk
  split at hk
  · rename_i e; subst e; exact hne
  · exact hk
 exact {
  mem := fun b' o v hv => by
   have hne : b' ≠ b := fun e => by subst e; rw [hH] at hv; cases hv
   have := I.mem b' o v hv
   unfold World.cell? at *
   simp only at *
   rw [hoth b' hne]; exact this
  objs := fun k => by
   rw [look_put]
   split
   · rename_i e; subst e
     exact ho
   · rename_i hk
     by_cases hg : look k hp = .gone
     · rw [hg]; trivial
     · exact objRel_mono (Mem.le_refl H) (Lab.le_refl ρ) (I.objs k) (fun b' e => hoth b' (fun eb => by subst eb; exact I.sep k l b' hg hne hk e hbase)) (fun _ _ _ => rfl)
  sep := fun k k' b' h1 h2 => I.sep k k' b' (alive k h1) (alive k' h2)
  fresh := fun k b' h1 => I.fresh k b' (alive k h1)
  bound := I.bound
  keepH := I.keepH
  newH := I.newH
  frame := fun b' hb' hno => by
   have hne : b' ≠ b := fun e => by
    subst e
    rcases I.fresh l b' hne hbase with h | h
    · omega
    · exact hno h
   rw [hoth b' hne]; exact I.frame b' hb' hno
  grow := by simpa using I.grow
  os := I.os
  tape := I.tape
  output := I.output
  root := I.root }

theorem MInv.still (I : MInv E H ρ hp N w) {l b : Nat} {cs : List SC} {ro : Bool} {c : Array Value} {ty : TypeId} (hl : look l hp = .cells cs ro)
 (hρ : ρ l = some (.pointer (some ⟨b, 0, none⟩))) (hb : w.heap[b]? = some (.cells c ty (0, 0))) :
 H.le (extH H b c.size c.toList) ∧ MInv E (extH H b c.size c.toList) ρ (put l (.cells cs true) hp) N w := by
 have hbase : baseOf ρ l = some b := by simp [baseOf, hρ, blk]
 have hne : look l hp ≠ .gone := by rw [hl]; simp
 have hle : H.le (extH H b c.size c.toList) := by
  intro b' o v hv
  unfold extH
  split
  · rename_i e
    obtain ⟨rfl, ho⟩ := e
    have := I.mem _ _ _ hv
    simpa [World.cell?, hb] using this
  · exact hv
 have alive : ∀ k, look k (put l (.cells cs true) hp) ≠ .gone → look k hp ≠ .gone := by
  intro k hk
  rw [look_put] at hk
  split at hk
  · rename_i e; subst e; exact hne
  · exact hk
 refine ⟨hle, ?_⟩
 exact {
  mem := fun b' o v hv => by
   unfold extH at hv
   split at hv
   · rename_i e
     obtain ⟨rfl, ho⟩ := e
     simpa [World.cell?, hb] using hv
   · exact I.mem _ _ _ hv
  objs := fun k => by
   rw [look_put]
   split
   · rename_i e; subst e
     have := I.objs k
     rw [hl] at this
     obtain ⟨b', c', ty', h1, h2, h3, _⟩ := this
     exact ⟨b', c', ty', h1, h2, scsRel_mono hle (Lab.le_refl ρ) h3, fun h => by cases h⟩
   · rename_i hk
     by_cases hg : look k hp = .gone
     · rw [hg]; trivial
     · refine objRel_mono hle (Lab.le_refl ρ) (I.objs k) (fun _ _ => rfl) (fun b' e o => ?_)
       have : b' ≠ b := fun eb => by subst eb; exact I.sep k l b' hg hne hk e hbase
       simp [extH, this]
  sep := fun k k' b' h1 h2 => I.sep k k' b' (alive k h1) (alive k' h2)
  fresh := fun k b' h1 => I.fresh k b' (alive k h1)
  bound := I.bound
  keepH := Mem.le_trans I.keepH hle
  newH := fun b' o h => by
   by_cases e : b' = b
   · subst e
     rcases I.fresh l b' hne hbase with h | h
     · exact .inr (.inl h)
     · exact .inr (.inr h)
   · have : extH H b c.size c.toList b' o = H b' o := by simp [extH, e]
     rw [this] at h; exact I.newH b' o h
  frame := I.frame
  grow := I.grow
  os := I.os
  tape := I.tape
  output := I.output
  root := I.root }

theorem MInv.change (I : MInv E H ρ hp N w) {l b : Nat} {o' : SObj} {w' : World} (hne : look l hp ≠ .gone) (hbase : baseOf ρ l = some b) (hH : ∀ o, H b o = none)
 (hoth : ∀ k, k ≠ b → w'.heap[k]? = w.heap[k]?) (hsz : w'.heap.size = w.heap.size) (hos : w'.os = w.os) (htape : w'.tape = w.tape) (hout : w'.output = w.output) (ho : objRel H ρ w' l o') (hdr : w'.drawn = w.drawn := by rfl) :
 MInv E H ρ (put l o' hp) N w' := by
 have alive : ∀ k, look k (put l o' hp) ≠ .gone → look k hp ≠ .gone := by
  intro k hk
  rw [look_put] at hk
  split at hk
  · rename_i e; subst e; exact hne
  · exact hk
 exact {
  mem := fun b' o v hv => by
   have hne : b' ≠ b := fun e => by subst e; rw [hH] at hv; cases hv
   have := I.mem b' o v hv
   unfold World.cell? at *
   simp only at *
   rw [hoth b' hne]; exact this
  objs := fun k => by
   rw [look_put]
   split
   · rename_i e; subst e
     exact ho
   · rename_i hk
     by_cases hg : look k hp = .gone
     · rw [hg]; trivial
     · exact objRel_mono (Mem.le_refl H) (Lab.le_refl ρ) (I.objs k) (fun b' e => hoth b' (fun eb => by subst eb; exact I.sep k l b' hg hne hk e hbase)) (fun _ _ _ => rfl)
  sep := fun k k' b' h1 h2 => I.sep k k' b' (alive k h1) (alive k' h2)
  fresh := fun k b' h1 => I.fresh k b' (alive k h1)
  bound := I.bound
  keepH := I.keepH
  newH := I.newH
  frame := fun b' hb' hno => by
   have hne : b' ≠ b := fun e => by
    subst e
    rcases I.fresh l b' hne hbase with h | h
    · omega
    · exact hno h
   rw [hoth b' hne]; exact I.frame b' hb' hno
  grow := by rw [hsz]; exact I.grow
  os := hos.trans I.os
  tape := htape.trans I.tape
  output := ⟨hout.trans I.output.1, hdr ▸ I.output.2⟩
  root := I.root }

theorem MInv.ext_le (I : MInv E H ρ hp N w) {b n : Nat} {c : Array Value} {ty : TypeId} {f : Nat × Nat} (hb : w.heap[b]? = some (.cells c ty f)) : H.le (extH H b n c.toList) := by
 intro b' o v hv
 unfold extH
 split
 · rename_i e
   obtain ⟨rfl, ho⟩ := e
   have := I.mem _ _ _ hv
   simpa [World.cell?, hb] using this
 · exact hv
theorem MInv.hold (I : MInv E H ρ hp N w) {l b n : Nat} {o' : SObj} {c : Array Value} {ty : TypeId} {f : Nat × Nat} (hne : look l hp ≠ .gone)
 (hbase : baseOf ρ l = some b) (hb : w.heap[b]? = some (.cells c ty f)) (ho : objRel (extH H b n c.toList) ρ w l o') : MInv E (extH H b n c.toList) ρ (put l o' hp) N w := by
 have hle := I.ext_le (n := n) hb
 have alive : ∀ k, look k (put l o' hp) ≠ .gone → look k hp ≠ .gone := by
  intro k hk
  rw [look_put] at hk
  split at hk
  · rename_i e; subst e; exact hne
  · exact hk
 exact {
  mem := fun b' o v hv => by
   unfold extH at hv
   split at hv
   · rename_i e
     obtain ⟨rfl, ho⟩ := e
     simpa [World.cell?, hb] using hv
   · exact I.mem _ _ _ hv
  objs := fun k => by
   rw [look_put]
   split
   · rename_i e; subst e
     exact ho
   · rename_i hk
     by_cases hg : look k hp = .gone
     · rw [hg]; trivial
     · refine objRel_mono hle (Lab.le_refl ρ) (I.objs k) (fun _ _ => rfl) (fun b' e o => ?_)
       have : b' ≠ b := fun eb => by subst eb; exact I.sep k l b' hg hne hk e hbase
       simp [extH, this]
  sep := fun k k' b' h1 h2 => I.sep k k' b' (alive k h1) (alive k' h2)
  fresh := fun k b' h1 => I.fresh k b' (alive k h1)
  bound := I.bound
  keepH := Mem.le_trans I.keepH hle
  newH := fun b' o h => by
   by_cases e : b' = b
   · subst e
     rcases I.fresh l b' hne hbase with h | h
     · exact .inr (.inl h)
     · exact .inr (.inr h)
   · have : extH H b n c.toList b' o = H b' o := by simp [extH, e]
     rw [this] at h; exact I.newH b' o h
  frame := I.frame
  grow := I.grow
  os := I.os
  tape := I.tape
  output := I.output
  root := I.root }

theorem MInv.kill (I : MInv E H ρ hp N w) (k : Nat) : MInv E H ρ (put k .gone hp) N w := by
 have alive : ∀ l, look l (put k .gone hp) ≠ .gone → look l hp ≠ .gone := by
  intro l hl
  rw [look_put] at hl
  split at hl
  · exact absurd rfl hl
  · exact hl
 exact { I with
  objs := fun l => by
   rw [look_put]
   split
   · trivial
   · exact I.objs l
  sep := fun l l' b h1 h2 => I.sep l l' b (alive l h1) (alive l' h2)
  fresh := fun l b h1 => I.fresh l b (alive l h1) }

theorem MInv.alike (I : MInv E H ρ hp N w) {hp' : List (Nat × SObj)} (h : ∀ l, look l hp' = look l hp) : MInv E H ρ hp' N w :=
 { I with
  objs := fun l => by rw [h l]; exact I.objs l
  sep := fun l l' b h1 h2 => I.sep l l' b (by rw [← h l]; exact h1) (by rw [← h l']; exact h2)
  fresh := fun l b h1 => I.fresh l b (by rw [← h l]; exact h1) }

theorem freeze_heap (w : World) (g n : Nat) {cur : Array Value} {ty : TypeId} {f : Nat × Nat} (hb : w.heap[g]? = some (.cells cur ty f)) :
 (∃ f', (w.freeze ⟨g, n, none⟩ 1).heap[g]? = some (.cells cur ty f')) ∧ (∀ k, k ≠ g → (w.freeze ⟨g, n, none⟩ 1).heap[k]? = w.heap[k]?) ∧ (w.freeze ⟨g, n, none⟩ 1).heap.size = w.heap.size := by
 unfold World.freeze
 rw [if_neg (by decide)]
 refine ⟨?_, fun k hk => ?_, by simp⟩
 · simp only [Array.getElem?_modify, hb]
   obtain ⟨lo, hi⟩ := f
   exact ⟨_, rfl⟩
 · simp only [Array.getElem?_modify]
   rw [if_neg (fun e => hk e.symm)]
theorem MInv.mark (I : MInv E H ρ hp N w) {g n : Nat} {cur : Array Value} {ty : TypeId} {f : Nat × Nat} (hb : w.heap[g]? = some (.cells cur ty f))
 (hfree : ∀ l, look l hp ≠ .gone → baseOf ρ l ≠ some g) (hfresh : E.w0.heap.size ≤ g ∨ g ∈ E.own0) : MInv E H ρ hp N (w.freeze ⟨g, n, none⟩ 1) := by
 obtain ⟨⟨f', hself⟩, hoth, hsize⟩ := freeze_heap w g n hb
 have hos : (w.freeze ⟨g, n, none⟩ 1).os = w.os ∧ (w.freeze ⟨g, n, none⟩ 1).tape = w.tape ∧ outOk w (w.freeze ⟨g, n, none⟩ 1) := by
  unfold World.freeze
  rw [if_neg (by decide)]
  exact ⟨rfl, rfl, rfl, Nat.le_refl _⟩
 exact {
  mem := fun b' o v hv => by
   have h := I.mem b' o v hv
   by_cases e : b' = g
   · subst e
     unfold World.cell? at h ⊢
     simp only [hb] at h
     simp only [hself]
     exact h
   · unfold World.cell? at *
     simp only at *
     rw [hoth b' e]; exact h
  objs := fun k => by
   by_cases hg : look k hp = .gone
   · rw [hg]; trivial
   · exact objRel_mono (Mem.le_refl H) (Lab.le_refl ρ) (I.objs k) (fun b' e => hoth b' (fun eb => by subst eb; exact hfree k hg e)) (fun b' e o => rfl)
  sep := I.sep
  fresh := I.fresh
  bound := I.bound
  keepH := I.keepH
  newH := I.newH
  frame := fun b' hb' ho => by
   have hne : b' ≠ g := fun e => by
    subst e
    rcases hfresh with h | h
    · omega
    · exact ho h
   rw [hoth b' hne]; exact I.frame b' hb' ho
  grow := by rw [hsize]; exact I.grow
  os := hos.1.trans I.os
  tape := hos.2.1.trans I.tape
  output := hos.2.2.trans I.output
  root := I.root }

theorem MInv.write (I : MInv E H ρ hp N w) {g m : Nat} {cur cur' : Array Value} {ty : TypeId} {f : Nat × Nat} (hb : w.heap[g]? = some (.cells cur ty f))
 (hfree : ∀ l, look l hp ≠ .gone → baseOf ρ l ≠ some g) (hfresh : E.w0.heap.size ≤ g ∨ g ∈ E.own0)
 (hkeep : ∀ o v, H g o = some v → cur'[o]? = some v) :
 H.le (extH H g m cur'.toList) ∧ MInv E (extH H g m cur'.toList) ρ hp N (w.setRow g cur') := by
 have hle : H.le (extH H g m cur'.toList) := by
  intro b' o v hv
  unfold extH
  split
  · rename_i e
    obtain ⟨rfl, ho⟩ := e
    simpa using hkeep o v hv
  · exact hv
 have hoth : ∀ k, k ≠ g → (w.setRow g cur').heap[k]? = w.heap[k]? := fun k hk => setRow_other w g k cur' hk
 have hself := setRow_heap w g cur cur' ty f hb
 refine ⟨hle, ?_⟩
 exact {
  mem := fun b' o v hv => by
   unfold extH at hv
   split at hv
   · rename_i e
     obtain ⟨rfl, ho⟩ := e
     simpa [World.cell?, hself] using hv
   · by_cases e : b' = g
     · subst e
       simpa [World.cell?, hself] using hkeep o v hv
     · have := I.mem b' o v hv
       unfold World.cell? at *
       simp only at *
       rw [hoth b' e]; exact this
  objs := fun k => by
   by_cases hg : look k hp = .gone
   · rw [hg]; trivial
   · refine objRel_mono hle (Lab.le_refl ρ) (I.objs k) (fun b' e => hoth b' (fun eb => by subst eb; exact hfree k hg e)) (fun b' e o => ?_)
     have : b' ≠ g := fun eb => by subst eb; exact hfree k hg e
     simp [extH, this]
  sep := I.sep
  fresh := I.fresh
  bound := I.bound
  keepH := Mem.le_trans I.keepH hle
  newH := fun b' o h => by
   by_cases e : b' = g
   · subst e; exact .inr hfresh
   · have : extH H g m cur'.toList b' o = H b' o := by simp [extH, e]
     rw [this] at h; exact I.newH b' o h
  frame := fun b' hb' ho => by
   have hne : b' ≠ g := fun e => by
    subst e
    rcases hfresh with h | h
    · omega
    · exact ho h
   rw [hoth b' hne]; exact I.frame b' hb' ho
  grow := by simpa using I.grow
  os := I.os
  tape := I.tape
  output := I.output
  root := I.root }

theorem cellsIn_ext {g m : Nat} {c xs : List Value} (hm : xs.length ≤ m) (h : ∀ i, i < xs.length → c[i]? = xs[i]?) : cellsIn (extH H g m c) g 0 xs := by
 intro i hi
 unfold extH
 rw [if_pos ⟨rfl, by omega⟩, Nat.zero_add]
 exact h i hi

theorem MInv.own (I : MInv E H ρ hp N w) (hN : N lab) {n cap s : Nat} {e : TypeId} {c : Array Value} {f : Nat × Nat} (hn : n ≤ cap) (hcap : cap ≤ maxLen) (hc : c.size = cap * s) (hfar : farF f c.size) :
 H.le (extH H w.heap.size (n * s) c.toList) ∧ ρ.le (setLab ρ lab (.slice (some ⟨w.heap.size, 0, none⟩) n cap)) ∧
 MInv E (extH H w.heap.size (n * s) c.toList) (setLab ρ lab (.slice (some ⟨w.heap.size, 0, none⟩) n cap)) (put lab (.tok e s) hp) (but N lab) (w.alloc (.cells c e f)) ∧
 cellsIn (extH H w.heap.size (n * s) c.toList) w.heap.size 0 (c.toList.take (n * s)) := by
 have hle : H.le (extH H w.heap.size (n * s) c.toList) := by
  intro b' o v hv
  unfold extH
  split
  · rename_i e
    obtain ⟨rfl, ho⟩ := e
    rw [I.memLt (Nat.le_refl _)] at hv; cases hv
  · exact hv
 have hnew := heap_alloc_new w (.cells c e f)
 have I1 : MInv E (extH H w.heap.size (n * s) c.toList) ρ hp N (w.alloc (.cells c e f)) := by
  refine I.grown (Same.alloc w _) hle (fun b o v hv => ?_) (fun b hb o => ?_)
  · unfold extH at hv
    split at hv
    · rename_i e
      obtain ⟨rfl, ho⟩ := e
      show (match (w.alloc (.cells c e f)).heap[w.heap.size]? with | some (.cells c _ _) => _ | _ => _) = _
      rw [hnew]; simpa using hv
    · exact (Same.alloc w _).cell (I.mem b o v hv)
  · have : b ≠ w.heap.size := by omega
    simp [extH, this]
 refine ⟨hle, setLab_le (I.bound lab hN), I1.label hN ?_ ?_, ?_⟩
 · refine ⟨_, n, c.toList.take (n * s), by simp [setLab], ⟨?_, .inr ⟨w.heap.size, cap, c, f, rfl, hfar, hnew, hn, hcap, hc, rfl⟩⟩, ?_⟩
   · rw [List.length_take, Array.length_toList, hc, Nat.min_eq_left (Nat.mul_le_mul_right _ hn)]
   · intro g hg o ho
     simp [Value.ownBlock] at hg
     subst hg
     unfold extH
     rw [if_neg (by omega)]
     exact I.memLt (Nat.le_refl _)
 · intro b hb
   simp [blk] at hb
   subst hb
   exact ⟨.inl I.grow, fun l hl e => Nat.lt_irrefl _ (base_lt I hl e)⟩
 · refine cellsIn_ext (by simp; omega) (fun i hi => ?_)
   simp at hi
   rw [List.getElem?_take, if_pos (by omega)]

theorem MInv.sub (I : MInv E H ρ hp N w) {hp' : List (Nat × SObj)} (h : ∀ l, look l hp' = look l hp ∨ look l hp' = .gone) : MInv E H ρ hp' N w := by
 have alive : ∀ l, look l hp' ≠ .gone → look l hp ≠ .gone := fun l hl => by
  rcases h l with e | e
  · rw [← e]; exact hl
  · exact absurd e hl
 exact { I with
  objs := fun l => by
   rcases h l with e | e
   · rw [e]; exact I.objs l
   · rw [e]; trivial
  sep := fun l l' b h1 h2 => I.sep l l' b (alive l h1) (alive l' h2)
  fresh := fun l b h1 => I.fresh l b (alive l h1) }
end Go.Vse
