/- For every input of bulk at most 1048576 the law NamesLast returns true, and what it is given reads behind the call as it read before. -/
import Derived.Test.YtmjkknlkgkjigaaRows
import Derived.Test.YtmjkknlkgkjigaaQCNam5
import Derived.Test.YtmjkknlkgkjigaaQVseUpto
import Derived.Handed
import Derived.JoinedCond
set_option maxRecDepth 100000
namespace Go.Proofs.Ytmjkknlkgkjigaa.namesLastUpto
open Go.ChangeShapes Go.WideShapes Go.ChangeAt Go.RowKit Go.Vse Go.Sal Go.Sal.Nm

theorem own : ownKnob Try.prog.godebug = none := by kernel_rfl
def zDig : Array Value := Array.replicate 32 (.int .u8 0)
def zSlice : Value := .slice none 0 0
def zStr : Value := .string ByteArray.empty
def zInt : Value := .int .i64 0
def zRec : Value := .agg (#[.int .i64 0, .int .i64 0] ++ zDig ++ #[.int .i64 0, .int .i64 0, zStr, zSlice])
def dStr {H : Type} : DataW H := .lit (.string [])
def dInt {H : Type} : DataW H := .lit (.int .i64 0)
def dRec {H : Type} : DataW H := .agg [dInt, dInt, .agg (List.replicate 32 (.lit (.int .u8 0))), dInt, dInt, dStr, .nil]

theorem one_le {H : Type} (d : DataW H) : 1 ≤ Rows.uptoBulk d := by
  cases d with
  | lit l => cases l <;> simp [Rows.uptoBulk]
  | nil => simp [Rows.uptoBulk]
  | ptr d => simp [Rows.uptoBulk]
  | slice elems spare => simp [Rows.uptoBulk]
  | agg parts => simp [Rows.uptoBulk]
  | iface t d => simp [Rows.uptoBulk]
  | map entries => simp [Rows.uptoBulk]
  | held h => simp [Rows.uptoBulk]
theorem len_le {H : Type} : ∀ l : List (DataW H), l.length ≤ Rows.uptoBulkAll l
  | [] => by simp [Rows.uptoBulkAll]
  | x :: r => by
    have := one_le x
    have := len_le r
    simp only [Rows.uptoBulkAll, List.length_cons]; omega
theorem elems_le {H : Type} (d : DataW H) : elemsD d ≤ Rows.uptoBulk d := by
  cases d with
  | slice elems spare =>
    have := len_le elems
    simp only [elemsD, Rows.uptoBulk]; omega
  | _ => simp only [elemsD]; exact Nat.zero_le _
theorem part_le {H : Type} {d : DataW H} : ∀ {l : List (DataW H)}, d ∈ l → Rows.uptoBulk d ≤ Rows.uptoBulkAll l
  | x :: r, h => by
    simp only [Rows.uptoBulkAll]
    rcases List.mem_cons.1 h with e | e
    · subst e; omega
    · have := part_le e; omega

theorem lifted (os : Os) (started : os.Started) (H : Type) (enc : TypeId × Value → H) (F : Stop.Interp) :
    ReturnsInHanded {} Try.checked os 4 .any ((Rows.OpenSpec.upto Rows.namesLastSpec).pre6 enc Try.prog Try.f4 Rows.namesLastUptoRow.domain false) (((Rows.OpenSpec.upto Rows.namesLastSpec).at F).post enc Try.prog Try.f4 false true false false) := by
  refine returnsInHanded_of_cond (C := Try.checked) (s := Rows.OpenSpec.upto Rows.namesLastSpec) (k := Rows.uptoSmall) rfl own started (by kernel_rfl) Try.func4
    (OpenSpec.witness (enc := enc) (C := Try.checked) (s := Rows.OpenSpec.upto Rows.namesLastSpec) (k := Rows.uptoSmall) rfl false ⟨#[], #[zSlice, zRec, zStr], []⟩ 12 (by kernel_rfl) (by kernel_rfl) (by kernel_rfl)
      (x := ([.nil, dRec, dStr], [], [])) (by kernel_rfl) rfl (by kernel_rfl)) ?_
  intro W base args ds gs before hval hW _ hk _
  have hk : Rows.uptoBulkAll (ds ++ gs) ≤ 1048576 := of_decide_eq_true hk
  have hb : ∀ d ∈ ds, elemsD d ≤ 1048576 := fun d hd => Nat.le_trans (Nat.le_trans (elems_le d) (part_le (List.mem_append_left gs hd))) hk
  exact law_callsU law15_NamesLast_spec (params_as 12 (by kernel_rfl)) (tb := 4) (by kernel_rfl) Try.underlying4 (by kernel_rfl) (by kernel_rfl) (by kernel_rfl) (by decide) (by kernel_rfl) rfl
    (fun ds h => by
      have h : ds.length = 3 := h.trans (by kernel_rfl)
      match ds, h with
      | [_, _, _], _ => rfl) hval hW (fun x h => by
      match ds, h, hb with
      | d :: _, h, hb => exact Nat.le_trans h.1 (hb d (List.mem_cons_self ..)))

theorem proved : Rows.NamesLastUptoSaid :=
  OpenClaim.holds_of_cond 4 Try.f4 rfl rfl rfl rfl rfl rfl rfl ⟨rfl, rfl, rfl, rfl, rfl⟩ rfl rfl rfl rfl rfl (by kernel_rfl) Try.func4 (by kernel_rfl)
    (of_decide_eq_true (by kernel_rfl)) (by unfold Func.isWrapper; first | (rw [if_pos (by decide +kernel)]; kernel_rfl) | (rw [if_neg (by decide +kernel)]; exact ⟨rfl, rfl⟩))
    (fun os started H enc _ F => lifted os started H enc F)

end Go.Proofs.Ytmjkknlkgkjigaa.namesLastUpto
