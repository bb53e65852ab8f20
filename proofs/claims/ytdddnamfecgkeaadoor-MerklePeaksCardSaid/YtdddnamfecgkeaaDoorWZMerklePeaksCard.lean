/- For every input the law saltern/salternlaw27.MerklePeaks returns true, and what it is given reads behind the call as it read before; the card ties the two tables of math/bits to the program's text. -/
import Derived.Test.YtdddnamfecgkeaaDoorCards
import Derived.Test.YtdddnamfecgkeaaDoorTie
import Derived.Test.YtdddnamfecgkeaaDoorWCTre3
import Derived.Test.YtdddnamfecgkeaaDoorWVseClose
import Derived.Handed
import Derived.OpenShut
import Derived.Deep.DeepHandedRow
import Derived.Lib.LaidTab
import Derived.LaidSub
set_option maxRecDepth 100000
namespace Go.Proofs.YtdddnamfecgkeaaDoor.merklePeaksCard
open Go.ChangeShapes Go.WideShapes Go.ChangeAt Go.RowKit Go.Vse Go.Sal Go.Sal.Nm

theorem own : ownKnob Tryd.prog.godebug = none := by kernel_rfl
def u8s (l : List Int) : Array Value := (l.map fun n => Value.int .u8 n).toArray
def tab32 : Array Value := u8s [0, 1, 28, 2, 29, 14, 24, 3, 30, 22, 20, 15, 25, 17, 4, 8, 31, 27, 13, 23, 21, 19, 16, 7, 26, 12, 18, 6, 11, 5, 10, 9]
def tab64 : Array Value := u8s [0, 1, 56, 2, 57, 49, 28, 3, 61, 58, 42, 50, 38, 29, 17, 4, 62, 47, 59, 36, 45, 43, 51, 22, 53, 39, 33, 30, 24, 18, 12, 5, 63, 55, 48, 27, 60, 41, 37, 16, 46, 35, 44, 21, 52, 32, 23, 11, 54, 26, 40, 15, 34, 20, 31, 10, 25, 14, 19, 9, 13, 8, 7, 6]
def lay (c : Array Value) : Obj → Obj
 | .cells _ t frozen => .cells c t frozen
 | o => o
noncomputable def laidWorld (os : Os) : World :=
 { World.holding Tryd.prog os ⟨#[], #[], []⟩ with heap := ((World.holding Tryd.prog os ⟨#[], #[], []⟩).heap.modify 0 (lay tab32)).modify 1 (lay tab64) }
theorem laid_met (os : Os) : laidMet Tryd.prog Rows.merklePeaksRow.laid ((laidWorld os).forCall (fun _ _ => 0) ⟨#[], #[.slice none 0 0, .int .i64 0], []⟩).memory :=
 laidMet_of_run' 8 (by kernel_rfl) (by kernel_rfl)
theorem tab_has {W : World} (h : ∀ j, j < 64 → W.cell? ⟨1, j, none⟩ = some (.int .u8 ((tab64L.getD j 0 : Nat) : Int))) : HasG P (memOf W) := fun b o v hv => by
 have e : gtab P = some 1 := by kernel_rfl
 unfold gmem at hv
 rw [e] at hv
 simp only at hv
 split at hv
 · rename_i hb
   subst hb
   by_cases ho : o < 64
   · have hs : tab64L[o]? = some (tab64L.getD o 0) := by rw [List.getD_eq_getElem?_getD, List.getElem?_eq_getElem ho]; rfl
     rw [hs] at hv
     exact (h o ho).trans hv
   · have hn : tab64L[o]? = none := List.getElem?_eq_none (Nat.le_of_not_lt ho)
     rw [hn] at hv
     cases hv
 · cases hv
theorem hasG {W : World} (hL : laidMet Tryd.prog Rows.merklePeaksRow.laid W) : HasG P (memOf W) := by
 have hF := hL.filter (fun x => x.1 == "math/bits.deBruijn64tab")
 have hT : Lib.TabIs Tryd.prog W "math/bits.deBruijn64tab" .u8 (tab64L.map Int.ofNat) :=
  Lib.tabIs_of_head (rest := []) (g := 1) (t := 79) (e := 5) (n := 64) (by kernel_rfl) (by kernel_rfl) (by kernel_rfl) (by kernel_rfl) (by kernel_rfl) (by kernel_rfl) hF
 refine tab_has fun j hj => ?_
 rw [hT.cell (g := 1) (by kernel_rfl) j (by rw [List.length_map]; exact hj)]
 have hs : tab64L[j]? = some (tab64L.getD j 0) := by rw [List.getD_eq_getElem?_getD, List.getElem?_eq_getElem hj]; rfl
 rw [List.getD_eq_getElem?_getD, List.getElem?_map, hs]
 rfl
theorem reads (os : Os) {H : Type} (enc : TypeId × Value → H) : ∃ places, DataW.whole enc Tryd.prog ((laidWorld os).forCall (fun _ _ => 0) ⟨#[], #[.slice none 0 0, .int .i64 0], []⟩).memory Tryd.f5.params.toList Rows.merklePeaksSpec.vars false (#[.slice none 0 0, .int .i64 0] : Array Value).toList 8 = some ([.nil, .lit (.int .i64 0)], [], places) :=
 ⟨[], by kernel_rfl⟩
theorem lifted (os : Os) (started : os.Started) (H : Type) (enc : TypeId × Value → H) (F : Stop.Interp) :
 ReturnsInHanded {} Tryd.checked os 5 .any ((OpenSpec.ofChange Rows.merklePeaksSpec).preRow enc Tryd.prog Tryd.f5 Rows.merklePeaksRow.domain false Rows.merklePeaksRow.laid) (((OpenSpec.ofChange Rows.merklePeaksSpec).at F).post enc Tryd.prog Tryd.f5 false true false false) := by
 obtain ⟨places, hx⟩ := reads os enc
 refine returnsInHanded_of_row (C := Tryd.checked) (s := OpenSpec.ofChange Rows.merklePeaksSpec) own started (by kernel_rfl) Tryd.func5
  (witness_row_at (enc := enc) (C := Tryd.checked) false (laidWorld os) #[.slice none 0 0, .int .i64 0] rfl (by kernel_rfl) (by kernel_rfl) (by kernel_rfl)
   (OpenSpec.preRow_of_cond 8 hx (by kernel_rfl) (fun k hk => by cases hk) (by kernel_rfl) (laid_met os))) ?_
 intro W base args ds gs before hval hW _ _ _ hL _ _
 exact law_callsG law27_MerklePeaks_spec (params_as 12 (by kernel_rfl)) (tb := 4) (by kernel_rfl) Tryd.underlying4 (by kernel_rfl) (by kernel_rfl) (by kernel_rfl) (by decide) (by kernel_rfl) rfl
  (fun ds h => by
   have h : ds.length = 2 := h.trans (by kernel_rfl)
   match ds, h with
   | [_, _], _ => rfl) hval hW (hasG hL)
theorem said : Rows.MerklePeaksSaid :=
 OpenClaim.holds_of_cond 5 Tryd.f5 rfl rfl rfl rfl rfl rfl rfl ⟨rfl, rfl, rfl, rfl, rfl⟩ rfl rfl rfl rfl rfl (by kernel_rfl) Tryd.func5 (by kernel_rfl)
  (of_decide_eq_true (by kernel_rfl)) (by unfold Func.isWrapper; first | (rw [if_pos (by decide +kernel)]; kernel_rfl) | (rw [if_neg (by decide +kernel)]; exact ⟨rfl, rfl⟩))
  (fun os started H enc _ F => by rw [OpenClaim.pre_eq_preRow]; exact lifted os started H enc F)
theorem plain (f : FuncId) (fn : Func) (hf : Tryd.pinned.checked.prog.funcNamed "saltern/salternlaw27.MerklePeaks" = some f) (hfn : Tryd.pinned.checked.prog.funcs[f]? = some fn) :
 false = Tryd.pinned.checked.prog.looks [] ∧ ∀ (j : Nat) t, fn.params[j]? = some t → Tryd.pinned.checked.prog.wantsStandIn t = false := by
 obtain rfl : f = 5 := Option.some.inj ((show Tryd.prog.funcNamed "saltern/salternlaw27.MerklePeaks" = some 5 by kernel_rfl).symm.trans hf) |>.symm
 obtain rfl : fn = Tryd.f5 := (Option.some.inj (Tryd.func5.symm.trans hfn)).symm
 refine ⟨by kernel_rfl, fun j t ht => ?_⟩
 have hm : t ∈ Tryd.f5.params := Array.mem_of_getElem? ht
 have ha : (Tryd.f5.params.toList.all fun t => !Tryd.prog.wantsStandIn t) = true := by kernel_rfl
 have := List.all_eq_true.1 ha t (by simpa using hm)
 exact (show Tryd.prog.wantsStandIn t = false by simpa using this)

theorem proved : Rows.MerklePeaksCardSaid :=
 Claim7.holds_tied_plain_at .later [] _ _ _ _ said (fun _ h => by cases h) (by kernel_rfl) (fun _ h => by cases h) merklePeaks_row_tie rfl ⟨rfl, rfl⟩ (by kernel_rfl) rfl plain (by kernel_rfl)

end Go.Proofs.YtdddnamfecgkeaaDoor.merklePeaksCard
