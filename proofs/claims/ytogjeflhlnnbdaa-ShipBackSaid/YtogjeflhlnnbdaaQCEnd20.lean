/- The laws of chapter 20 on messages, as their parameters' types have them. -/
import Derived.Test.YtogjeflhlnnbdaaQCLaw20
import Derived.Test.YtogjeflhlnnbdaaQVseClose
set_option maxRecDepth 100000
namespace Go.Sal
open Go.Vse Go.Sal.Nm

abbrev T_MsgF : T := .pair .i64 (.pair .i64 (.pair .i64 (.pair T_Dig (.pair .i64 (.pair T_Dig (.pair .i64 (.pair .i64 (.pair T_Dig (.pair .i64 (.pair .i64 (.pair .str (.pair (.slc T_Pie) (.pair (.slc T_Dig) (.slc .u8))))))))))))))
def nestM (a : T_MsgF.den) : Msg := (a.1, (a.2.1, a.2.2.1, a.2.2.2.1), a.2.2.2.2.1, a.2.2.2.2.2.1, (a.2.2.2.2.2.2.1, a.2.2.2.2.2.2.2.1, a.2.2.2.2.2.2.2.2.1, a.2.2.2.2.2.2.2.2.2.1, a.2.2.2.2.2.2.2.2.2.2.1, a.2.2.2.2.2.2.2.2.2.2.2.1, a.2.2.2.2.2.2.2.2.2.2.2.2.1), a.2.2.2.2.2.2.2.2.2.2.2.2.2.1, a.2.2.2.2.2.2.2.2.2.2.2.2.2.2)
/-- a law that holds of arguments of other types holds of those that are laid alike -/
theorem flat_law {f : FuncId} {ts us : List T} (g : dens us → dens ts) (hg : ∀ x, svsOf us x = svsOf ts (g x)) (hn : ∀ c ∈ ts, c ≠ .unit) (h : Vse.Spec P f (c_law20 ts)) : Vse.Spec P f (c_law20 us) := by
  refine ⟨h.fn, fun H w ins vs gr r hct hvc hrel hmem => h.does H w ins vs gr r ?_ hvc hrel hmem⟩
  simp only [c_law20, D, cFn] at hct ⊢
  split at hct
  case h_2 => cases hct
  rename_i x hx
  have e := decs_eq hx
  subst e
  rw [hg x, decs_of ts hn]
  exact hct

theorem law20_ShipFormsF_spec : Vse.Spec P f_law20_ShipForms (c_law20 [T_MsgF, T_MsgF]) :=
  flat_law (fun x => (nestM x.1, nestM x.2.1, ())) (fun _ => rfl) (by simp) law20_ShipForms_spec
theorem law20_ShipBackF_spec : Vse.Spec P f_law20_ShipBack (c_law20 [T_MsgF, .slc .u8]) :=
  flat_law (fun x => (nestM x.1, x.2.1, ())) (fun _ => rfl) (by simp) law20_ShipBack_spec
theorem law20_ShipReadsF_spec : Vse.Spec P f_law20_ShipReads (c_law20 [.slc .u8]) := law20_ShipReads_spec

end Go.Sal
