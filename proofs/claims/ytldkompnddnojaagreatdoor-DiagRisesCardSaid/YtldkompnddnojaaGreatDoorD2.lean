/- The law's example, carried out by the kernel. Conditions: none. -/
import Derived.Test.YtldkompnddnojaaGreatDoorD1
set_option linter.unusedVariables false
set_option maxRecDepth 100000
namespace Go.W

theorem works_run0 : (kCall cx (kExec cx 100000) 5 [] ⟨0, .e⟩).map (fun x => sameV x.1 (.bool true)) = some true := by kernel_rfl
theorem works_run2 : (kCall cx (kExec cx 100000) 5 [] (((⟨0, .e⟩ : St).push (.tok 3)).push (.tok 3))).map (fun x => sameV x.1 (.bool true)) = some true := by kernel_rfl

theorem works_of {s : St} (h : (kCall cx (kExec cx 100000) 5 [] s).map (fun x => sameV x.1 (.bool true)) = some true) : SCall cx 5 [] s.as (fun v _ => v = .bool true) := by
  obtain ⟨x, hx, hs⟩ := Option.map_eq_some_iff.1 h
  refine (kCall_ok cx_ok (s' := x.2) (v := x.1) hx).mono fun v σ hv => ?_
  rw [hv.1]; exact sameV_eq _ _ hs
theorem works_0 : SCall cx 5 [] [] (fun v _ => v = .bool true) := works_of works_run0
theorem works_2 : SCall cx 5 [] [.tok 3, .tok 3] (fun v _ => v = .bool true) := by
  have := works_of works_run2
  rwa [St.push_ok, St.push_ok] at this

end Go.W
