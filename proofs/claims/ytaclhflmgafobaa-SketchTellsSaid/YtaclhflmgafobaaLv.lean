/- The law's own examples: run once. -/
import Derived.Test.YtaclhflmgafobaaC
namespace Go.Proofs.Ytaclhflmgafobaa
open Go Go.Ab Go.Proofs
theorem unnamed (f : FuncId) (fn : Func) (h : Try.prog.funcs[f]? = some fn) : (fn.name == "runtime.NumGoroutine") = false := by
  have key : (Try.prog.funcs.all fun fn => !(fn.name == "runtime.NumGoroutine")) = true := by kernel_rfl
  rw [Array.all_eq_true] at key
  obtain ⟨hf, rfl⟩ := Array.getElem?_eq_some_iff.1 h
  simpa using key f hf
theorem lives_run : (evCall Try.prog noSum 100 5 [] ⟨0, []⟩).map (·.1) = some (.bool true) := by kernel_rfl
def F_lives : Option Bool := some true
theorem F_lives.ok {r : Bool} (h : F_lives = some r) : Pure Try.prog 5 [] (.bool r) := by
  obtain rfl := Option.some.inj h
  exact pure_run mixed unnamed lives_run rfl
end Go.Proofs.Ytaclhflmgafobaa
