/- The types that the functions use, as Lean data, and what the program knows of them. -/
import Derived.Test.YtaclhflmgafobaaFzV
import Derived.Test.YtaclhflmgafobaaProg
import Derived.Test.YtaclhflmgafobaaLay
namespace Go.Proofs.Ytaclhflmgafobaa
open Go Go.Ab Go.Proofs
set_option linter.unusedSimpArgs false
set_option linter.unusedVariables false
set_option maxRecDepth 20000
set_option maxHeartbeats 1000000
theorem mixed : Try.prog.follows .mixedOrders = true := by kernel_rfl
structure S_sketch_far where
  apart : Int
  place : Int
  deriving DecidableEq
def eS_sketch_far : En S_sketch_far := eS (eP (eI .i64) (eI .i64)) (fun x => (x.apart, x.place)) (fun x y h => by cases x; cases y; simp at h; simp [h])
def zS_sketch_far : S_sketch_far := ⟨(0 : Int), (0 : Int)⟩
theorem fo47_0 : FO Try.prog 47 0 3 0 := by unfold FO; kernel_rfl
theorem fo47_1 : FO Try.prog 47 1 3 1 := by unfold FO; kernel_rfl
theorem ty3 : Ty Try.prog 3 (eI .i64) := ⟨by kernel_rfl, by kernel_rfl, by decide⟩
theorem ty21 : Ty Try.prog 21 (eI .i32) := ⟨by kernel_rfl, by kernel_rfl, by decide⟩
theorem ty23 : Ty Try.prog 23 eW := ⟨by kernel_rfl, by kernel_rfl, by decide⟩
theorem ty25 : Ty Try.prog 25 (eL eW) := ⟨by kernel_rfl, by kernel_rfl, by decide⟩
theorem ty47 : Ty Try.prog 47 eS_sketch_far := ⟨by kernel_rfl, by kernel_rfl, by decide⟩
theorem et3 : ElemT Try.prog 3 ((eI .i64)).sz 8 := ⟨by kernel_rfl, by decide, by decide⟩
theorem et23 : ElemT Try.prog 23 (eW).sz 8 := ⟨by kernel_rfl, by decide, by decide⟩
theorem et47 : ElemT Try.prog 47 (eS_sketch_far).sz 16 := ⟨by kernel_rfl, by decide, by decide⟩
theorem zr3 : zeroOf Try.prog 3 = some (.int .i64 0) := by kernel_rfl
theorem zr23 : zeroOf Try.prog 23 = some (.int .u64 0) := by kernel_rfl
theorem zr47 : zeroOf Try.prog 47 = some (.agg #[.int .i64 0, .int .i64 0]) := by kernel_rfl
theorem bld47_0_1 (a0 : Int) (a1 : Int) : aBuild Try.prog 47 [(0, (Value.int .i64 a0)), (1, (Value.int .i64 a1))] = some ((eS_sketch_far.val ({ apart := a0, place := a1 } : S_sketch_far))) := by kernel_rfl
end Go.Proofs.Ytaclhflmgafobaa
