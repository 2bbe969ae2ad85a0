/- PropKnown: one tree for each kind. -/
import Derived.Test.YtjpeplidbodjiaaJD
namespace Go.Proofs.Ytjpeplidbodjiaa
set_option maxRecDepth 100000
theorem t16_12 (a b v : Int) : evV (VK8 18 12) Try.f16 300 [u32V a, u32V b, intV v] ⟨[], [], 0⟩ = knT0 (placeZ v 18 == Int.ofNat 12) (recV 15 0 a b 0 == recV 15 0 a b 0) := by kernel_rfl
theorem t16_13 (a b v : Int) : evV (VK8 18 13) Try.f16 300 [u32V a, u32V b, intV v] ⟨[], [], 0⟩ = knT0 (placeZ v 18 == Int.ofNat 13) (recV 16 0 a b 0 == recV 16 0 a b 0) := by kernel_rfl
theorem t16_14 (a b v : Int) : evV (VK8 18 14) Try.f16 300 [u32V a, u32V b, intV v] ⟨[], [], 0⟩ = knT (placeZ v 18 == Int.ofNat 14) (recV 17 0 a b 0 == recV 17 0 a b 0) (divG b) := by kernel_rfl
theorem t16_15 (a b v : Int) : evV (VK8 18 15) Try.f16 300 [u32V a, u32V b, intV v] ⟨[], [], 0⟩ = knT0 (placeZ v 18 == Int.ofNat 15) (recV 18 0 a b 0 == recV 18 0 a b 0) := by kernel_rfl
theorem t16_16 (a b v : Int) : evV (VK8 18 16) Try.f16 300 [u32V a, u32V b, intV v] ⟨[], [], 0⟩ = knT (placeZ v 18 == Int.ofNat 16) (recV 19 0 a b 0 == recV 19 0 a b 0) (divG b) := by kernel_rfl
theorem t16_17 (a b v : Int) : evV (VK8 18 17) Try.f16 300 [u32V a, u32V b, intV v] ⟨[], [], 0⟩ = knT0 (placeZ v 18 == Int.ofNat 17) (recV 20 0 a b 0 == recV 20 0 a b 0) := by kernel_rfl
end Go.Proofs.Ytjpeplidbodjiaa
