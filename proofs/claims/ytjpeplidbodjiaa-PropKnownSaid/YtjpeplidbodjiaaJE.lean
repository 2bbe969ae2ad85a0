/- PropKnown: one tree for each kind. -/
import Derived.Test.YtjpeplidbodjiaaJD
namespace Go.Proofs.Ytjpeplidbodjiaa
set_option maxRecDepth 100000
theorem t16_0 (a b v : Int) : evV (VK8 18 0) Try.f16 300 [u32V a, u32V b, intV v] ⟨[], [], 0⟩ = knT0 (placeZ v 18 == Int.ofNat 0) (recV 3 0 a b 0 == recV 3 0 a b 0) := by kernel_rfl
theorem t16_1 (a b v : Int) : evV (VK8 18 1) Try.f16 300 [u32V a, u32V b, intV v] ⟨[], [], 0⟩ = knT0 (placeZ v 18 == Int.ofNat 1) (recV 4 0 a b 0 == recV 4 0 a b 0) := by kernel_rfl
theorem t16_2 (a b v : Int) : evV (VK8 18 2) Try.f16 300 [u32V a, u32V b, intV v] ⟨[], [], 0⟩ = knT0 (placeZ v 18 == Int.ofNat 2) (recV 5 0 a b 0 == recV 5 0 a b 0) := by kernel_rfl
theorem t16_3 (a b v : Int) : evV (VK8 18 3) Try.f16 300 [u32V a, u32V b, intV v] ⟨[], [], 0⟩ = knT0 (placeZ v 18 == Int.ofNat 3) (recV 6 0 a b 0 == recV 6 0 a b 0) := by kernel_rfl
theorem t16_4 (a b v : Int) : evV (VK8 18 4) Try.f16 300 [u32V a, u32V b, intV v] ⟨[], [], 0⟩ = knT0 (placeZ v 18 == Int.ofNat 4) (recV 7 0 a b 0 == recV 7 0 a b 0) := by kernel_rfl
theorem t16_5 (a b v : Int) : evV (VK8 18 5) Try.f16 300 [u32V a, u32V b, intV v] ⟨[], [], 0⟩ = knT0 (placeZ v 18 == Int.ofNat 5) (recV 8 0 a b 0 == recV 8 0 a b 0) := by kernel_rfl
end Go.Proofs.Ytjpeplidbodjiaa
