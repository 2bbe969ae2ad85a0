/- PropKnown: one tree for each kind. -/
import Derived.Test.YtjpeplidbodjiaaJD
namespace Go.Proofs.Ytjpeplidbodjiaa
set_option maxRecDepth 100000
theorem t16_6 (a b v : Int) : evV (VK8 18 6) Try.f16 300 [u32V a, u32V b, intV v] ⟨[], [], 0⟩ = knT0 (placeZ v 18 == Int.ofNat 6) (recV 9 0 a b 0 == recV 9 0 a b 0) := by kernel_rfl
theorem t16_7 (a b v : Int) : evV (VK8 18 7) Try.f16 300 [u32V a, u32V b, intV v] ⟨[], [], 0⟩ = knT0 (placeZ v 18 == Int.ofNat 7) (recV 10 0 a b 0 == recV 10 0 a b 0) := by kernel_rfl
theorem t16_8 (a b v : Int) : evV (VK8 18 8) Try.f16 300 [u32V a, u32V b, intV v] ⟨[], [], 0⟩ = knT0 (placeZ v 18 == Int.ofNat 8) (recV 11 0 a b 0 == recV 11 0 a b 0) := by kernel_rfl
theorem t16_9 (a b v : Int) : evV (VK8 18 9) Try.f16 300 [u32V a, u32V b, intV v] ⟨[], [], 0⟩ = knT0 (placeZ v 18 == Int.ofNat 9) (recV 12 0 a b 0 == recV 12 0 a b 0) := by kernel_rfl
theorem t16_10 (a b v : Int) : evV (VK8 18 10) Try.f16 300 [u32V a, u32V b, intV v] ⟨[], [], 0⟩ = knT0 (placeZ v 18 == Int.ofNat 10) (recV 13 0 a b 0 == recV 13 0 a b 0) := by kernel_rfl
theorem t16_11 (a b v : Int) : evV (VK8 18 11) Try.f16 300 [u32V a, u32V b, intV v] ⟨[], [], 0⟩ = knT0 (placeZ v 18 == Int.ofNat 11) (recV 14 0 a b 0 == recV 14 0 a b 0) := by kernel_rfl
end Go.Proofs.Ytjpeplidbodjiaa
