/- PropKnown: for every two numbers and every kind the law says true. -/
import Derived.Test.YtjpeplidbodjiaaJE
import Derived.Test.YtjpeplidbodjiaaJF
import Derived.Test.YtjpeplidbodjiaaJG
namespace Go.Proofs.Ytjpeplidbodjiaa
theorem i32_range' (a : Int) : -2147483648 ≤ IntKind.i32.wrap a ∧ IntKind.i32.wrap a ≤ 2147483647 := by
  have e := IntKind.wrap_i32 a
  rw [e]
  omega
theorem divG_true {y : Int} (h0 : 0 ≤ y) (h1 : y ≤ 4294967295) : divG y = true := by
  unfold divG divS
  have e := IntKind.wrap_i32 y
  have r := i32_range' y
  by_cases h : y = 0
  · simp [h]
  · have h2 : IntKind.i64.wrap (IntKind.i32.wrap y) ≠ 0 := by rw [IntKind.wrap_i64]; omega
    simp [h2]
theorem propKnown_yes (a b v : Int) (h0 : 0 ≤ b) (h1 : b ≤ 4294967295) : ∃ j, evV (VK8 18 j) Try.f16 300 [u32V a, u32V b, intV v] ⟨[], [], 0⟩ = yesO := by
  obtain ⟨g1, g2⟩ := placeZ_range (v := v) (n := 18) (by omega) (by omega)
  have key0 : ∀ (j : Nat) (r : Int), placeZ v 18 = (j : Int) → evV (VK8 18 j) Try.f16 300 [u32V a, u32V b, intV v] ⟨[], [], 0⟩ = knT0 (placeZ v 18 == Int.ofNat j) (r == r) → ∃ j, evV (VK8 18 j) Try.f16 300 [u32V a, u32V b, intV v] ⟨[], [], 0⟩ = yesO := by
    intro j r hj he
    refine ⟨j, he.trans ?_⟩
    have e : (placeZ v 18 == Int.ofNat j) = true := by rw [hj]; exact beq_self_eq_true _
    rw [e, beq_self_eq_true]
    rfl
  have key1 : ∀ (j : Nat) (r : Int), placeZ v 18 = (j : Int) → evV (VK8 18 j) Try.f16 300 [u32V a, u32V b, intV v] ⟨[], [], 0⟩ = knT (placeZ v 18 == Int.ofNat j) (r == r) (divG b) → ∃ j, evV (VK8 18 j) Try.f16 300 [u32V a, u32V b, intV v] ⟨[], [], 0⟩ = yesO := by
    intro j r hj he
    refine ⟨j, he.trans ?_⟩
    have e : (placeZ v 18 == Int.ofNat j) = true := by rw [hj]; exact beq_self_eq_true _
    rw [e, beq_self_eq_true, divG_true h0 h1]
    rfl
  have hn : placeZ v 18 = ((placeZ v 18).toNat : Int) := by omega
  have hlt : (placeZ v 18).toNat < 18 := by omega
  generalize (placeZ v 18).toNat = n at hn hlt
  match n, hlt, hn with
  | 0, _, hn => exact key0 0 (recV 3 0 a b 0) hn (t16_0 a b v)
  | 1, _, hn => exact key0 1 (recV 4 0 a b 0) hn (t16_1 a b v)
  | 2, _, hn => exact key0 2 (recV 5 0 a b 0) hn (t16_2 a b v)
  | 3, _, hn => exact key0 3 (recV 6 0 a b 0) hn (t16_3 a b v)
  | 4, _, hn => exact key0 4 (recV 7 0 a b 0) hn (t16_4 a b v)
  | 5, _, hn => exact key0 5 (recV 8 0 a b 0) hn (t16_5 a b v)
  | 6, _, hn => exact key0 6 (recV 9 0 a b 0) hn (t16_6 a b v)
  | 7, _, hn => exact key0 7 (recV 10 0 a b 0) hn (t16_7 a b v)
  | 8, _, hn => exact key0 8 (recV 11 0 a b 0) hn (t16_8 a b v)
  | 9, _, hn => exact key0 9 (recV 12 0 a b 0) hn (t16_9 a b v)
  | 10, _, hn => exact key0 10 (recV 13 0 a b 0) hn (t16_10 a b v)
  | 11, _, hn => exact key0 11 (recV 14 0 a b 0) hn (t16_11 a b v)
  | 12, _, hn => exact key0 12 (recV 15 0 a b 0) hn (t16_12 a b v)
  | 13, _, hn => exact key0 13 (recV 16 0 a b 0) hn (t16_13 a b v)
  | 14, _, hn => exact key1 14 (recV 17 0 a b 0) hn (t16_14 a b v)
  | 15, _, hn => exact key0 15 (recV 18 0 a b 0) hn (t16_15 a b v)
  | 16, _, hn => exact key1 16 (recV 19 0 a b 0) hn (t16_16 a b v)
  | 17, _, hn => exact key0 17 (recV 20 0 a b 0) hn (t16_17 a b v)
  | n + 18, hlt, _ => omega
end Go.Proofs.Ytjpeplidbodjiaa
