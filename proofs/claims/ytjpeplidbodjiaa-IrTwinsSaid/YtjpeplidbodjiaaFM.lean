/- IrTwins: the law is true of all numbers. -/
import Derived.Test.YtjpeplidbodjiaaFL
import Derived.OpenShut
namespace Go.Proofs.Ytjpeplidbodjiaa
open Go.RowKit
set_option maxRecDepth 100000
def no : Out := some (boolV false, h00)
def yes : Out := some (boolV true, h00)
def end12 (x y : Int) : Out :=
  bif recV 23 0 x 0 77 == x then
    bif (bif true then recV 24 0 x 1 77 == x else false) then
      bif (bif true then (x == y) != (x != y) else false) then
        bif (bif true then (!ltS x y) != ltS x y else false) then yes else no
      else no
    else no
  else no
theorem t12 (x y : Int) : evF EL57 Try.f12 200 [u32V x, u32V y] ⟨[], [], 0⟩ =
  bif recV 4 0 (recV 3 0 x y 77) y 77 != x then no else
  bif (bif false then true else IntKind.u32.wrap (recV 25 0 x y 77 + recV 26 0 x y 77) != 1) then no else
  bif (bif false then true else IntKind.u32.wrap (recV 27 0 x y 77 + recV 28 0 x y 77) != 1) then no else
  bif (bif false then true else IntKind.u32.wrap (recV 29 0 x y 77 + recV 30 0 x y 77) != 1) then no else
  bif (bif false then true else recV 8 0 x y 77 != notV (recV 6 0 x y 77)) then no else
  bif (bif false then true else recV 2 0 x y 77 != x) then no else
  bif y != 0 then
    bif IntKind.u32.wrap (recV 14 0 (recV 18 0 x y 77) y 77 + recV 20 0 x y 77) != x then no else
    bif recG 17 y then bif recG 19 y then
      bif (bif true then (bif false then true else IntKind.u32.wrap (recV 14 0 (recV 17 0 x y 77) y 77 + recV 19 0 x y 77) != x) else false) then no else end12 x y
    else none else none
  else end12 x y := by kernel_rfl
theorem i32_mod (a : Int) : (IntKind.i32.wrap a) % 4294967296 = a % 4294967296 := by rw [IntKind.wrap_i32]; omega
theorem i64_mod (a : Int) : (IntKind.i64.wrap a) % 4294967296 = a % 4294967296 := by rw [IntKind.wrap_i64]; omega
theorem u64_mod (a : Int) : (IntKind.u64.wrap a) % 4294967296 = a % 4294967296 := by rw [IntKind.wrap_u64]; omega
theorem u32_mod (a : Int) : IntKind.u32.wrap a = a % 4294967296 := IntKind.wrap_u32 a
theorem mulLo_mod (a b : Int) : mulLo a b true = (a * b) % 4294967296 := by
  unfold mulLo mulP
  rw [u32_mod, u64_mod, i64_mod, Int.mul_emod, i64_mod, i64_mod, i32_mod, i32_mod, ← Int.mul_emod]
theorem i32_range (a : Int) : -2147483648 ≤ IntKind.i32.wrap a ∧ IntKind.i32.wrap a ≤ 2147483647 := by rw [IntKind.wrap_i32]; omega
theorem divS_eq (a : Int) : divS a = IntKind.i32.wrap a := by
  unfold divS
  have := i32_range a
  rw [IntKind.wrap_i64]
  omega
theorem divG_true {y : Int} (h0 : 0 ≤ y) (h1 : y ≤ 4294967295) : divG y = true := by
  unfold divG
  rw [divS_eq]
  have e := IntKind.wrap_i32 y
  by_cases h : y = 0
  · simp [h]
  · have : IntKind.i32.wrap y ≠ 0 := by rw [e]; omega
    simp [this]
theorem l1 {x y : Int} (h0 : 0 ≤ x) (h1 : x ≤ 4294967295) : recV 4 0 (recV 3 0 x y 77) y 77 = x := by
  simp only [recV, u32_mod]
  omega
theorem l7 {x y : Int} (h0 : 0 ≤ x) (h1 : x ≤ 4294967295) (hy : y ≠ 0) (h2 : 0 ≤ y) : IntKind.u32.wrap (recV 14 0 (recV 18 0 x y 77) y 77 + recV 20 0 x y 77) = x := by
  have e0 : (y == 0) = false := by simpa using hy
  have e1 : recV 18 0 x y 77 = x.tdiv y % 4294967296 := by
    show (bif (y == 0) then 0 else IntKind.u32.wrap (x.tdiv y)) = _
    rw [e0, cond_false, u32_mod]
  have e2 : recV 20 0 x y 77 = x.tmod y := by
    show (bif (y == 0) then 0 else x.tmod y) = _
    rw [e0, cond_false]
  have e3 : ∀ q, recV 14 0 q y 77 = (q * y) % 4294967296 := fun q => mulLo_mod q y
  rw [e3, e1, e2, u32_mod]
  have h3 : x.tdiv y % 4294967296 * y % 4294967296 = x.tdiv y * y % 4294967296 := by rw [Int.mul_emod, Int.emod_emod, ← Int.mul_emod]
  rw [h3]
  have h4 := Int.mul_tdiv_add_tmod x y
  rw [Int.mul_comm] at h4
  omega
theorem l8 {x y : Int} (h0 : 0 ≤ x) (h1 : x ≤ 4294967295) (hy : y ≠ 0) : IntKind.u32.wrap (recV 14 0 (recV 17 0 x y 77) y 77 + recV 19 0 x y 77) = x := by
  have e0 : (y == 0) = false := by simpa using hy
  have e1 : recV 17 0 x y 77 % 4294967296 = (IntKind.i32.wrap x).tdiv (IntKind.i32.wrap y) % 4294967296 := by
    show (bif (y == 0) then 0 else IntKind.u32.wrap (IntKind.i64.wrap ((divS x).tdiv (divS y)))) % 4294967296 = _
    rw [e0, cond_false, u32_mod, i64_mod, Int.emod_emod, divS_eq, divS_eq]
  have e2 : recV 19 0 x y 77 = (IntKind.i32.wrap x).tmod (IntKind.i32.wrap y) % 4294967296 := by
    show (bif (y == 0) then 0 else IntKind.u32.wrap ((divS x).tmod (divS y))) = _
    rw [e0, cond_false, u32_mod, divS_eq, divS_eq]
  have e3 : ∀ q, recV 14 0 q y 77 = (q * y) % 4294967296 := fun q => mulLo_mod q y
  rw [e3, e2, u32_mod, Int.mul_emod, e1, ← i32_mod y, ← Int.mul_emod]
  have h4 := Int.mul_tdiv_add_tmod (IntKind.i32.wrap x) (IntKind.i32.wrap y)
  rw [Int.mul_comm] at h4
  have h5 := i32_mod x
  omega
theorem bit2 (b : Bool) : IntKind.u32.wrap (bitV b + bitV (!b)) = 1 := by cases b <;> rfl
theorem bit2' (b : Bool) : IntKind.u32.wrap (bitV (!b) + bitV b) = 1 := by cases b <;> rfl
theorem bne_not (b : Bool) : ((!b) != b) = true := by cases b <;> rfl
theorem bne_not' (b : Bool) : (b != (!b)) = true := by cases b <;> rfl
theorem end12_yes (x y : Int) : end12 x y = yes := by
  have e1 : (recV 23 0 x 0 77 == x) = true := beq_self_eq_true x
  have e2 : (recV 24 0 x 1 77 == x) = true := beq_self_eq_true x
  have e3 : ((x == y) != (x != y)) = true := bne_not' (x == y)
  unfold end12
  rw [e1, e2, e3, bne_not]
  rfl
theorem irTwins_yes {x y : Int} (h0 : 0 ≤ x) (h1 : x ≤ 4294967295) (g0 : 0 ≤ y) (g1 : y ≤ 4294967295) : evF EL57 Try.f12 200 [u32V x, u32V y] ⟨[], [], 0⟩ = yes := by
  rw [t12, end12_yes]
  have n : ∀ {a b : Int}, a = b → (a != b) = false := fun h => by rw [h]; exact bne_self_eq_false _
  have e1 := n (l1 (y := y) h0 h1)
  have e2 : (IntKind.u32.wrap (recV 25 0 x y 77 + recV 26 0 x y 77) != 1) = false := n (bit2 (x == y))
  have e3 : (IntKind.u32.wrap (recV 27 0 x y 77 + recV 28 0 x y 77) != 1) = false := n (bit2' (ltS 0 x))
  have e4 : (IntKind.u32.wrap (recV 29 0 x y 77 + recV 30 0 x y 77) != 1) = false := n (bit2 (ltS x 0))
  have e5 : (recV 8 0 x y 77 != notV (recV 6 0 x y 77)) = false := n rfl
  have e6 : (recV 2 0 x y 77 != x) = false := n rfl
  rw [e1, e2, e3, e4, e5, e6]
  simp only [cond_false, cond_true]
  by_cases hy : y = 0
  · subst hy
    rfl
  · have e7 := n (l7 h0 h1 hy g0)
    have e8 := n (l8 (y := y) h0 h1 hy)
    have e9 : (y != 0) = true := by simpa using hy
    have g17 : recG 17 y = true := divG_true g0 g1
    have g19 : recG 19 y = true := divG_true g0 g1
    rw [e7, e8, e9, g17, g19]
    rfl
end Go.Proofs.Ytjpeplidbodjiaa
