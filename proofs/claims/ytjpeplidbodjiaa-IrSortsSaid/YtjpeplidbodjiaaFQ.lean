/- IrSorts, reckoned. -/
import Derived.Test.YtjpeplidbodjiaaFP
import Derived.Test.YtjpeplidbodjiaaSndI
namespace Go.Proofs.Ytjpeplidbodjiaa
open Go.RowKit
set_option maxRecDepth 100000
def noV : Out := some (boolV false, h00)
def yesV : Out := some (boolV true, h00)
def addOverV (a b : Int) : Bool := bitsV (· &&& ·) (bitsV (· &&& ·) (bitsV (· ^^^ ·) a (IntKind.u32.wrap (a + b))) (bitsV (· ^^^ ·) b (IntKind.u32.wrap (a + b)))) 2147483648 != 0
def subOverV (a b : Int) : Bool := bitsV (· &&& ·) (bitsV (· &&& ·) (bitsV (· ^^^ ·) a b) (bitsV (· ^^^ ·) a (IntKind.u32.wrap (a - b)))) 2147483648 != 0
/-- Does an operation of a kind stop? -/
def stopV (k : Nat) (a b : Int) : Bool := match k with
  | 31 => addOverV a b
  | 32 => subOverV a b
  | 33 => !ltS a b
  | 34 => decide (a ≥ b)
  | 35 => ltS a b
  | 36 => decide (a < b)
  | 37 => a == b
  | 38 => a != b
  | _ => false
def leaf11 (k : Nat) (x y : Int) : Out := bif (bif false then true else bif stopV k x y then (bif decide ((k : Int) < 31) then true else decide ((k : Int) > 38)) else false) then noV else yesV
theorem has11 : hasFn Try.prog 11 Try.f11 := ⟨by kernel_rfl, by kernel_rfl, by kernel_rfl⟩
theorem t11_0 (v x y : Int) : evV (EPk 70 0) Try.f11 300 [intV v, u32V x, u32V y] ⟨[], [], 0⟩ = bif placeZ v 70 == 0 then leaf11 0 x y else none := by kernel_rfl
theorem t11_1 (v x y : Int) : evV (EPk 70 1) Try.f11 300 [intV v, u32V x, u32V y] ⟨[], [], 0⟩ = bif placeZ v 70 == 1 then leaf11 1 x y else none := by kernel_rfl
theorem t11_2 (v x y : Int) : evV (EPk 70 2) Try.f11 300 [intV v, u32V x, u32V y] ⟨[], [], 0⟩ = bif placeZ v 70 == 2 then leaf11 2 x y else none := by kernel_rfl
theorem t11_3 (v x y : Int) : evV (EPk 70 3) Try.f11 300 [intV v, u32V x, u32V y] ⟨[], [], 0⟩ = bif placeZ v 70 == 3 then leaf11 3 x y else none := by kernel_rfl
theorem t11_4 (v x y : Int) : evV (EPk 70 4) Try.f11 300 [intV v, u32V x, u32V y] ⟨[], [], 0⟩ = bif placeZ v 70 == 4 then leaf11 4 x y else none := by kernel_rfl
theorem t11_5 (v x y : Int) : evV (EPk 70 5) Try.f11 300 [intV v, u32V x, u32V y] ⟨[], [], 0⟩ = bif placeZ v 70 == 5 then leaf11 5 x y else none := by kernel_rfl
theorem t11_6 (v x y : Int) : evV (EPk 70 6) Try.f11 300 [intV v, u32V x, u32V y] ⟨[], [], 0⟩ = bif placeZ v 70 == 6 then leaf11 6 x y else none := by kernel_rfl
theorem t11_7 (v x y : Int) : evV (EPk 70 7) Try.f11 300 [intV v, u32V x, u32V y] ⟨[], [], 0⟩ = bif placeZ v 70 == 7 then leaf11 7 x y else none := by kernel_rfl
theorem t11_8 (v x y : Int) : evV (EPk 70 8) Try.f11 300 [intV v, u32V x, u32V y] ⟨[], [], 0⟩ = bif placeZ v 70 == 8 then leaf11 8 x y else none := by kernel_rfl
theorem t11_9 (v x y : Int) : evV (EPk 70 9) Try.f11 300 [intV v, u32V x, u32V y] ⟨[], [], 0⟩ = bif placeZ v 70 == 9 then leaf11 9 x y else none := by kernel_rfl
theorem t11_10 (v x y : Int) : evV (EPk 70 10) Try.f11 300 [intV v, u32V x, u32V y] ⟨[], [], 0⟩ = bif placeZ v 70 == 10 then leaf11 10 x y else none := by kernel_rfl
theorem t11_11 (v x y : Int) : evV (EPk 70 11) Try.f11 300 [intV v, u32V x, u32V y] ⟨[], [], 0⟩ = bif placeZ v 70 == 11 then leaf11 11 x y else none := by kernel_rfl
theorem t11_12 (v x y : Int) : evV (EPk 70 12) Try.f11 300 [intV v, u32V x, u32V y] ⟨[], [], 0⟩ = bif placeZ v 70 == 12 then leaf11 12 x y else none := by kernel_rfl
theorem t11_13 (v x y : Int) : evV (EPk 70 13) Try.f11 300 [intV v, u32V x, u32V y] ⟨[], [], 0⟩ = bif placeZ v 70 == 13 then leaf11 13 x y else none := by kernel_rfl
theorem t11_14 (v x y : Int) : evV (EPk 70 14) Try.f11 300 [intV v, u32V x, u32V y] ⟨[], [], 0⟩ = bif placeZ v 70 == 14 then leaf11 14 x y else none := by kernel_rfl
theorem t11_15 (v x y : Int) : evV (EPk 70 15) Try.f11 300 [intV v, u32V x, u32V y] ⟨[], [], 0⟩ = bif placeZ v 70 == 15 then leaf11 15 x y else none := by kernel_rfl
theorem t11_16 (v x y : Int) : evV (EPk 70 16) Try.f11 300 [intV v, u32V x, u32V y] ⟨[], [], 0⟩ = bif placeZ v 70 == 16 then leaf11 16 x y else none := by kernel_rfl
theorem t11_17 (v x y : Int) : evV (EPk 70 17) Try.f11 300 [intV v, u32V x, u32V y] ⟨[], [], 0⟩ = bif placeZ v 70 == 17 then leaf11 17 x y else none := by kernel_rfl
theorem t11_18 (v x y : Int) : evV (EPk 70 18) Try.f11 300 [intV v, u32V x, u32V y] ⟨[], [], 0⟩ = bif placeZ v 70 == 18 then leaf11 18 x y else none := by kernel_rfl
theorem t11_19 (v x y : Int) : evV (EPk 70 19) Try.f11 300 [intV v, u32V x, u32V y] ⟨[], [], 0⟩ = bif placeZ v 70 == 19 then leaf11 19 x y else none := by kernel_rfl
theorem t11_20 (v x y : Int) : evV (EPk 70 20) Try.f11 300 [intV v, u32V x, u32V y] ⟨[], [], 0⟩ = bif placeZ v 70 == 20 then leaf11 20 x y else none := by kernel_rfl
theorem t11_21 (v x y : Int) : evV (EPk 70 21) Try.f11 300 [intV v, u32V x, u32V y] ⟨[], [], 0⟩ = bif placeZ v 70 == 21 then leaf11 21 x y else none := by kernel_rfl
theorem t11_22 (v x y : Int) : evV (EPk 70 22) Try.f11 300 [intV v, u32V x, u32V y] ⟨[], [], 0⟩ = bif placeZ v 70 == 22 then leaf11 22 x y else none := by kernel_rfl
theorem t11_23 (v x y : Int) : evV (EPk 70 23) Try.f11 300 [intV v, u32V x, u32V y] ⟨[], [], 0⟩ = bif placeZ v 70 == 23 then leaf11 23 x y else none := by kernel_rfl
theorem t11_24 (v x y : Int) : evV (EPk 70 24) Try.f11 300 [intV v, u32V x, u32V y] ⟨[], [], 0⟩ = bif placeZ v 70 == 24 then leaf11 24 x y else none := by kernel_rfl
theorem t11_25 (v x y : Int) : evV (EPk 70 25) Try.f11 300 [intV v, u32V x, u32V y] ⟨[], [], 0⟩ = bif placeZ v 70 == 25 then leaf11 25 x y else none := by kernel_rfl
theorem t11_26 (v x y : Int) : evV (EPk 70 26) Try.f11 300 [intV v, u32V x, u32V y] ⟨[], [], 0⟩ = bif placeZ v 70 == 26 then leaf11 26 x y else none := by kernel_rfl
theorem t11_27 (v x y : Int) : evV (EPk 70 27) Try.f11 300 [intV v, u32V x, u32V y] ⟨[], [], 0⟩ = bif placeZ v 70 == 27 then leaf11 27 x y else none := by kernel_rfl
theorem t11_28 (v x y : Int) : evV (EPk 70 28) Try.f11 300 [intV v, u32V x, u32V y] ⟨[], [], 0⟩ = bif placeZ v 70 == 28 then leaf11 28 x y else none := by kernel_rfl
theorem t11_29 (v x y : Int) : evV (EPk 70 29) Try.f11 300 [intV v, u32V x, u32V y] ⟨[], [], 0⟩ = bif placeZ v 70 == 29 then leaf11 29 x y else none := by kernel_rfl
theorem t11_30 (v x y : Int) : evV (EPk 70 30) Try.f11 300 [intV v, u32V x, u32V y] ⟨[], [], 0⟩ = bif placeZ v 70 == 30 then leaf11 30 x y else none := by kernel_rfl
theorem t11_31 (v x y : Int) : evV (EPk 70 31) Try.f11 300 [intV v, u32V x, u32V y] ⟨[], [], 0⟩ = bif placeZ v 70 == 31 then leaf11 31 x y else none := by kernel_rfl
theorem t11_32 (v x y : Int) : evV (EPk 70 32) Try.f11 300 [intV v, u32V x, u32V y] ⟨[], [], 0⟩ = bif placeZ v 70 == 32 then leaf11 32 x y else none := by kernel_rfl
theorem t11_33 (v x y : Int) : evV (EPk 70 33) Try.f11 300 [intV v, u32V x, u32V y] ⟨[], [], 0⟩ = bif placeZ v 70 == 33 then leaf11 33 x y else none := by kernel_rfl
theorem t11_34 (v x y : Int) : evV (EPk 70 34) Try.f11 300 [intV v, u32V x, u32V y] ⟨[], [], 0⟩ = bif placeZ v 70 == 34 then leaf11 34 x y else none := by kernel_rfl
theorem t11_35 (v x y : Int) : evV (EPk 70 35) Try.f11 300 [intV v, u32V x, u32V y] ⟨[], [], 0⟩ = bif placeZ v 70 == 35 then leaf11 35 x y else none := by kernel_rfl
theorem t11_36 (v x y : Int) : evV (EPk 70 36) Try.f11 300 [intV v, u32V x, u32V y] ⟨[], [], 0⟩ = bif placeZ v 70 == 36 then leaf11 36 x y else none := by kernel_rfl
theorem t11_37 (v x y : Int) : evV (EPk 70 37) Try.f11 300 [intV v, u32V x, u32V y] ⟨[], [], 0⟩ = bif placeZ v 70 == 37 then leaf11 37 x y else none := by kernel_rfl
theorem t11_38 (v x y : Int) : evV (EPk 70 38) Try.f11 300 [intV v, u32V x, u32V y] ⟨[], [], 0⟩ = bif placeZ v 70 == 38 then leaf11 38 x y else none := by kernel_rfl
theorem t11_39 (v x y : Int) : evV (EPk 70 39) Try.f11 300 [intV v, u32V x, u32V y] ⟨[], [], 0⟩ = bif placeZ v 70 == 39 then leaf11 39 x y else none := by kernel_rfl
theorem t11_40 (v x y : Int) : evV (EPk 70 40) Try.f11 300 [intV v, u32V x, u32V y] ⟨[], [], 0⟩ = bif placeZ v 70 == 40 then leaf11 40 x y else none := by kernel_rfl
theorem t11_41 (v x y : Int) : evV (EPk 70 41) Try.f11 300 [intV v, u32V x, u32V y] ⟨[], [], 0⟩ = bif placeZ v 70 == 41 then leaf11 41 x y else none := by kernel_rfl
theorem t11_42 (v x y : Int) : evV (EPk 70 42) Try.f11 300 [intV v, u32V x, u32V y] ⟨[], [], 0⟩ = bif placeZ v 70 == 42 then leaf11 42 x y else none := by kernel_rfl
theorem t11_43 (v x y : Int) : evV (EPk 70 43) Try.f11 300 [intV v, u32V x, u32V y] ⟨[], [], 0⟩ = bif placeZ v 70 == 43 then leaf11 43 x y else none := by kernel_rfl
theorem t11_44 (v x y : Int) : evV (EPk 70 44) Try.f11 300 [intV v, u32V x, u32V y] ⟨[], [], 0⟩ = bif placeZ v 70 == 44 then leaf11 44 x y else none := by kernel_rfl
theorem t11_45 (v x y : Int) : evV (EPk 70 45) Try.f11 300 [intV v, u32V x, u32V y] ⟨[], [], 0⟩ = bif placeZ v 70 == 45 then leaf11 45 x y else none := by kernel_rfl
theorem t11_46 (v x y : Int) : evV (EPk 70 46) Try.f11 300 [intV v, u32V x, u32V y] ⟨[], [], 0⟩ = bif placeZ v 70 == 46 then leaf11 46 x y else none := by kernel_rfl
theorem t11_47 (v x y : Int) : evV (EPk 70 47) Try.f11 300 [intV v, u32V x, u32V y] ⟨[], [], 0⟩ = bif placeZ v 70 == 47 then leaf11 47 x y else none := by kernel_rfl
theorem t11_48 (v x y : Int) : evV (EPk 70 48) Try.f11 300 [intV v, u32V x, u32V y] ⟨[], [], 0⟩ = bif placeZ v 70 == 48 then leaf11 48 x y else none := by kernel_rfl
theorem t11_49 (v x y : Int) : evV (EPk 70 49) Try.f11 300 [intV v, u32V x, u32V y] ⟨[], [], 0⟩ = bif placeZ v 70 == 49 then leaf11 49 x y else none := by kernel_rfl
theorem t11_50 (v x y : Int) : evV (EPk 70 50) Try.f11 300 [intV v, u32V x, u32V y] ⟨[], [], 0⟩ = bif placeZ v 70 == 50 then leaf11 50 x y else none := by kernel_rfl
theorem t11_51 (v x y : Int) : evV (EPk 70 51) Try.f11 300 [intV v, u32V x, u32V y] ⟨[], [], 0⟩ = bif placeZ v 70 == 51 then leaf11 51 x y else none := by kernel_rfl
theorem t11_52 (v x y : Int) : evV (EPk 70 52) Try.f11 300 [intV v, u32V x, u32V y] ⟨[], [], 0⟩ = bif placeZ v 70 == 52 then leaf11 52 x y else none := by kernel_rfl
theorem t11_53 (v x y : Int) : evV (EPk 70 53) Try.f11 300 [intV v, u32V x, u32V y] ⟨[], [], 0⟩ = bif placeZ v 70 == 53 then leaf11 53 x y else none := by kernel_rfl
theorem t11_54 (v x y : Int) : evV (EPk 70 54) Try.f11 300 [intV v, u32V x, u32V y] ⟨[], [], 0⟩ = bif placeZ v 70 == 54 then leaf11 54 x y else none := by kernel_rfl
theorem t11_55 (v x y : Int) : evV (EPk 70 55) Try.f11 300 [intV v, u32V x, u32V y] ⟨[], [], 0⟩ = bif placeZ v 70 == 55 then leaf11 55 x y else none := by kernel_rfl
theorem t11_56 (v x y : Int) : evV (EPk 70 56) Try.f11 300 [intV v, u32V x, u32V y] ⟨[], [], 0⟩ = bif placeZ v 70 == 56 then leaf11 56 x y else none := by kernel_rfl
theorem t11_57 (v x y : Int) : evV (EPk 70 57) Try.f11 300 [intV v, u32V x, u32V y] ⟨[], [], 0⟩ = bif placeZ v 70 == 57 then leaf11 57 x y else none := by kernel_rfl
theorem t11_58 (v x y : Int) : evV (EPk 70 58) Try.f11 300 [intV v, u32V x, u32V y] ⟨[], [], 0⟩ = bif placeZ v 70 == 58 then leaf11 58 x y else none := by kernel_rfl
theorem t11_59 (v x y : Int) : evV (EPk 70 59) Try.f11 300 [intV v, u32V x, u32V y] ⟨[], [], 0⟩ = bif placeZ v 70 == 59 then leaf11 59 x y else none := by kernel_rfl
theorem t11_60 (v x y : Int) : evV (EPk 70 60) Try.f11 300 [intV v, u32V x, u32V y] ⟨[], [], 0⟩ = bif placeZ v 70 == 60 then leaf11 60 x y else none := by kernel_rfl
theorem t11_61 (v x y : Int) : evV (EPk 70 61) Try.f11 300 [intV v, u32V x, u32V y] ⟨[], [], 0⟩ = bif placeZ v 70 == 61 then leaf11 61 x y else none := by kernel_rfl
theorem t11_62 (v x y : Int) : evV (EPk 70 62) Try.f11 300 [intV v, u32V x, u32V y] ⟨[], [], 0⟩ = bif placeZ v 70 == 62 then leaf11 62 x y else none := by kernel_rfl
theorem t11_63 (v x y : Int) : evV (EPk 70 63) Try.f11 300 [intV v, u32V x, u32V y] ⟨[], [], 0⟩ = bif placeZ v 70 == 63 then leaf11 63 x y else none := by kernel_rfl
theorem t11_64 (v x y : Int) : evV (EPk 70 64) Try.f11 300 [intV v, u32V x, u32V y] ⟨[], [], 0⟩ = bif placeZ v 70 == 64 then leaf11 64 x y else none := by kernel_rfl
theorem t11_65 (v x y : Int) : evV (EPk 70 65) Try.f11 300 [intV v, u32V x, u32V y] ⟨[], [], 0⟩ = bif placeZ v 70 == 65 then leaf11 65 x y else none := by kernel_rfl
theorem t11_66 (v x y : Int) : evV (EPk 70 66) Try.f11 300 [intV v, u32V x, u32V y] ⟨[], [], 0⟩ = bif placeZ v 70 == 66 then leaf11 66 x y else none := by kernel_rfl
theorem t11_67 (v x y : Int) : evV (EPk 70 67) Try.f11 300 [intV v, u32V x, u32V y] ⟨[], [], 0⟩ = bif placeZ v 70 == 67 then leaf11 67 x y else none := by kernel_rfl
theorem t11_68 (v x y : Int) : evV (EPk 70 68) Try.f11 300 [intV v, u32V x, u32V y] ⟨[], [], 0⟩ = bif placeZ v 70 == 68 then leaf11 68 x y else none := by kernel_rfl
theorem t11_69 (v x y : Int) : evV (EPk 70 69) Try.f11 300 [intV v, u32V x, u32V y] ⟨[], [], 0⟩ = bif placeZ v 70 == 69 then leaf11 69 x y else none := by kernel_rfl
theorem leaf11_yes (k : Nat) (x y : Int) (h : stopV k x y = true → 31 ≤ k ∧ k ≤ 38) : leaf11 k x y = yesV := by
  unfold leaf11
  cases hs : stopV k x y with
  | false => rfl
  | true =>
    have := h hs
    have e1 : decide ((k : Int) < 31) = false := decide_eq_false (by omega)
    have e2 : decide ((k : Int) > 38) = false := decide_eq_false (by omega)
    rw [e1, e2]
    rfl
theorem stopV_kind (k : Nat) (x y : Int) (h : stopV k x y = true) : 31 ≤ k ∧ k ≤ 38 := by
  unfold stopV at h
  split at h <;> first | omega | cases h
theorem irSorts_yes (v x y : Int) : ∃ k, evV (EPk 70 k) Try.f11 300 [intV v, u32V x, u32V y] ⟨[], [], 0⟩ = yesV := by
  obtain ⟨h1, h2⟩ := placeZ_range (v := v) (n := 70) (by omega) (by omega)
  have key : ∀ k : Nat, placeZ v 70 = (k : Int) → evV (EPk 70 k) Try.f11 300 [intV v, u32V x, u32V y] ⟨[], [], 0⟩ = (bif placeZ v 70 == (k : Int) then leaf11 k x y else none) → ∃ k, evV (EPk 70 k) Try.f11 300 [intV v, u32V x, u32V y] ⟨[], [], 0⟩ = yesV := by
    intro k hk he
    refine ⟨k, he.trans ?_⟩
    rw [hk, beq_self_eq_true, cond_true, leaf11_yes k x y (stopV_kind k x y)]
  have hn : placeZ v 70 = ((placeZ v 70).toNat : Int) := by omega
  have hlt : (placeZ v 70).toNat < 70 := by omega
  generalize (placeZ v 70).toNat = n at hn hlt
  match n, hlt, hn with
  | 0, _, hn => exact key 0 hn (t11_0 v x y)
  | 1, _, hn => exact key 1 hn (t11_1 v x y)
  | 2, _, hn => exact key 2 hn (t11_2 v x y)
  | 3, _, hn => exact key 3 hn (t11_3 v x y)
  | 4, _, hn => exact key 4 hn (t11_4 v x y)
  | 5, _, hn => exact key 5 hn (t11_5 v x y)
  | 6, _, hn => exact key 6 hn (t11_6 v x y)
  | 7, _, hn => exact key 7 hn (t11_7 v x y)
  | 8, _, hn => exact key 8 hn (t11_8 v x y)
  | 9, _, hn => exact key 9 hn (t11_9 v x y)
  | 10, _, hn => exact key 10 hn (t11_10 v x y)
  | 11, _, hn => exact key 11 hn (t11_11 v x y)
  | 12, _, hn => exact key 12 hn (t11_12 v x y)
  | 13, _, hn => exact key 13 hn (t11_13 v x y)
  | 14, _, hn => exact key 14 hn (t11_14 v x y)
  | 15, _, hn => exact key 15 hn (t11_15 v x y)
  | 16, _, hn => exact key 16 hn (t11_16 v x y)
  | 17, _, hn => exact key 17 hn (t11_17 v x y)
  | 18, _, hn => exact key 18 hn (t11_18 v x y)
  | 19, _, hn => exact key 19 hn (t11_19 v x y)
  | 20, _, hn => exact key 20 hn (t11_20 v x y)
  | 21, _, hn => exact key 21 hn (t11_21 v x y)
  | 22, _, hn => exact key 22 hn (t11_22 v x y)
  | 23, _, hn => exact key 23 hn (t11_23 v x y)
  | 24, _, hn => exact key 24 hn (t11_24 v x y)
  | 25, _, hn => exact key 25 hn (t11_25 v x y)
  | 26, _, hn => exact key 26 hn (t11_26 v x y)
  | 27, _, hn => exact key 27 hn (t11_27 v x y)
  | 28, _, hn => exact key 28 hn (t11_28 v x y)
  | 29, _, hn => exact key 29 hn (t11_29 v x y)
  | 30, _, hn => exact key 30 hn (t11_30 v x y)
  | 31, _, hn => exact key 31 hn (t11_31 v x y)
  | 32, _, hn => exact key 32 hn (t11_32 v x y)
  | 33, _, hn => exact key 33 hn (t11_33 v x y)
  | 34, _, hn => exact key 34 hn (t11_34 v x y)
  | 35, _, hn => exact key 35 hn (t11_35 v x y)
  | 36, _, hn => exact key 36 hn (t11_36 v x y)
  | 37, _, hn => exact key 37 hn (t11_37 v x y)
  | 38, _, hn => exact key 38 hn (t11_38 v x y)
  | 39, _, hn => exact key 39 hn (t11_39 v x y)
  | 40, _, hn => exact key 40 hn (t11_40 v x y)
  | 41, _, hn => exact key 41 hn (t11_41 v x y)
  | 42, _, hn => exact key 42 hn (t11_42 v x y)
  | 43, _, hn => exact key 43 hn (t11_43 v x y)
  | 44, _, hn => exact key 44 hn (t11_44 v x y)
  | 45, _, hn => exact key 45 hn (t11_45 v x y)
  | 46, _, hn => exact key 46 hn (t11_46 v x y)
  | 47, _, hn => exact key 47 hn (t11_47 v x y)
  | 48, _, hn => exact key 48 hn (t11_48 v x y)
  | 49, _, hn => exact key 49 hn (t11_49 v x y)
  | 50, _, hn => exact key 50 hn (t11_50 v x y)
  | 51, _, hn => exact key 51 hn (t11_51 v x y)
  | 52, _, hn => exact key 52 hn (t11_52 v x y)
  | 53, _, hn => exact key 53 hn (t11_53 v x y)
  | 54, _, hn => exact key 54 hn (t11_54 v x y)
  | 55, _, hn => exact key 55 hn (t11_55 v x y)
  | 56, _, hn => exact key 56 hn (t11_56 v x y)
  | 57, _, hn => exact key 57 hn (t11_57 v x y)
  | 58, _, hn => exact key 58 hn (t11_58 v x y)
  | 59, _, hn => exact key 59 hn (t11_59 v x y)
  | 60, _, hn => exact key 60 hn (t11_60 v x y)
  | 61, _, hn => exact key 61 hn (t11_61 v x y)
  | 62, _, hn => exact key 62 hn (t11_62 v x y)
  | 63, _, hn => exact key 63 hn (t11_63 v x y)
  | 64, _, hn => exact key 64 hn (t11_64 v x y)
  | 65, _, hn => exact key 65 hn (t11_65 v x y)
  | 66, _, hn => exact key 66 hn (t11_66 v x y)
  | 67, _, hn => exact key 67 hn (t11_67 v x y)
  | 68, _, hn => exact key 68 hn (t11_68 v x y)
  | 69, _, hn => exact key 69 hn (t11_69 v x y)
  | n + 70, h, _ => omega
end Go.Proofs.Ytjpeplidbodjiaa
