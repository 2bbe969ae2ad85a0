/- IrSpoilt, reckoned. -/
import Derived.Test.YtjpeplidbodjiaaFV
namespace Go.Proofs.Ytjpeplidbodjiaa
set_option maxRecDepth 100000
theorem has9 : hasFn Try.prog 9 Try.f9 := ⟨by kernel_rfl, by kernel_rfl, by kernel_rfl⟩
def noV : Out := some (boolV false, hh0)
def yesV : Out := some (boolV true, hh0)
def o1 : OpT := ⟨1, 34, 0, 0, 7, 0⟩
def o2 : OpT := ⟨3, 2, 2, 34, 0, 1⟩
def o3 : OpT := ⟨60, 0, 0, 0, 72, 1⟩
def leaf9 (c : Bool) : Out := bif !c then yesV else noV
def and64 (a b : Int) : Int := IntKind.i64.wrap (BitVec.ofInt IntKind.i64.bits a &&& BitVec.ofInt IntKind.i64.bits b).toNat
def and32 (a b : Int) : Int := IntKind.u32.wrap (BitVec.ofInt IntKind.u32.bits a &&& BitVec.ofInt IntKind.u32.bits b).toNat
def z0 (v : Int) : Int := IntKind.i64.wrap (35 + placeZ v 28)
def z5 (v : Int) : Int := IntKind.u32.wrap (1 + and32 (IntKind.u32.wrap v) 7)
def z6 (v : Int) : Int := IntKind.u32.wrap (65 + (IntKind.u32.wrap v).tmod 3)
def z8 (v : Int) : Int := IntKind.i64.wrap (64 + and64 v 63)
theorem t9_0 (u v : Int) : evV (EVk 10 0) Try.f9 300 [intV u, intV v] ⟨[], [], 0⟩ = bif placeZ u 10 == 0 then leaf9 (checkL 64 [0, 0] [o1, ⟨3, 2, 2, z0 v, 0, 1⟩, o3]) else none := by kernel_rfl
theorem t9_1 (u v : Int) : evV (EVk 10 1) Try.f9 300 [intV u, intV v] ⟨[], [], 0⟩ = bif placeZ u 10 == 1 then yesV else none := by kernel_rfl
theorem t9_2 (u v : Int) : evV (EVk 10 2) Try.f9 300 [intV u, intV v] ⟨[], [], 0⟩ = bif placeZ u 10 == 2 then yesV else none := by kernel_rfl
theorem t9_3 (u v : Int) : evV (EVk 10 3) Try.f9 300 [intV u, intV v] ⟨[], [], 0⟩ = bif placeZ u 10 == 3 then yesV else none := by kernel_rfl
theorem t9_4 (u v : Int) : evV (EVk 10 4) Try.f9 300 [intV u, intV v] ⟨[], [], 0⟩ = bif placeZ u 10 == 4 then yesV else none := by kernel_rfl
theorem t9_5 (u v : Int) : evV (EVk 10 5) Try.f9 300 [intV u, intV v] ⟨[], [], 0⟩ = bif placeZ u 10 == 5 then leaf9 (checkL 64 [0, 0] [o1, ⟨3, 2, 2, 34, z5 v, 1⟩, o3]) else none := by kernel_rfl
theorem t9_6 (u v : Int) : evV (EVk 10 6) Try.f9 300 [intV u, intV v] ⟨[], [], 0⟩ = bif placeZ u 10 == 6 then leaf9 (checkL (z6 v) [0, 0] [o1, o2, o3]) else none := by kernel_rfl
theorem t9_7 (u v : Int) : evV (EVk 10 7) Try.f9 300 [intV u, intV v] ⟨[], [], 0⟩ = bif placeZ u 10 == 7 then yesV else none := by kernel_rfl
theorem t9_8 (u v : Int) : evV (EVk 10 8) Try.f9 300 [intV u, intV v] ⟨[], [], 0⟩ = bif placeZ u 10 == 8 then leaf9 (checkL 64 [0, 0] [o1, ⟨3, 2, z8 v, 34, 0, 1⟩, o3]) else none := by kernel_rfl
theorem t9_9 (u v : Int) : evV (EVk 10 9) Try.f9 300 [intV u, intV v] ⟨[], [], 0⟩ = bif placeZ u 10 == 9 then yesV else none := by kernel_rfl
end Go.Proofs.Ytjpeplidbodjiaa
