/- IrTwins, reckoned. -/
import Derived.Test.YtjpeplidbodjiaaFK
namespace Go.Proofs.Ytjpeplidbodjiaa
open Go.RowKit
set_option maxRecDepth 100000
theorem has57 : hasFn Try.prog 57 Try.f57 := ⟨by kernel_rfl, by kernel_rfl, by kernel_rfl⟩
theorem v57_2 (x y : Int) : evF EK48 Try.f57 60 [intV 2, u32V x, u32V y] ⟨[], [], 0⟩ = some (u32V (recV 2 0 x y 77), h00) := by kernel_rfl
theorem v57_3 (x y : Int) : evF EK48 Try.f57 60 [intV 3, u32V x, u32V y] ⟨[], [], 0⟩ = some (u32V (recV 3 0 x y 77), h00) := by kernel_rfl
theorem v57_4 (x y : Int) : evF EK48 Try.f57 60 [intV 4, u32V x, u32V y] ⟨[], [], 0⟩ = some (u32V (recV 4 0 x y 77), h00) := by kernel_rfl
theorem v57_6 (x y : Int) : evF EK48 Try.f57 60 [intV 6, u32V x, u32V y] ⟨[], [], 0⟩ = some (u32V (recV 6 0 x y 77), h00) := by kernel_rfl
theorem v57_8 (x y : Int) : evF EK48 Try.f57 60 [intV 8, u32V x, u32V y] ⟨[], [], 0⟩ = some (u32V (recV 8 0 x y 77), h00) := by kernel_rfl
theorem v57_14 (x y : Int) : evF EK48 Try.f57 60 [intV 14, u32V x, u32V y] ⟨[], [], 0⟩ = some (u32V (recV 14 0 x y 77), h00) := by kernel_rfl
theorem v57_17 (x y : Int) : evF EK48 Try.f57 60 [intV 17, u32V x, u32V y] ⟨[], [], 0⟩ = bif recG 17 y then some (u32V (recV 17 0 x y 77), h00) else none := by kernel_rfl
theorem v57_18 (x y : Int) : evF EK48 Try.f57 60 [intV 18, u32V x, u32V y] ⟨[], [], 0⟩ = some (u32V (recV 18 0 x y 77), h00) := by kernel_rfl
theorem v57_19 (x y : Int) : evF EK48 Try.f57 60 [intV 19, u32V x, u32V y] ⟨[], [], 0⟩ = bif recG 19 y then some (u32V (recV 19 0 x y 77), h00) else none := by kernel_rfl
theorem v57_20 (x y : Int) : evF EK48 Try.f57 60 [intV 20, u32V x, u32V y] ⟨[], [], 0⟩ = some (u32V (recV 20 0 x y 77), h00) := by kernel_rfl
theorem v57_23 (x y : Int) : evF EK48 Try.f57 60 [intV 23, u32V x, u32V y] ⟨[], [], 0⟩ = some (u32V (recV 23 0 x y 77), h00) := by kernel_rfl
theorem v57_24 (x y : Int) : evF EK48 Try.f57 60 [intV 24, u32V x, u32V y] ⟨[], [], 0⟩ = some (u32V (recV 24 0 x y 77), h00) := by kernel_rfl
theorem v57_25 (x y : Int) : evF EK48 Try.f57 60 [intV 25, u32V x, u32V y] ⟨[], [], 0⟩ = some (u32V (recV 25 0 x y 77), h00) := by kernel_rfl
theorem v57_26 (x y : Int) : evF EK48 Try.f57 60 [intV 26, u32V x, u32V y] ⟨[], [], 0⟩ = some (u32V (recV 26 0 x y 77), h00) := by kernel_rfl
theorem v57_27 (x y : Int) : evF EK48 Try.f57 60 [intV 27, u32V x, u32V y] ⟨[], [], 0⟩ = some (u32V (recV 27 0 x y 77), h00) := by kernel_rfl
theorem v57_28 (x y : Int) : evF EK48 Try.f57 60 [intV 28, u32V x, u32V y] ⟨[], [], 0⟩ = some (u32V (recV 28 0 x y 77), h00) := by kernel_rfl
theorem v57_29 (x y : Int) : evF EK48 Try.f57 60 [intV 29, u32V x, u32V y] ⟨[], [], 0⟩ = some (u32V (recV 29 0 x y 77), h00) := by kernel_rfl
theorem v57_30 (x y : Int) : evF EK48 Try.f57 60 [intV 30, u32V x, u32V y] ⟨[], [], 0⟩ = some (u32V (recV 30 0 x y 77), h00) := by kernel_rfl
def kinds57 : List Nat := [2, 3, 4, 6, 8, 14, 17, 18, 19, 20, 23, 24, 25, 26, 27, 28, 29, 30]
def P57 (k : Nat) : Prop := ∀ x y : Int, recG k y = true → valOf (evF EK48 Try.f57 60 [intV k, u32V x, u32V y] ⟨[], [], 0⟩) = some (u32V (recV k 0 x y 77))
theorem all57 : ∀ k ∈ kinds57, P57 k := by
  simp only [kinds57, List.forall_mem_cons]
  refine ⟨fun x y _ => congrArg valOf (v57_2 x y),
    fun x y _ => congrArg valOf (v57_3 x y),
    fun x y _ => congrArg valOf (v57_4 x y),
    fun x y _ => congrArg valOf (v57_6 x y),
    fun x y _ => congrArg valOf (v57_8 x y),
    fun x y _ => congrArg valOf (v57_14 x y),
    fun x y hg => (congrArg valOf (v57_17 x y)).trans (by rw [hg]; rfl),
    fun x y _ => congrArg valOf (v57_18 x y),
    fun x y hg => (congrArg valOf (v57_19 x y)).trans (by rw [hg]; rfl),
    fun x y _ => congrArg valOf (v57_20 x y),
    fun x y _ => congrArg valOf (v57_23 x y),
    fun x y _ => congrArg valOf (v57_24 x y),
    fun x y _ => congrArg valOf (v57_25 x y),
    fun x y _ => congrArg valOf (v57_26 x y),
    fun x y _ => congrArg valOf (v57_27 x y),
    fun x y _ => congrArg valOf (v57_28 x y),
    fun x y _ => congrArg valOf (v57_29 x y),
    fun x y _ => congrArg valOf (v57_30 x y), fun x hx => by cases hx⟩
def q57 (args : List AV) (_ : AH) : Option (Bool × AV) := match args with
  | [.one (.v (.int .i64 (.ofNat k))), .one (.v (.int .u32 x)), .one (.v (.int .u32 y))] => bif inL k kinds57 then some (recG k y, u32V (recV k 0 x y 77)) else none
  | _ => none
theorem q57_ok : ∀ args h v, q57 args h = some (true, v) → inlQ EK48 Try.f57 60 args h = some (true, v) := by
  intro args h v hq
  unfold q57 at hq
  split at hq
  · rename_i k x y
    cases hk : inL k kinds57 with
    | false => simp [hk] at hq
    | true =>
      simp only [hk, cond_true, Option.some.injEq, Prod.mk.injEq] at hq
      obtain ⟨hg, rfl⟩ := hq
      exact inlQ_val rfl (fun _ => rfl) rfl (all57 k (inL_mem hk) x y hg)
  · cases hq
noncomputable def EL57 : Env := EK48.sum 57 q57
theorem EL57_s : EL57.Sound := EK48_s.sum pfl has57 q57_ok
theorem has12 : hasFn Try.prog 12 Try.f12 := ⟨by kernel_rfl, by kernel_rfl, by kernel_rfl⟩
end Go.Proofs.Ytjpeplidbodjiaa
