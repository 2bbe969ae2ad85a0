/- Sorts of instructions; words that go on, words that jump. -/
import Derived.Test.YtjpeplidbodjiaaFE
namespace Go.Proofs.Ytjpeplidbodjiaa
set_option maxRecDepth 100000
def hh0 : AH := ⟨[], [], 0⟩
def kindZ (w : Int) : Int := bif (bif decide (w < 1) then true else decide (w > 69)) then 0 else bif (bif (bif w == 27 then true else w == 28) then true else decide (w ≥ 60)) then 2 else bif (bif w == 35 then true else w == 36) then 3 else bif (bif decide (w ≥ 48) then decide (w ≤ 54) else false) then 4 else bif (bif decide (w ≥ 55) then decide (w ≤ 59) else false) then 5 else bif (bif (bif (bif w == 9 then true else w == 10) then true else w == 41) then true else (bif decide (w ≥ 29) then decide (w ≤ 34) else false)) then 6 else 1
theorem t77 (w : Int) : evV EE3 Try.f77 200 [intV w] ⟨[], [], 0⟩ = bif (bif decide (w < 1) then true else decide (w > 69)) then some (intV 0, hh0) else bif (bif (bif w == 27 then true else w == 28) then true else decide (w ≥ 60)) then some (intV 2, hh0) else bif (bif w == 35 then true else w == 36) then some (intV 3, hh0) else bif (bif decide (w ≥ 48) then decide (w ≤ 54) else false) then some (intV 4, hh0) else bif (bif decide (w ≥ 55) then decide (w ≤ 59) else false) then some (intV 5, hh0) else bif (bif (bif (bif w == 9 then true else w == 10) then true else w == 41) then true else (bif decide (w ≥ 29) then decide (w ≤ 34) else false)) then some (intV 6, hh0) else some (intV 1, hh0) := by kernel_rfl
theorem t77' (w : Int) : evV EE3 Try.f77 200 [intV w] ⟨[], [], 0⟩ = some (intV (kindZ w), hh0) := by
  rw [t77]
  unfold kindZ
  cases (bif decide (w < 1) then true else decide (w > 69))
  case true => rfl
  simp only [cond_false]
  cases (bif (bif w == 27 then true else w == 28) then true else decide (w ≥ 60))
  case true => rfl
  simp only [cond_false]
  cases (bif w == 35 then true else w == 36)
  case true => rfl
  simp only [cond_false]
  cases (bif decide (w ≥ 48) then decide (w ≤ 54) else false)
  case true => rfl
  simp only [cond_false]
  cases (bif decide (w ≥ 55) then decide (w ≤ 59) else false)
  case true => rfl
  simp only [cond_false]
  cases (bif (bif (bif w == 9 then true else w == 10) then true else w == 41) then true else (bif decide (w ≥ 29) then decide (w ≤ 34) else false))
  case true => rfl
  simp only [cond_false]
def q77 (args : List AV) (_ : AH) : Option (Bool × AV) := match args with
  | [.one (.v (.int .i64 w))] => some (true, intV (kindZ w))
  | _ => none
theorem q77_ok : ∀ args h v, q77 args h = some (true, v) → inlV EE3 Try.f77 200 args h = some (true, v) := by
  intro args h v hq
  unfold q77 at hq
  split at hq
  · rename_i w
    simp only [Option.some.injEq, Prod.mk.injEq, true_and] at hq
    subst hq
    exact inlV_val rfl (fun _ => rfl) rfl (t77' w)
  · cases hq
noncomputable def EE4 : Env := EE3.sum 77 q77
theorem EE4_s : EE4.Sound := EE3_s.sumV pfl has77 q77_ok
def plainZ (w : Int) : Bool := bif kindZ w == 1 then true else bif kindZ w == 4 then true else bif kindZ w == 5 then true else kindZ w == 6
theorem t174 (w : Int) : evV EE4 Try.f174 200 [intV w] ⟨[], [], 0⟩ = bif kindZ w == 1 then some (boolV true, hh0) else bif kindZ w == 4 then some (boolV true, hh0) else bif kindZ w == 5 then some (boolV true, hh0) else bif kindZ w == 6 then some (boolV true, hh0) else some (boolV false, hh0) := by kernel_rfl
theorem t174' (w : Int) : evV EE4 Try.f174 200 [intV w] ⟨[], [], 0⟩ = some (boolV (plainZ w), hh0) := by
  rw [t174]
  unfold plainZ
  cases kindZ w == 1 <;> cases kindZ w == 4 <;> cases kindZ w == 5 <;> cases kindZ w == 6 <;> rfl
def q174 (args : List AV) (_ : AH) : Option (Bool × AV) := match args with
  | [.one (.v (.int .i64 w))] => some (true, boolV (plainZ w))
  | _ => none
theorem q174_ok : ∀ args h v, q174 args h = some (true, v) → inlV EE4 Try.f174 200 args h = some (true, v) := by
  intro args h v hq
  unfold q174 at hq
  split at hq
  · rename_i w
    simp only [Option.some.injEq, Prod.mk.injEq, true_and] at hq
    subst hq
    exact inlV_val rfl (fun _ => rfl) rfl (t174' w)
  · cases hq
noncomputable def EE5 : Env := EE4.sum 174 q174
theorem EE5_s : EE5.Sound := EE4_s.sumV pfl has174 q174_ok
def plainW (w : Int) : Bool := plainZ (dOp w)
def jumpsW (w : Int) : Bool := kindZ (dOp w) == 2
theorem t134 (w : Int) : evV EE5 Try.f134 60 [u32V w] ⟨[], [], 0⟩ = some (boolV (plainW w), hh0) := by kernel_rfl
def q134 (args : List AV) (_ : AH) : Option (Bool × AV) := match args with
  | [.one (.v (.int .u32 w))] => some (true, boolV (plainW w))
  | _ => none
theorem q134_ok : ∀ args h v, q134 args h = some (true, v) → inlV EE5 Try.f134 60 args h = some (true, v) := by
  intro args h v hq
  unfold q134 at hq
  split at hq
  · rename_i w
    simp only [Option.some.injEq, Prod.mk.injEq, true_and] at hq
    subst hq
    exact inlV_val rfl (fun _ => rfl) rfl (t134 w)
  · cases hq
noncomputable def EE6 : Env := EE5.sum 134 q134
theorem EE6_s : EE6.Sound := EE5_s.sumV pfl has134 q134_ok
theorem t135 (w : Int) : evV EE6 Try.f135 60 [u32V w] ⟨[], [], 0⟩ = some (boolV (jumpsW w), hh0) := by kernel_rfl
def q135 (args : List AV) (_ : AH) : Option (Bool × AV) := match args with
  | [.one (.v (.int .u32 w))] => some (true, boolV (jumpsW w))
  | _ => none
theorem q135_ok : ∀ args h v, q135 args h = some (true, v) → inlV EE6 Try.f135 60 args h = some (true, v) := by
  intro args h v hq
  unfold q135 at hq
  split at hq
  · rename_i w
    simp only [Option.some.injEq, Prod.mk.injEq, true_and] at hq
    subst hq
    exact inlV_val rfl (fun _ => rfl) rfl (t135 w)
  · cases hq
noncomputable def EE7 : Env := EE6.sum 135 q135
theorem EE7_s : EE7.Sound := EE6_s.sumV pfl has135 q135_ok
end Go.Proofs.Ytjpeplidbodjiaa
