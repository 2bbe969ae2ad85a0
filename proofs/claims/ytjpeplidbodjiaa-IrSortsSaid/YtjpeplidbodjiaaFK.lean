/- Blocks that are written out: what is said of them is reckoned in full. -/
import Derived.Test.YtjpeplidbodjiaaFJ
namespace Go.Proofs.Ytjpeplidbodjiaa
open Go.RowKit
set_option maxRecDepth 100000
noncomputable def EK136 : Env := EJ8.inlQ 136 Try.f136 400
theorem EK136_s : EK136.Sound := EJ8_s.inlQ pfl has136
noncomputable def EK139 : Env := EK136.inl 139 Try.f139 40
theorem EK139_s : EK139.Sound := EK136_s.inl pfl has139
noncomputable def EK76 : Env := EK139.inlQ 76 Try.f76 200
theorem EK76_s : EK76.Sound := EK139_s.inlQ pfl has76
theorem has77 : hasFn Try.prog 77 Try.f77 := ⟨by kernel_rfl, by kernel_rfl, by kernel_rfl⟩
noncomputable def EK77 : Env := EK76.inlQ 77 Try.f77 60
theorem EK77_s : EK77.Sound := EK76_s.inlQ pfl has77
theorem has174 : hasFn Try.prog 174 Try.f174 := ⟨by kernel_rfl, by kernel_rfl, by kernel_rfl⟩
noncomputable def EK174 : Env := EK77.inlQ 174 Try.f174 60
theorem EK174_s : EK174.Sound := EK77_s.inlQ pfl has174
theorem has134 : hasFn Try.prog 134 Try.f134 := ⟨by kernel_rfl, by kernel_rfl, by kernel_rfl⟩
noncomputable def EK134 : Env := EK174.inlQ 134 Try.f134 60
theorem EK134_s : EK134.Sound := EK174_s.inlQ pfl has134
theorem has135 : hasFn Try.prog 135 Try.f135 := ⟨by kernel_rfl, by kernel_rfl, by kernel_rfl⟩
noncomputable def EK135 : Env := EK134.inlQ 135 Try.f135 60
theorem EK135_s : EK135.Sound := EK134_s.inlQ pfl has135
theorem has72 : hasFn Try.prog 72 Try.f72 := ⟨by kernel_rfl, by kernel_rfl, by kernel_rfl⟩
noncomputable def EK72 : Env := EK135.inlQ 72 Try.f72 200
theorem EK72_s : EK72.Sound := EK135_s.inlQ pfl has72
theorem has87 : hasFn Try.prog 87 Try.f87 := ⟨by kernel_rfl, by kernel_rfl, by kernel_rfl⟩
noncomputable def EK87 : Env := EK72.inl 87 Try.f87 150
theorem EK87_s : EK87.Sound := EK72_s.inl pfl has87
theorem has39 : hasFn Try.prog 39 Try.f39 := ⟨by kernel_rfl, by kernel_rfl, by kernel_rfl⟩
noncomputable def EK39 : Env := EK87.inlQ 39 Try.f39 300
theorem EK39_s : EK39.Sound := EK87_s.inlQ pfl has39
theorem has48 : hasFn Try.prog 48 Try.f48 := ⟨by kernel_rfl, by kernel_rfl, by kernel_rfl⟩
theorem v48 : valOf (evF EK39 Try.f48 60 [] ⟨[], [], 0⟩) = some (boolV true) := by kernel_rfl
def q48 (args : List AV) (_ : AH) : Option (Bool × AV) := match args with
  | [] => some (true, boolV true)
  | _ => none
theorem q48_ok : ∀ args h v, q48 args h = some (true, v) → inlQ EK39 Try.f48 60 args h = some (true, v) := by
  intro args h v hq
  unfold q48 at hq
  split at hq
  · simp only [Option.some.injEq, Prod.mk.injEq, true_and] at hq
    subst hq
    exact inlQ_val rfl (fun _ => rfl) rfl v48
  · cases hq
noncomputable def EK48 : Env := EK39.sum 48 q48
theorem EK48_s : EK48.Sound := EK39_s.sum pfl has48 q48_ok
end Go.Proofs.Ytjpeplidbodjiaa
