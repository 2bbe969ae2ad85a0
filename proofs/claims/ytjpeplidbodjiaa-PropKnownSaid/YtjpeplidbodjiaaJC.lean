/- prop.Fold of blocks that are written out. -/
import Derived.Test.YtjpeplidbodjiaaJB
import Derived.Test.YtjpeplidbodjiaaFY
namespace Go.Proofs.Ytjpeplidbodjiaa
set_option maxRecDepth 100000
theorem has145 : hasFn Try.prog 145 Try.f145 := ⟨by kernel_rfl, by kernel_rfl, by kernel_rfl⟩
theorem has146 : hasFn Try.prog 146 Try.f146 := ⟨by kernel_rfl, by kernel_rfl, by kernel_rfl⟩
theorem has80 : hasFn Try.prog 80 Try.f80 := ⟨by kernel_rfl, by kernel_rfl, by kernel_rfl⟩
theorem has81 : hasFn Try.prog 81 Try.f81 := ⟨by kernel_rfl, by kernel_rfl, by kernel_rfl⟩
theorem has82 : hasFn Try.prog 82 Try.f82 := ⟨by kernel_rfl, by kernel_rfl, by kernel_rfl⟩
theorem has37 : hasFn Try.prog 37 Try.f37 := ⟨by kernel_rfl, by kernel_rfl, by kernel_rfl⟩
theorem has36 : hasFn Try.prog 36 Try.f36 := ⟨by kernel_rfl, by kernel_rfl, by kernel_rfl⟩
noncomputable def VJ0 : Env := EY0.sum 53 q53
theorem VJ0_s : VJ0.Sound := EY0_s.sumC c53_ok
noncomputable def VJ1 : Env := VJ0.inC 145 Try.f145 60
theorem VJ1_s : VJ1.Sound := VJ0_s.inC pfl has145
noncomputable def VJ2 : Env := VJ1.inC 146 Try.f146 60
theorem VJ2_s : VJ2.Sound := VJ1_s.inC pfl has146
noncomputable def VJ3 : Env := VJ2.inC 80 Try.f80 100
theorem VJ3_s : VJ3.Sound := VJ2_s.inC pfl has80
noncomputable def VJ4 : Env := VJ3.inC 82 Try.f82 300
theorem VJ4_s : VJ4.Sound := VJ3_s.inC pfl has82
noncomputable def VJ5 : Env := VJ4.inC 81 Try.f81 200
theorem VJ5_s : VJ5.Sound := VJ4_s.inC pfl has81
noncomputable def VJ6 : Env := VJ5.inC 37 Try.f37 300
theorem VJ6_s : VJ6.Sound := VJ5_s.inC pfl has37
def yesO : Out := some (boolV true, hh0)
theorem t36 : evV VJ6 Try.f36 300 [] ⟨[], [], 0⟩ = yesO := by kernel_rfl
def F36 (args : List AV) (l : List (Nat × LB)) : Option (Bool × AV) := match args, l with
  | [], [] => some (true, boolV true)
  | _, _ => none
theorem q36_ok : CallQ Try.prog 36 (handQ F36) := by
  refine CallQ.hand (E := VJ6) VJ6_s pfl (LpF.none fun _ => rfl) has36 fun args l v h => ?_
  unfold F36 at h
  split at h
  · simp only [Option.some.injEq, Prod.mk.injEq, true_and] at h
    subst h
    exact ⟨rfl, 300, hh0, t36⟩
  · cases h
noncomputable def VJ7 : Env := VJ6.sum 36 (handQ F36)
theorem VJ7_s : VJ7.Sound := VJ6_s.sumC q36_ok
theorem c47k_ok (n k : Nat) : CallQ Try.prog 47 (q47k n k) := (inlQ_CallQ EV7_s pfl (LpF.none fun _ => rfl) has47).of fun args h v hq => q47_ok args h v (q47k_ok n k args h v hq)
noncomputable def VJ8 (n k : Nat) : Env := VJ7.sum 47 (q47k n k)
theorem VJ8_s (n k : Nat) : (VJ8 n k).Sound := VJ7_s.sumC (c47k_ok n k)
theorem has16 : hasFn Try.prog 16 Try.f16 := ⟨by kernel_rfl, by kernel_rfl, by kernel_rfl⟩
end Go.Proofs.Ytjpeplidbodjiaa
