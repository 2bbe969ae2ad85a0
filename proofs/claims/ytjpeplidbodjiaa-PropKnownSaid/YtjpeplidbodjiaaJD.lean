/- What prop.Fold makes of a block whose numbers are known. -/
import Derived.Test.YtjpeplidbodjiaaJC
namespace Go.Proofs.Ytjpeplidbodjiaa
set_option maxRecDepth 100000
/-- As q53, but alike numbers are told alike. -/
def q53s (args : List AV) (h : AH) : Option (Bool × AV) := match args with
  | [.agg [.v (.int .i64 (.ofNat k)), .v (.int .i64 _), .v (.int .i64 _), .v (.int .i64 _), .v (.int .u32 I), .v (.int .i64 _)], .one (.v (.int .u32 a)), .one (.v (.int .u32 b)), .one (.v (.int .u32 d))] =>
    bif Nat.beq k 25 then some (a == b, u32V 1) else bif inL k kinds53 then some (recG k b, u32V (recV k I a b d)) else none
  | _ => none
theorem q53s_q53 : ∀ args h v, q53s args h = some (true, v) → q53 args h = some (true, v) := by
  intro args h v hq
  unfold q53s at hq
  split at hq
  · rename_i k D A B I At a b d
    cases hk : Nat.beq k 25 with
    | false => simpa [hk, q53] using hq
    | true =>
      have := Nat.eq_of_beq_eq_true hk
      subst this
      simp only [hk, cond_true, Option.some.injEq, Prod.mk.injEq] at hq
      obtain ⟨h1, rfl⟩ := hq
      have := eq_of_beq h1
      subst this
      simp only [q53]
      show some (true, u32V (recV 25 I a a d)) = _
      simp only [recV, BEq.rfl, bitV, cond_true]
  · cases hq
theorem c53s_ok : CallQ Try.prog 53 q53s := c53_ok.of q53s_q53
noncomputable def VK0 : Env := EY0.sum 53 q53s
theorem VK0_s : VK0.Sound := EY0_s.sumC c53s_ok
noncomputable def VK1 : Env := VK0.inC 145 Try.f145 60
theorem VK1_s : VK1.Sound := VK0_s.inC pfl has145
noncomputable def VK2 : Env := VK1.inC 146 Try.f146 60
theorem VK2_s : VK2.Sound := VK1_s.inC pfl has146
noncomputable def VK3 : Env := VK2.inC 80 Try.f80 100
theorem VK3_s : VK3.Sound := VK2_s.inC pfl has80
noncomputable def VK4 : Env := VK3.inC 82 Try.f82 300
theorem VK4_s : VK4.Sound := VK3_s.inC pfl has82
noncomputable def VK5 : Env := VK4.inC 81 Try.f81 200
theorem VK5_s : VK5.Sound := VK4_s.inC pfl has81
noncomputable def VK6 : Env := VK5.inC 37 Try.f37 300
theorem VK6_s : VK6.Sound := VK5_s.inC pfl has37
noncomputable def VK7 : Env := VK6.sum 36 (handQ F36)
theorem VK7_s : VK7.Sound := VK6_s.sumC q36_ok
noncomputable def VK8 (n k : Nat) : Env := VK7.sum 47 (q47k n k)
theorem VK8_s (n k : Nat) : (VK8 n k).Sound := VK7_s.sumC (c47k_ok n k)
def noO : Out := some (boolV false, hh0)
def knT (p r g : Bool) : Out := bif p then bif g then bif r then bif g then bif r && true then yesO else noO else none else none else none else none
def knT0 (p r : Bool) : Out := bif p then bif r then bif r && true then yesO else noO else none else none
end Go.Proofs.Ytjpeplidbodjiaa
