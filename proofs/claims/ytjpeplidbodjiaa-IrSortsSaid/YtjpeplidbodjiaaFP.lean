/- Numbers from 0 to n - 1. -/
import Derived.Test.YtjpeplidbodjiaaFK
namespace Go.Proofs.Ytjpeplidbodjiaa
open Go.RowKit
set_option maxRecDepth 100000
theorem has47 : hasFn Try.prog 47 Try.f47 := ⟨by kernel_rfl, by kernel_rfl, by kernel_rfl⟩
def placeZ (v : Int) (n : Nat) : Int := bif decide (v.tmod n < 0) then IntKind.i64.wrap (v.tmod n + n) else v.tmod n
def q47 (args : List AV) (_ : AH) : Option (Bool × AV) := match args with
  | [.one (.v (.int .i64 v)), .one (.v (.int .i64 (.ofNat (n + 1))))] => some (true, intV (placeZ v (n + 1)))
  | _ => none
theorem v47 (v : Int) (n : Nat) : evF EK48 Try.f47 60 [intV v, intV (.ofNat (n + 1))] ⟨[], [], 0⟩ =
    bif !((Int.ofNat (n + 1)) == 0) then bif decide (v.tmod (Int.ofNat (n + 1)) < 0) then some (intV (IntKind.i64.wrap (v.tmod (Int.ofNat (n + 1)) + Int.ofNat (n + 1))), h00) else some (intV (v.tmod (Int.ofNat (n + 1))), h00) else none := by kernel_rfl
theorem q47_ok : ∀ args h v, q47 args h = some (true, v) → inlQ EK48 Try.f47 60 args h = some (true, v) := by
  intro args h v hq
  unfold q47 at hq
  split at hq
  · rename_i v n
    simp only [Option.some.injEq, Prod.mk.injEq, true_and] at hq
    subst hq
    refine inlQ_val rfl (fun _ => rfl) rfl ((congrArg valOf (v47 v n)).trans ?_)
    have e : (Int.ofNat (n + 1) == 0) = false := by
      simp only [beq_eq_false_iff_ne]
      intro h
      have : (n : Int) + 1 = 0 := by simpa using h
      omega
    rw [e]
    unfold placeZ
    simp only [Bool.not_false, cond_true]
    have e2 : Int.ofNat (n + 1) = ((n + 1 : Nat) : Int) := rfl
    rw [e2]
    cases decide (v.tmod ((n + 1 : Nat) : Int) < 0) <;> rfl
  · cases hq
noncomputable def EP47 : Env := EK48.sum 47 q47
theorem EP47_s : EP47.Sound := EK48_s.sum pfl has47 q47_ok
theorem placeZ_range {v : Int} {n : Nat} (hn : 0 < n) (hs : n ≤ 1000) : 0 ≤ placeZ v n ∧ placeZ v n < n := by
  unfold placeZ
  have h1 := Int.tmod_lt_of_pos v (b := (n : Int)) (by omega)
  have h2 : -(n : Int) < v.tmod n := by
    have := Int.lt_tmod_of_pos v (b := (n : Int)) (by omega)
    omega
  cases h : decide (v.tmod n < 0) with
  | true =>
    have h := of_decide_eq_true h
    simp only [cond_true]
    rw [IntKind.wrap_i64]
    omega
  | false =>
    have h := of_decide_eq_false h
    simp only [cond_false]
    omega
/-- Where the number is known. -/
def q47k (n k : Nat) (args : List AV) (_ : AH) : Option (Bool × AV) := match args with
  | [.one (.v (.int .i64 v)), .one (.v (.int .i64 (.ofNat (m + 1))))] => bif Nat.beq (m + 1) n then some (placeZ v n == Int.ofNat k, intV (Int.ofNat k)) else none
  | _ => none
theorem q47k_ok (n k : Nat) : ∀ args h v, q47k n k args h = some (true, v) → q47 args h = some (true, v) := by
  intro args h v hq
  unfold q47k at hq
  split at hq
  · rename_i v m
    cases hm : Nat.beq (m + 1) n with
    | false => simp [hm] at hq
    | true =>
      have := Nat.eq_of_beq_eq_true hm
      subst this
      simp only [hm, cond_true, Option.some.injEq, Prod.mk.injEq] at hq
      obtain ⟨h1, rfl⟩ := hq
      have := eq_of_beq h1
      simp only [q47, this]
  · cases hq
noncomputable def EPk (n k : Nat) : Env := EK48.sum 47 (q47k n k)
theorem EPk_s (n k : Nat) : (EPk n k).Sound := EK48_s.sum pfl has47 fun args h v hq => q47_ok args h v (q47k_ok n k args h v hq)
end Go.Proofs.Ytjpeplidbodjiaa
