/- The document's example of layer 17; numbers from 0 to n - 1; blocks copied. -/
import Derived.Test.YtjpeplidbodjiaaFU
namespace Go.Proofs.Ytjpeplidbodjiaa
set_option maxRecDepth 100000
theorem has103 : hasFn Try.prog 103 Try.f103 := ⟨by kernel_rfl, by kernel_rfl, by kernel_rfl⟩
theorem has104 : hasFn Try.prog 104 Try.f104 := ⟨by kernel_rfl, by kernel_rfl, by kernel_rfl⟩
theorem has53 : hasFn Try.prog 53 Try.f53 := ⟨by kernel_rfl, by kernel_rfl, by kernel_rfl⟩
theorem has48 : hasFn Try.prog 48 Try.f48 := ⟨by kernel_rfl, by kernel_rfl, by kernel_rfl⟩
theorem has47 : hasFn Try.prog 47 Try.f47 := ⟨by kernel_rfl, by kernel_rfl, by kernel_rfl⟩
theorem has34 : hasFn Try.prog 34 Try.f34 := ⟨by kernel_rfl, by kernel_rfl, by kernel_rfl⟩
theorem has63 : hasFn Try.prog 63 Try.f63 := ⟨by kernel_rfl, by kernel_rfl, by kernel_rfl⟩
theorem has20 : hasFn Try.prog 20 Try.f20 := ⟨by kernel_rfl, by kernel_rfl, by kernel_rfl⟩
noncomputable def EV1 : Env := EU0.inlQ 103 Try.f103 30
theorem EV1_s : EV1.Sound := EU0_s.inlQ pfl has103
noncomputable def EV2 : Env := EV1.inlQ 104 Try.f104 30
theorem EV2_s : EV2.Sound := EV1_s.inlQ pfl has104
noncomputable def EV3 : Env := EV2.inlQ 53 Try.f53 200
theorem EV3_s : EV3.Sound := EV2_s.inlQ pfl has53
theorem v48 : evV EV3 Try.f48 60 [] ⟨[], [], 0⟩ = some (boolV true, hh0) := by kernel_rfl
def q48 (args : List AV) (_ : AH) : Option (Bool × AV) := match args with
  | [] => some (true, boolV true)
  | _ => none
theorem q48_ok : ∀ args h v, q48 args h = some (true, v) → inlV EV3 Try.f48 60 args h = some (true, v) := by
  intro args h v hq
  unfold q48 at hq
  split at hq
  · simp only [Option.some.injEq, Prod.mk.injEq, true_and] at hq
    subst hq
    exact inlV_val rfl (fun _ => rfl) rfl v48
  · cases hq
noncomputable def EV4 : Env := EU0.sum 48 q48
theorem EV4_s : EV4.Sound := EU0_s.sumC ((inlV_CallQ EV3_s pfl (LpF.none fun _ => rfl) has48).of q48_ok)
noncomputable def EV5 : Env := EV4.inlM 34 Try.f34 60
theorem EV5_s : EV5.Sound := EV4_s.inlM pfl has34
noncomputable def EV6 : Env := EV5.inlM 63 Try.f63 60
theorem EV6_s : EV6.Sound := EV5_s.inlM pfl has63
noncomputable def EV7 : Env := EV6.inlM 20 Try.f20 60
theorem EV7_s : EV7.Sound := EV6_s.inlM pfl has20
def placeZ (v : Int) (n : Nat) : Int := bif decide (v.tmod n < 0) then IntKind.i64.wrap (v.tmod n + n) else v.tmod n
def q47 (args : List AV) (_ : AH) : Option (Bool × AV) := match args with
  | [.one (.v (.int .i64 v)), .one (.v (.int .i64 (.ofNat (n + 1))))] => some (true, intV (placeZ v (n + 1)))
  | _ => none
theorem v47 (v : Int) (n : Nat) : evF EV7 Try.f47 60 [intV v, intV (.ofNat (n + 1))] ⟨[], [], 0⟩ =
    bif !((Int.ofNat (n + 1)) == 0) then bif decide (v.tmod (Int.ofNat (n + 1)) < 0) then some (intV (IntKind.i64.wrap (v.tmod (Int.ofNat (n + 1)) + Int.ofNat (n + 1))), hh0) else some (intV (v.tmod (Int.ofNat (n + 1))), hh0) else none := by kernel_rfl
theorem q47_ok : ∀ args h v, q47 args h = some (true, v) → inlQ EV7 Try.f47 60 args h = some (true, v) := by
  intro args h v hq
  unfold q47 at hq
  split at hq
  · rename_i v n
    simp only [Option.some.injEq, Prod.mk.injEq, true_and] at hq
    subst hq
    refine inlQ_val rfl (fun _ => rfl) rfl ((congrArg valOf (v47 v n)).trans ?_)
    have e : (Int.ofNat (n + 1) == 0) = false := by
      simp only [beq_eq_false_iff_ne]
      intro h
      have : (n : Int) + 1 = 0 := by simpa using h
      omega
    rw [e]
    unfold placeZ
    simp only [Bool.not_false, cond_true]
    have e2 : Int.ofNat (n + 1) = ((n + 1 : Nat) : Int) := rfl
    rw [e2]
    cases decide (v.tmod ((n + 1 : Nat) : Int) < 0) <;> rfl
  · cases hq
theorem placeZ_range {v : Int} {n : Nat} (hn : 0 < n) (hs : n ≤ 1000) : 0 ≤ placeZ v n ∧ placeZ v n < n := by
  unfold placeZ
  have h1 := Int.tmod_lt_of_pos v (b := (n : Int)) (by omega)
  have h2 : -(n : Int) < v.tmod n := by
    have := Int.lt_tmod_of_pos v (b := (n : Int)) (by omega)
    omega
  cases h : decide (v.tmod n < 0) with
  | true =>
    have h := of_decide_eq_true h
    simp only [cond_true]
    rw [IntKind.wrap_i64]
    omega
  | false =>
    have h := of_decide_eq_false h
    simp only [cond_false]
    omega
/-- Where the number is known. -/
def q47k (n k : Nat) (args : List AV) (_ : AH) : Option (Bool × AV) := match args with
  | [.one (.v (.int .i64 v)), .one (.v (.int .i64 (.ofNat (m + 1))))] => bif Nat.beq (m + 1) n then some (placeZ v n == Int.ofNat k, intV (Int.ofNat k)) else some (true, intV (placeZ v (m + 1)))
  | _ => none
theorem q47k_ok (n k : Nat) : ∀ args h v, q47k n k args h = some (true, v) → q47 args h = some (true, v) := by
  intro args h v hq
  unfold q47k at hq
  split at hq
  · rename_i v m
    cases hm : Nat.beq (m + 1) n with
    | false => simpa [hm, q47] using hq
    | true =>
      have := Nat.eq_of_beq_eq_true hm
      subst this
      simp only [hm, cond_true, Option.some.injEq, Prod.mk.injEq] at hq
      obtain ⟨h1, rfl⟩ := hq
      have := eq_of_beq h1
      simp only [q47, this]
  · cases hq
noncomputable def EVk (n k : Nat) : Env := EV7.sum 47 (q47k n k)
theorem EVk_s (n k : Nat) : (EVk n k).Sound := EV7_s.sum pfl has47 fun args h v hq => q47_ok args h v (q47k_ok n k args h v hq)
end Go.Proofs.Ytjpeplidbodjiaa
