/- IrAll: the law says true for every block, every operation and every three numbers. -/
import Derived.Test.YtjpeplidbodjiaaHX
import Derived.Test.YtjpeplidbodjiaaHZ
import Derived.Test.YtjpeplidbodjiaaJX
/- IrAll: the law's environment. -/
namespace Go.Proofs.Ytjpeplidbodjiaa
open Go.RowKit
set_option maxRecDepth 100000
theorem has10 : hasFn Try.prog 10 Try.f10 := ⟨by kernel_rfl, by kernel_rfl, by kernel_rfl⟩
noncomputable def VQ1 : Env := EV7.gives 20 F20
theorem VQ1_s : VQ1.Sound := EV7_s.gives has20 c20_ok
noncomputable def VQ2 : Env := VQ1.sum 26 (handQ F26)
theorem VQ2_s : VQ2.Sound := VQ1_s.sumC q26_ok
noncomputable def VQ3 : Env := VQ2.sum 31 (handQ (F1b pureK))
theorem VQ3_s : VQ3.Sound := VQ2_s.sumC q31_ok
noncomputable def VQ4 : Env := VQ3.sum 49 (handQ F49)
theorem VQ4_s : VQ4.Sound := VQ3_s.sumC q49_ok
noncomputable def VQ5 : Env := VQ4.sum 52 (handQ F52)
theorem VQ5_s : VQ5.Sound := VQ4_s.sumC q52_ok
noncomputable def VQ6 : Env := VQ5.sum 53 q53z
theorem VQ6_s : VQ6.Sound := VQ5_s.sumC c53z_ok
noncomputable def VQ7 : Env := VQ6.sum 54 q54r
theorem VQ7_s : VQ7.Sound := VQ6_s.sumC c54r_ok
noncomputable def VQ8 : Env := VQ7.sum 55 q55z
theorem VQ8_s : VQ8.Sound := VQ7_s.sumC c55z_ok
noncomputable def VQ9 : Env := VQ8.sum 56 q56r
theorem VQ9_s : VQ9.Sound := VQ8_s.sumC c56r_ok
noncomputable def VQ10 : Env := VQ9.add 30 c50 noQ false true
theorem VQ10_s : VQ10.Sound := VQ9_s.add c30_ok (noQ_CallQ has30) fun _ => c50_keeps
end Go.Proofs.Ytjpeplidbodjiaa
/- IrAll: the law says true for every block, every operation and every three numbers. -/
namespace Go.Proofs.Ytjpeplidbodjiaa
open Go.RowKit
set_option maxRecDepth 100000
def ysO : Out := some (boolV true, hh0)
def noA : Out := some (boolV false, hh0)
theorem t10 (pc : Int) (nW : Nat) (f : Nat → Nat → Int) (oW : Nat → Nat → ByteArray) (n : Nat) (g : Nat → Nat → Int) (o : Nat → Nat → ByteArray) (k D A B I t a b d : Int) : evV VQ10 Try.f10 300 [.agg [.v (.int .u32 pc), .ow 0, .ow 1], opA k D A B I t, u32V a, u32V b, u32V d] ⟨[], lB nW f oW n g o, 2⟩ =
    bif (bif decide ((n : Int) > 200) then true else decide ((nW : Int) > 40)) then ysO else bif Nat.ble n 1048576 && Nat.ble nW 1048576 then
      (bif checkL pc (tabI f nW 0) (tabO g n 0) == checkV pc (tabI f nW 0) (tabO g n 0) then bif pureK k == pureK k then bif Nat.ble (readsK k D A B).length 100000 then bif same26 (tabI (fun j _ => (readsK k D A B).getD j 0) (readsK k D A B).length 0) (tabI (fun j _ => (readsK k D A B).getD j 0) (readsK k D A B).length 0) then
        bif writesK k D == writesK k D then bif longG k b then bif longG k b then bif recZ k I a b d == recR k I a b d then bif stopZ k a b == stopR k a b then ysO else noA else noA else none else none else noA else noA else none else noA else noA) else none := by kernel_rfl
theorem tabI_mem (f : Nat → Nat → Int) : ∀ (r i : Nat) (v : Int), v ∈ tabI f r i → ∃ j, i ≤ j ∧ j < i + r ∧ v = f j 0
  | 0, _, _, h => by cases h
  | r + 1, i, v, h => by
    have e : tabI f (r + 1) i = f i 0 :: tabI f r (i + 1) := rfl
    rw [e] at h
    rcases List.mem_cons.1 h with h | h
    · exact ⟨i, Nat.le_refl _, by omega, h⟩
    · obtain ⟨j, h1, h2, h3⟩ := tabI_mem f r (i + 1) v h
      exact ⟨j, by omega, by omega, h3⟩
theorem divG_tr {y : Int} (h0 : 0 ≤ y) (h1 : y ≤ 4294967295) : divG y = true := by
  unfold divG
  rw [divS_val]
  by_cases h : y = 0
  · simp [h]
  · have h2 : (y + 2147483648) % 4294967296 - 2147483648 ≠ 0 := by omega
    simp [h2]
theorem longG_tr {k y : Int} (h0 : 0 ≤ y) (h1 : y ≤ 4294967295) : longG k y = true := by
  unfold longG
  rw [divG_tr h0 h1]
  cases (bif k == 17 then true else k == 19) <;> rfl
theorem reads_le3 (k D A B : Int) : (readsK k D A B).length ≤ 3 := by
  unfold readsK
  cases (shpK k).a <;> cases (shpK k).b <;> cases (shpK k).d <;> simp
theorem irAll_yes (pc : Int) (nW : Nat) (f : Nat → Nat → Int) (oW : Nat → Nat → ByteArray) (n : Nat) (g : Nat → Nat → Int) (o : Nat → Nat → ByteArray) (k D A B I t a b d : Int) (p0 : 0 ≤ pc) (p1 : pc ≤ 4294967295) (hw : ∀ i, i < nW → 0 ≤ f i 0 ∧ f i 0 ≤ 4294967295)
    (a0 : 0 ≤ a) (a1 : a ≤ 4294967295) (b0 : 0 ≤ b) (b1 : b ≤ 4294967295) : evV VQ10 Try.f10 300 [.agg [.v (.int .u32 pc), .ow 0, .ow 1], opA k D A B I t, u32V a, u32V b, u32V d] ⟨[], lB nW f oW n g o, 2⟩ = ysO := by
  rw [t10]
  by_cases h1 : (n : Int) > 200
  · rw [decide_eq_true h1]
    rfl
  · by_cases h2 : (nW : Int) > 40
    · rw [decide_eq_false h1, decide_eq_true h2]
      rfl
    · have e1 : Nat.ble n 1048576 = true := by rw [Nat.ble_eq]; omega
      have e2 : Nat.ble nW 1048576 = true := by rw [Nat.ble_eq]; omega
      have e3 : Nat.ble (readsK k D A B).length 100000 = true := by rw [Nat.ble_eq]; have := reads_le3 k D A B; omega
      have hv : checkV pc (tabI f nW 0) (tabO g n 0) = checkL pc (tabI f nW 0) (tabO g n 0) := checkV_eq _ p0 (by omega) (fun v hv => by
        obtain ⟨j, _, hj, e⟩ := tabI_mem f nW 0 v hv
        have := hw j (by omega)
        rw [e]
        omega) (by rw [tabI_len]; omega)
      rw [decide_eq_false h1, decide_eq_false h2, e1, e2, hv, e3, same26_refl, longG_tr b0 b1, rec_eq I d a0 (by omega), stop_eq a0 (by omega) b0 (by omega), beq_self_eq_true, beq_self_eq_true, beq_self_eq_true, beq_self_eq_true, beq_self_eq_true]
      rfl
end Go.Proofs.Ytjpeplidbodjiaa
