/- IrSpoilt: the law is true of all numbers. -/
import Derived.Test.YtjpeplidbodjiaaFW
namespace Go.Proofs.Ytjpeplidbodjiaa
set_option maxRecDepth 100000
theorem chk3 (pc : Int) (a b c : OpT) (h : stepL 2 3 1 b a.t (nextL 2 a fun _ _ => false) = false) : checkL pc [0, 0] [a, b, c] = false := by
  unfold checkL
  simp only [List.length_cons, List.length_nil, chkL]
  have e : stepL ((0 + 1 + 1 : Nat) : Int) (0 + 1 + 1 + 1) (0 + 1) b a.t (nextL ((0 + 1 + 1 : Nat) : Int) a fun _ _ => false) = false := h
  rw [e]
  simp
theorem right0 {W : Int} {n i : Nat} {q : OpT} {t : Int} {F : Nat → Nat → Bool} (h : rightK W F q.k q.D q.A q.B q.I q.t = false) : stepL W n i q t F = false := by
  unfold stepL
  rw [h]
  rfl
theorem fields0 {W k D A B I t : Int} {F : Nat → Nat → Bool} (h : fieldsK W k D A B I t = false) : rightK W F k D A B I t = false := by
  unfold rightK
  rw [h]
  rfl
theorem place_hi {z : Int} (h : 64 ≤ z) : placeB z true = false := by
  unfold placeB
  rw [decide_eq_true (show z ≥ 0 by omega), decide_eq_false (show ¬ z ≤ 63 by omega)]
  rfl
theorem place_in {z : Int} (h0 : 0 ≤ z) (h : z ≤ 63) : placeB z true = true := by
  unfold placeB
  rw [decide_eq_true (show z ≥ 0 by omega), decide_eq_true h]
  rfl
theorem c8 {z : Int} (h : 64 ≤ z) : checkL 64 [0, 0] [o1, ⟨3, 2, z, 34, 0, 1⟩, o3] = false := by
  refine chk3 _ _ _ _ (right0 (fields0 ?_))
  have e : fieldsK 2 3 2 z 34 0 1 = (placeB z true && fieldsK 2 3 2 0 34 0 1) := by
    unfold fieldsK
    simp only [show (shpK 3).ok = true from rfl, show (shpK 3).a = true from rfl, show (shpK 3).b = true from rfl, show (shpK 3).d = false from rfl, show (shpK 3).w = true from rfl, show (shpK 3).i = false from rfl, show placeB 0 true = true from rfl, show decide ((1 : Int) < 0) = false from rfl, show decide ((1 : Int) ≥ 2) = false from rfl, Bool.not_false, Bool.true_and]
  rw [e, place_hi h]
  rfl
theorem c5 {z : Int} (h : z ≠ 0) : checkL 64 [0, 0] [o1, ⟨3, 2, 2, 34, z, 1⟩, o3] = false := by
  refine chk3 _ _ _ _ (right0 (fields0 ?_))
  have e : (z != 0) = true := by simpa using h
  unfold fieldsK
  simp only [show (shpK 3).ok = true from rfl, show (shpK 3).a = true from rfl, show (shpK 3).b = true from rfl, show (shpK 3).d = false from rfl, show (shpK 3).w = true from rfl, show (shpK 3).i = false from rfl, show placeB 2 true = true from rfl, show placeB 34 true = true from rfl, show decide ((1 : Int) < 0) = false from rfl, show decide ((1 : Int) ≥ 2) = false from rfl, Bool.not_false, Bool.true_and, e, Bool.not_true, Bool.false_and, Bool.and_false]
theorem c0 {z : Int} (h : 35 ≤ z) (h' : z ≤ 63) : checkL 64 [0, 0] [o1, ⟨3, 2, 2, z, 0, 1⟩, o3] = false := by
  refine chk3 _ _ _ _ (right0 ?_)
  unfold rightK
  have e : listOk (nextL 2 o1 fun _ _ => false) (listF (readsK 3 2 2 z)) (readsK 3 2 2 z).length 0 = (readOk (nextL 2 o1 fun _ _ => false) 2 && (readOk (nextL 2 o1 fun _ _ => false) z && true)) := rfl
  have e2 : readOk (nextL 2 o1 fun _ _ => false) z = false := by
    unfold readOk
    rw [decide_eq_true (show z ≥ 34 by omega)]
    simp only [cond_true, nextL, afterK]
    have e3 : (rightK 2 (fun _ _ => false) o1.k o1.D o1.A o1.B o1.I o1.t && (shpK o1.k).w) = true := by kernel_rfl
    rw [e3]
    simp only [cond_true, updB]
    rw [if_neg]
    intro hh
    have : z.toNat = 34 := hh.1
    omega
  rw [e, e2]
  simp
theorem c6 {z : Int} (h : z = 65 ∨ z = 66 ∨ z = 67) : checkL z [0, 0] [o1, o2, o3] = false := by
  rcases h with rfl | rfl | rfl <;> kernel_rfl
theorem and32_le (a : Int) : 0 ≤ and32 a 7 ∧ and32 a 7 ≤ 7 := by
  unfold and32
  have h1 : (BitVec.ofInt IntKind.u32.bits a &&& BitVec.ofInt IntKind.u32.bits 7).toNat ≤ 7 := by
    rw [BitVec.toNat_and]
    exact Nat.le_trans Nat.and_le_right (by decide)
  rw [IntKind.wrap_u32]
  omega
theorem and64_le (a : Int) : 0 ≤ and64 a 63 ∧ and64 a 63 ≤ 63 := by
  unfold and64
  have h1 : (BitVec.ofInt IntKind.i64.bits a &&& BitVec.ofInt IntKind.i64.bits 63).toNat ≤ 63 := by
    rw [BitVec.toNat_and]
    exact Nat.le_trans Nat.and_le_right (by decide)
  rw [IntKind.wrap_i64]
  omega
theorem leaf9_yes {c : Bool} (h : c = false) : leaf9 c = yesV := by rw [h]; rfl
theorem z0_in (v : Int) : 35 ≤ z0 v ∧ z0 v ≤ 63 := by
  have := placeZ_range (v := v) (n := 28) (by omega) (by omega)
  unfold z0
  rw [IntKind.wrap_i64]
  have h2 : ((28 : Nat) : Int) = 28 := rfl
  omega
theorem z5_in (v : Int) : z5 v ≠ 0 := by
  have := and32_le (IntKind.u32.wrap v)
  unfold z5
  rw [IntKind.wrap_u32]
  omega
theorem z6_in (v : Int) : z6 v = 65 ∨ z6 v = 66 ∨ z6 v = 67 := by
  unfold z6
  have h1 : 0 ≤ IntKind.u32.wrap v := by rw [IntKind.wrap_u32]; omega
  have h2 := Int.tmod_eq_emod_of_nonneg h1 (b := 3)
  rw [h2, IntKind.wrap_u32]
  omega
theorem z8_in (v : Int) : 64 ≤ z8 v := by
  have := and64_le v
  unfold z8
  rw [IntKind.wrap_i64]
  omega
theorem irSpoilt_yes (u v : Int) : ∃ k, evV (EVk 10 k) Try.f9 300 [intV u, intV v] ⟨[], [], 0⟩ = yesV := by
  obtain ⟨h1, h2⟩ := placeZ_range (v := u) (n := 10) (by omega) (by omega)
  have key : ∀ (k : Nat) (x : Out), placeZ u 10 = (k : Int) → evV (EVk 10 k) Try.f9 300 [intV u, intV v] ⟨[], [], 0⟩ = (bif placeZ u 10 == (k : Int) then x else none) → x = yesV → ∃ k, evV (EVk 10 k) Try.f9 300 [intV u, intV v] ⟨[], [], 0⟩ = yesV := by
    intro k x hk he hx
    refine ⟨k, he.trans ?_⟩
    rw [hk, beq_self_eq_true, cond_true, hx]
  have hn : placeZ u 10 = ((placeZ u 10).toNat : Int) := by omega
  have hlt : (placeZ u 10).toNat < 10 := by omega
  generalize (placeZ u 10).toNat = n at hn hlt
  match n, hlt, hn with
  | 0, _, hn => exact key 0 _ hn (t9_0 u v) (leaf9_yes (c0 (z0_in v).1 (z0_in v).2))
  | 1, _, hn => exact key 1 _ hn (t9_1 u v) rfl
  | 2, _, hn => exact key 2 _ hn (t9_2 u v) rfl
  | 3, _, hn => exact key 3 _ hn (t9_3 u v) rfl
  | 4, _, hn => exact key 4 _ hn (t9_4 u v) rfl
  | 5, _, hn => exact key 5 _ hn (t9_5 u v) (leaf9_yes (c5 (z5_in v)))
  | 6, _, hn => exact key 6 _ hn (t9_6 u v) (leaf9_yes (c6 (z6_in v)))
  | 7, _, hn => exact key 7 _ hn (t9_7 u v) rfl
  | 8, _, hn => exact key 8 _ hn (t9_8 u v) (leaf9_yes (c8 (z8_in v)))
  | 9, _, hn => exact key 9 _ hn (t9_9 u v) rfl
  | n + 10, h, _ => omega
end Go.Proofs.Ytjpeplidbodjiaa
