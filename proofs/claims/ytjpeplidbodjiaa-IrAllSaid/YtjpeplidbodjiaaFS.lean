/- ir.right, whole: what it answers, and which place is written behind it. -/
import Derived.Test.YtjpeplidbodjiaaFR
import Derived.Test.YtjpeplidbodjiaaSndB
namespace Go.Proofs.Ytjpeplidbodjiaa
set_option maxRecDepth 100000
def listF (l : List Int) : Nat → Nat → Int := fun j _ => l.getD j 0
def out87 (b : Bool) (F : Nat → Bool) : Out := some (.tup [boolV b, .arr 64 F], ⟨[], [], 0⟩)
def end87 (F : Nat → Nat → Bool) (k D A B : Int) : Out :=
  bif decide ((0 : Int) = 0) && decide (((readsK k D A B).length : Int) = ((readsK k D A B).length : Int)) && Nat.ble (readsK k D A B).length 1000 && Nat.beq 64 64 && listIn (listF (readsK k D A B)) (readsK k D A B).length 0 then
    bif listOk F (listF (readsK k D A B)) (readsK k D A B).length 0 then
      bif (shpK k).w then
        bif decide (0 ≤ D) && decide (D < ((64 : Nat) : Int)) then bif decide (D.toNat < 64) && decide (0 < 1) then out87 true fun i => updB F D.toNat 0 true i 0 else none else none
      else out87 true fun i => F i 0
    else out87 false fun i => F i 0
  else none
theorem t87 (W : Int) (F : Nat → Nat → Bool) (k D A B I At : Int) : evC ER0 Try.f87 200 [opA k D A B I At, intV W, .one (.pt 0 0)] ⟨[(0, 42, .bools 1 64 F)], [], 1⟩ wG =
    bif !(shpK k).ok then out87 false fun i => F i 0 else bif decide (At < 0) then out87 false fun i => F i 0 else bif decide (At ≥ W) then out87 false fun i => F i 0 else
    bif !placeB A (shpK k).a then out87 false fun i => F i 0 else bif !placeB B (shpK k).b then out87 false fun i => F i 0 else
    bif !placeB D (bif (shpK k).d then true else (shpK k).w) then out87 false fun i => F i 0 else
    bif (bif !(shpK k).i then I != 0 else false) then out87 false fun i => F i 0 else bif (bif (shpK k).w then D == 0 else false) then out87 false fun i => F i 0 else
    bif (bif k == 60 then true else k == 62) then (bif I.tmod 4 != 0 then out87 false fun i => F i 0 else end87 F k D A B) else end87 F k D A B := by kernel_rfl
/-- Are the fields of an operation of a block of W words such as they may be? -/
def fieldsK (W k D A B I At : Int) : Bool :=
  (shpK k).ok && (!decide (At < 0) && (!decide (At ≥ W) && (placeB A (shpK k).a && (placeB B (shpK k).b && (placeB D ((shpK k).d || (shpK k).w) && (!(!(shpK k).i && I != 0) && (!((shpK k).w && D == 0) && !((k == 60 || k == 62) && I.tmod 4 != 0))))))))
def rightK (W : Int) (F : Nat → Nat → Bool) (k D A B I At : Int) : Bool := fieldsK W k D A B I At && listOk F (listF (readsK k D A B)) (readsK k D A B).length 0
def afterK (W : Int) (F : Nat → Nat → Bool) (k D A B I At : Int) : Nat → Bool := fun i => bif rightK W F k D A B I At && (shpK k).w then updB F D.toNat 0 true i 0 else F i 0
theorem placeB_in {p : Int} (h : placeB p true = true) : 0 ≤ p ∧ p ≤ 63 := by
  unfold placeB at h
  simp only [cond_true] at h
  by_cases h0 : p ≥ 0
  · rw [decide_eq_true h0] at h
    exact ⟨h0, of_decide_eq_true h⟩
  · rw [decide_eq_false h0] at h
    cases h
theorem in1 {p : Int} (h : placeB p true = true) : (bif decide (p ≥ 34) then decide (p < 64) else true) = true := by
  have := placeB_in h
  cases decide (p ≥ 34) with
  | true => exact decide_eq_true (by omega)
  | false => rfl
theorem listIn_ok {k D A B : Int} (ha : placeB A (shpK k).a = true) (hb : placeB B (shpK k).b = true) (hd : placeB D ((shpK k).d || (shpK k).w) = true) :
    listIn (listF (readsK k D A B)) (readsK k D A B).length 0 = true ∧ (readsK k D A B).length ≤ 3 := by
  unfold readsK
  cases h1 : (shpK k).a <;> cases h2 : (shpK k).b <;> cases h3 : (shpK k).d <;> rw [h1] at ha <;> rw [h2] at hb <;> rw [h3] at hd <;>
    simp only [cond_true, cond_false, List.nil_append, List.cons_append, List.length_cons, List.length_nil, listIn, listF, List.getD_cons_zero, List.getD_cons_succ, Bool.and_true, Nat.zero_add, Bool.true_or] at * <;>
    refine ⟨?_, by omega⟩ <;> simp only [in1, ha, hb, hd, Bool.and_self]
theorem end87_eq {F : Nat → Nat → Bool} {k D A B : Int} (ha : placeB A (shpK k).a = true) (hb : placeB B (shpK k).b = true) (hd : placeB D ((shpK k).d || (shpK k).w) = true) :
    end87 F k D A B = out87 (listOk F (listF (readsK k D A B)) (readsK k D A B).length 0) fun i => bif listOk F (listF (readsK k D A B)) (readsK k D A B).length 0 && (shpK k).w then updB F D.toNat 0 true i 0 else F i 0 := by
  obtain ⟨h1, h2⟩ := listIn_ok ha hb hd
  unfold end87
  have hble : Nat.ble (readsK k D A B).length 1000 = true := by rw [Nat.ble_eq]; omega
  rw [h1, hble, decide_eq_true (rfl : ((readsK k D A B).length : Int) = _)]
  cases hl : listOk F (listF (readsK k D A B)) (readsK k D A B).length 0 with
  | false => rfl
  | true =>
    cases hw : (shpK k).w with
    | false => rfl
    | true =>
      rw [hw, Bool.or_true] at hd
      have := placeB_in hd
      rw [decide_eq_true (show 0 ≤ D by omega), decide_eq_true (show D < ((64 : Nat) : Int) by omega), decide_eq_true (show D.toNat < 64 by omega)]
      rfl
theorem t87' (W : Int) (F : Nat → Nat → Bool) (k D A B I At : Int) : evC ER0 Try.f87 200 [opA k D A B I At, intV W, .one (.pt 0 0)] ⟨[(0, 42, .bools 1 64 F)], [], 1⟩ wG = out87 (rightK W F k D A B I At) (afterK W F k D A B I At) := by
  rw [t87]
  unfold afterK rightK fieldsK
  cases h1 : (shpK k).ok
  case false => rfl
  cases h2 : decide (At < 0)
  case true => rfl
  cases h3 : decide (At ≥ W)
  case true => rfl
  cases h4 : placeB A (shpK k).a
  case false => rfl
  cases h5 : placeB B (shpK k).b
  case false => rfl
  have e6 : (bif (shpK k).d then true else (shpK k).w) = ((shpK k).d || (shpK k).w) := by cases (shpK k).d <;> rfl
  rw [e6]
  cases h6 : placeB D ((shpK k).d || (shpK k).w)
  case false => rfl
  have e7 : (bif !(shpK k).i then I != 0 else false) = (!(shpK k).i && I != 0) := by cases (shpK k).i <;> rfl
  rw [e7]
  cases h7 : (!(shpK k).i && I != 0)
  case true => rfl
  have e8 : (bif (shpK k).w then D == 0 else false) = ((shpK k).w && D == 0) := by cases (shpK k).w <;> rfl
  rw [e8]
  cases h8 : ((shpK k).w && D == 0)
  case true => rfl
  have e9 : (bif k == 60 then true else k == 62) = (k == 60 || k == 62) := by cases k == 60 <;> rfl
  rw [e9, end87_eq h4 h5 h6]
  cases k == 60 || k == 62 <;> cases I.tmod 4 != 0 <;> rfl
def c87 (args : List AV) (h : AH) : Option (Bool × AV × AH) := match args with
  | [.agg [.v (.int .i64 k), .v (.int .i64 D), .v (.int .i64 A), .v (.int .i64 B), .v (.int .u32 I), .v (.int .i64 At)], .one (.v (.int .i64 W)), .one (.pt id 0)] => (match look id h.b with
    | some (42, .bools 1 64 F) => some (true, boolV (rightK W F k D A B I At), ⟨over id (42, .bools 1 64 fun i _ => afterK W F k D A B I At i) h.b, h.l, h.nx⟩)
    | _ => none)
  | _ => none
theorem c87_ok : CallS Try.prog 87 c87 := by
  refine CallS.lent (E := ER0) ER0_s pfl ER0_lp has87 fun args h v h' hc => ?_
  unfold c87 at hc
  split at hc
  · rename_i k D A B I At W id
    split at hc
    · rename_i F hl
      simp only [Option.some.injEq, Prod.mk.injEq, true_and] at hc
      refine ⟨[opA k D A B I At, intV W], id, F, afterK W F k D A B I At, 200, rfl, fun x hx => ?_, hl, ?_, ?_, hc.2.symm⟩
      · simp only [List.mem_cons, List.not_mem_nil, or_false] at hx
        rcases hx with rfl | rfl <;> rfl
      · rw [← hc.1]
        exact t87' W F k D A B I At
      · rw [← hc.1]
        rfl
    · cases hc
  · cases hc
noncomputable def ES0 : Env := EH5.add 87 c87 noQ false false
theorem ES0_s : ES0.Sound := EH5_s.add c87_ok (noQ_CallQ has87)
end Go.Proofs.Ytjpeplidbodjiaa
