/- Kinds of operations: what they have; what they read. -/
import Derived.Test.YtjpeplidbodjiaaFG
import Derived.Test.YtjpeplidbodjiaaSndN
namespace Go.Proofs.Ytjpeplidbodjiaa
set_option maxRecDepth 100000
/-- By the kind of an operation. -/
def kcase {α : Type} (k : Int) (x0 x1 x2 x3 x4 x5 x6 x7 x8 x9 x10 x11 x12 x13 d : α) : α := bif k == 1 then x0 else bif k == 2 then x1 else bif k == 21 then x2 else bif k == 22 then x3 else bif (bif decide (k ≥ 27) then decide (k ≤ 30) else false) then x4 else bif k == 23 then x5 else bif k == 24 then x6 else bif (bif decide (k ≥ 3) then decide (k ≤ 32) else false) then x7 else bif (bif decide (k ≥ 33) then decide (k ≤ 38) else false) then x8 else bif (bif decide (k ≥ 40) then decide (k ≤ 46) else false) then x9 else bif (bif decide (k ≥ 50) then decide (k ≤ 54) else false) then x10 else bif k == 60 then x11 else bif k == 61 then x12 else bif k == 62 then x13 else d
theorem kcase_map {α β : Type} (g : α → β) (k : Int) (x0 x1 x2 x3 x4 x5 x6 x7 x8 x9 x10 x11 x12 x13 d : α) : kcase k (g x0) (g x1) (g x2) (g x3) (g x4) (g x5) (g x6) (g x7) (g x8) (g x9) (g x10) (g x11) (g x12) (g x13) (g d) = g (kcase k x0 x1 x2 x3 x4 x5 x6 x7 x8 x9 x10 x11 x12 x13 d) := by
  unfold kcase
  cases k == 1
  case true => rfl
  simp only [cond_false]
  cases k == 2
  case true => rfl
  simp only [cond_false]
  cases k == 21
  case true => rfl
  simp only [cond_false]
  cases k == 22
  case true => rfl
  simp only [cond_false]
  cases (bif decide (k ≥ 27) then decide (k ≤ 30) else false)
  case true => rfl
  simp only [cond_false]
  cases k == 23
  case true => rfl
  simp only [cond_false]
  cases k == 24
  case true => rfl
  simp only [cond_false]
  cases (bif decide (k ≥ 3) then decide (k ≤ 32) else false)
  case true => rfl
  simp only [cond_false]
  cases (bif decide (k ≥ 33) then decide (k ≤ 38) else false)
  case true => rfl
  simp only [cond_false]
  cases (bif decide (k ≥ 40) then decide (k ≤ 46) else false)
  case true => rfl
  simp only [cond_false]
  cases (bif decide (k ≥ 50) then decide (k ≤ 54) else false)
  case true => rfl
  simp only [cond_false]
  cases k == 60
  case true => rfl
  simp only [cond_false]
  cases k == 61
  case true => rfl
  simp only [cond_false]
  cases k == 62
  case true => rfl
  simp only [cond_false]
structure Shp where
  a : Bool
  b : Bool
  d : Bool
  w : Bool
  i : Bool
  ok : Bool
def shpK (k : Int) : Shp := kcase k ⟨false, false, false, true, true, true⟩ ⟨true, false, false, true, false, true⟩ ⟨true, false, false, true, false, true⟩ ⟨true, false, false, true, false, true⟩ ⟨true, false, false, true, false, true⟩ ⟨true, true, true, true, false, true⟩ ⟨true, true, true, true, false, true⟩ ⟨true, true, false, true, false, true⟩ ⟨true, true, false, false, false, true⟩ ⟨true, true, false, true, true, true⟩ ⟨true, true, false, false, true, true⟩ ⟨false, false, false, false, true, true⟩ ⟨true, false, false, false, false, true⟩ ⟨true, false, false, false, true, true⟩ ⟨false, false, false, false, false, false⟩
def shpA (x : Shp) : AV := .tup [.agg [.v (.bool x.a), .v (.bool x.b), .v (.bool x.d), .v (.bool x.w), .v (.bool x.i)], boolV x.ok]
def shpO (x : Shp) : Out := some (shpA x, hh0)
theorem has102 : hasFn Try.prog 102 Try.f102 := ⟨by kernel_rfl, by kernel_rfl, by kernel_rfl⟩
theorem t102 (k : Int) : evV EG1 Try.f102 100 [intV k] ⟨[], [], 0⟩ = kcase k (shpO ⟨false, false, false, true, true, true⟩) (shpO ⟨true, false, false, true, false, true⟩) (shpO ⟨true, false, false, true, false, true⟩) (shpO ⟨true, false, false, true, false, true⟩) (shpO ⟨true, false, false, true, false, true⟩) (shpO ⟨true, true, true, true, false, true⟩) (shpO ⟨true, true, true, true, false, true⟩) (shpO ⟨true, true, false, true, false, true⟩) (shpO ⟨true, true, false, false, false, true⟩) (shpO ⟨true, true, false, true, true, true⟩) (shpO ⟨true, true, false, false, true, true⟩) (shpO ⟨false, false, false, false, true, true⟩) (shpO ⟨true, false, false, false, false, true⟩) (shpO ⟨true, false, false, false, true, true⟩) (shpO ⟨false, false, false, false, false, false⟩) := by kernel_rfl
theorem t102' (k : Int) : evV EG1 Try.f102 100 [intV k] ⟨[], [], 0⟩ = some (shpA (shpK k), hh0) := by
  rw [t102, kcase_map shpO]
  rfl
def q102 (args : List AV) (_ : AH) : Option (Bool × AV) := match args with
  | [.one (.v (.int .i64 k))] => some (true, shpA (shpK k))
  | _ => none
theorem q102_ok : ∀ args h v, q102 args h = some (true, v) → inlV EG1 Try.f102 100 args h = some (true, v) := by
  intro args h v hq
  unfold q102 at hq
  split at hq
  · rename_i k
    simp only [Option.some.injEq, Prod.mk.injEq, true_and] at hq
    subst hq
    exact inlV_val rfl (fun _ => rfl) rfl (t102' k)
  · cases hq
noncomputable def EH1 : Env := EG1.sum 102 q102
theorem EH1_s : EH1.Sound := EG1_s.sumV pfl has102 q102_ok
theorem has156 : hasFn Try.prog 156 Try.f156 := ⟨by kernel_rfl, by kernel_rfl, by kernel_rfl⟩
/-- May a field be, if it is one, or not? -/
def placeB (p : Int) (b : Bool) : Bool := bif b then (bif decide (p ≥ 0) then decide (p ≤ 63) else false) else p == 0
theorem t156 (p : Int) (b : Bool) : evV EH1 Try.f156 100 [intV p, boolV b] ⟨[], [], 0⟩ = bif !b then some (boolV (p == 0), hh0) else some (boolV (bif decide (p ≥ 0) then decide (p ≤ 63) else false), hh0) := by kernel_rfl
theorem t156' (p : Int) (b : Bool) : evV EH1 Try.f156 100 [intV p, boolV b] ⟨[], [], 0⟩ = some (boolV (placeB p b), hh0) := by
  rw [t156]
  unfold placeB
  cases b <;> rfl
def q156 (args : List AV) (_ : AH) : Option (Bool × AV) := match args with
  | [.one (.v (.int .i64 p)), .one (.v (.bool b))] => some (true, boolV (placeB p b))
  | _ => none
theorem q156_ok : ∀ args h v, q156 args h = some (true, v) → inlV EH1 Try.f156 100 args h = some (true, v) := by
  intro args h v hq
  unfold q156 at hq
  split at hq
  · rename_i p b
    simp only [Option.some.injEq, Prod.mk.injEq, true_and] at hq
    subst hq
    exact inlV_val rfl (fun _ => rfl) rfl (t156' p b)
  · cases hq
noncomputable def EH2 : Env := EH1.sum 156 q156
theorem EH2_s : EH2.Sound := EH1_s.sumV pfl has156 q156_ok
theorem has21 : hasFn Try.prog 21 Try.f21 := ⟨by kernel_rfl, by kernel_rfl, by kernel_rfl⟩
def pureK (k : Int) : Bool := bif decide (k ≥ 1) then decide (k ≤ 30) else false
theorem t21 (k : Int) : evV EH2 Try.f21 100 [intV k] ⟨[], [], 0⟩ = some (boolV (pureK k), hh0) := by kernel_rfl
def q21 (args : List AV) (_ : AH) : Option (Bool × AV) := match args with
  | [.one (.v (.int .i64 k))] => some (true, boolV (pureK k))
  | _ => none
theorem q21_ok : ∀ args h v, q21 args h = some (true, v) → inlV EH2 Try.f21 100 args h = some (true, v) := by
  intro args h v hq
  unfold q21 at hq
  split at hq
  · rename_i k
    simp only [Option.some.injEq, Prod.mk.injEq, true_and] at hq
    subst hq
    exact inlV_val rfl (fun _ => rfl) rfl (t21 k)
  · cases hq
noncomputable def EH3 : Env := EH2.sum 21 q21
theorem EH3_s : EH3.Sound := EH2_s.sumV pfl has21 q21_ok
abbrev opA (k D A B I At : Int) : AV := .agg [.v (.int .i64 k), .v (.int .i64 D), .v (.int .i64 A), .v (.int .i64 B), .v (.int .u32 I), .v (.int .i64 At)]
theorem has51 : hasFn Try.prog 51 Try.f51 := ⟨by kernel_rfl, by kernel_rfl, by kernel_rfl⟩
/-- The place that an operation writes. -/
def writesK (k D : Int) : Int := bif (shpK k).w then D else -1
theorem t51 (k D A B I At : Int) : evV EH3 Try.f51 100 [opA k D A B I At] ⟨[], [], 0⟩ = bif (shpK k).w then some (intV D, hh0) else some (intV (-1), hh0) := by kernel_rfl
theorem t51' (k D A B I At : Int) : evV EH3 Try.f51 100 [opA k D A B I At] ⟨[], [], 0⟩ = some (intV (writesK k D), hh0) := by
  rw [t51]
  unfold writesK
  cases (shpK k).w <;> rfl
def q51 (args : List AV) (_ : AH) : Option (Bool × AV) := match args with
  | [.agg [.v (.int .i64 k), .v (.int .i64 D), .v (.int .i64 _), .v (.int .i64 _), .v (.int .u32 _), .v (.int .i64 _)]] => some (true, intV (writesK k D))
  | _ => none
theorem q51_ok : ∀ args h v, q51 args h = some (true, v) → inlV EH3 Try.f51 100 args h = some (true, v) := by
  intro args h v hq
  unfold q51 at hq
  split at hq
  · rename_i k D A B I At
    simp only [Option.some.injEq, Prod.mk.injEq, true_and] at hq
    subst hq
    exact inlV_val rfl (fun _ => rfl) rfl (t51' k D A B I At)
  · cases hq
noncomputable def EH4 : Env := EH3.sum 51 q51
theorem EH4_s : EH4.Sound := EH3_s.sumV pfl has51 q51_ok
theorem has50 : hasFn Try.prog 50 Try.f50 := ⟨by kernel_rfl, by kernel_rfl, by kernel_rfl⟩
/-- The places that an operation reads. -/
def readsK (k D A B : Int) : List Int := (bif (shpK k).a then [A] else []) ++ ((bif (shpK k).b then [B] else []) ++ bif (shpK k).d then [D] else [])
def tupO (l : List Int) : Out := some (tupL l, hh0)
theorem t50 (k D A B I At : Int) : evC EH4 Try.f50 100 [opA k D A B I At] ⟨[], [], 0⟩ listG =
    bif (shpK k).a then (bif (shpK k).b then (bif (shpK k).d then tupO [A, B, D] else tupO [A, B]) else (bif (shpK k).d then tupO [A, D] else tupO [A]))
    else (bif (shpK k).b then (bif (shpK k).d then tupO [B, D] else tupO [B]) else (bif (shpK k).d then tupO [D] else tupO [])) := by kernel_rfl
theorem t50' (k D A B I At : Int) : evC EH4 Try.f50 100 [opA k D A B I At] ⟨[], [], 0⟩ listG = some (tupL (readsK k D A B), ⟨[], [], 0⟩) := by
  rw [t50]
  unfold readsK
  cases (shpK k).a <;> cases (shpK k).b <;> cases (shpK k).d <;> rfl
def c50 (args : List AV) (h : AH) : Option (Bool × AV × AH) := match args with
  | [.agg [.v (.int .i64 k), .v (.int .i64 D), .v (.int .i64 A), .v (.int .i64 B), .v (.int .u32 _), .v (.int .i64 _)]] => some (true, .one (.ow h.nx), ⟨h.b, (h.nx, ⟨true, 3, rowL (readsK k D A B)⟩) :: h.l, h.nx + 1⟩)
  | _ => none
theorem c50_ok : CallS Try.prog 50 c50 := by
  refine CallS.ints (E := EH4) EH4_s pfl (LpF.none fun _ => rfl) has50 fun args h v h' hc => ?_
  unfold c50 at hc
  split at hc
  · rename_i k D A B I At
    simp only [Option.some.injEq, Prod.mk.injEq, true_and] at hc
    refine ⟨fun x hx => ?_, 100, readsK k D A B, t50' k D A B I At, hc.1.symm, hc.2.symm⟩
    have : x = opA k D A B I At := by simpa using hx
    subst this
    rfl
  · cases hc
theorem c50_keeps (args : List AV) (h : AH) (g : Bool) (v : AV) (h' : AH) (e : c50 args h = some (g, v, h')) : h.b.Sublist h'.b ∧ h.l.Sublist h'.l := by
  unfold c50 at e
  split at e
  · simp only [Option.some.injEq, Prod.mk.injEq] at e
    rw [← e.2.2]
    exact ⟨List.Sublist.refl _, List.sublist_cons_self _ _⟩
  · cases e
noncomputable def EH5 : Env := EH4.add 50 c50 noQ false true
theorem EH5_s : EH5.Sound := EH4_s.add c50_ok (noQ_CallQ has50) fun _ => c50_keeps
end Go.Proofs.Ytjpeplidbodjiaa
