/- ins.of, whole; ins.Decode. -/
import Derived.Test.YtjpeplidbodjiaaFD
namespace Go.Proofs.Ytjpeplidbodjiaa
set_option maxRecDepth 100000
abbrev u32V (x : Int) : AV := .one (.v (.int .u32 x))
abbrev boolV (b : Bool) : AV := .one (.v (.bool b))
abbrev intV (x : Int) : AV := .one (.v (.int .i64 x))
def h01 : AH := ⟨[], [], 1⟩
noncomputable def EE0 : Env := (EB4.marks (fun i => bif Nat.beq i 10 then some [0, 2, 3, 4, 5, 25, 26, 27] else none) fun _ => none).loops fun i => bif Nat.beq i 10 then some lp136 else none
theorem EE0_s : EE0.Sound := EB4_s.marks.loops
theorem loops136 : loopsC (bodyC Try.f136) = [x136] := by kernel_rfl
theorem LpF.of {E : Env} {fn : Func} (h : LpC E (bodyC fn)) : LpF E fn := fun c hc => by
  have : bodyC fn = c := by simp [bodyC, hc]
  rw [← this]
  exact h
theorem EE0_lp : LpF EE0 Try.f136 := LpF.of fun x hx f hf => by
  rw [loops136] at hx
  have hx : x = x136 := by simpa using hx
  subst hx
  have e : EE0.lp (keyC x136) = some lp136 := by rw [key136]; rfl
  rw [e] at hf
  injection hf with hf
  subst hf
  exact lp136_ok
def fA (w : Int) : Int := fieldZ w 26 6
def fB (w : Int) : Int := bif fA w == 0 then fieldZ w 0 6 else bif fA w == 28 then fieldZ w 0 6 else bif fA w == 1 then fieldZ w 16 5 else 0
def T136 (a b : Int) : Out := bif isHit a b then some (.tup [.agg (rowA (rowOf a b).1 (rowOf a b).2.1 (rowOf a b).2.2.1 (rowOf a b).2.2.2), boolV true], h01) else some (.tup [.agg zRow, boolV false], h01)
theorem t136 (w : Int) : evF EE0 Try.f136 100 [u32V w] ⟨[], [], 0⟩ = bif fA w == 0 then T136 (fA w) (fieldZ w 0 6) else bif fA w == 28 then T136 (fA w) (fieldZ w 0 6) else bif fA w == 1 then T136 (fA w) (fieldZ w 16 5) else T136 (fA w) 0 := by kernel_rfl
def rT (w : Int) : Int × Int × ByteArray × Int := rowOf (fA w) (fB w)
def rOk (w : Int) : Bool := isHit (fA w) (fB w)
def q136 (args : List AV) (_ : AH) : Option (Bool × AV) := match args with
  | [.one (.v (.int .u32 w))] => some (true, .tup [.agg (rowA (rT w).1 (rT w).2.1 (rT w).2.2.1 (rT w).2.2.2), boolV (rOk w)])
  | _ => none
theorem zero_of (a b : Int) (h : isHit a b = false) : rowOf a b = zRowT := by
  unfold isHit at h
  unfold rowOf
  cases hf : findR a b rowsT with
  | none => rfl
  | some r => rw [hf] at h; cases h
theorem T136_eq (a b : Int) : T136 a b = some (.tup [.agg (rowA (rowOf a b).1 (rowOf a b).2.1 (rowOf a b).2.2.1 (rowOf a b).2.2.2), boolV (isHit a b)], h01) := by
  unfold T136
  cases h : isHit a b with
  | true => rfl
  | false => rw [zero_of a b h]; rfl
theorem q136_ok : ∀ args h v, q136 args h = some (true, v) → inlQ EE0 Try.f136 100 args h = some (true, v) := by
  intro args h v hq
  unfold q136 at hq
  split at hq
  · rename_i w
    simp only [Option.some.injEq, Prod.mk.injEq, true_and] at hq
    subst hq
    refine inlQ_val rfl (fun _ => rfl) rfl ((congrArg valOf (t136 w)).trans ?_)
    simp only [T136_eq, rT, rOk, fB]
    cases fA w == 0 <;> cases fA w == 28 <;> cases fA w == 1 <;> rfl
  · cases hq
noncomputable def EE1 : Env := EB4.sum 136 q136
theorem EE1_s : EE1.Sound := EB4_s.sumC ((inlQ_CallQ EE0_s pfl EE0_lp has136).of q136_ok)
noncomputable def EE2 : Env := EE1.inl 139 Try.f139 40
theorem EE2_s : EE2.Sound := EE1_s.inl pfl has139
/-- By the form of a row. -/
def dcase {α : Type} (f : Int) (c0 c8 c1 c2 c3 c4 c5 c6 c7 c9 c10 c13 c11 c12 c14 c15 c16 c17 d : α) : α := bif f == 0 then c0 else bif f == 8 then c8 else bif f == 1 then c1 else bif f == 2 then c2 else bif f == 3 then c3 else bif f == 4 then c4 else bif f == 5 then c5 else bif f == 6 then c6 else bif f == 7 then c7 else bif f == 9 then c9 else bif f == 10 then c10 else bif f == 13 then c13 else bif f == 11 then c11 else bif f == 12 then c12 else bif f == 14 then c14 else bif f == 15 then c15 else bif f == 16 then c16 else bif f == 17 then c17 else d
theorem dcase_map {α β : Type} (g : α → β) (f : Int) (c0 c8 c1 c2 c3 c4 c5 c6 c7 c9 c10 c13 c11 c12 c14 c15 c16 c17 d : α) : dcase f (g c0) (g c8) (g c1) (g c2) (g c3) (g c4) (g c5) (g c6) (g c7) (g c9) (g c10) (g c13) (g c11) (g c12) (g c14) (g c15) (g c16) (g c17) (g d) = g (dcase f c0 c8 c1 c2 c3 c4 c5 c6 c7 c9 c10 c13 c11 c12 c14 c15 c16 c17 d) := by
  unfold dcase
  cases f == 0
  case true => rfl
  simp only [cond_false]
  cases f == 8
  case true => rfl
  simp only [cond_false]
  cases f == 1
  case true => rfl
  simp only [cond_false]
  cases f == 2
  case true => rfl
  simp only [cond_false]
  cases f == 3
  case true => rfl
  simp only [cond_false]
  cases f == 4
  case true => rfl
  simp only [cond_false]
  cases f == 5
  case true => rfl
  simp only [cond_false]
  cases f == 6
  case true => rfl
  simp only [cond_false]
  cases f == 7
  case true => rfl
  simp only [cond_false]
  cases f == 9
  case true => rfl
  simp only [cond_false]
  cases f == 10
  case true => rfl
  simp only [cond_false]
  cases f == 13
  case true => rfl
  simp only [cond_false]
  cases f == 11
  case true => rfl
  simp only [cond_false]
  cases f == 12
  case true => rfl
  simp only [cond_false]
  cases f == 14
  case true => rfl
  simp only [cond_false]
  cases f == 15
  case true => rfl
  simp only [cond_false]
  cases f == 16
  case true => rfl
  simp only [cond_false]
  cases f == 17
  case true => rfl
  simp only [cond_false]
def orZ (a b : Int) : Int := IntKind.u32.wrap (BitVec.ofInt IntKind.u32.bits a ||| BitVec.ofInt IntKind.u32.bits b).toNat
def xorZ (a b : Int) : Int := IntKind.u32.wrap (BitVec.ofInt IntKind.u32.bits a ^^^ BitVec.ofInt IntKind.u32.bits b).toNat
/-- What must be nought, and the fields. -/
structure Dec where
  n : Int
  s : Int
  t : Int
  d : Int
  a : Int
  i : Int
def decF (w f : Int) : Dec := dcase f ⟨fieldZ w 6 5, IntKind.i64.wrap (fieldZ w 21 5), IntKind.i64.wrap (fieldZ w 16 5), IntKind.i64.wrap (fieldZ w 11 5), 0, 0⟩
  ⟨fieldZ w 6 5, IntKind.i64.wrap (fieldZ w 21 5), IntKind.i64.wrap (fieldZ w 16 5), IntKind.i64.wrap (fieldZ w 11 5), 0, 0⟩
  ⟨fieldZ w 21 5, 0, IntKind.i64.wrap (fieldZ w 16 5), IntKind.i64.wrap (fieldZ w 11 5), IntKind.i64.wrap (fieldZ w 6 5), 0⟩
  ⟨orZ (fieldZ w 11 5) (fieldZ w 6 5), IntKind.i64.wrap (fieldZ w 21 5), IntKind.i64.wrap (fieldZ w 16 5), 0, 0, 0⟩
  ⟨orZ (orZ (fieldZ w 21 5) (fieldZ w 16 5)) (fieldZ w 6 5), 0, 0, IntKind.i64.wrap (fieldZ w 11 5), 0, 0⟩
  ⟨orZ (orZ (fieldZ w 16 5) (fieldZ w 11 5)) (fieldZ w 6 5), IntKind.i64.wrap (fieldZ w 21 5), 0, 0, 0, 0⟩
  ⟨orZ (fieldZ w 16 5) (fieldZ w 6 5), IntKind.i64.wrap (fieldZ w 21 5), 0, IntKind.i64.wrap (fieldZ w 11 5), 0, 0⟩
  ⟨0, IntKind.i64.wrap (fieldZ w 21 5), IntKind.i64.wrap (fieldZ w 16 5), 0, 0, fieldZ w 6 10⟩
  ⟨0, 0, 0, 0, 0, fieldZ w 6 20⟩
  ⟨orZ (fieldZ w 6 5) (xorZ (fieldZ w 16 5) (fieldZ w 11 5)), IntKind.i64.wrap (fieldZ w 21 5), IntKind.i64.wrap (fieldZ w 16 5), IntKind.i64.wrap (fieldZ w 11 5), 0, 0⟩
  ⟨0, IntKind.i64.wrap (fieldZ w 21 5), IntKind.i64.wrap (fieldZ w 16 5), 0, 0, sextZ (fieldZ w 0 16) 16⟩
  ⟨0, IntKind.i64.wrap (fieldZ w 21 5), IntKind.i64.wrap (fieldZ w 16 5), 0, 0, sextZ (fieldZ w 0 16) 16⟩
  ⟨0, IntKind.i64.wrap (fieldZ w 21 5), IntKind.i64.wrap (fieldZ w 16 5), 0, 0, fieldZ w 0 16⟩
  ⟨fieldZ w 21 5, 0, IntKind.i64.wrap (fieldZ w 16 5), 0, 0, fieldZ w 0 16⟩
  ⟨0, IntKind.i64.wrap (fieldZ w 21 5), IntKind.i64.wrap (fieldZ w 16 5), 0, 0, IntKind.u32.wrap (sextZ (fieldZ w 0 16) 16 * 4)⟩
  ⟨fieldZ w 16 5, IntKind.i64.wrap (fieldZ w 21 5), 0, 0, 0, IntKind.u32.wrap (sextZ (fieldZ w 0 16) 16 * 4)⟩
  ⟨0, IntKind.i64.wrap (fieldZ w 21 5), 0, 0, 0, IntKind.u32.wrap (sextZ (fieldZ w 0 16) 16 * 4)⟩
  ⟨0, 0, 0, 0, 0, IntKind.u32.wrap (fieldZ w 0 26 * 4)⟩ ⟨0, 0, 0, 0, 0, 0⟩
def insA (op s t d a i : Int) : AV := .agg [.v (.int .i64 op), .v (.int .i64 s), .v (.int .i64 t), .v (.int .i64 d), .v (.int .i64 a), .v (.int .u32 i)]
def leaf76 (op : Int) (x : Dec) : Out := bif x.n != 0 then some (insA 0 0 0 0 0 0, ⟨[], [], 0⟩) else some (insA op x.s x.t x.d x.a x.i, ⟨[], [], 0⟩)
theorem t76 (w : Int) : evV EE2 Try.f76 200 [u32V w] ⟨[], [], 0⟩ = bif !rOk w then some (insA 0 0 0 0 0 0, ⟨[], [], 0⟩) else
  dcase (rT w).2.1 (leaf76 (rT w).1 ⟨fieldZ w 6 5, IntKind.i64.wrap (fieldZ w 21 5), IntKind.i64.wrap (fieldZ w 16 5), IntKind.i64.wrap (fieldZ w 11 5), 0, 0⟩)
    (leaf76 (rT w).1 ⟨fieldZ w 6 5, IntKind.i64.wrap (fieldZ w 21 5), IntKind.i64.wrap (fieldZ w 16 5), IntKind.i64.wrap (fieldZ w 11 5), 0, 0⟩)
    (leaf76 (rT w).1 ⟨fieldZ w 21 5, 0, IntKind.i64.wrap (fieldZ w 16 5), IntKind.i64.wrap (fieldZ w 11 5), IntKind.i64.wrap (fieldZ w 6 5), 0⟩)
    (leaf76 (rT w).1 ⟨orZ (fieldZ w 11 5) (fieldZ w 6 5), IntKind.i64.wrap (fieldZ w 21 5), IntKind.i64.wrap (fieldZ w 16 5), 0, 0, 0⟩)
    (leaf76 (rT w).1 ⟨orZ (orZ (fieldZ w 21 5) (fieldZ w 16 5)) (fieldZ w 6 5), 0, 0, IntKind.i64.wrap (fieldZ w 11 5), 0, 0⟩)
    (leaf76 (rT w).1 ⟨orZ (orZ (fieldZ w 16 5) (fieldZ w 11 5)) (fieldZ w 6 5), IntKind.i64.wrap (fieldZ w 21 5), 0, 0, 0, 0⟩)
    (leaf76 (rT w).1 ⟨orZ (fieldZ w 16 5) (fieldZ w 6 5), IntKind.i64.wrap (fieldZ w 21 5), 0, IntKind.i64.wrap (fieldZ w 11 5), 0, 0⟩)
    (leaf76 (rT w).1 ⟨0, IntKind.i64.wrap (fieldZ w 21 5), IntKind.i64.wrap (fieldZ w 16 5), 0, 0, fieldZ w 6 10⟩)
    (leaf76 (rT w).1 ⟨0, 0, 0, 0, 0, fieldZ w 6 20⟩)
    (leaf76 (rT w).1 ⟨orZ (fieldZ w 6 5) (xorZ (fieldZ w 16 5) (fieldZ w 11 5)), IntKind.i64.wrap (fieldZ w 21 5), IntKind.i64.wrap (fieldZ w 16 5), IntKind.i64.wrap (fieldZ w 11 5), 0, 0⟩)
    (leaf76 (rT w).1 ⟨0, IntKind.i64.wrap (fieldZ w 21 5), IntKind.i64.wrap (fieldZ w 16 5), 0, 0, sextZ (fieldZ w 0 16) 16⟩)
    (leaf76 (rT w).1 ⟨0, IntKind.i64.wrap (fieldZ w 21 5), IntKind.i64.wrap (fieldZ w 16 5), 0, 0, sextZ (fieldZ w 0 16) 16⟩)
    (leaf76 (rT w).1 ⟨0, IntKind.i64.wrap (fieldZ w 21 5), IntKind.i64.wrap (fieldZ w 16 5), 0, 0, fieldZ w 0 16⟩)
    (leaf76 (rT w).1 ⟨fieldZ w 21 5, 0, IntKind.i64.wrap (fieldZ w 16 5), 0, 0, fieldZ w 0 16⟩)
    (leaf76 (rT w).1 ⟨0, IntKind.i64.wrap (fieldZ w 21 5), IntKind.i64.wrap (fieldZ w 16 5), 0, 0, IntKind.u32.wrap (sextZ (fieldZ w 0 16) 16 * 4)⟩)
    (leaf76 (rT w).1 ⟨fieldZ w 16 5, IntKind.i64.wrap (fieldZ w 21 5), 0, 0, 0, IntKind.u32.wrap (sextZ (fieldZ w 0 16) 16 * 4)⟩)
    (leaf76 (rT w).1 ⟨0, IntKind.i64.wrap (fieldZ w 21 5), 0, 0, 0, IntKind.u32.wrap (sextZ (fieldZ w 0 16) 16 * 4)⟩)
    (leaf76 (rT w).1 ⟨0, 0, 0, 0, 0, IntKind.u32.wrap (fieldZ w 0 26 * 4)⟩) (leaf76 (rT w).1 ⟨0, 0, 0, 0, 0, 0⟩) := by kernel_rfl
def dBad (w : Int) : Bool := !rOk w || (decF w (rT w).2.1).n != 0
def dOp (w : Int) : Int := bif dBad w then 0 else (rT w).1
def dS (w : Int) : Int := bif dBad w then 0 else (decF w (rT w).2.1).s
def dT (w : Int) : Int := bif dBad w then 0 else (decF w (rT w).2.1).t
def dD (w : Int) : Int := bif dBad w then 0 else (decF w (rT w).2.1).d
def dA (w : Int) : Int := bif dBad w then 0 else (decF w (rT w).2.1).a
def dI (w : Int) : Int := bif dBad w then 0 else (decF w (rT w).2.1).i
def insW (w : Int) : AV := insA (dOp w) (dS w) (dT w) (dD w) (dA w) (dI w)
theorem t76' (w : Int) : evV EE2 Try.f76 200 [u32V w] ⟨[], [], 0⟩ = some (insW w, ⟨[], [], 0⟩) := by
  rw [t76, dcase_map (leaf76 (rT w).1)]
  show (bif !rOk w then _ else leaf76 (rT w).1 (decF w (rT w).2.1)) = _
  unfold leaf76 insW dOp dS dT dD dA dI dBad
  cases rOk w with
  | false => rfl
  | true => cases (decF w (rT w).2.1).n != 0 <;> rfl
def q76 (args : List AV) (_ : AH) : Option (Bool × AV) := match args with
  | [.one (.v (.int .u32 w))] => some (true, insW w)
  | _ => none
theorem q76_ok : ∀ args h v, q76 args h = some (true, v) → inlV EE2 Try.f76 200 args h = some (true, v) := by
  intro args h v hq
  unfold q76 at hq
  split at hq
  · rename_i w
    simp only [Option.some.injEq, Prod.mk.injEq, true_and] at hq
    subst hq
    exact inlV_val rfl (fun _ => rfl) rfl (t76' w)
  · cases hq
noncomputable def EE3 : Env := EB4.sum 76 q76
theorem EE3_s : EE3.Sound := EB4_s.sumC ((inlV_CallQ EE2_s pfl (LpF.none fun _ => rfl) has76).of q76_ok)
theorem has77 : hasFn Try.prog 77 Try.f77 := ⟨by kernel_rfl, by kernel_rfl, by kernel_rfl⟩
theorem has174 : hasFn Try.prog 174 Try.f174 := ⟨by kernel_rfl, by kernel_rfl, by kernel_rfl⟩
theorem has134 : hasFn Try.prog 134 Try.f134 := ⟨by kernel_rfl, by kernel_rfl, by kernel_rfl⟩
theorem has135 : hasFn Try.prog 135 Try.f135 := ⟨by kernel_rfl, by kernel_rfl, by kernel_rfl⟩
theorem has72 : hasFn Try.prog 72 Try.f72 := ⟨by kernel_rfl, by kernel_rfl, by kernel_rfl⟩
end Go.Proofs.Ytjpeplidbodjiaa
