/- The reference reads words and checks blocks as the program does. -/
import Derived.Test.YtjpeplidbodjiaaHY
/- The reference's Decode: fields, fits, cut, a round for each row. -/
namespace Go.Proofs.Ytjpeplidbodjiaa
set_option maxRecDepth 100000
def F161 (args : List AV) (l : List (Nat × LB)) : Option (Bool × AV) := match args, l with
  | [.one (.v (.int .u32 w)), .one (.v (.int .i64 (.ofNat a))), .one (.v (.int .i64 (.ofNat n)))], [] => bif okF a n fieldL then some (true, u32V (fieldZ w a n)) else none
  | _, _ => none
theorem t161_26_6 (w : Int) : evV E0' Try.f161 60 [u32V w, intV 26, intV 6] ⟨[], [], 0⟩ = some (u32V (fieldZ w 26 6), hh0) := by kernel_rfl
theorem t161_0_6 (w : Int) : evV E0' Try.f161 60 [u32V w, intV 0, intV 6] ⟨[], [], 0⟩ = some (u32V (fieldZ w 0 6), hh0) := by kernel_rfl
theorem t161_16_5 (w : Int) : evV E0' Try.f161 60 [u32V w, intV 16, intV 5] ⟨[], [], 0⟩ = some (u32V (fieldZ w 16 5), hh0) := by kernel_rfl
theorem t161_21_5 (w : Int) : evV E0' Try.f161 60 [u32V w, intV 21, intV 5] ⟨[], [], 0⟩ = some (u32V (fieldZ w 21 5), hh0) := by kernel_rfl
theorem t161_11_5 (w : Int) : evV E0' Try.f161 60 [u32V w, intV 11, intV 5] ⟨[], [], 0⟩ = some (u32V (fieldZ w 11 5), hh0) := by kernel_rfl
theorem t161_6_5 (w : Int) : evV E0' Try.f161 60 [u32V w, intV 6, intV 5] ⟨[], [], 0⟩ = some (u32V (fieldZ w 6 5), hh0) := by kernel_rfl
theorem t161_0_16 (w : Int) : evV E0' Try.f161 60 [u32V w, intV 0, intV 16] ⟨[], [], 0⟩ = some (u32V (fieldZ w 0 16), hh0) := by kernel_rfl
theorem t161_6_10 (w : Int) : evV E0' Try.f161 60 [u32V w, intV 6, intV 10] ⟨[], [], 0⟩ = some (u32V (fieldZ w 6 10), hh0) := by kernel_rfl
theorem t161_6_20 (w : Int) : evV E0' Try.f161 60 [u32V w, intV 6, intV 20] ⟨[], [], 0⟩ = some (u32V (fieldZ w 6 20), hh0) := by kernel_rfl
theorem t161_0_26 (w : Int) : evV E0' Try.f161 60 [u32V w, intV 0, intV 26] ⟨[], [], 0⟩ = some (u32V (fieldZ w 0 26), hh0) := by kernel_rfl
theorem t161_2_16 (w : Int) : evV E0' Try.f161 60 [u32V w, intV 2, intV 16] ⟨[], [], 0⟩ = some (u32V (fieldZ w 2 16), hh0) := by kernel_rfl
theorem t161_2_26 (w : Int) : evV E0' Try.f161 60 [u32V w, intV 2, intV 26] ⟨[], [], 0⟩ = some (u32V (fieldZ w 2 26), hh0) := by kernel_rfl
theorem has161 : hasFn Try.prog 161 Try.f161 := ⟨by kernel_rfl, by kernel_rfl, by kernel_rfl⟩
theorem q161_ok : CallQ Try.prog 161 (handQ F161) := by
  refine CallQ.hand (E := E0') E0'_s pfl (LpF.none fun _ => rfl) has161 fun args l v h => ?_
  unfold F161 at h
  split at h
  · rename_i w a n
    cases hok : okF a n fieldL with
    | false => simp [hok] at h
    | true =>
      simp only [hok, cond_true, Option.some.injEq, Prod.mk.injEq, true_and] at h
      subst h
      have := okF_mem hok
      simp only [fieldL, List.mem_cons, Prod.mk.injEq, List.not_mem_nil, or_false] at this
      refine ⟨rfl, 60, hh0, ?_⟩
      rcases this with ⟨rfl, rfl⟩ | ⟨rfl, rfl⟩ | ⟨rfl, rfl⟩ | ⟨rfl, rfl⟩ | ⟨rfl, rfl⟩ | ⟨rfl, rfl⟩ | ⟨rfl, rfl⟩ | ⟨rfl, rfl⟩ | ⟨rfl, rfl⟩ | ⟨rfl, rfl⟩ | ⟨rfl, rfl⟩ | ⟨rfl, rfl⟩
      · exact t161_26_6 w
      · exact t161_0_6 w
      · exact t161_16_5 w
      · exact t161_21_5 w
      · exact t161_11_5 w
      · exact t161_6_5 w
      · exact t161_0_16 w
      · exact t161_6_10 w
      · exact t161_6_20 w
      · exact t161_0_26 w
      · exact t161_2_16 w
      · exact t161_2_26 w
  · cases h
def F162 (args : List AV) (l : List (Nat × LB)) : Option (Bool × AV) := match args, l with
  | [.one (.v (.int .u32 w)), .one (.v (.int .i64 (.ofNat 16)))], [] => some (true, u32V (sextZ w 16))
  | _, _ => none
theorem t162 (w : Int) : evV E0' Try.f162 60 [u32V w, intV 16] ⟨[], [], 0⟩ = some (u32V (sextZ w 16), hh0) := by kernel_rfl
theorem has162 : hasFn Try.prog 162 Try.f162 := ⟨by kernel_rfl, by kernel_rfl, by kernel_rfl⟩
theorem q162_ok : CallQ Try.prog 162 (handQ F162) := by
  refine CallQ.hand (E := E0') E0'_s pfl (LpF.none fun _ => rfl) has162 fun args l v h => ?_
  unfold F162 at h
  split at h
  · rename_i w
    simp only [Option.some.injEq, Prod.mk.injEq, true_and] at h
    subst h
    exact ⟨rfl, 60, hh0, t162 w⟩
  · cases h
noncomputable def VK1 : Env := E0'.sum 161 (handQ F161)
theorem VK1_s : VK1.Sound := E0'_s.sumC q161_ok
noncomputable def VK2 : Env := VK1.sum 162 (handQ F162)
theorem VK2_s : VK2.Sound := VK1_s.sumC q162_ok
/-- One of several, by a number. -/
def caseL {α : Type} (f : Int) : List (Int × α) → α → α
  | [], d => d
  | (k, x) :: r, d => bif f == k then x else caseL f r d
theorem caseL_map {α β : Type} (g : α → β) (f : Int) : ∀ (l : List (Int × α)) (d : α), caseL f (l.map fun q => (q.1, g q.2)) (g d) = g (caseL f l d)
  | [], d => rfl
  | (k, x) :: r, d => by
    simp only [List.map_cons, caseL]
    rw [caseL_map g f r d]
    cases f == k <;> rfl
def fitL (f w : Int) : List (Int × Bool) := [(68, (bif (IntKind.i64.wrap (fieldZ w 0 6) == f) then fieldZ w 6 5 == 0 else false)), (88, (bif (IntKind.i64.wrap (fieldZ w 0 6) == f) then fieldZ w 6 5 == 0 else false)), (72, (bif (IntKind.i64.wrap (fieldZ w 0 6) == f) then fieldZ w 21 5 == 0 else false)), (77, (bif (bif (IntKind.i64.wrap (fieldZ w 0 6) == f) then fieldZ w 11 5 == 0 else false) then fieldZ w 6 5 == 0 else false)), (70, (bif (bif (bif (IntKind.i64.wrap (fieldZ w 0 6) == f) then fieldZ w 21 5 == 0 else false) then fieldZ w 16 5 == 0 else false) then fieldZ w 6 5 == 0 else false)), (76, (bif (bif (bif (IntKind.i64.wrap (fieldZ w 0 6) == f) then fieldZ w 16 5 == 0 else false) then fieldZ w 11 5 == 0 else false) then fieldZ w 6 5 == 0 else false)), (71, (bif (bif (IntKind.i64.wrap (fieldZ w 0 6) == f) then fieldZ w 16 5 == 0 else false) then fieldZ w 6 5 == 0 else false)), (84, (IntKind.i64.wrap (fieldZ w 0 6) == f)), (67, (IntKind.i64.wrap (fieldZ w 0 6) == f)), (89, (bif (bif (IntKind.i64.wrap (fieldZ w 0 6) == f) then fieldZ w 6 5 == 0 else false) then fieldZ w 16 5 == fieldZ w 11 5 else false)), (86, (fieldZ w 21 5 == 0)), (90, (fieldZ w 16 5 == 0)), (82, (IntKind.i64.wrap (fieldZ w 16 5) == f))]
def opcZ (w : Int) : Int := IntKind.i64.wrap (w.fdiv (2 ^ 26))
/-- Is a word of a row? -/
def fitsZ (fm o f w : Int) : Bool := bif opcZ w != o then false else caseL fm (fitL f w) true
def rowR (op fm o f : Int) (nm : ByteArray) : AV := .agg [.v (.int .i64 op), .v (.int .u8 fm), .v (.int .i64 o), .v (.int .i64 f), .v (.string nm)]
theorem t99 (op fm o f : Int) (nm : ByteArray) (w : Int) : evV VK2 Try.f99 200 [rowR op fm o f nm, u32V w] ⟨[], [], 0⟩ =
    bif opcZ w != o then some (boolV false, hh0) else caseL fm ((fitL f w).map fun q => (q.1, some (boolV q.2, hh0))) (some (boolV true, hh0)) := by kernel_rfl
def F99 (args : List AV) (l : List (Nat × LB)) : Option (Bool × AV) := match args, l with
  | [.agg [.v (.int .i64 _), .v (.int .u8 fm), .v (.int .i64 o), .v (.int .i64 f), .v (.string _)], .one (.v (.int .u32 w))], [] => some (true, boolV (fitsZ fm o f w))
  | _, _ => none
theorem has99 : hasFn Try.prog 99 Try.f99 := ⟨by kernel_rfl, by kernel_rfl, by kernel_rfl⟩
theorem q99_ok : CallQ Try.prog 99 (handQ F99) := by
  refine CallQ.hand (E := VK2) VK2_s pfl (LpF.none fun _ => rfl) has99 fun args l v h => ?_
  unfold F99 at h
  split at h
  · rename_i op fm o f nm w
    simp only [Option.some.injEq, Prod.mk.injEq, true_and] at h
    subst h
    refine ⟨rfl, 200, hh0, (t99 op fm o f nm w).trans ?_⟩
    rw [caseL_map (fun b => (some (boolV b, hh0) : Out))]
    unfold fitsZ
    cases opcZ w != o <;> rfl
  · cases h
def andZ (a b : Int) : Int := IntKind.u32.wrap (BitVec.ofInt IntKind.u32.bits a &&& BitVec.ofInt IntKind.u32.bits b).toNat
def zDec : Dec := ⟨0, 0, 0, 0, 0, 0⟩
def cutL (w : Int) : List (Int × Dec) := [(68, ⟨0, IntKind.i64.wrap (fieldZ w 21 5), IntKind.i64.wrap (fieldZ w 16 5), IntKind.i64.wrap (fieldZ w 11 5), 0, 0⟩), (88, ⟨0, IntKind.i64.wrap (fieldZ w 21 5), IntKind.i64.wrap (fieldZ w 16 5), IntKind.i64.wrap (fieldZ w 11 5), 0, 0⟩), (89, ⟨0, IntKind.i64.wrap (fieldZ w 21 5), IntKind.i64.wrap (fieldZ w 16 5), IntKind.i64.wrap (fieldZ w 11 5), 0, 0⟩), (72, ⟨0, 0, IntKind.i64.wrap (fieldZ w 16 5), IntKind.i64.wrap (fieldZ w 11 5), IntKind.i64.wrap (fieldZ w 6 5), 0⟩), (77, ⟨0, IntKind.i64.wrap (fieldZ w 21 5), IntKind.i64.wrap (fieldZ w 16 5), 0, 0, 0⟩), (70, ⟨0, 0, 0, IntKind.i64.wrap (fieldZ w 11 5), 0, 0⟩), (76, ⟨0, IntKind.i64.wrap (fieldZ w 21 5), 0, 0, 0, 0⟩), (71, ⟨0, IntKind.i64.wrap (fieldZ w 21 5), 0, IntKind.i64.wrap (fieldZ w 11 5), 0, 0⟩), (84, ⟨0, IntKind.i64.wrap (fieldZ w 21 5), IntKind.i64.wrap (fieldZ w 16 5), 0, 0, fieldZ w 6 10⟩), (67, ⟨0, 0, 0, 0, 0, fieldZ w 6 20⟩), (73, ⟨0, IntKind.i64.wrap (fieldZ w 21 5), IntKind.i64.wrap (fieldZ w 16 5), 0, 0, sextZ w 16⟩), (80, ⟨0, IntKind.i64.wrap (fieldZ w 21 5), IntKind.i64.wrap (fieldZ w 16 5), 0, 0, sextZ w 16⟩), (85, ⟨0, IntKind.i64.wrap (fieldZ w 21 5), IntKind.i64.wrap (fieldZ w 16 5), 0, 0, andZ w 65535⟩), (86, ⟨0, 0, IntKind.i64.wrap (fieldZ w 16 5), 0, 0, andZ w 65535⟩), (66, ⟨0, IntKind.i64.wrap (fieldZ w 21 5), IntKind.i64.wrap (fieldZ w 16 5), 0, 0, IntKind.u32.wrap (sextZ w 16 * 4)⟩), (90, ⟨0, IntKind.i64.wrap (fieldZ w 21 5), 0, 0, 0, IntKind.u32.wrap (sextZ w 16 * 4)⟩), (82, ⟨0, IntKind.i64.wrap (fieldZ w 21 5), 0, 0, 0, IntKind.u32.wrap (sextZ w 16 * 4)⟩), (74, ⟨0, 0, 0, 0, 0, IntKind.u32.wrap (fieldZ w 0 26 * 4)⟩)]
def cutZ (fm w : Int) : Dec := caseL fm (cutL w) zDec
def insD (op : Int) (x : Dec) : AV := insA op x.s x.t x.d x.a x.i
theorem t100 (op fm o f : Int) (nm : ByteArray) (w : Int) : evV VK2 Try.f100 200 [rowR op fm o f nm, u32V w] ⟨[], [], 0⟩ =
    caseL fm ((cutL w).map fun q => (q.1, some (insD op q.2, hh0))) (some (insD op zDec, hh0)) := by kernel_rfl
def F100 (args : List AV) (l : List (Nat × LB)) : Option (Bool × AV) := match args, l with
  | [.agg [.v (.int .i64 op), .v (.int .u8 fm), .v (.int .i64 _), .v (.int .i64 _), .v (.string _)], .one (.v (.int .u32 w))], [] => some (true, insD op (cutZ fm w))
  | _, _ => none
theorem has100 : hasFn Try.prog 100 Try.f100 := ⟨by kernel_rfl, by kernel_rfl, by kernel_rfl⟩
theorem q100_ok : CallQ Try.prog 100 (handQ F100) := by
  refine CallQ.hand (E := VK2) VK2_s pfl (LpF.none fun _ => rfl) has100 fun args l v h => ?_
  unfold F100 at h
  split at h
  · rename_i op fm o f nm w
    simp only [Option.some.injEq, Prod.mk.injEq, true_and] at h
    subst h
    refine ⟨rfl, 200, hh0, (t100 op fm o f nm w).trans ?_⟩
    rw [caseL_map (fun b => (some (insD op b, hh0) : Out))]
    rfl
  · cases h
noncomputable def VK3 : Env := VK2.sum 99 (handQ F99)
theorem VK3_s : VK3.Sound := VK2_s.sumC q99_ok
noncomputable def VK4 : Env := VK3.sum 100 (handQ F100)
theorem VK4_s : VK4.Sound := VK3_s.sumC q100_ok
def tabC : List AC := [.v (.int .i64 1), .v (.int .u8 68), .v (.int .i64 0), .v (.int .i64 33), .v (.string ⟨#[97, 100, 100, 117]⟩),
  .v (.int .i64 2), .v (.int .u8 68), .v (.int .i64 0), .v (.int .i64 35), .v (.string ⟨#[115, 117, 98, 117]⟩),
  .v (.int .i64 3), .v (.int .u8 68), .v (.int .i64 0), .v (.int .i64 36), .v (.string ⟨#[97, 110, 100]⟩),
  .v (.int .i64 4), .v (.int .u8 68), .v (.int .i64 0), .v (.int .i64 37), .v (.string ⟨#[111, 114]⟩),
  .v (.int .i64 5), .v (.int .u8 68), .v (.int .i64 0), .v (.int .i64 38), .v (.string ⟨#[120, 111, 114]⟩),
  .v (.int .i64 6), .v (.int .u8 68), .v (.int .i64 0), .v (.int .i64 39), .v (.string ⟨#[110, 111, 114]⟩),
  .v (.int .i64 7), .v (.int .u8 68), .v (.int .i64 0), .v (.int .i64 42), .v (.string ⟨#[115, 108, 116]⟩),
  .v (.int .i64 8), .v (.int .u8 68), .v (.int .i64 0), .v (.int .i64 43), .v (.string ⟨#[115, 108, 116, 117]⟩),
  .v (.int .i64 9), .v (.int .u8 68), .v (.int .i64 0), .v (.int .i64 32), .v (.string ⟨#[97, 100, 100]⟩),
  .v (.int .i64 10), .v (.int .u8 68), .v (.int .i64 0), .v (.int .i64 34), .v (.string ⟨#[115, 117, 98]⟩),
  .v (.int .i64 11), .v (.int .u8 68), .v (.int .i64 0), .v (.int .i64 4), .v (.string ⟨#[115, 108, 108, 118]⟩),
  .v (.int .i64 12), .v (.int .u8 68), .v (.int .i64 0), .v (.int .i64 6), .v (.string ⟨#[115, 114, 108, 118]⟩),
  .v (.int .i64 13), .v (.int .u8 68), .v (.int .i64 0), .v (.int .i64 7), .v (.string ⟨#[115, 114, 97, 118]⟩),
  .v (.int .i64 14), .v (.int .u8 68), .v (.int .i64 0), .v (.int .i64 10), .v (.string ⟨#[109, 111, 118, 122]⟩),
  .v (.int .i64 15), .v (.int .u8 68), .v (.int .i64 0), .v (.int .i64 11), .v (.string ⟨#[109, 111, 118, 110]⟩),
  .v (.int .i64 16), .v (.int .u8 72), .v (.int .i64 0), .v (.int .i64 0), .v (.string ⟨#[115, 108, 108]⟩),
  .v (.int .i64 17), .v (.int .u8 72), .v (.int .i64 0), .v (.int .i64 2), .v (.string ⟨#[115, 114, 108]⟩),
  .v (.int .i64 18), .v (.int .u8 72), .v (.int .i64 0), .v (.int .i64 3), .v (.string ⟨#[115, 114, 97]⟩),
  .v (.int .i64 19), .v (.int .u8 77), .v (.int .i64 0), .v (.int .i64 24), .v (.string ⟨#[109, 117, 108, 116]⟩),
  .v (.int .i64 20), .v (.int .u8 77), .v (.int .i64 0), .v (.int .i64 25), .v (.string ⟨#[109, 117, 108, 116, 117]⟩),
  .v (.int .i64 21), .v (.int .u8 77), .v (.int .i64 0), .v (.int .i64 26), .v (.string ⟨#[100, 105, 118]⟩),
  .v (.int .i64 22), .v (.int .u8 77), .v (.int .i64 0), .v (.int .i64 27), .v (.string ⟨#[100, 105, 118, 117]⟩),
  .v (.int .i64 23), .v (.int .u8 70), .v (.int .i64 0), .v (.int .i64 16), .v (.string ⟨#[109, 102, 104, 105]⟩),
  .v (.int .i64 24), .v (.int .u8 70), .v (.int .i64 0), .v (.int .i64 18), .v (.string ⟨#[109, 102, 108, 111]⟩),
  .v (.int .i64 25), .v (.int .u8 76), .v (.int .i64 0), .v (.int .i64 17), .v (.string ⟨#[109, 116, 104, 105]⟩),
  .v (.int .i64 26), .v (.int .u8 76), .v (.int .i64 0), .v (.int .i64 19), .v (.string ⟨#[109, 116, 108, 111]⟩),
  .v (.int .i64 27), .v (.int .u8 76), .v (.int .i64 0), .v (.int .i64 8), .v (.string ⟨#[106, 114]⟩),
  .v (.int .i64 28), .v (.int .u8 71), .v (.int .i64 0), .v (.int .i64 9), .v (.string ⟨#[106, 97, 108, 114]⟩),
  .v (.int .i64 29), .v (.int .u8 84), .v (.int .i64 0), .v (.int .i64 48), .v (.string ⟨#[116, 103, 101]⟩),
  .v (.int .i64 30), .v (.int .u8 84), .v (.int .i64 0), .v (.int .i64 49), .v (.string ⟨#[116, 103, 101, 117]⟩),
  .v (.int .i64 31), .v (.int .u8 84), .v (.int .i64 0), .v (.int .i64 50), .v (.string ⟨#[116, 108, 116]⟩),
  .v (.int .i64 32), .v (.int .u8 84), .v (.int .i64 0), .v (.int .i64 51), .v (.string ⟨#[116, 108, 116, 117]⟩),
  .v (.int .i64 33), .v (.int .u8 84), .v (.int .i64 0), .v (.int .i64 52), .v (.string ⟨#[116, 101, 113]⟩),
  .v (.int .i64 34), .v (.int .u8 84), .v (.int .i64 0), .v (.int .i64 54), .v (.string ⟨#[116, 110, 101]⟩),
  .v (.int .i64 35), .v (.int .u8 67), .v (.int .i64 0), .v (.int .i64 12), .v (.string ⟨#[115, 121, 115, 99, 97, 108, 108]⟩),
  .v (.int .i64 36), .v (.int .u8 67), .v (.int .i64 0), .v (.int .i64 13), .v (.string ⟨#[98, 114, 101, 97, 107]⟩),
  .v (.int .i64 37), .v (.int .u8 88), .v (.int .i64 28), .v (.int .i64 2), .v (.string ⟨#[109, 117, 108]⟩),
  .v (.int .i64 38), .v (.int .u8 89), .v (.int .i64 28), .v (.int .i64 32), .v (.string ⟨#[99, 108, 122]⟩),
  .v (.int .i64 39), .v (.int .u8 89), .v (.int .i64 28), .v (.int .i64 33), .v (.string ⟨#[99, 108, 111]⟩),
  .v (.int .i64 40), .v (.int .u8 73), .v (.int .i64 9), .v (.int .i64 0), .v (.string ⟨#[97, 100, 100, 105, 117]⟩),
  .v (.int .i64 41), .v (.int .u8 73), .v (.int .i64 8), .v (.int .i64 0), .v (.string ⟨#[97, 100, 100, 105]⟩),
  .v (.int .i64 42), .v (.int .u8 73), .v (.int .i64 10), .v (.int .i64 0), .v (.string ⟨#[115, 108, 116, 105]⟩),
  .v (.int .i64 43), .v (.int .u8 73), .v (.int .i64 11), .v (.int .i64 0), .v (.string ⟨#[115, 108, 116, 105, 117]⟩),
  .v (.int .i64 44), .v (.int .u8 85), .v (.int .i64 12), .v (.int .i64 0), .v (.string ⟨#[97, 110, 100, 105]⟩),
  .v (.int .i64 45), .v (.int .u8 85), .v (.int .i64 13), .v (.int .i64 0), .v (.string ⟨#[111, 114, 105]⟩),
  .v (.int .i64 46), .v (.int .u8 85), .v (.int .i64 14), .v (.int .i64 0), .v (.string ⟨#[120, 111, 114, 105]⟩),
  .v (.int .i64 47), .v (.int .u8 86), .v (.int .i64 15), .v (.int .i64 0), .v (.string ⟨#[108, 117, 105]⟩),
  .v (.int .i64 48), .v (.int .u8 80), .v (.int .i64 32), .v (.int .i64 0), .v (.string ⟨#[108, 98]⟩),
  .v (.int .i64 49), .v (.int .u8 80), .v (.int .i64 33), .v (.int .i64 0), .v (.string ⟨#[108, 104]⟩),
  .v (.int .i64 50), .v (.int .u8 80), .v (.int .i64 34), .v (.int .i64 0), .v (.string ⟨#[108, 119, 108]⟩),
  .v (.int .i64 51), .v (.int .u8 80), .v (.int .i64 35), .v (.int .i64 0), .v (.string ⟨#[108, 119]⟩),
  .v (.int .i64 52), .v (.int .u8 80), .v (.int .i64 36), .v (.int .i64 0), .v (.string ⟨#[108, 98, 117]⟩),
  .v (.int .i64 53), .v (.int .u8 80), .v (.int .i64 37), .v (.int .i64 0), .v (.string ⟨#[108, 104, 117]⟩),
  .v (.int .i64 54), .v (.int .u8 80), .v (.int .i64 38), .v (.int .i64 0), .v (.string ⟨#[108, 119, 114]⟩),
  .v (.int .i64 55), .v (.int .u8 80), .v (.int .i64 40), .v (.int .i64 0), .v (.string ⟨#[115, 98]⟩),
  .v (.int .i64 56), .v (.int .u8 80), .v (.int .i64 41), .v (.int .i64 0), .v (.string ⟨#[115, 104]⟩),
  .v (.int .i64 57), .v (.int .u8 80), .v (.int .i64 42), .v (.int .i64 0), .v (.string ⟨#[115, 119, 108]⟩),
  .v (.int .i64 58), .v (.int .u8 80), .v (.int .i64 43), .v (.int .i64 0), .v (.string ⟨#[115, 119]⟩),
  .v (.int .i64 59), .v (.int .u8 80), .v (.int .i64 46), .v (.int .i64 0), .v (.string ⟨#[115, 119, 114]⟩),
  .v (.int .i64 60), .v (.int .u8 66), .v (.int .i64 4), .v (.int .i64 0), .v (.string ⟨#[98, 101, 113]⟩),
  .v (.int .i64 61), .v (.int .u8 66), .v (.int .i64 5), .v (.int .i64 0), .v (.string ⟨#[98, 110, 101]⟩),
  .v (.int .i64 62), .v (.int .u8 90), .v (.int .i64 6), .v (.int .i64 0), .v (.string ⟨#[98, 108, 101, 122]⟩),
  .v (.int .i64 63), .v (.int .u8 90), .v (.int .i64 7), .v (.int .i64 0), .v (.string ⟨#[98, 103, 116, 122]⟩),
  .v (.int .i64 64), .v (.int .u8 82), .v (.int .i64 1), .v (.int .i64 0), .v (.string ⟨#[98, 108, 116, 122]⟩),
  .v (.int .i64 65), .v (.int .u8 82), .v (.int .i64 1), .v (.int .i64 1), .v (.string ⟨#[98, 103, 101, 122]⟩),
  .v (.int .i64 66), .v (.int .u8 82), .v (.int .i64 1), .v (.int .i64 16), .v (.string ⟨#[98, 108, 116, 122, 97, 108]⟩),
  .v (.int .i64 67), .v (.int .u8 82), .v (.int .i64 1), .v (.int .i64 17), .v (.string ⟨#[98, 103, 101, 122, 97, 108]⟩),
  .v (.int .i64 68), .v (.int .u8 74), .v (.int .i64 2), .v (.int .i64 0), .v (.string ⟨#[106]⟩),
  .v (.int .i64 69), .v (.int .u8 74), .v (.int .i64 3), .v (.int .i64 0), .v (.string ⟨#[106, 97, 108]⟩)]
theorem t98 : evV E0' Try.f98 60 [] ⟨[], [], 0⟩ = some (.agg tabC, hh0) := by kernel_rfl
def F98 (args : List AV) (l : List (Nat × LB)) : Option (Bool × AV) := match args, l with
  | [], [] => some (true, .agg tabC)
  | _, _ => none
theorem has98 : hasFn Try.prog 98 Try.f98 := ⟨by kernel_rfl, by kernel_rfl, by kernel_rfl⟩
theorem q98_ok : CallQ Try.prog 98 (handQ F98) := by
  refine CallQ.hand (E := E0') E0'_s pfl (LpF.none fun _ => rfl) has98 fun args l v h => ?_
  unfold F98 at h
  split at h
  · simp only [Option.some.injEq, Prod.mk.injEq, true_and] at h
    subst h
    exact ⟨by kernel_rfl, 60, hh0, t98⟩
  · cases h
noncomputable def VK5 : Env := VK4.sum 98 (handQ F98)
theorem VK5_s : VK5.Sound := VK4_s.sumC q98_ok
noncomputable def x45 : Code := loopF Try.f45
theorem loops45 : loopsC (bodyC Try.f45) = [x45] := by kernel_rfl
theorem key45 : keyC x45 = 3 := by kernel_rfl
noncomputable def VK6 : Env := VK5.marks (fun i => bif Nat.beq i 3 then some [0, 2, 3, 4] else none) fun _ => none
theorem VK6_s : VK6.Sound := VK5_s.marks
def kp45 : Exit → Option (List Nat)
  | .ret => some [2]
  | .exit _ => some [2]
  | _ => none
def insC (op : Int) (x : Dec) : List AC := [.v (.int .i64 op), .v (.int .i64 x.s), .v (.int .i64 x.t), .v (.int .i64 x.d), .v (.int .i64 x.a), .v (.int .u32 x.i)]
def S45 (k w : Int) : AS := ⟨u32V w :: .one .any :: .one (.pt 0 0) :: .one (.pt 1 0) :: intV k :: anys 16, ⟨[(1, 141, .cells tabC), (0, 64, .cells (insC 0 zDec))], [], 2⟩⟩
def R45 (cs : List AC) : AS := ⟨.one .any :: .one .any :: .one (.pt 0 0) :: anys 18, ⟨[(0, 64, .cells cs)], [], 1⟩⟩
theorem gcS45 (k w : Int) (H : AS → Out) : gc 0 (VK6.lv 3) (S45 k w) H = H (S45 k w) := by kernel_rfl
section
variable (w : Int) (K : Exit → AS → Out) (H : AS → Out) (N : Nat)
theorem r45_0 : ev VK6 0 (N + 40) x45 (S45 0 w) (rkG 0 (VK6.lv 3) kp45 H K) = bif fitsZ 68 0 33 w then K .ret (R45 (insC 1 (cutZ 68 w))) else H (S45 1 w) := by kernel_rfl
theorem r45_1 : ev VK6 0 (N + 40) x45 (S45 1 w) (rkG 0 (VK6.lv 3) kp45 H K) = bif fitsZ 68 0 35 w then K .ret (R45 (insC 2 (cutZ 68 w))) else H (S45 2 w) := by kernel_rfl
theorem r45_2 : ev VK6 0 (N + 40) x45 (S45 2 w) (rkG 0 (VK6.lv 3) kp45 H K) = bif fitsZ 68 0 36 w then K .ret (R45 (insC 3 (cutZ 68 w))) else H (S45 3 w) := by kernel_rfl
theorem r45_3 : ev VK6 0 (N + 40) x45 (S45 3 w) (rkG 0 (VK6.lv 3) kp45 H K) = bif fitsZ 68 0 37 w then K .ret (R45 (insC 4 (cutZ 68 w))) else H (S45 4 w) := by kernel_rfl
theorem r45_4 : ev VK6 0 (N + 40) x45 (S45 4 w) (rkG 0 (VK6.lv 3) kp45 H K) = bif fitsZ 68 0 38 w then K .ret (R45 (insC 5 (cutZ 68 w))) else H (S45 5 w) := by kernel_rfl
theorem r45_5 : ev VK6 0 (N + 40) x45 (S45 5 w) (rkG 0 (VK6.lv 3) kp45 H K) = bif fitsZ 68 0 39 w then K .ret (R45 (insC 6 (cutZ 68 w))) else H (S45 6 w) := by kernel_rfl
theorem r45_6 : ev VK6 0 (N + 40) x45 (S45 6 w) (rkG 0 (VK6.lv 3) kp45 H K) = bif fitsZ 68 0 42 w then K .ret (R45 (insC 7 (cutZ 68 w))) else H (S45 7 w) := by kernel_rfl
theorem r45_7 : ev VK6 0 (N + 40) x45 (S45 7 w) (rkG 0 (VK6.lv 3) kp45 H K) = bif fitsZ 68 0 43 w then K .ret (R45 (insC 8 (cutZ 68 w))) else H (S45 8 w) := by kernel_rfl
theorem r45_8 : ev VK6 0 (N + 40) x45 (S45 8 w) (rkG 0 (VK6.lv 3) kp45 H K) = bif fitsZ 68 0 32 w then K .ret (R45 (insC 9 (cutZ 68 w))) else H (S45 9 w) := by kernel_rfl
theorem r45_9 : ev VK6 0 (N + 40) x45 (S45 9 w) (rkG 0 (VK6.lv 3) kp45 H K) = bif fitsZ 68 0 34 w then K .ret (R45 (insC 10 (cutZ 68 w))) else H (S45 10 w) := by kernel_rfl
theorem r45_10 : ev VK6 0 (N + 40) x45 (S45 10 w) (rkG 0 (VK6.lv 3) kp45 H K) = bif fitsZ 68 0 4 w then K .ret (R45 (insC 11 (cutZ 68 w))) else H (S45 11 w) := by kernel_rfl
theorem r45_11 : ev VK6 0 (N + 40) x45 (S45 11 w) (rkG 0 (VK6.lv 3) kp45 H K) = bif fitsZ 68 0 6 w then K .ret (R45 (insC 12 (cutZ 68 w))) else H (S45 12 w) := by kernel_rfl
theorem r45_12 : ev VK6 0 (N + 40) x45 (S45 12 w) (rkG 0 (VK6.lv 3) kp45 H K) = bif fitsZ 68 0 7 w then K .ret (R45 (insC 13 (cutZ 68 w))) else H (S45 13 w) := by kernel_rfl
theorem r45_13 : ev VK6 0 (N + 40) x45 (S45 13 w) (rkG 0 (VK6.lv 3) kp45 H K) = bif fitsZ 68 0 10 w then K .ret (R45 (insC 14 (cutZ 68 w))) else H (S45 14 w) := by kernel_rfl
theorem r45_14 : ev VK6 0 (N + 40) x45 (S45 14 w) (rkG 0 (VK6.lv 3) kp45 H K) = bif fitsZ 68 0 11 w then K .ret (R45 (insC 15 (cutZ 68 w))) else H (S45 15 w) := by kernel_rfl
theorem r45_15 : ev VK6 0 (N + 40) x45 (S45 15 w) (rkG 0 (VK6.lv 3) kp45 H K) = bif fitsZ 72 0 0 w then K .ret (R45 (insC 16 (cutZ 72 w))) else H (S45 16 w) := by kernel_rfl
theorem r45_16 : ev VK6 0 (N + 40) x45 (S45 16 w) (rkG 0 (VK6.lv 3) kp45 H K) = bif fitsZ 72 0 2 w then K .ret (R45 (insC 17 (cutZ 72 w))) else H (S45 17 w) := by kernel_rfl
theorem r45_17 : ev VK6 0 (N + 40) x45 (S45 17 w) (rkG 0 (VK6.lv 3) kp45 H K) = bif fitsZ 72 0 3 w then K .ret (R45 (insC 18 (cutZ 72 w))) else H (S45 18 w) := by kernel_rfl
theorem r45_18 : ev VK6 0 (N + 40) x45 (S45 18 w) (rkG 0 (VK6.lv 3) kp45 H K) = bif fitsZ 77 0 24 w then K .ret (R45 (insC 19 (cutZ 77 w))) else H (S45 19 w) := by kernel_rfl
theorem r45_19 : ev VK6 0 (N + 40) x45 (S45 19 w) (rkG 0 (VK6.lv 3) kp45 H K) = bif fitsZ 77 0 25 w then K .ret (R45 (insC 20 (cutZ 77 w))) else H (S45 20 w) := by kernel_rfl
theorem r45_20 : ev VK6 0 (N + 40) x45 (S45 20 w) (rkG 0 (VK6.lv 3) kp45 H K) = bif fitsZ 77 0 26 w then K .ret (R45 (insC 21 (cutZ 77 w))) else H (S45 21 w) := by kernel_rfl
theorem r45_21 : ev VK6 0 (N + 40) x45 (S45 21 w) (rkG 0 (VK6.lv 3) kp45 H K) = bif fitsZ 77 0 27 w then K .ret (R45 (insC 22 (cutZ 77 w))) else H (S45 22 w) := by kernel_rfl
theorem r45_22 : ev VK6 0 (N + 40) x45 (S45 22 w) (rkG 0 (VK6.lv 3) kp45 H K) = bif fitsZ 70 0 16 w then K .ret (R45 (insC 23 (cutZ 70 w))) else H (S45 23 w) := by kernel_rfl
theorem r45_23 : ev VK6 0 (N + 40) x45 (S45 23 w) (rkG 0 (VK6.lv 3) kp45 H K) = bif fitsZ 70 0 18 w then K .ret (R45 (insC 24 (cutZ 70 w))) else H (S45 24 w) := by kernel_rfl
theorem r45_24 : ev VK6 0 (N + 40) x45 (S45 24 w) (rkG 0 (VK6.lv 3) kp45 H K) = bif fitsZ 76 0 17 w then K .ret (R45 (insC 25 (cutZ 76 w))) else H (S45 25 w) := by kernel_rfl
theorem r45_25 : ev VK6 0 (N + 40) x45 (S45 25 w) (rkG 0 (VK6.lv 3) kp45 H K) = bif fitsZ 76 0 19 w then K .ret (R45 (insC 26 (cutZ 76 w))) else H (S45 26 w) := by kernel_rfl
theorem r45_26 : ev VK6 0 (N + 40) x45 (S45 26 w) (rkG 0 (VK6.lv 3) kp45 H K) = bif fitsZ 76 0 8 w then K .ret (R45 (insC 27 (cutZ 76 w))) else H (S45 27 w) := by kernel_rfl
theorem r45_27 : ev VK6 0 (N + 40) x45 (S45 27 w) (rkG 0 (VK6.lv 3) kp45 H K) = bif fitsZ 71 0 9 w then K .ret (R45 (insC 28 (cutZ 71 w))) else H (S45 28 w) := by kernel_rfl
theorem r45_28 : ev VK6 0 (N + 40) x45 (S45 28 w) (rkG 0 (VK6.lv 3) kp45 H K) = bif fitsZ 84 0 48 w then K .ret (R45 (insC 29 (cutZ 84 w))) else H (S45 29 w) := by kernel_rfl
theorem r45_29 : ev VK6 0 (N + 40) x45 (S45 29 w) (rkG 0 (VK6.lv 3) kp45 H K) = bif fitsZ 84 0 49 w then K .ret (R45 (insC 30 (cutZ 84 w))) else H (S45 30 w) := by kernel_rfl
theorem r45_30 : ev VK6 0 (N + 40) x45 (S45 30 w) (rkG 0 (VK6.lv 3) kp45 H K) = bif fitsZ 84 0 50 w then K .ret (R45 (insC 31 (cutZ 84 w))) else H (S45 31 w) := by kernel_rfl
theorem r45_31 : ev VK6 0 (N + 40) x45 (S45 31 w) (rkG 0 (VK6.lv 3) kp45 H K) = bif fitsZ 84 0 51 w then K .ret (R45 (insC 32 (cutZ 84 w))) else H (S45 32 w) := by kernel_rfl
theorem r45_32 : ev VK6 0 (N + 40) x45 (S45 32 w) (rkG 0 (VK6.lv 3) kp45 H K) = bif fitsZ 84 0 52 w then K .ret (R45 (insC 33 (cutZ 84 w))) else H (S45 33 w) := by kernel_rfl
theorem r45_33 : ev VK6 0 (N + 40) x45 (S45 33 w) (rkG 0 (VK6.lv 3) kp45 H K) = bif fitsZ 84 0 54 w then K .ret (R45 (insC 34 (cutZ 84 w))) else H (S45 34 w) := by kernel_rfl
theorem r45_34 : ev VK6 0 (N + 40) x45 (S45 34 w) (rkG 0 (VK6.lv 3) kp45 H K) = bif fitsZ 67 0 12 w then K .ret (R45 (insC 35 (cutZ 67 w))) else H (S45 35 w) := by kernel_rfl
theorem r45_35 : ev VK6 0 (N + 40) x45 (S45 35 w) (rkG 0 (VK6.lv 3) kp45 H K) = bif fitsZ 67 0 13 w then K .ret (R45 (insC 36 (cutZ 67 w))) else H (S45 36 w) := by kernel_rfl
theorem r45_36 : ev VK6 0 (N + 40) x45 (S45 36 w) (rkG 0 (VK6.lv 3) kp45 H K) = bif fitsZ 88 28 2 w then K .ret (R45 (insC 37 (cutZ 88 w))) else H (S45 37 w) := by kernel_rfl
theorem r45_37 : ev VK6 0 (N + 40) x45 (S45 37 w) (rkG 0 (VK6.lv 3) kp45 H K) = bif fitsZ 89 28 32 w then K .ret (R45 (insC 38 (cutZ 89 w))) else H (S45 38 w) := by kernel_rfl
theorem r45_38 : ev VK6 0 (N + 40) x45 (S45 38 w) (rkG 0 (VK6.lv 3) kp45 H K) = bif fitsZ 89 28 33 w then K .ret (R45 (insC 39 (cutZ 89 w))) else H (S45 39 w) := by kernel_rfl
theorem r45_39 : ev VK6 0 (N + 40) x45 (S45 39 w) (rkG 0 (VK6.lv 3) kp45 H K) = bif fitsZ 73 9 0 w then K .ret (R45 (insC 40 (cutZ 73 w))) else H (S45 40 w) := by kernel_rfl
theorem r45_40 : ev VK6 0 (N + 40) x45 (S45 40 w) (rkG 0 (VK6.lv 3) kp45 H K) = bif fitsZ 73 8 0 w then K .ret (R45 (insC 41 (cutZ 73 w))) else H (S45 41 w) := by kernel_rfl
theorem r45_41 : ev VK6 0 (N + 40) x45 (S45 41 w) (rkG 0 (VK6.lv 3) kp45 H K) = bif fitsZ 73 10 0 w then K .ret (R45 (insC 42 (cutZ 73 w))) else H (S45 42 w) := by kernel_rfl
theorem r45_42 : ev VK6 0 (N + 40) x45 (S45 42 w) (rkG 0 (VK6.lv 3) kp45 H K) = bif fitsZ 73 11 0 w then K .ret (R45 (insC 43 (cutZ 73 w))) else H (S45 43 w) := by kernel_rfl
theorem r45_43 : ev VK6 0 (N + 40) x45 (S45 43 w) (rkG 0 (VK6.lv 3) kp45 H K) = bif fitsZ 85 12 0 w then K .ret (R45 (insC 44 (cutZ 85 w))) else H (S45 44 w) := by kernel_rfl
theorem r45_44 : ev VK6 0 (N + 40) x45 (S45 44 w) (rkG 0 (VK6.lv 3) kp45 H K) = bif fitsZ 85 13 0 w then K .ret (R45 (insC 45 (cutZ 85 w))) else H (S45 45 w) := by kernel_rfl
theorem r45_45 : ev VK6 0 (N + 40) x45 (S45 45 w) (rkG 0 (VK6.lv 3) kp45 H K) = bif fitsZ 85 14 0 w then K .ret (R45 (insC 46 (cutZ 85 w))) else H (S45 46 w) := by kernel_rfl
theorem r45_46 : ev VK6 0 (N + 40) x45 (S45 46 w) (rkG 0 (VK6.lv 3) kp45 H K) = bif fitsZ 86 15 0 w then K .ret (R45 (insC 47 (cutZ 86 w))) else H (S45 47 w) := by kernel_rfl
theorem r45_47 : ev VK6 0 (N + 40) x45 (S45 47 w) (rkG 0 (VK6.lv 3) kp45 H K) = bif fitsZ 80 32 0 w then K .ret (R45 (insC 48 (cutZ 80 w))) else H (S45 48 w) := by kernel_rfl
theorem r45_48 : ev VK6 0 (N + 40) x45 (S45 48 w) (rkG 0 (VK6.lv 3) kp45 H K) = bif fitsZ 80 33 0 w then K .ret (R45 (insC 49 (cutZ 80 w))) else H (S45 49 w) := by kernel_rfl
theorem r45_49 : ev VK6 0 (N + 40) x45 (S45 49 w) (rkG 0 (VK6.lv 3) kp45 H K) = bif fitsZ 80 34 0 w then K .ret (R45 (insC 50 (cutZ 80 w))) else H (S45 50 w) := by kernel_rfl
theorem r45_50 : ev VK6 0 (N + 40) x45 (S45 50 w) (rkG 0 (VK6.lv 3) kp45 H K) = bif fitsZ 80 35 0 w then K .ret (R45 (insC 51 (cutZ 80 w))) else H (S45 51 w) := by kernel_rfl
theorem r45_51 : ev VK6 0 (N + 40) x45 (S45 51 w) (rkG 0 (VK6.lv 3) kp45 H K) = bif fitsZ 80 36 0 w then K .ret (R45 (insC 52 (cutZ 80 w))) else H (S45 52 w) := by kernel_rfl
theorem r45_52 : ev VK6 0 (N + 40) x45 (S45 52 w) (rkG 0 (VK6.lv 3) kp45 H K) = bif fitsZ 80 37 0 w then K .ret (R45 (insC 53 (cutZ 80 w))) else H (S45 53 w) := by kernel_rfl
theorem r45_53 : ev VK6 0 (N + 40) x45 (S45 53 w) (rkG 0 (VK6.lv 3) kp45 H K) = bif fitsZ 80 38 0 w then K .ret (R45 (insC 54 (cutZ 80 w))) else H (S45 54 w) := by kernel_rfl
theorem r45_54 : ev VK6 0 (N + 40) x45 (S45 54 w) (rkG 0 (VK6.lv 3) kp45 H K) = bif fitsZ 80 40 0 w then K .ret (R45 (insC 55 (cutZ 80 w))) else H (S45 55 w) := by kernel_rfl
theorem r45_55 : ev VK6 0 (N + 40) x45 (S45 55 w) (rkG 0 (VK6.lv 3) kp45 H K) = bif fitsZ 80 41 0 w then K .ret (R45 (insC 56 (cutZ 80 w))) else H (S45 56 w) := by kernel_rfl
theorem r45_56 : ev VK6 0 (N + 40) x45 (S45 56 w) (rkG 0 (VK6.lv 3) kp45 H K) = bif fitsZ 80 42 0 w then K .ret (R45 (insC 57 (cutZ 80 w))) else H (S45 57 w) := by kernel_rfl
theorem r45_57 : ev VK6 0 (N + 40) x45 (S45 57 w) (rkG 0 (VK6.lv 3) kp45 H K) = bif fitsZ 80 43 0 w then K .ret (R45 (insC 58 (cutZ 80 w))) else H (S45 58 w) := by kernel_rfl
theorem r45_58 : ev VK6 0 (N + 40) x45 (S45 58 w) (rkG 0 (VK6.lv 3) kp45 H K) = bif fitsZ 80 46 0 w then K .ret (R45 (insC 59 (cutZ 80 w))) else H (S45 59 w) := by kernel_rfl
theorem r45_59 : ev VK6 0 (N + 40) x45 (S45 59 w) (rkG 0 (VK6.lv 3) kp45 H K) = bif fitsZ 66 4 0 w then K .ret (R45 (insC 60 (cutZ 66 w))) else H (S45 60 w) := by kernel_rfl
theorem r45_60 : ev VK6 0 (N + 40) x45 (S45 60 w) (rkG 0 (VK6.lv 3) kp45 H K) = bif fitsZ 66 5 0 w then K .ret (R45 (insC 61 (cutZ 66 w))) else H (S45 61 w) := by kernel_rfl
theorem r45_61 : ev VK6 0 (N + 40) x45 (S45 61 w) (rkG 0 (VK6.lv 3) kp45 H K) = bif fitsZ 90 6 0 w then K .ret (R45 (insC 62 (cutZ 90 w))) else H (S45 62 w) := by kernel_rfl
theorem r45_62 : ev VK6 0 (N + 40) x45 (S45 62 w) (rkG 0 (VK6.lv 3) kp45 H K) = bif fitsZ 90 7 0 w then K .ret (R45 (insC 63 (cutZ 90 w))) else H (S45 63 w) := by kernel_rfl
theorem r45_63 : ev VK6 0 (N + 40) x45 (S45 63 w) (rkG 0 (VK6.lv 3) kp45 H K) = bif fitsZ 82 1 0 w then K .ret (R45 (insC 64 (cutZ 82 w))) else H (S45 64 w) := by kernel_rfl
theorem r45_64 : ev VK6 0 (N + 40) x45 (S45 64 w) (rkG 0 (VK6.lv 3) kp45 H K) = bif fitsZ 82 1 1 w then K .ret (R45 (insC 65 (cutZ 82 w))) else H (S45 65 w) := by kernel_rfl
theorem r45_65 : ev VK6 0 (N + 40) x45 (S45 65 w) (rkG 0 (VK6.lv 3) kp45 H K) = bif fitsZ 82 1 16 w then K .ret (R45 (insC 66 (cutZ 82 w))) else H (S45 66 w) := by kernel_rfl
theorem r45_66 : ev VK6 0 (N + 40) x45 (S45 66 w) (rkG 0 (VK6.lv 3) kp45 H K) = bif fitsZ 82 1 17 w then K .ret (R45 (insC 67 (cutZ 82 w))) else H (S45 67 w) := by kernel_rfl
theorem r45_67 : ev VK6 0 (N + 40) x45 (S45 67 w) (rkG 0 (VK6.lv 3) kp45 H K) = bif fitsZ 74 2 0 w then K .ret (R45 (insC 68 (cutZ 74 w))) else H (S45 68 w) := by kernel_rfl
theorem r45_68 : ev VK6 0 (N + 40) x45 (S45 68 w) (rkG 0 (VK6.lv 3) kp45 H K) = bif fitsZ 74 3 0 w then K .ret (R45 (insC 69 (cutZ 74 w))) else H (S45 69 w) := by kernel_rfl
theorem r45_69 : ev VK6 0 (N + 40) x45 (S45 69 w) (rkG 0 (VK6.lv 3) kp45 H K) = K (.exit 0) (R45 (insC 0 zDec)) := by kernel_rfl
end
end Go.Proofs.Ytjpeplidbodjiaa
/- The reference's Decode, whole. -/
namespace Go.Proofs.Ytjpeplidbodjiaa
set_option maxRecDepth 100000
structure RowR where
  op : Int
  fm : Int
  o : Int
  f : Int
def rows45 : List RowR := [⟨1, 68, 0, 33⟩, ⟨2, 68, 0, 35⟩, ⟨3, 68, 0, 36⟩, ⟨4, 68, 0, 37⟩, ⟨5, 68, 0, 38⟩, ⟨6, 68, 0, 39⟩, ⟨7, 68, 0, 42⟩, ⟨8, 68, 0, 43⟩, ⟨9, 68, 0, 32⟩, ⟨10, 68, 0, 34⟩, ⟨11, 68, 0, 4⟩, ⟨12, 68, 0, 6⟩, ⟨13, 68, 0, 7⟩, ⟨14, 68, 0, 10⟩, ⟨15, 68, 0, 11⟩, ⟨16, 72, 0, 0⟩, ⟨17, 72, 0, 2⟩, ⟨18, 72, 0, 3⟩, ⟨19, 77, 0, 24⟩, ⟨20, 77, 0, 25⟩, ⟨21, 77, 0, 26⟩, ⟨22, 77, 0, 27⟩, ⟨23, 70, 0, 16⟩, ⟨24, 70, 0, 18⟩, ⟨25, 76, 0, 17⟩, ⟨26, 76, 0, 19⟩, ⟨27, 76, 0, 8⟩, ⟨28, 71, 0, 9⟩, ⟨29, 84, 0, 48⟩, ⟨30, 84, 0, 49⟩, ⟨31, 84, 0, 50⟩, ⟨32, 84, 0, 51⟩, ⟨33, 84, 0, 52⟩, ⟨34, 84, 0, 54⟩, ⟨35, 67, 0, 12⟩, ⟨36, 67, 0, 13⟩, ⟨37, 88, 28, 2⟩, ⟨38, 89, 28, 32⟩, ⟨39, 89, 28, 33⟩, ⟨40, 73, 9, 0⟩, ⟨41, 73, 8, 0⟩, ⟨42, 73, 10, 0⟩, ⟨43, 73, 11, 0⟩, ⟨44, 85, 12, 0⟩, ⟨45, 85, 13, 0⟩, ⟨46, 85, 14, 0⟩, ⟨47, 86, 15, 0⟩, ⟨48, 80, 32, 0⟩, ⟨49, 80, 33, 0⟩, ⟨50, 80, 34, 0⟩, ⟨51, 80, 35, 0⟩, ⟨52, 80, 36, 0⟩, ⟨53, 80, 37, 0⟩, ⟨54, 80, 38, 0⟩, ⟨55, 80, 40, 0⟩, ⟨56, 80, 41, 0⟩, ⟨57, 80, 42, 0⟩, ⟨58, 80, 43, 0⟩, ⟨59, 80, 46, 0⟩, ⟨60, 66, 4, 0⟩, ⟨61, 66, 5, 0⟩, ⟨62, 90, 6, 0⟩, ⟨63, 90, 7, 0⟩, ⟨64, 82, 1, 0⟩, ⟨65, 82, 1, 1⟩, ⟨66, 82, 1, 16⟩, ⟨67, 82, 1, 17⟩, ⟨68, 74, 2, 0⟩, ⟨69, 74, 3, 0⟩]
def hit45 (w : Int) : List RowR → Bool
  | [] => false
  | r :: rs => bif fitsZ r.fm r.o r.f w then true else hit45 w rs
def dec45 (w : Int) : List RowR → Int × Dec
  | [] => (0, zDec)
  | r :: rs => bif fitsZ r.fm r.o r.f w then (r.op, cutZ r.fm w) else dec45 w rs
def end45 (w : Int) (K : Exit → AS → Out) (rs : List RowR) : Out := bif hit45 w rs then K .ret (R45 (insC (dec45 w rs).1 (dec45 w rs).2)) else K (.exit 0) (R45 (insC 0 zDec))
theorem end45_cons (w : Int) (K : Exit → AS → Out) (r : RowR) (rs : List RowR) : end45 w K (r :: rs) = bif fitsZ r.fm r.o r.f w then K .ret (R45 (insC r.op (cutZ r.fm w))) else end45 w K rs := by
  unfold end45
  simp only [hit45, dec45]
  cases fitsZ r.fm r.o r.f w <;> rfl
section
variable (w : Int) (K : Exit → AS → Out)
theorem h45_69 (N : Nat) : HeadK VK6 0 kp45 x45 (N + 41) K (S45 69 w) = end45 w K (rows45.drop 69) := by
  rw [show N + 41 = (N + 40) + 1 by omega, HeadK_succ (by rw [key45]; rfl), key45]
  exact r45_69 w K _ (N + 1)
theorem step45 {k : Nat} {r : RowR} {rs : List RowR} (hd : rows45.drop k = r :: rs) {N : Nat} (hr : ∀ H : AS → Out, ev VK6 0 (N + 1 + 40) x45 (S45 (k : Int) w) (rkG 0 (VK6.lv 3) kp45 H K) = bif fitsZ r.fm r.o r.f w then K .ret (R45 (insC r.op (cutZ r.fm w))) else H (S45 ((k + 1 : Nat) : Int) w))
    (ih : HeadK VK6 0 kp45 x45 (N + 40) K (S45 ((k + 1 : Nat) : Int) w) = end45 w K rs) : HeadK VK6 0 kp45 x45 (N + 41) K (S45 (k : Int) w) = end45 w K (rows45.drop k) := by
  rw [show N + 41 = (N + 40) + 1 by omega, HeadK_succ (by rw [key45]; rfl), key45, hd, end45_cons, ← ih]
  exact hr _
theorem h45_68 (N : Nat) : HeadK VK6 0 kp45 x45 (N + 42) K (S45 68 w) = end45 w K (rows45.drop 68) := step45 w K (k := 68) (r := ⟨69, 74, 3, 0⟩) rfl (N := N + 1) (fun H => r45_68 w K H (N + 1 + 1)) (h45_69 w K N)
theorem h45_67 (N : Nat) : HeadK VK6 0 kp45 x45 (N + 43) K (S45 67 w) = end45 w K (rows45.drop 67) := step45 w K (k := 67) (r := ⟨68, 74, 2, 0⟩) rfl (N := N + 2) (fun H => r45_67 w K H (N + 2 + 1)) (h45_68 w K N)
theorem h45_66 (N : Nat) : HeadK VK6 0 kp45 x45 (N + 44) K (S45 66 w) = end45 w K (rows45.drop 66) := step45 w K (k := 66) (r := ⟨67, 82, 1, 17⟩) rfl (N := N + 3) (fun H => r45_66 w K H (N + 3 + 1)) (h45_67 w K N)
theorem h45_65 (N : Nat) : HeadK VK6 0 kp45 x45 (N + 45) K (S45 65 w) = end45 w K (rows45.drop 65) := step45 w K (k := 65) (r := ⟨66, 82, 1, 16⟩) rfl (N := N + 4) (fun H => r45_65 w K H (N + 4 + 1)) (h45_66 w K N)
theorem h45_64 (N : Nat) : HeadK VK6 0 kp45 x45 (N + 46) K (S45 64 w) = end45 w K (rows45.drop 64) := step45 w K (k := 64) (r := ⟨65, 82, 1, 1⟩) rfl (N := N + 5) (fun H => r45_64 w K H (N + 5 + 1)) (h45_65 w K N)
theorem h45_63 (N : Nat) : HeadK VK6 0 kp45 x45 (N + 47) K (S45 63 w) = end45 w K (rows45.drop 63) := step45 w K (k := 63) (r := ⟨64, 82, 1, 0⟩) rfl (N := N + 6) (fun H => r45_63 w K H (N + 6 + 1)) (h45_64 w K N)
theorem h45_62 (N : Nat) : HeadK VK6 0 kp45 x45 (N + 48) K (S45 62 w) = end45 w K (rows45.drop 62) := step45 w K (k := 62) (r := ⟨63, 90, 7, 0⟩) rfl (N := N + 7) (fun H => r45_62 w K H (N + 7 + 1)) (h45_63 w K N)
theorem h45_61 (N : Nat) : HeadK VK6 0 kp45 x45 (N + 49) K (S45 61 w) = end45 w K (rows45.drop 61) := step45 w K (k := 61) (r := ⟨62, 90, 6, 0⟩) rfl (N := N + 8) (fun H => r45_61 w K H (N + 8 + 1)) (h45_62 w K N)
theorem h45_60 (N : Nat) : HeadK VK6 0 kp45 x45 (N + 50) K (S45 60 w) = end45 w K (rows45.drop 60) := step45 w K (k := 60) (r := ⟨61, 66, 5, 0⟩) rfl (N := N + 9) (fun H => r45_60 w K H (N + 9 + 1)) (h45_61 w K N)
theorem h45_59 (N : Nat) : HeadK VK6 0 kp45 x45 (N + 51) K (S45 59 w) = end45 w K (rows45.drop 59) := step45 w K (k := 59) (r := ⟨60, 66, 4, 0⟩) rfl (N := N + 10) (fun H => r45_59 w K H (N + 10 + 1)) (h45_60 w K N)
theorem h45_58 (N : Nat) : HeadK VK6 0 kp45 x45 (N + 52) K (S45 58 w) = end45 w K (rows45.drop 58) := step45 w K (k := 58) (r := ⟨59, 80, 46, 0⟩) rfl (N := N + 11) (fun H => r45_58 w K H (N + 11 + 1)) (h45_59 w K N)
theorem h45_57 (N : Nat) : HeadK VK6 0 kp45 x45 (N + 53) K (S45 57 w) = end45 w K (rows45.drop 57) := step45 w K (k := 57) (r := ⟨58, 80, 43, 0⟩) rfl (N := N + 12) (fun H => r45_57 w K H (N + 12 + 1)) (h45_58 w K N)
theorem h45_56 (N : Nat) : HeadK VK6 0 kp45 x45 (N + 54) K (S45 56 w) = end45 w K (rows45.drop 56) := step45 w K (k := 56) (r := ⟨57, 80, 42, 0⟩) rfl (N := N + 13) (fun H => r45_56 w K H (N + 13 + 1)) (h45_57 w K N)
theorem h45_55 (N : Nat) : HeadK VK6 0 kp45 x45 (N + 55) K (S45 55 w) = end45 w K (rows45.drop 55) := step45 w K (k := 55) (r := ⟨56, 80, 41, 0⟩) rfl (N := N + 14) (fun H => r45_55 w K H (N + 14 + 1)) (h45_56 w K N)
theorem h45_54 (N : Nat) : HeadK VK6 0 kp45 x45 (N + 56) K (S45 54 w) = end45 w K (rows45.drop 54) := step45 w K (k := 54) (r := ⟨55, 80, 40, 0⟩) rfl (N := N + 15) (fun H => r45_54 w K H (N + 15 + 1)) (h45_55 w K N)
theorem h45_53 (N : Nat) : HeadK VK6 0 kp45 x45 (N + 57) K (S45 53 w) = end45 w K (rows45.drop 53) := step45 w K (k := 53) (r := ⟨54, 80, 38, 0⟩) rfl (N := N + 16) (fun H => r45_53 w K H (N + 16 + 1)) (h45_54 w K N)
theorem h45_52 (N : Nat) : HeadK VK6 0 kp45 x45 (N + 58) K (S45 52 w) = end45 w K (rows45.drop 52) := step45 w K (k := 52) (r := ⟨53, 80, 37, 0⟩) rfl (N := N + 17) (fun H => r45_52 w K H (N + 17 + 1)) (h45_53 w K N)
theorem h45_51 (N : Nat) : HeadK VK6 0 kp45 x45 (N + 59) K (S45 51 w) = end45 w K (rows45.drop 51) := step45 w K (k := 51) (r := ⟨52, 80, 36, 0⟩) rfl (N := N + 18) (fun H => r45_51 w K H (N + 18 + 1)) (h45_52 w K N)
theorem h45_50 (N : Nat) : HeadK VK6 0 kp45 x45 (N + 60) K (S45 50 w) = end45 w K (rows45.drop 50) := step45 w K (k := 50) (r := ⟨51, 80, 35, 0⟩) rfl (N := N + 19) (fun H => r45_50 w K H (N + 19 + 1)) (h45_51 w K N)
theorem h45_49 (N : Nat) : HeadK VK6 0 kp45 x45 (N + 61) K (S45 49 w) = end45 w K (rows45.drop 49) := step45 w K (k := 49) (r := ⟨50, 80, 34, 0⟩) rfl (N := N + 20) (fun H => r45_49 w K H (N + 20 + 1)) (h45_50 w K N)
theorem h45_48 (N : Nat) : HeadK VK6 0 kp45 x45 (N + 62) K (S45 48 w) = end45 w K (rows45.drop 48) := step45 w K (k := 48) (r := ⟨49, 80, 33, 0⟩) rfl (N := N + 21) (fun H => r45_48 w K H (N + 21 + 1)) (h45_49 w K N)
theorem h45_47 (N : Nat) : HeadK VK6 0 kp45 x45 (N + 63) K (S45 47 w) = end45 w K (rows45.drop 47) := step45 w K (k := 47) (r := ⟨48, 80, 32, 0⟩) rfl (N := N + 22) (fun H => r45_47 w K H (N + 22 + 1)) (h45_48 w K N)
theorem h45_46 (N : Nat) : HeadK VK6 0 kp45 x45 (N + 64) K (S45 46 w) = end45 w K (rows45.drop 46) := step45 w K (k := 46) (r := ⟨47, 86, 15, 0⟩) rfl (N := N + 23) (fun H => r45_46 w K H (N + 23 + 1)) (h45_47 w K N)
theorem h45_45 (N : Nat) : HeadK VK6 0 kp45 x45 (N + 65) K (S45 45 w) = end45 w K (rows45.drop 45) := step45 w K (k := 45) (r := ⟨46, 85, 14, 0⟩) rfl (N := N + 24) (fun H => r45_45 w K H (N + 24 + 1)) (h45_46 w K N)
theorem h45_44 (N : Nat) : HeadK VK6 0 kp45 x45 (N + 66) K (S45 44 w) = end45 w K (rows45.drop 44) := step45 w K (k := 44) (r := ⟨45, 85, 13, 0⟩) rfl (N := N + 25) (fun H => r45_44 w K H (N + 25 + 1)) (h45_45 w K N)
theorem h45_43 (N : Nat) : HeadK VK6 0 kp45 x45 (N + 67) K (S45 43 w) = end45 w K (rows45.drop 43) := step45 w K (k := 43) (r := ⟨44, 85, 12, 0⟩) rfl (N := N + 26) (fun H => r45_43 w K H (N + 26 + 1)) (h45_44 w K N)
theorem h45_42 (N : Nat) : HeadK VK6 0 kp45 x45 (N + 68) K (S45 42 w) = end45 w K (rows45.drop 42) := step45 w K (k := 42) (r := ⟨43, 73, 11, 0⟩) rfl (N := N + 27) (fun H => r45_42 w K H (N + 27 + 1)) (h45_43 w K N)
theorem h45_41 (N : Nat) : HeadK VK6 0 kp45 x45 (N + 69) K (S45 41 w) = end45 w K (rows45.drop 41) := step45 w K (k := 41) (r := ⟨42, 73, 10, 0⟩) rfl (N := N + 28) (fun H => r45_41 w K H (N + 28 + 1)) (h45_42 w K N)
theorem h45_40 (N : Nat) : HeadK VK6 0 kp45 x45 (N + 70) K (S45 40 w) = end45 w K (rows45.drop 40) := step45 w K (k := 40) (r := ⟨41, 73, 8, 0⟩) rfl (N := N + 29) (fun H => r45_40 w K H (N + 29 + 1)) (h45_41 w K N)
theorem h45_39 (N : Nat) : HeadK VK6 0 kp45 x45 (N + 71) K (S45 39 w) = end45 w K (rows45.drop 39) := step45 w K (k := 39) (r := ⟨40, 73, 9, 0⟩) rfl (N := N + 30) (fun H => r45_39 w K H (N + 30 + 1)) (h45_40 w K N)
theorem h45_38 (N : Nat) : HeadK VK6 0 kp45 x45 (N + 72) K (S45 38 w) = end45 w K (rows45.drop 38) := step45 w K (k := 38) (r := ⟨39, 89, 28, 33⟩) rfl (N := N + 31) (fun H => r45_38 w K H (N + 31 + 1)) (h45_39 w K N)
theorem h45_37 (N : Nat) : HeadK VK6 0 kp45 x45 (N + 73) K (S45 37 w) = end45 w K (rows45.drop 37) := step45 w K (k := 37) (r := ⟨38, 89, 28, 32⟩) rfl (N := N + 32) (fun H => r45_37 w K H (N + 32 + 1)) (h45_38 w K N)
theorem h45_36 (N : Nat) : HeadK VK6 0 kp45 x45 (N + 74) K (S45 36 w) = end45 w K (rows45.drop 36) := step45 w K (k := 36) (r := ⟨37, 88, 28, 2⟩) rfl (N := N + 33) (fun H => r45_36 w K H (N + 33 + 1)) (h45_37 w K N)
theorem h45_35 (N : Nat) : HeadK VK6 0 kp45 x45 (N + 75) K (S45 35 w) = end45 w K (rows45.drop 35) := step45 w K (k := 35) (r := ⟨36, 67, 0, 13⟩) rfl (N := N + 34) (fun H => r45_35 w K H (N + 34 + 1)) (h45_36 w K N)
theorem h45_34 (N : Nat) : HeadK VK6 0 kp45 x45 (N + 76) K (S45 34 w) = end45 w K (rows45.drop 34) := step45 w K (k := 34) (r := ⟨35, 67, 0, 12⟩) rfl (N := N + 35) (fun H => r45_34 w K H (N + 35 + 1)) (h45_35 w K N)
theorem h45_33 (N : Nat) : HeadK VK6 0 kp45 x45 (N + 77) K (S45 33 w) = end45 w K (rows45.drop 33) := step45 w K (k := 33) (r := ⟨34, 84, 0, 54⟩) rfl (N := N + 36) (fun H => r45_33 w K H (N + 36 + 1)) (h45_34 w K N)
theorem h45_32 (N : Nat) : HeadK VK6 0 kp45 x45 (N + 78) K (S45 32 w) = end45 w K (rows45.drop 32) := step45 w K (k := 32) (r := ⟨33, 84, 0, 52⟩) rfl (N := N + 37) (fun H => r45_32 w K H (N + 37 + 1)) (h45_33 w K N)
theorem h45_31 (N : Nat) : HeadK VK6 0 kp45 x45 (N + 79) K (S45 31 w) = end45 w K (rows45.drop 31) := step45 w K (k := 31) (r := ⟨32, 84, 0, 51⟩) rfl (N := N + 38) (fun H => r45_31 w K H (N + 38 + 1)) (h45_32 w K N)
theorem h45_30 (N : Nat) : HeadK VK6 0 kp45 x45 (N + 80) K (S45 30 w) = end45 w K (rows45.drop 30) := step45 w K (k := 30) (r := ⟨31, 84, 0, 50⟩) rfl (N := N + 39) (fun H => r45_30 w K H (N + 39 + 1)) (h45_31 w K N)
theorem h45_29 (N : Nat) : HeadK VK6 0 kp45 x45 (N + 81) K (S45 29 w) = end45 w K (rows45.drop 29) := step45 w K (k := 29) (r := ⟨30, 84, 0, 49⟩) rfl (N := N + 40) (fun H => r45_29 w K H (N + 40 + 1)) (h45_30 w K N)
theorem h45_28 (N : Nat) : HeadK VK6 0 kp45 x45 (N + 82) K (S45 28 w) = end45 w K (rows45.drop 28) := step45 w K (k := 28) (r := ⟨29, 84, 0, 48⟩) rfl (N := N + 41) (fun H => r45_28 w K H (N + 41 + 1)) (h45_29 w K N)
theorem h45_27 (N : Nat) : HeadK VK6 0 kp45 x45 (N + 83) K (S45 27 w) = end45 w K (rows45.drop 27) := step45 w K (k := 27) (r := ⟨28, 71, 0, 9⟩) rfl (N := N + 42) (fun H => r45_27 w K H (N + 42 + 1)) (h45_28 w K N)
theorem h45_26 (N : Nat) : HeadK VK6 0 kp45 x45 (N + 84) K (S45 26 w) = end45 w K (rows45.drop 26) := step45 w K (k := 26) (r := ⟨27, 76, 0, 8⟩) rfl (N := N + 43) (fun H => r45_26 w K H (N + 43 + 1)) (h45_27 w K N)
theorem h45_25 (N : Nat) : HeadK VK6 0 kp45 x45 (N + 85) K (S45 25 w) = end45 w K (rows45.drop 25) := step45 w K (k := 25) (r := ⟨26, 76, 0, 19⟩) rfl (N := N + 44) (fun H => r45_25 w K H (N + 44 + 1)) (h45_26 w K N)
theorem h45_24 (N : Nat) : HeadK VK6 0 kp45 x45 (N + 86) K (S45 24 w) = end45 w K (rows45.drop 24) := step45 w K (k := 24) (r := ⟨25, 76, 0, 17⟩) rfl (N := N + 45) (fun H => r45_24 w K H (N + 45 + 1)) (h45_25 w K N)
theorem h45_23 (N : Nat) : HeadK VK6 0 kp45 x45 (N + 87) K (S45 23 w) = end45 w K (rows45.drop 23) := step45 w K (k := 23) (r := ⟨24, 70, 0, 18⟩) rfl (N := N + 46) (fun H => r45_23 w K H (N + 46 + 1)) (h45_24 w K N)
theorem h45_22 (N : Nat) : HeadK VK6 0 kp45 x45 (N + 88) K (S45 22 w) = end45 w K (rows45.drop 22) := step45 w K (k := 22) (r := ⟨23, 70, 0, 16⟩) rfl (N := N + 47) (fun H => r45_22 w K H (N + 47 + 1)) (h45_23 w K N)
theorem h45_21 (N : Nat) : HeadK VK6 0 kp45 x45 (N + 89) K (S45 21 w) = end45 w K (rows45.drop 21) := step45 w K (k := 21) (r := ⟨22, 77, 0, 27⟩) rfl (N := N + 48) (fun H => r45_21 w K H (N + 48 + 1)) (h45_22 w K N)
theorem h45_20 (N : Nat) : HeadK VK6 0 kp45 x45 (N + 90) K (S45 20 w) = end45 w K (rows45.drop 20) := step45 w K (k := 20) (r := ⟨21, 77, 0, 26⟩) rfl (N := N + 49) (fun H => r45_20 w K H (N + 49 + 1)) (h45_21 w K N)
theorem h45_19 (N : Nat) : HeadK VK6 0 kp45 x45 (N + 91) K (S45 19 w) = end45 w K (rows45.drop 19) := step45 w K (k := 19) (r := ⟨20, 77, 0, 25⟩) rfl (N := N + 50) (fun H => r45_19 w K H (N + 50 + 1)) (h45_20 w K N)
theorem h45_18 (N : Nat) : HeadK VK6 0 kp45 x45 (N + 92) K (S45 18 w) = end45 w K (rows45.drop 18) := step45 w K (k := 18) (r := ⟨19, 77, 0, 24⟩) rfl (N := N + 51) (fun H => r45_18 w K H (N + 51 + 1)) (h45_19 w K N)
theorem h45_17 (N : Nat) : HeadK VK6 0 kp45 x45 (N + 93) K (S45 17 w) = end45 w K (rows45.drop 17) := step45 w K (k := 17) (r := ⟨18, 72, 0, 3⟩) rfl (N := N + 52) (fun H => r45_17 w K H (N + 52 + 1)) (h45_18 w K N)
theorem h45_16 (N : Nat) : HeadK VK6 0 kp45 x45 (N + 94) K (S45 16 w) = end45 w K (rows45.drop 16) := step45 w K (k := 16) (r := ⟨17, 72, 0, 2⟩) rfl (N := N + 53) (fun H => r45_16 w K H (N + 53 + 1)) (h45_17 w K N)
theorem h45_15 (N : Nat) : HeadK VK6 0 kp45 x45 (N + 95) K (S45 15 w) = end45 w K (rows45.drop 15) := step45 w K (k := 15) (r := ⟨16, 72, 0, 0⟩) rfl (N := N + 54) (fun H => r45_15 w K H (N + 54 + 1)) (h45_16 w K N)
theorem h45_14 (N : Nat) : HeadK VK6 0 kp45 x45 (N + 96) K (S45 14 w) = end45 w K (rows45.drop 14) := step45 w K (k := 14) (r := ⟨15, 68, 0, 11⟩) rfl (N := N + 55) (fun H => r45_14 w K H (N + 55 + 1)) (h45_15 w K N)
theorem h45_13 (N : Nat) : HeadK VK6 0 kp45 x45 (N + 97) K (S45 13 w) = end45 w K (rows45.drop 13) := step45 w K (k := 13) (r := ⟨14, 68, 0, 10⟩) rfl (N := N + 56) (fun H => r45_13 w K H (N + 56 + 1)) (h45_14 w K N)
theorem h45_12 (N : Nat) : HeadK VK6 0 kp45 x45 (N + 98) K (S45 12 w) = end45 w K (rows45.drop 12) := step45 w K (k := 12) (r := ⟨13, 68, 0, 7⟩) rfl (N := N + 57) (fun H => r45_12 w K H (N + 57 + 1)) (h45_13 w K N)
theorem h45_11 (N : Nat) : HeadK VK6 0 kp45 x45 (N + 99) K (S45 11 w) = end45 w K (rows45.drop 11) := step45 w K (k := 11) (r := ⟨12, 68, 0, 6⟩) rfl (N := N + 58) (fun H => r45_11 w K H (N + 58 + 1)) (h45_12 w K N)
theorem h45_10 (N : Nat) : HeadK VK6 0 kp45 x45 (N + 100) K (S45 10 w) = end45 w K (rows45.drop 10) := step45 w K (k := 10) (r := ⟨11, 68, 0, 4⟩) rfl (N := N + 59) (fun H => r45_10 w K H (N + 59 + 1)) (h45_11 w K N)
theorem h45_9 (N : Nat) : HeadK VK6 0 kp45 x45 (N + 101) K (S45 9 w) = end45 w K (rows45.drop 9) := step45 w K (k := 9) (r := ⟨10, 68, 0, 34⟩) rfl (N := N + 60) (fun H => r45_9 w K H (N + 60 + 1)) (h45_10 w K N)
theorem h45_8 (N : Nat) : HeadK VK6 0 kp45 x45 (N + 102) K (S45 8 w) = end45 w K (rows45.drop 8) := step45 w K (k := 8) (r := ⟨9, 68, 0, 32⟩) rfl (N := N + 61) (fun H => r45_8 w K H (N + 61 + 1)) (h45_9 w K N)
theorem h45_7 (N : Nat) : HeadK VK6 0 kp45 x45 (N + 103) K (S45 7 w) = end45 w K (rows45.drop 7) := step45 w K (k := 7) (r := ⟨8, 68, 0, 43⟩) rfl (N := N + 62) (fun H => r45_7 w K H (N + 62 + 1)) (h45_8 w K N)
theorem h45_6 (N : Nat) : HeadK VK6 0 kp45 x45 (N + 104) K (S45 6 w) = end45 w K (rows45.drop 6) := step45 w K (k := 6) (r := ⟨7, 68, 0, 42⟩) rfl (N := N + 63) (fun H => r45_6 w K H (N + 63 + 1)) (h45_7 w K N)
theorem h45_5 (N : Nat) : HeadK VK6 0 kp45 x45 (N + 105) K (S45 5 w) = end45 w K (rows45.drop 5) := step45 w K (k := 5) (r := ⟨6, 68, 0, 39⟩) rfl (N := N + 64) (fun H => r45_5 w K H (N + 64 + 1)) (h45_6 w K N)
theorem h45_4 (N : Nat) : HeadK VK6 0 kp45 x45 (N + 106) K (S45 4 w) = end45 w K (rows45.drop 4) := step45 w K (k := 4) (r := ⟨5, 68, 0, 38⟩) rfl (N := N + 65) (fun H => r45_4 w K H (N + 65 + 1)) (h45_5 w K N)
theorem h45_3 (N : Nat) : HeadK VK6 0 kp45 x45 (N + 107) K (S45 3 w) = end45 w K (rows45.drop 3) := step45 w K (k := 3) (r := ⟨4, 68, 0, 37⟩) rfl (N := N + 66) (fun H => r45_3 w K H (N + 66 + 1)) (h45_4 w K N)
theorem h45_2 (N : Nat) : HeadK VK6 0 kp45 x45 (N + 108) K (S45 2 w) = end45 w K (rows45.drop 2) := step45 w K (k := 2) (r := ⟨3, 68, 0, 36⟩) rfl (N := N + 67) (fun H => r45_2 w K H (N + 67 + 1)) (h45_3 w K N)
theorem h45_1 (N : Nat) : HeadK VK6 0 kp45 x45 (N + 109) K (S45 1 w) = end45 w K (rows45.drop 1) := step45 w K (k := 1) (r := ⟨2, 68, 0, 35⟩) rfl (N := N + 68) (fun H => r45_1 w K H (N + 68 + 1)) (h45_2 w K N)
theorem h45_0 (N : Nat) : HeadK VK6 0 kp45 x45 (N + 110) K (S45 0 w) = end45 w K (rows45.drop 0) := step45 w K (k := 0) (r := ⟨1, 68, 0, 33⟩) rfl (N := N + 69) (fun H => r45_0 w K H (N + 69 + 1)) (h45_1 w K N)
end
def d45 : AS := S45 0 0
def tabI' : List Int := (datS d45).i.drop 2
def leaf45 (dt : Dt) (K : Exit → AS → Out) : Out := match dt with
  | ⟨w :: k :: r, [], [], [], [], [], []⟩ => bif decide (k = 0) && eqIs r tabI' then end45 w K rows45 else none
  | _ => none
theorem ref45 (w : Int) : refS d45 ⟨w :: 0 :: tabI', [], [], [], [], [], []⟩ = S45 0 w := by kernel_rfl
theorem lp45_ok : LoopS Try.prog x45 (lpG 0 d45 leaf45) := by
  refine LoopS.pat (E := VK6) VK6_s pfl (LpC.none fun _ => rfl) (by rw [key45]; rfl) kp45 fun dt K out h => ?_
  unfold leaf45 at h
  split at h
  · rename_i w k r
    cases hc : (decide (k = 0) && eqIs r tabI') with
    | false => simp [hc] at h
    | true =>
      simp only [hc, cond_true] at h
      simp only [Bool.and_eq_true, decide_eq_true_eq] at hc
      obtain ⟨rfl, h1⟩ := hc
      rw [eqIs_eq h1]
      refine ⟨0 + 110, ?_⟩
      rw [ref45, key45, gcS45]
      exact (h45_0 w K 0).trans h
  · cases h
noncomputable def VK7 : Env := (VK5.marks (fun i => bif Nat.beq i 3 then some [0, 2, 3, 4] else none) fun _ => none).loops fun i => bif Nat.beq i 3 then some (lpG 0 d45 leaf45) else none
theorem VK7_s : VK7.Sound := VK5_s.marks.loops
theorem VK7_lp : LpF VK7 Try.f45 := LpF.of fun x hx f hf => by
  rw [loops45] at hx
  have hx : x = x45 := by simpa using hx
  subst hx
  have e : VK7.lp (keyC x45) = some (lpG 0 d45 leaf45) := by rw [key45]; rfl
  rw [e] at hf
  injection hf with hf
  subst hf
  exact lp45_ok
theorem has45 : hasFn Try.prog 45 Try.f45 := ⟨by kernel_rfl, by kernel_rfl, by kernel_rfl⟩
theorem t45 (w : Int) : evV VK7 Try.f45 200 [u32V w] ⟨[], [], 0⟩ = bif hit45 w rows45 then some (insD (dec45 w rows45).1 (dec45 w rows45).2, hh0) else some (insD 0 zDec, hh0) := by kernel_rfl
/-- What the reference's Decode says of a word. -/
def insV (w : Int) : AV := insD (dec45 w rows45).1 (dec45 w rows45).2
theorem nohit45 (w : Int) : ∀ rs, hit45 w rs = false → dec45 w rs = (0, zDec)
  | [], _ => rfl
  | r :: rs, h => by
    simp only [hit45, dec45] at h ⊢
    cases hf : fitsZ r.fm r.o r.f w with
    | true => rw [hf] at h; cases h
    | false =>
      rw [hf] at h
      exact nohit45 w rs h
def F45 (args : List AV) (l : List (Nat × LB)) : Option (Bool × AV) := match args, l with
  | [.one (.v (.int .u32 w))], [] => some (true, insV w)
  | _, _ => none
theorem q45_ok : CallQ Try.prog 45 (handQ F45) := by
  refine CallQ.hand (E := VK7) VK7_s pfl VK7_lp has45 fun args l v h => ?_
  unfold F45 at h
  split at h
  · rename_i w
    simp only [Option.some.injEq, Prod.mk.injEq, true_and] at h
    subst h
    refine ⟨rfl, 200, hh0, (t45 w).trans ?_⟩
    cases hh : hit45 w rows45 with
    | true => rfl
    | false =>
      unfold insV
      rw [nohit45 w rows45 hh]
      rfl
  · cases h
end Go.Proofs.Ytjpeplidbodjiaa
/- The references' kinds, sorts, what is read and written. -/
namespace Go.Proofs.Ytjpeplidbodjiaa
set_option maxRecDepth 100000
/-- The first one whose test holds. -/
def condL {α : Type} : List (Bool × α) → α → α
  | [], d => d
  | (c, x) :: r, d => bif c then x else condL r d
theorem condL_map {α β : Type} (g : α → β) : ∀ (l : List (Bool × α)) (d : α), condL (l.map fun q => (q.1, g q.2)) (g d) = g (condL l d)
  | [], d => rfl
  | (c, x) :: r, d => by
    simp only [List.map_cons, condL]
    rw [condL_map g r d]
    cases c <;> rfl
def orB (a b : Bool) : Bool := bif a then true else b
def andB (a b : Bool) : Bool := bif a then b else false
def kindL (k : Int) : List (Bool × Int) := [(orB (decide (k < 1)) (decide (k > 69)), 0), (orB (orB (k == 27) (k == 28)) (decide (k ≥ 60)), 2), (orB (k == 35) (k == 36), 3), (andB (decide (k ≥ 48)) (decide (k ≤ 54)), 4), (decide (k ≥ 55), 5), (orB (orB (orB (k == 9) (k == 10)) (k == 41)) (andB (decide (k ≥ 29)) (decide (k ≤ 34))), 6)]
def intO (x : Int) : Out := some (intV x, hh0)
theorem t44 (k : Int) : evV E0' Try.f44 60 [intV k] ⟨[], [], 0⟩ = condL ((kindL k).map fun q => (q.1, intO q.2)) (intO 1) := by kernel_rfl
theorem kindL_eq (k : Int) : condL (kindL k) 1 = kindZ k := by
  unfold kindL kindZ
  simp only [condL, orB, andB]
  by_cases h : k > 69
  · rw [decide_eq_true h]
    cases decide (k < 1) <;> rfl
  · rw [decide_eq_false h]
    by_cases h2 : k ≥ 60
    · rw [decide_eq_true h2]
      cases decide (k < 1) <;> cases k == 27 <;> cases k == 28 <;> rfl
    · rw [decide_eq_false h2, decide_eq_true (show k ≤ 59 by omega)]
      generalize decide (k ≥ 55) = b
      cases b <;> rfl
def sortL (k : Int) : List (Bool × Int) := [(k == 1, 24), (orB (orB (orB (k == 2) (k == 21)) (k == 22)) (andB (decide (k ≥ 27)) (decide (k ≤ 30))), 9), (orB (orB (orB (orB (andB (decide (k ≥ 3)) (decide (k ≤ 20))) (k == 25)) (k == 26)) (k == 31)) (k == 32), 11), (orB (k == 23) (k == 24), 15), (andB (decide (k ≥ 33)) (decide (k ≤ 38)), 3), (andB (decide (k ≥ 40)) (decide (k ≤ 46)), 27), (andB (decide (k ≥ 50)) (decide (k ≤ 54)), 19), (k == 60, 48), (k == 61, 33), (k == 62, 49)]
def sortZ (k : Int) : Int := condL (sortL k) 0
theorem t71 (k : Int) : evV E0' Try.f71 60 [intV k] ⟨[], [], 0⟩ = condL ((sortL k).map fun q => (q.1, intO q.2)) (intO 0) := by kernel_rfl
def F1 (g : Int → Int) (args : List AV) (l : List (Nat × LB)) : Option (Bool × AV) := match args, l with
  | [.one (.v (.int .i64 k))], [] => some (true, intV (g k))
  | _, _ => none
def F1b (g : Int → Bool) (args : List AV) (l : List (Nat × LB)) : Option (Bool × AV) := match args, l with
  | [.one (.v (.int .i64 k))], [] => some (true, boolV (g k))
  | _, _ => none
theorem F1_ok {E : Env} (hE : E.Sound) (hP : E.P = Try.prog) (hlp : ∀ i, E.lp i = none) {f : FuncId} {fn : Func} (hf : hasFn Try.prog f fn) {g : Int → Int} {fuel : Nat} (ht : ∀ k, ∃ h', evV E fn fuel [intV k] ⟨[], [], 0⟩ = some (intV (g k), h')) : CallQ Try.prog f (handQ (F1 g)) := by
  rw [← hP] at hf ⊢
  refine CallQ.hand hE (by rw [hP]; exact pfl) (LpF.none hlp) hf fun args l v h => ?_
  unfold F1 at h
  split at h
  · rename_i k
    simp only [Option.some.injEq, Prod.mk.injEq, true_and] at h
    subst h
    obtain ⟨h', e⟩ := ht k
    exact ⟨rfl, fuel, h', e⟩
  · cases h
theorem F1b_ok {E : Env} (hE : E.Sound) (hP : E.P = Try.prog) (hlp : ∀ i, E.lp i = none) {f : FuncId} {fn : Func} (hf : hasFn Try.prog f fn) {g : Int → Bool} {fuel : Nat} (ht : ∀ k, ∃ h', evV E fn fuel [intV k] ⟨[], [], 0⟩ = some (boolV (g k), h')) : CallQ Try.prog f (handQ (F1b g)) := by
  rw [← hP] at hf ⊢
  refine CallQ.hand hE (by rw [hP]; exact pfl) (LpF.none hlp) hf fun args l v h => ?_
  unfold F1b at h
  split at h
  · rename_i k
    simp only [Option.some.injEq, Prod.mk.injEq, true_and] at h
    subst h
    obtain ⟨h', e⟩ := ht k
    exact ⟨rfl, fuel, h', e⟩
  · cases h
theorem has44 : hasFn Try.prog 44 Try.f44 := ⟨by kernel_rfl, by kernel_rfl, by kernel_rfl⟩
theorem has71 : hasFn Try.prog 71 Try.f71 := ⟨by kernel_rfl, by kernel_rfl, by kernel_rfl⟩
theorem has31 : hasFn Try.prog 31 Try.f31 := ⟨by kernel_rfl, by kernel_rfl, by kernel_rfl⟩
theorem has172 : hasFn Try.prog 172 Try.f172 := ⟨by kernel_rfl, by kernel_rfl, by kernel_rfl⟩
theorem q44_ok : CallQ Try.prog 44 (handQ (F1 kindZ)) := F1_ok E0'_s rfl (fun _ => rfl) has44 (fuel := 60) fun k => ⟨hh0, by rw [t44, condL_map, kindL_eq]; rfl⟩
theorem q71_ok : CallQ Try.prog 71 (handQ (F1 sortZ)) := F1_ok E0'_s rfl (fun _ => rfl) has71 (fuel := 60) fun k => ⟨hh0, by rw [t71, condL_map]; rfl⟩
theorem q31_ok : CallQ Try.prog 31 (handQ (F1b pureK)) := F1b_ok E0'_s rfl (fun _ => rfl) has31 (fuel := 60) fun k => ⟨hh0, by kernel_rfl⟩
theorem all62 (P : Int → Bool) (h : (List.range 63).all (fun n => P (n : Int)) = true) {k : Int} (h0 : 0 ≤ k) (h1 : k ≤ 62) : P k = true := by
  rw [List.all_eq_true] at h
  have := h k.toNat (List.mem_range.2 (by omega))
  rwa [show ((k.toNat : Nat) : Int) = k by omega] at this
theorem andB_false (b : Bool) : andB b false = false := by cases b <;> rfl
theorem cond_ff {α : Type} (b : Bool) (x y : α) : (bif (bif b then false else false) then x else y) = y := by cases b <;> rfl
theorem sortZ_eq (k : Int) : sortZ k = kcase k 24 9 9 9 9 15 15 11 3 27 19 48 33 49 0 := by
  by_cases h : 0 ≤ k ∧ k ≤ 62
  · have := all62 (fun k => sortZ k == kcase k 24 9 9 9 9 15 15 11 3 27 19 48 33 49 0) (by kernel_rfl) h.1 h.2
    exact eq_of_beq this
  · rcases Int.lt_or_le k 0 with h0 | h0
    · simp only [sortZ, sortL, condL, kcase, orB, andB, (show (k == 1) = false by rw [beq_eq_false_iff_ne]; omega), (show (k == 2) = false by rw [beq_eq_false_iff_ne]; omega), (show (k == 21) = false by rw [beq_eq_false_iff_ne]; omega), (show (k == 22) = false by rw [beq_eq_false_iff_ne]; omega), (show (k == 25) = false by rw [beq_eq_false_iff_ne]; omega), (show (k == 26) = false by rw [beq_eq_false_iff_ne]; omega), (show (k == 31) = false by rw [beq_eq_false_iff_ne]; omega), (show (k == 32) = false by rw [beq_eq_false_iff_ne]; omega), (show (k == 23) = false by rw [beq_eq_false_iff_ne]; omega), (show (k == 24) = false by rw [beq_eq_false_iff_ne]; omega), (show (k == 60) = false by rw [beq_eq_false_iff_ne]; omega), (show (k == 61) = false by rw [beq_eq_false_iff_ne]; omega), (show (k == 62) = false by rw [beq_eq_false_iff_ne]; omega), (decide_eq_false (show ¬ k ≥ 27 by omega)), (decide_eq_false (show ¬ k ≥ 3 by omega)), (decide_eq_false (show ¬ k ≥ 33 by omega)), (decide_eq_false (show ¬ k ≥ 40 by omega)), (decide_eq_false (show ¬ k ≥ 50 by omega)), (decide_eq_false (show ¬ k ≥ 3 by omega)), cond_false, cond_true]
    · have h1 : 62 < k := by omega
      simp only [sortZ, sortL, condL, kcase, orB, andB, (show (k == 1) = false by rw [beq_eq_false_iff_ne]; omega), (show (k == 2) = false by rw [beq_eq_false_iff_ne]; omega), (show (k == 21) = false by rw [beq_eq_false_iff_ne]; omega), (show (k == 22) = false by rw [beq_eq_false_iff_ne]; omega), (show (k == 25) = false by rw [beq_eq_false_iff_ne]; omega), (show (k == 26) = false by rw [beq_eq_false_iff_ne]; omega), (show (k == 31) = false by rw [beq_eq_false_iff_ne]; omega), (show (k == 32) = false by rw [beq_eq_false_iff_ne]; omega), (show (k == 23) = false by rw [beq_eq_false_iff_ne]; omega), (show (k == 24) = false by rw [beq_eq_false_iff_ne]; omega), (show (k == 60) = false by rw [beq_eq_false_iff_ne]; omega), (show (k == 61) = false by rw [beq_eq_false_iff_ne]; omega), (show (k == 62) = false by rw [beq_eq_false_iff_ne]; omega), (decide_eq_false (show ¬ k ≤ 30 by omega)), (decide_eq_false (show ¬ k ≤ 20 by omega)), (decide_eq_false (show ¬ k ≤ 38 by omega)), (decide_eq_false (show ¬ k ≤ 46 by omega)), (decide_eq_false (show ¬ k ≤ 54 by omega)), (decide_eq_false (show ¬ k ≤ 32 by omega)), cond_false, cond_true]
      cases decide (k ≥ 27) <;> cases decide (k ≥ 3) <;> cases decide (k ≥ 33) <;> cases decide (k ≥ 40) <;> cases decide (k ≥ 50) <;> rfl
/-- Has a number a bit? -/
def bitB (s b : Int) : Bool := IntKind.i64.wrap (BitVec.ofInt IntKind.i64.bits s &&& BitVec.ofInt IntKind.i64.bits b).toNat != 0
theorem bit_map {α : Type} (g : Int → α) (g' : Shp → α) (h : g 24 = g' ⟨false, false, false, true, true, true⟩ ∧ g 9 = g' ⟨true, false, false, true, false, true⟩ ∧ g 15 = g' ⟨true, true, true, true, false, true⟩ ∧ g 11 = g' ⟨true, true, false, true, false, true⟩ ∧ g 3 = g' ⟨true, true, false, false, false, true⟩ ∧ g 27 = g' ⟨true, true, false, true, true, true⟩ ∧ g 19 = g' ⟨true, true, false, false, true, true⟩ ∧ g 48 = g' ⟨false, false, false, false, true, true⟩ ∧ g 33 = g' ⟨true, false, false, false, false, true⟩ ∧ g 49 = g' ⟨true, false, false, false, true, true⟩ ∧ g 0 = g' ⟨false, false, false, false, false, false⟩) (k : Int) : g (sortZ k) = g' (shpK k) := by
  rw [sortZ_eq]
  unfold shpK
  rw [← kcase_map g, ← kcase_map g']
  obtain ⟨h1, h2, h3, h4, h5, h6, h7, h8, h9, h10, h11⟩ := h
  rw [h1, h2, h3, h4, h5, h6, h7, h8, h9, h10, h11]
theorem bit1 (k : Int) : bitB (sortZ k) 1 = (shpK k).a := bit_map (fun s => bitB s 1) (fun x => x.a) (by decide +kernel) k
theorem bit2 (k : Int) : bitB (sortZ k) 2 = (shpK k).b := bit_map (fun s => bitB s 2) (fun x => x.b) (by decide +kernel) k
theorem bit4 (k : Int) : bitB (sortZ k) 4 = (shpK k).d := bit_map (fun s => bitB s 4) (fun x => x.d) (by decide +kernel) k
theorem bit8 (k : Int) : bitB (sortZ k) 8 = (shpK k).w := bit_map (fun s => bitB s 8) (fun x => x.w) (by decide +kernel) k
theorem bit12 (k : Int) : bitB (sortZ k) 12 = ((shpK k).d || (shpK k).w) := bit_map (fun s => bitB s 12) (fun x => x.d || x.w) (by decide +kernel) k
theorem bit16 (k : Int) : bitB (sortZ k) 16 = (shpK k).i := bit_map (fun s => bitB s 16) (fun x => x.i) (by decide +kernel) k
theorem bit0 (k : Int) : (sortZ k == 0) = !(shpK k).ok := bit_map (fun s => s == 0) (fun x => !x.ok) (by decide +kernel) k
/-- Is it an end? -/
def endK (k : Int) : Bool := bitB (sortZ k) 32
noncomputable def VM1 : Env := E0'.sum 44 (handQ (F1 kindZ))
theorem VM1_s : VM1.Sound := E0'_s.sumC q44_ok
noncomputable def VM2 : Env := VM1.sum 71 (handQ (F1 sortZ))
theorem VM2_s : VM2.Sound := VM1_s.sumC q71_ok
noncomputable def VM3 : Env := VM2.sum 31 (handQ (F1b pureK))
theorem VM3_s : VM3.Sound := VM2_s.sumC q31_ok
theorem kindZ_cases (k : Int) : kindZ k = 0 ∨ kindZ k = 1 ∨ kindZ k = 2 ∨ kindZ k = 3 ∨ kindZ k = 4 ∨ kindZ k = 5 ∨ kindZ k = 6 := by
  rw [← kindL_eq]
  have key : ∀ l : List (Bool × Int), (∀ q ∈ l, q.2 = 0 ∨ q.2 = 1 ∨ q.2 = 2 ∨ q.2 = 3 ∨ q.2 = 4 ∨ q.2 = 5 ∨ q.2 = 6) → (condL l 1 = 0 ∨ condL l 1 = 1 ∨ condL l 1 = 2 ∨ condL l 1 = 3 ∨ condL l 1 = 4 ∨ condL l 1 = 5 ∨ condL l 1 = 6) := by
    intro l
    induction l with
    | nil => intro _; exact .inr (.inl rfl)
    | cons q r ih =>
      intro h
      obtain ⟨c, x⟩ := q
      simp only [condL]
      cases c with
      | true => exact h _ (List.mem_cons_self ..)
      | false => exact ih fun q hq => h q (List.mem_cons_of_mem _ hq)
  apply key
  intro q hq
  simp only [kindL, List.mem_cons, List.not_mem_nil, or_false] at hq
  rcases hq with rfl | rfl | rfl | rfl | rfl | rfl <;> simp
theorem t172 (k : Int) : evV VM3 Try.f172 60 [intV k] ⟨[], [], 0⟩ = some (boolV (bif kindZ k == 1 then true else decide (kindZ k ≥ 4)), hh0) := by kernel_rfl
theorem plainZ_eq (k : Int) : (bif kindZ k == 1 then true else decide (kindZ k ≥ 4)) = plainZ k := by
  unfold plainZ
  rcases kindZ_cases k with h | h | h | h | h | h | h <;> rw [h] <;> rfl
theorem q172_ok : CallQ Try.prog 172 (handQ (F1b plainZ)) := F1b_ok VM3_s rfl (fun _ => rfl) has172 (fuel := 60) fun k => ⟨hh0, by rw [t172, plainZ_eq]⟩
noncomputable def VM4 : Env := VM3.sum 172 (handQ (F1b plainZ))
theorem VM4_s : VM4.Sound := VM3_s.sumC q172_ok
noncomputable def VM5 : Env := VM4.sum 45 (handQ F45)
theorem VM5_s : VM5.Sound := VM4_s.sumC q45_ok
def vOp (w : Int) : Int := (dec45 w rows45).1
def plainV (w : Int) : Bool := plainZ (vOp w)
def jumpsV (w : Int) : Bool := kindZ (vOp w) == 2
theorem has121 : hasFn Try.prog 121 Try.f121 := ⟨by kernel_rfl, by kernel_rfl, by kernel_rfl⟩
theorem t121 (w : Int) : evV VM5 Try.f121 60 [u32V w] ⟨[], [], 0⟩ = bif plainV w then intO 1 else bif jumpsV w then intO 2 else intO 0 := by kernel_rfl
/-- A word's sort: 1 plain, 2 it jumps. -/
def sortV (w : Int) : Int := bif plainV w then 1 else bif jumpsV w then 2 else 0
def F121 (args : List AV) (l : List (Nat × LB)) : Option (Bool × AV) := match args, l with
  | [.one (.v (.int .u32 w))], [] => some (true, intV (sortV w))
  | _, _ => none
theorem q121_ok : CallQ Try.prog 121 (handQ F121) := by
  refine CallQ.hand (E := VM5) VM5_s pfl (LpF.none fun _ => rfl) has121 fun args l v h => ?_
  unfold F121 at h
  split at h
  · rename_i w
    simp only [Option.some.injEq, Prod.mk.injEq, true_and] at h
    subst h
    refine ⟨rfl, 60, hh0, (t121 w).trans ?_⟩
    unfold sortV
    cases plainV w <;> cases jumpsV w <;> rfl
  · cases h
noncomputable def VM6 : Env := VM5.sum 121 (handQ F121)
theorem VM6_s : VM6.Sound := VM5_s.sumC q121_ok
end Go.Proofs.Ytjpeplidbodjiaa
/- The references' Reads, Writes, fields; block.Right and Jumps of theirs. -/
namespace Go.Proofs.Ytjpeplidbodjiaa
set_option maxRecDepth 100000
theorem has30 : hasFn Try.prog 30 Try.f30 := ⟨by kernel_rfl, by kernel_rfl, by kernel_rfl⟩
theorem t30 (k D A B I At : Int) : evC VM3 Try.f30 100 [opA k D A B I At] ⟨[], [], 0⟩ listG =
    bif bitB (sortZ k) 1 then (bif bitB (sortZ k) 2 then (bif bitB (sortZ k) 4 then tupO [A, B, D] else tupO [A, B]) else (bif bitB (sortZ k) 4 then tupO [A, D] else tupO [A]))
    else (bif bitB (sortZ k) 2 then (bif bitB (sortZ k) 4 then tupO [B, D] else tupO [B]) else (bif bitB (sortZ k) 4 then tupO [D] else tupO [])) := by kernel_rfl
theorem t30' (k D A B I At : Int) : evC VM3 Try.f30 100 [opA k D A B I At] ⟨[], [], 0⟩ listG = some (tupL (readsK k D A B), ⟨[], [], 0⟩) := by
  rw [t30, bit1, bit2, bit4]
  unfold readsK
  cases (shpK k).a <;> cases (shpK k).b <;> cases (shpK k).d <;> rfl
theorem c30_ok : CallS Try.prog 30 c50 := by
  refine CallS.ints (E := VM3) VM3_s pfl (LpF.none fun _ => rfl) has30 fun args h v h' hc => ?_
  unfold c50 at hc
  split at hc
  · rename_i k D A B I At
    simp only [Option.some.injEq, Prod.mk.injEq, true_and] at hc
    refine ⟨fun x hx => ?_, 100, readsK k D A B, t30' k D A B I At, hc.1.symm, hc.2.symm⟩
    have : x = opA k D A B I At := by simpa using hx
    subst this
    rfl
  · cases hc
def bitZ (s b : Int) : Bool := IntKind.i64.wrap (BitVec.ofInt IntKind.i64.bits s &&& BitVec.ofInt IntKind.i64.bits b).toNat == 0
theorem bitZ_eq (s b : Int) : bitZ s b = !bitB s b := by
  unfold bitZ bitB bne
  rw [Bool.not_not]
theorem t52 (k D A B I t : Int) : evV VM3 Try.f52 100 [opA k D A B I t] ⟨[], [], 0⟩ = bif bitB (sortZ k) 8 then intO D else intO (-1) := by kernel_rfl
def F52 (args : List AV) (l : List (Nat × LB)) : Option (Bool × AV) := match args, l with
  | [.agg [.v (.int .i64 k), .v (.int .i64 D), .v (.int .i64 _), .v (.int .i64 _), .v (.int .u32 _), .v (.int .i64 _)]], [] => some (true, intV (writesK k D))
  | _, _ => none
theorem has52 : hasFn Try.prog 52 Try.f52 := ⟨by kernel_rfl, by kernel_rfl, by kernel_rfl⟩
theorem q52_ok : CallQ Try.prog 52 (handQ F52) := by
  refine CallQ.hand (E := VM3) VM3_s pfl (LpF.none fun _ => rfl) has52 fun args l v h => ?_
  unfold F52 at h
  split at h
  · rename_i k D A B I t
    simp only [Option.some.injEq, Prod.mk.injEq, true_and] at h
    subst h
    refine ⟨rfl, 100, hh0, (t52 k D A B I t).trans ?_⟩
    rw [bit8]
    unfold writesK intO
    cases (shpK k).w <;> rfl
  · cases h
def outR (k D A B : Int) : Bool := orB (orB (orB (orB (orB (orB (sortZ k == 0) (decide (D < 0))) (decide (D > 63))) (decide (A < 0))) (decide (A > 63))) (decide (B < 0))) (decide (B > 63))
def badR (k D A B : Int) : Bool := orB (orB (orB (andB (bitZ (sortZ k) 1) (A != 0)) (andB (bitZ (sortZ k) 2) (B != 0))) (andB (bitZ (sortZ k) 12) (D != 0))) (andB (bitB (sortZ k) 8) (D == 0))
theorem t101 (k D A B I t : Int) : evV VM3 Try.f101 100 [opA k D A B I t] ⟨[], [], 0⟩ =
    bif outR k D A B then some (boolV false, hh0) else bif badR k D A B then some (boolV false, hh0) else some (boolV (orB (bitB (sortZ k) 16) (I == 0)), hh0) := by kernel_rfl
/-- Are an operation's fields such as they may be? -/
def fldK (k D A B I : Int) : Bool := (shpK k).ok && (placeB A (shpK k).a && (placeB B (shpK k).b && (placeB D ((shpK k).d || (shpK k).w) && (!(!(shpK k).i && I != 0) && !((shpK k).w && D == 0)))))
theorem placeB_out {p : Int} (b : Bool) (h : p < 0 ∨ p > 63) : placeB p b = false := by
  unfold placeB
  cases b with
  | true =>
    rcases h with h | h
    · rw [decide_eq_false (show ¬ p ≥ 0 by omega)]
      rfl
    · rw [decide_eq_false (show ¬ p ≤ 63 by omega)]
      cases decide (p ≥ 0) <;> rfl
  | false =>
    simp only [cond_false]
    rw [beq_eq_false_iff_ne]
    omega
theorem placeB_inn {p : Int} (b : Bool) (h0 : 0 ≤ p) (h1 : p ≤ 63) : placeB p b = (b || p == 0) := by
  unfold placeB
  cases b with
  | true =>
    rw [decide_eq_true (show p ≥ 0 from h0), decide_eq_true h1]
    rfl
  | false => rfl
theorem fld_eq (k D A B I : Int) : (bif outR k D A B then false else bif badR k D A B then false else orB (bitB (sortZ k) 16) (I == 0)) = fldK k D A B I := by
  unfold outR badR fldK
  rw [bit0, bitZ_eq, bitZ_eq, bitZ_eq, bit1, bit2, bit12, bit8, bit16]
  by_cases hD : D < 0 ∨ D > 63
  · rw [placeB_out _ hD]
    have e : orB (orB (!(shpK k).ok) (decide (D < 0))) (decide (D > 63)) = true := by
      rcases hD with h | h
      · rw [decide_eq_true h]
        cases (shpK k).ok <;> rfl
      · rw [decide_eq_true h]
        cases (shpK k).ok <;> cases decide (D < 0) <;> rfl
    rw [e]
    cases (shpK k).ok <;> cases placeB A (shpK k).a <;> cases placeB B (shpK k).b <;> rfl
  · by_cases hA : A < 0 ∨ A > 63
    · rw [placeB_out _ hA]
      have e : ∀ b, orB (orB b (decide (A < 0))) (decide (A > 63)) = true := by
        intro b
        rcases hA with h | h
        · rw [decide_eq_true h]
          cases b <;> rfl
        · rw [decide_eq_true h]
          cases b <;> cases decide (A < 0) <;> rfl
      rw [e]
      cases (shpK k).ok <;> rfl
    · by_cases hB : B < 0 ∨ B > 63
      · rw [placeB_out _ hB]
        have e : ∀ b, orB (orB b (decide (B < 0))) (decide (B > 63)) = true := by
          intro b
          rcases hB with h | h
          · rw [decide_eq_true h]
            cases b <;> rfl
          · rw [decide_eq_true h]
            cases b <;> cases decide (B < 0) <;> rfl
        rw [e]
        cases (shpK k).ok <;> cases placeB A (shpK k).a <;> rfl
      · rw [placeB_inn _ (by omega) (by omega), placeB_inn _ (by omega) (by omega), placeB_inn _ (by omega) (by omega)]
        rw [decide_eq_false (show ¬ D < 0 by omega), decide_eq_false (show ¬ D > 63 by omega), decide_eq_false (show ¬ A < 0 by omega), decide_eq_false (show ¬ A > 63 by omega), decide_eq_false (show ¬ B < 0 by omega), decide_eq_false (show ¬ B > 63 by omega)]
        unfold bne
        cases (shpK k).ok <;> cases (shpK k).a <;> cases (shpK k).b <;> cases (shpK k).d <;> cases (shpK k).w <;> cases (shpK k).i <;> cases (A == 0) <;> cases (B == 0) <;> cases (D == 0) <;> cases (I == 0) <;> rfl
def F101 (args : List AV) (l : List (Nat × LB)) : Option (Bool × AV) := match args, l with
  | [.agg [.v (.int .i64 k), .v (.int .i64 D), .v (.int .i64 A), .v (.int .i64 B), .v (.int .u32 I), .v (.int .i64 _)]], [] => some (true, boolV (fldK k D A B I))
  | _, _ => none
theorem has101 : hasFn Try.prog 101 Try.f101 := ⟨by kernel_rfl, by kernel_rfl, by kernel_rfl⟩
theorem q101_ok : CallQ Try.prog 101 (handQ F101) := by
  refine CallQ.hand (E := VM3) VM3_s pfl (LpF.none fun _ => rfl) has101 fun args l v h => ?_
  unfold F101 at h
  split at h
  · rename_i k D A B I t
    simp only [Option.some.injEq, Prod.mk.injEq, true_and] at h
    subst h
    refine ⟨rfl, 100, hh0, (t101 k D A B I t).trans ?_⟩
    rw [← fld_eq]
    cases outR k D A B <;> cases badR k D A B <;> rfl
  · cases h
/-! The references' Right and Jumps. -/
noncomputable def x59 : Code := loopF Try.f59
theorem loops59 : loopsC (bodyC Try.f59) = [x59] := by kernel_rfl
theorem key59 : keyC x59 = 5 := by kernel_rfl
noncomputable def VN1 : Env := VM6.marks (fun i => bif Nat.beq i 5 then some [0, 3, 4] else none) fun _ => none
theorem VN1_s : VN1.Sound := VM6_s.marks
def kp59 : Exit → Option (List Nat)
  | .ret => some [2]
  | .exit _ => some []
  | _ => none
def S59 (i nn : Int) (n : Nat) (f : Nat → Nat → Int) (o : Nat → Nat → ByteArray) : AS := ⟨.one (.ow 0) :: .one .any :: .one .any :: intV nn :: intV i :: anys 31, ⟨[], lW n f o, 1⟩⟩
def R59 (n : Nat) (f : Nat → Nat → Int) (o : Nat → Nat → ByteArray) : AS := ⟨.one .any :: .one .any :: .one (.v (.bool false)) :: anys 33, ⟨[], lW n f o, 1⟩⟩
def X59 (n : Nat) (f : Nat → Nat → Int) (o : Nat → Nat → ByteArray) : AS := ⟨anys 36, ⟨[], lW n f o, 1⟩⟩
/-- Is a word none that may stand there? -/
def offV (nn i v : Int) : Bool := andB (sortV v != 1) (orB (sortV v != 2) (i != IntKind.i64.wrap (nn - 2)))
section
variable (n : Nat) (f : Nat → Nat → Int) (o : Nat → Nat → ByteArray) (K : Exit → AS → Out)
theorem gcS59 (i nn : Int) (H : AS → Out) : gc 1 (VN1.lv 5) (S59 i nn n f o) H = H (S59 i nn n f o) := by kernel_rfl
theorem rnd59 (i nn : Int) (H : AS → Out) (N : Nat) : ev VN1 1 (N + 40) x59 (S59 i nn n f o) (rkG 1 (VN1.lv 5) kp59 H K) =
    bif decide (i < nn) then ixZ 1 n i (bif offV nn i (f i.toNat 0) then K .ret (R59 n f o) else H (S59 (IntKind.i64.wrap (i + 1)) nn n f o)) else K (.exit 0) (X59 n f o) := by kernel_rfl
def goodV (n : Nat) (f : Nat → Nat → Int) : Nat → Nat → Bool
  | 0, _ => true
  | c + 1, i => !offV (n : Int) (i : Int) (f i 0) && goodV n f c (i + 1)
theorem head59 (hn : n ≤ 1000) : ∀ (c i N : Nat), i + c = n → HeadK VN1 1 kp59 x59 (N + c + 40) K (S59 i n n f o) = bif goodV n f c i then K (.exit 0) (X59 n f o) else K .ret (R59 n f o)
  | 0, i, N, h => by
    rw [show N + 0 + 40 = (N + 39) + 1 by omega, HeadK_succ (by rw [key59]; rfl), key59]
    refine (rnd59 n f o K i n _ N).trans ?_
    rw [decide_eq_false (show ¬ (i : Int) < (n : Int) by omega)]
    simp only [cond_false, goodV, cond_true]
  | c + 1, i, N, h => by
    rw [show N + (c + 1) + 40 = (N + c + 40) + 1 by omega, HeadK_succ (by rw [key59]; rfl), key59]
    refine (rnd59 n f o K i n _ (N + c + 1)).trans ?_
    have e4 : IntKind.i64.wrap ((i : Int) + 1) = ((i + 1 : Nat) : Int) := by rw [IntKind.wrap_i64]; omega
    have e6 : (i : Int).toNat = i := by omega
    have ih := head59 hn c (i + 1) N (by omega)
    rw [ixZ_in (by omega) (by omega) (by decide), e4, e6, decide_eq_true (show (i : Int) < (n : Int) by omega), goodV]
    generalize HeadK VN1 1 kp59 x59 (N + c + 40) K (S59 ((i + 1 : Nat) : Int) n n f o) = H1 at ih ⊢
    rw [ih]
    generalize K .ret (R59 n f o) = y1
    generalize K (.exit 0) (X59 n f o) = y2
    cases offV (n : Int) (i : Int) (f i 0) <;> cases goodV n f c (i + 1) <;> rfl
end
def d59 : AS := S59 0 0 0 (fun _ _ => 0) fun _ _ => ByteArray.empty
def leaf59 (dt : Dt) (K : Exit → AS → Out) : Out := match dt with
  | ⟨[nn, i], [], [], [n], [f], [o], []⟩ => bif decide (i = 0) && decide (nn = (n : Int)) && Nat.ble n 1000 then (bif goodV n f n 0 then K (.exit 0) (X59 n f o) else K .ret (R59 n f o)) else none
  | _ => none
theorem ref59 (i nn : Int) (n : Nat) (f : Nat → Nat → Int) (o : Nat → Nat → ByteArray) : refS d59 ⟨[nn, i], [], [], [n], [f], [o], []⟩ = S59 i nn n f o := by kernel_rfl
theorem lp59_ok : LoopS Try.prog x59 (lpG 1 d59 leaf59) := by
  refine LoopS.pat (E := VN1) VN1_s pfl (LpC.none fun _ => rfl) (by rw [key59]; rfl) kp59 fun dt K out h => ?_
  unfold leaf59 at h
  split at h
  · rename_i nn i n f o
    cases hc : (decide (i = 0) && decide (nn = (n : Int)) && Nat.ble n 1000) with
    | false => simp [hc] at h
    | true =>
      simp only [hc, cond_true] at h
      simp only [Bool.and_eq_true, decide_eq_true_eq, Nat.ble_eq] at hc
      obtain ⟨⟨rfl, rfl⟩, h1⟩ := hc
      refine ⟨0 + n + 40, ?_⟩
      rw [ref59, key59, gcS59]
      exact (head59 n f o K h1 n 0 0 (by omega)).trans h
  · cases h
noncomputable def VN2 : Env := (VM6.marks (fun i => bif Nat.beq i 5 then some [0, 3, 4] else none) fun _ => none).loops fun i => bif Nat.beq i 5 then some (lpG 1 d59 leaf59) else none
theorem VN2_s : VN2.Sound := VM6_s.marks.loops
theorem VN2_lp : LpF VN2 Try.f59 := LpF.of fun x hx f hf => by
  rw [loops59] at hx
  have hx : x = x59 := by simpa using hx
  subst hx
  have e : VN2.lp (keyC x59) = some (lpG 1 d59 leaf59) := by rw [key59]; rfl
  rw [e] at hf
  injection hf with hf
  subst hf
  exact lp59_ok
theorem has59 : hasFn Try.prog 59 Try.f59 := ⟨by kernel_rfl, by kernel_rfl, by kernel_rfl⟩
theorem has64 : hasFn Try.prog 64 Try.f64 := ⟨by kernel_rfl, by kernel_rfl, by kernel_rfl⟩
theorem t59 (n : Nat) (f : Nat → Nat → Int) (o : Nat → Nat → ByteArray) : evV VN2 Try.f59 100 [.one (.ow 0)] ⟨[], lW n f o, 1⟩ =
    bif orB (decide ((n : Int) < 1)) (decide ((n : Int) > 16)) then some (boolV false, hh0) else bif decide ((0 : Int) = 0) && decide ((n : Int) = (n : Int)) && Nat.ble n 1000 then (bif goodV n f n 0 then some (boolV true, hh0) else some (boolV false, hh0)) else none := by kernel_rfl
def okV (n i : Nat) (v : Int) : Bool := plainV v || (decide ((i : Int) = (n : Int) - 2) && jumpsV v)
def okL (n : Nat) : Nat → List Int → Bool
  | _, [] => true
  | i, v :: r => okV n i v && okL n (i + 1) r
/-- What may be a block's words, by the references. -/
def rightV (l : List Int) : Bool := bif decide ((l.length : Int) < 1) then false else bif decide ((l.length : Int) > 16) then false else okL l.length 0 l
theorem off_ok (n i : Nat) (v : Int) (hn : n ≤ 1000) : (!offV (n : Int) (i : Int) v) = okV n i v := by
  have e : IntKind.i64.wrap ((n : Int) - 2) = (n : Int) - 2 := by rw [IntKind.wrap_i64]; omega
  unfold offV okV sortV
  rw [e]
  have e2 : ((i : Int) != (n : Int) - 2) = !decide ((i : Int) = (n : Int) - 2) := by
    by_cases h : (i : Int) = (n : Int) - 2
    · rw [decide_eq_true h, h]
      simp
    · rw [decide_eq_false h, bne_iff_ne.2 h]
      rfl
  rw [e2]
  cases plainV v <;> cases jumpsV v <;> cases decide ((i : Int) = (n : Int) - 2) <;> rfl
theorem goodV_eq (n : Nat) (hn : n ≤ 1000) (f : Nat → Nat → Int) : ∀ c i, goodV n f c i = okL n i (tabI f c i)
  | 0, _ => rfl
  | c + 1, i => by
    have e : tabI f (c + 1) i = f i 0 :: tabI f c (i + 1) := rfl
    rw [goodV, goodV_eq n hn f c (i + 1), e, okL, off_ok n i _ hn]
theorem t59' (n : Nat) (f : Nat → Nat → Int) (o : Nat → Nat → ByteArray) : evV VN2 Try.f59 100 [.one (.ow 0)] ⟨[], lW n f o, 1⟩ = some (boolV (rightV (tabI f n 0)), hh0) := by
  rw [t59]
  unfold rightV
  rw [tabI_len]
  by_cases h1 : (n : Int) < 1
  · rw [decide_eq_true h1]
    rfl
  · by_cases h2 : (n : Int) > 16
    · rw [decide_eq_false h1, decide_eq_true h2]
      rfl
    · rw [decide_eq_false h1, decide_eq_false h2, decide_eq_true (rfl : (n : Int) = (n : Int)), show Nat.ble n 1000 = true by rw [Nat.ble_eq]; omega, goodV_eq n (by omega)]
      cases okL n 0 (tabI f n 0) <;> rfl
def F59 (args : List AV) (l : List (Nat × LB)) : Option (Bool × AV) := match args, l with
  | [.one (.ow 0)], [(0, la)] => (match asW la with
    | some (n, f) => some (true, boolV (rightV (tabI f n 0)))
    | none => none)
  | _, _ => none
theorem q59_ok : CallQ Try.prog 59 (handQ F59) := by
  refine CallQ.hand (E := VN2) VN2_s pfl VN2_lp has59 fun args l v h => ?_
  unfold F59 at h
  split at h
  · rename_i la
    split at h
    · rename_i n f ha
      obtain ⟨o, rfl⟩ := asW_spec ha
      simp only [Option.some.injEq, Prod.mk.injEq, true_and] at h
      subst h
      exact ⟨rfl, 100, hh0, t59' n f o⟩
    · cases h
  · cases h
noncomputable def VN3 : Env := VM6.sum 59 (handQ F59)
theorem VN3_s : VN3.Sound := VM6_s.sumC q59_ok
end Go.Proofs.Ytjpeplidbodjiaa
/- ir.Check by the reference: its loops. -/
namespace Go.Proofs.Ytjpeplidbodjiaa
set_option maxRecDepth 100000
noncomputable def VO1 : Env := VN3.sum 101 (handQ F101)
theorem VO1_s : VO1.Sound := VN3_s.sumC q101_ok
noncomputable def VO2 : Env := VO1.sum 52 (handQ F52)
theorem VO2_s : VO2.Sound := VO1_s.sumC q52_ok
noncomputable def VO3 : Env := VO2.add 30 c50 noQ false true
theorem VO3_s : VO3.Sound := VO2_s.add c30_ok (noQ_CallQ has30) fun _ => c50_keeps
noncomputable def x49a : Code := nthL (loopsC (bodyC Try.f49)) 0
noncomputable def x49b : Code := nthL (loopsC (bodyC Try.f49)) 1
theorem key49a : keyC x49a = 6 := by kernel_rfl
theorem key49b : keyC x49b = 13 := by kernel_rfl
theorem loops49 : loopsC (bodyC Try.f49) = [x49a, x49b] := by kernel_rfl
theorem loops49a : loopsC x49a = [x49b] := by kernel_rfl
def lv49 : Nat → Option (List Nat) := fun i => bif Nat.beq i 6 then some [1, 3, 4, 5] else bif Nat.beq i 13 then some [1, 3, 4, 5, 6, 7, 8] else none
noncomputable def VO4 : Env := VO3.marks lv49 fun _ => none
theorem VO4_s : VO4.Sound := VO3_s.marks
def kp49b : Exit → Option (List Nat)
  | .ret => some [2]
  | .exit _ => some [1, 3, 4, 5, 6]
  | _ => none
def kp49a : Exit → Option (List Nat)
  | .ret => some [2]
  | .exit _ => some []
  | _ => none
def b49 (pc : Int) (F : Nat → Nat → Bool) (k D A B I t : Int) : List (Nat × TypeId × BB) := [(4, 31, .cells (opC k D A B I t)), (3, 42, .bools 1 64 F), (2, 26, .cells [.v (.int .u32 pc), .ow 0, .ow 1])]
def S49b (pc nn i j : Int) (F : Nat → Nat → Bool) (k D A B I t : Int) (r : Nat) (q : Nat → Nat → Int) (oo : Nat → Nat → ByteArray) (l : List (Nat × LB)) : AS :=
  ⟨.one .any :: .one (.pt 2 0) :: .one .any :: intV nn :: .one (.pt 3 0) :: intV i :: .one (.pt 4 0) :: .one (.ow 5) :: intV j :: anys 131, ⟨b49 pc F k D A B I t, (5, ⟨true, 3, .row [.i .i64] r q oo⟩) :: l, 6⟩⟩
def X49b (pc nn i : Int) (F : Nat → Nat → Bool) (k D A B I t : Int) (l : List (Nat × LB)) : AS :=
  ⟨.one .any :: .one (.pt 2 0) :: .one .any :: intV nn :: .one (.pt 3 0) :: intV i :: .one (.pt 4 0) :: anys 133, ⟨b49 pc F k D A B I t, l, 5⟩⟩
def R49 (l : List (Nat × LB)) : AS := ⟨.one .any :: .one .any :: .one (.v (.bool false)) :: anys 137, ⟨[], l, 2⟩⟩
def X49a (l : List (Nat × LB)) : AS := ⟨anys 140, ⟨[], l, 2⟩⟩
def S49a (pc nn i : Int) (F : Nat → Nat → Bool) (l : List (Nat × LB)) : AS :=
  ⟨.one .any :: .one (.pt 2 0) :: .one .any :: intV nn :: .one (.pt 3 0) :: intV i :: anys 134, ⟨[(3, 42, .bools 1 64 F), (2, 26, .cells [.v (.int .u32 pc), .ow 0, .ow 1])], l, 4⟩⟩
section
variable (pc nn i : Int) (F : Nat → Nat → Bool) (k D A B I t : Int) (r : Nat) (q : Nat → Nat → Int) (oo : Nat → Nat → ByteArray) (nW : Nat) (f : Nat → Nat → Int) (oW : Nat → Nat → ByteArray) (n : Nat) (g : Nat → Nat → Int) (o : Nat → Nat → ByteArray) (K : Exit → AS → Out)
theorem gcS49b (j : Int) (H : AS → Out) : gc 2 (VO4.lv 13) (S49b pc nn i j F k D A B I t r q oo (lB nW f oW n g o)) H = H (S49b pc nn i j F k D A B I t r q oo (lB nW f oW n g o)) := by kernel_rfl
theorem rnd49b (j : Int) (H : AS → Out) (N : Nat) : ev VO4 2 (N + 40) x49b (S49b pc nn i j F k D A B I t r q oo (lB nW f oW n g o)) (rkG 2 (VO4.lv 13) kp49b H K) =
    bif decide (j < (r : Int)) then ixZ 1 r j (bif decide (q j.toNat 0 ≥ 34) then ixZ 1 r j (ix64 (q j.toNat 0) (bif (bif true then !F (q j.toNat 0).toNat 0 else false) then K .ret (R49 (lB nW f oW n g o)) else H (S49b pc nn i (IntKind.i64.wrap (j + 1)) F k D A B I t r q oo (lB nW f oW n g o))))
      else H (S49b pc nn i (IntKind.i64.wrap (j + 1)) F k D A B I t r q oo (lB nW f oW n g o))) else K (.exit 2) (X49b pc nn i F k D A B I t (lB nW f oW n g o)) := by kernel_rfl
theorem head49b (hr : r ≤ 1000) : ∀ (c j N : Nat), j + c = r → inR q c j = true → HeadK VO4 2 kp49b x49b (N + c + 40) K (S49b pc nn i j F k D A B I t r q oo (lB nW f oW n g o)) =
    bif listOk F q c j then K (.exit 2) (X49b pc nn i F k D A B I t (lB nW f oW n g o)) else K .ret (R49 (lB nW f oW n g o))
  | 0, j, N, h, _ => by
    rw [show N + 0 + 40 = (N + 39) + 1 by omega, HeadK_succ (by rw [key49b]; rfl), key49b]
    refine (rnd49b pc nn i F k D A B I t r q oo nW f oW n g o K j _ N).trans ?_
    rw [decide_eq_false (show ¬ (j : Int) < (r : Int) by omega)]
    simp only [cond_false, listOk, cond_true]
  | c + 1, j, N, h, hin => by
    rw [show N + (c + 1) + 40 = (N + c + 40) + 1 by omega, HeadK_succ (by rw [key49b]; rfl), key49b]
    refine (rnd49b pc nn i F k D A B I t r q oo nW f oW n g o K j _ (N + c + 1)).trans ?_
    simp only [inR, Bool.and_eq_true, decide_eq_true_eq] at hin
    have e4 : IntKind.i64.wrap ((j : Int) + 1) = ((j + 1 : Nat) : Int) := by rw [IntKind.wrap_i64]; omega
    have e6 : (j : Int).toNat = j := by omega
    have ih := head49b hr c (j + 1) N (by omega) hin.2
    rw [ixZ_in (by omega) (by omega) (by decide), ixZ_in (by omega) (by omega) (by decide), e4, e6, decide_eq_true (show (j : Int) < (r : Int) by omega), ix64_in hin.1.1 hin.1.2, listOk]
    generalize HeadK VO4 2 kp49b x49b (N + c + 40) K (S49b pc nn i ((j + 1 : Nat) : Int) F k D A B I t r q oo (lB nW f oW n g o)) = H1 at ih ⊢
    rw [ih]
    generalize K .ret (R49 (lB nW f oW n g o)) = y1
    generalize K (.exit 2) (X49b pc nn i F k D A B I t (lB nW f oW n g o)) = y2
    unfold readOk
    cases decide (q j 0 ≥ 34) <;> cases F (q j 0).toNat 0 <;> cases listOk F q c (j + 1) <;> rfl
end
def d49b : AS := S49b 0 0 0 0 (fun _ _ => false) 0 0 0 0 0 0 0 (fun _ _ => 0) (fun _ _ => ByteArray.empty) lB0
def leaf49b (dt : Dt) (K : Exit → AS → Out) : Out := match dt with
  | ⟨[nn, i, j, k, D, A, B, I, t, pc], [], [F], [nF, r, nW, n], [q, f, g], [oo, oW, o], []⟩ => bif decide (j = 0) && Nat.ble r 1000 && Nat.beq nF 64 && inR q r 0 then
      (bif listOk F q r 0 then K (.exit 2) (X49b pc nn i F k D A B I t (lB nW f oW n g o)) else K .ret (R49 (lB nW f oW n g o))) else none
  | _ => none
theorem ref49b (nn i j k D A B I t pc : Int) (F : Nat → Nat → Bool) (r nW n : Nat) (q f g : Nat → Nat → Int) (oo oW o : Nat → Nat → ByteArray) :
    refS d49b ⟨[nn, i, j, k, D, A, B, I, t, pc], [], [F], [64, r, nW, n], [q, f, g], [oo, oW, o], []⟩ = S49b pc nn i j F k D A B I t r q oo (lB nW f oW n g o) := by kernel_rfl
theorem lp49b_ok : LoopS Try.prog x49b (lpG 2 d49b leaf49b) := by
  refine LoopS.pat (E := VO4) VO4_s pfl (LpC.none fun _ => rfl) (by rw [key49b]; rfl) kp49b fun dt K out h => ?_
  unfold leaf49b at h
  split at h
  · rename_i nn i j k D A B I t pc F nF r nW n q f g oo oW o
    cases hc : (decide (j = 0) && Nat.ble r 1000 && Nat.beq nF 64 && inR q r 0) with
    | false => simp [hc] at h
    | true =>
      simp only [hc, cond_true] at h
      simp only [Bool.and_eq_true, decide_eq_true_eq, Nat.ble_eq] at hc
      obtain ⟨⟨⟨rfl, h1⟩, h2⟩, h3⟩ := hc
      have h2 := Nat.eq_of_beq_eq_true h2
      subst h2
      refine ⟨0 + r + 40, ?_⟩
      rw [ref49b, key49b, gcS49b]
      exact (head49b pc nn i F k D A B I t r q oo nW f oW n g o K h1 r 0 0 (by omega) h3).trans h
  · cases h
noncomputable def VO5 : Env := (VO3.marks lv49 fun _ => none).loops fun i => bif Nat.beq i 13 then some (lpG 2 d49b leaf49b) else none
theorem VO5_s : VO5.Sound := VO3_s.marks.loops
end Go.Proofs.Ytjpeplidbodjiaa
/- ir.Check by the reference, summed up. -/
namespace Go.Proofs.Ytjpeplidbodjiaa
set_option maxRecDepth 100000
def tailE (nn i k I : Int) (Kr Hn : Out) : Out := bif !(endK k == (i == IntKind.i64.wrap (nn - 1))) then Kr else bif k != 61 then (bif (bif true then endK k else false) then (bif (bif false then true else bif true then I.tmod 4 != 0 else false) then Kr else Hn) else Hn) else Hn
def midE (nn i k D I : Int) (F : Nat → Nat → Bool) (Kr : Out) (Hn : (Nat → Nat → Bool) → Out) : Out :=
  bif decide (writesK k D ≥ 0) then ix64 (writesK k D) (tailE nn i k I Kr (Hn (updB F (writesK k D).toNat 0 true))) else tailE nn i k I Kr (Hn F)
def readE (nn i k D A B I : Int) (F : Nat → Nat → Bool) (Kr : Out) (Hn : (Nat → Nat → Bool) → Out) : Out :=
  bif decide ((0 : Int) = 0) && Nat.ble (readsK k D A B).length 1000 && Nat.beq 64 64 && inR (listF (readsK k D A B)) (readsK k D A B).length 0 then (bif listOk F (listF (readsK k D A B)) (readsK k D A B).length 0 then midE nn i k D I F Kr Hn else Kr) else none
def headE (nW n : Nat) (g : Nat → Nat → Int) (nn i k D A B I t : Int) (F : Nat → Nat → Bool) (Kr : Out) (Hn : (Nat → Nat → Bool) → Out) : Out :=
  bif orB (orB (!fldK k D A B I) (decide (t < 0))) (decide (t ≥ (nW : Int))) then Kr else bif decide (i > 0) then ix n (IntKind.i64.wrap (i - 1)) 5 (bif (bif false then true else bif true then decide (t < g (IntKind.i64.wrap (i - 1)).toNat 5) else false) then Kr else readE nn i k D A B I F Kr Hn) else readE nn i k D A B I F Kr Hn
section
variable (pc : Int) (F : Nat → Nat → Bool) (nW : Nat) (f : Nat → Nat → Int) (oW : Nat → Nat → ByteArray) (n : Nat) (g : Nat → Nat → Int) (o : Nat → Nat → ByteArray) (K : Exit → AS → Out)
theorem gcS49a (nn i : Int) (H : AS → Out) : gc 2 (VO5.lv 6) (S49a pc nn i F (lB nW f oW n g o)) H = H (S49a pc nn i F (lB nW f oW n g o)) := by kernel_rfl
theorem rnd49a (nn i : Int) (H : AS → Out) (N : Nat) : ev VO5 2 (N + 40) x49a (S49a pc nn i F (lB nW f oW n g o)) (rkG 2 (VO5.lv 6) kp49a H K) =
    bif decide (i < nn) then ixZ 6 n i (headE nW n g nn i (g i.toNat 0) (g i.toNat 1) (g i.toNat 2) (g i.toNat 3) (g i.toNat 4) (g i.toNat 5) F (K .ret (R49 (lB nW f oW n g o))) fun F' => H (S49a pc nn (IntKind.i64.wrap (i + 1)) F' (lB nW f oW n g o)))
    else K (.exit 0) (X49a (lB nW f oW n g o)) := by kernel_rfl
end
/-- May operation number i stand there? -/
def stepE (W : Int) (n : Nat) (g : Nat → Nat → Int) (i : Nat) (F : Nat → Nat → Bool) : Bool :=
  fldK (g i 0) (g i 1) (g i 2) (g i 3) (g i 4) && (!decide (g i 5 < 0) && (!decide (g i 5 ≥ W) && (!(decide (i > 0) && decide (g i 5 < g (i - 1) 5)) && (listOk F (listF (readsK (g i 0) (g i 1) (g i 2) (g i 3))) (readsK (g i 0) (g i 1) (g i 2) (g i 3)).length 0 &&
    ((endK (g i 0) == ((i : Int) == (n : Int) - 1)) && !(g i 0 != 61 && (endK (g i 0) && (g i 4).tmod 4 != 0)))))))
def updE (q : Nat → Int) (F : Nat → Nat → Bool) : Nat → Nat → Bool := bif decide (writesK (q 0) (q 1) ≥ 0) then updB F (writesK (q 0) (q 1)).toNat 0 true else F
def checkE (W : Int) (n : Nat) (g : Nat → Nat → Int) : Nat → Nat → (Nat → Nat → Bool) → Bool
  | 0, _, _ => true
  | c + 1, i, F => stepE W n g i F && checkE W n g c (i + 1) (updE (g i) F)
theorem fldK_op {k D A B I : Int} (h : fldK k D A B I = true) (t : Int) : opInT ⟨k, D, A, B, I, t⟩ = true ∧ (0 ≤ D ∧ D < 64) := by
  unfold fldK at h
  simp only [Bool.and_eq_true] at h
  obtain ⟨_, h3, h4, h5, _⟩ := h
  have hA := placeB_range h3
  have hB := placeB_range h4
  have hD := placeB_range h5
  refine ⟨?_, hD⟩
  unfold opInT
  rw [Bool.and_eq_true]
  constructor
  · apply decide_eq_true
    show writesK k D < 64
    unfold writesK
    cases (shpK k).w with
    | true => exact hD.2
    | false => exact (by decide : (-1 : Int) < 64)
  · show inR (listF (readsK k D A B)) (readsK k D A B).length 0 = true
    unfold readsK
    cases (shpK k).a <;> cases (shpK k).b <;> cases (shpK k).d <;> simp [inR, listF, hA.1, hA.2, hB.1, hB.2, hD.1, hD.2]
theorem headE_eq {nW n : Nat} {g : Nat → Nat → Int} {i : Nat} {F : Nat → Nat → Bool} {Kr : Out} {Hn : (Nat → Nat → Bool) → Out} (hi : i < n) (hn : n ≤ 1000) :
    headE nW n g (n : Int) (i : Int) (g i 0) (g i 1) (g i 2) (g i 3) (g i 4) (g i 5) F Kr Hn = bif stepE nW n g i F then Hn (updE (g i) F) else Kr := by
  unfold headE stepE
  cases hf : fldK (g i 0) (g i 1) (g i 2) (g i 3) (g i 4) with
  | false => rfl
  | true =>
    obtain ⟨ho, hD⟩ := fldK_op hf (g i 5)
    simp only [opInT, Bool.and_eq_true, decide_eq_true_eq] at ho
    have hread : readE (n : Int) (i : Int) (g i 0) (g i 1) (g i 2) (g i 3) (g i 4) F Kr Hn = bif listOk F (listF (readsK (g i 0) (g i 1) (g i 2) (g i 3))) (readsK (g i 0) (g i 1) (g i 2) (g i 3)).length 0 && ((endK (g i 0) == ((i : Int) == (n : Int) - 1)) && !(g i 0 != 61 && (endK (g i 0) && (g i 4).tmod 4 != 0))) then Hn (updE (g i) F) else Kr := by
      unfold readE
      have e1 : Nat.ble (readsK (g i 0) (g i 1) (g i 2) (g i 3)).length 1000 = true := by rw [Nat.ble_eq]; have := reads_len (g i 0) (g i 1) (g i 2) (g i 3); omega
      rw [e1, ho.2]
      cases listOk F (listF (readsK (g i 0) (g i 1) (g i 2) (g i 3))) (readsK (g i 0) (g i 1) (g i 2) (g i 3)).length 0 with
      | false => rfl
      | true =>
        have e5 : IntKind.i64.wrap ((n : Int) - 1) = (n : Int) - 1 := by rw [IntKind.wrap_i64]; omega
        have ht : ∀ X, tailE (n : Int) (i : Int) (g i 0) (g i 4) Kr X = bif (endK (g i 0) == ((i : Int) == (n : Int) - 1)) && !(g i 0 != 61 && (endK (g i 0) && (g i 4).tmod 4 != 0)) then X else Kr := by
          intro X
          unfold tailE
          rw [e5]
          cases (endK (g i 0) == ((i : Int) == (n : Int) - 1)) <;> cases (g i 0 != 61) <;> cases endK (g i 0) <;> cases ((g i 4).tmod 4 != 0) <;> rfl
        show midE (n : Int) (i : Int) (g i 0) (g i 1) (g i 4) F Kr Hn = _
        unfold midE updE
        by_cases hw : writesK (g i 0) (g i 1) ≥ 0
        · rw [decide_eq_true hw, cond_true, ix64_in hw ho.1, ht]
          rfl
        · rw [decide_eq_false hw, cond_false, ht]
          rfl
    by_cases h0 : (i : Int) > 0
    · have e2 : IntKind.i64.wrap ((i : Int) - 1) = ((i - 1 : Nat) : Int) := by rw [IntKind.wrap_i64]; omega
      have e3 : (((i - 1 : Nat)) : Int).toNat = i - 1 := by omega
      rw [decide_eq_true h0, e2, e3, ix_in (by omega) (by omega) (by decide), hread, decide_eq_true (show i > 0 by omega)]
      cases decide (g i 5 < 0) <;> cases decide (g i 5 ≥ (nW : Int)) <;> cases decide (g i 5 < g (i - 1) 5) <;> rfl
    · rw [decide_eq_false h0, hread, decide_eq_false (show ¬ i > 0 by omega)]
      cases decide (g i 5 < 0) <;> cases decide (g i 5 ≥ (nW : Int)) <;> rfl
section
variable (pc : Int) (nW : Nat) (f : Nat → Nat → Int) (oW : Nat → Nat → ByteArray) (n : Nat) (g : Nat → Nat → Int) (o : Nat → Nat → ByteArray) (K : Exit → AS → Out)
theorem VO5_a : VO5.lp (keyC x49a) = none := by rw [key49a]; rfl
theorem head49a (hn : n ≤ 1000) : ∀ (c i N : Nat) (F : Nat → Nat → Bool), i + c = n → HeadK VO5 2 kp49a x49a (N + c + 40) K (S49a pc n i F (lB nW f oW n g o)) =
    bif checkE nW n g c i F then K (.exit 0) (X49a (lB nW f oW n g o)) else K .ret (R49 (lB nW f oW n g o))
  | 0, i, N, F, h => by
    rw [show N + 0 + 40 = (N + 39) + 1 by omega, HeadK_succ VO5_a, key49a]
    refine (rnd49a pc F nW f oW n g o K n i _ N).trans ?_
    rw [decide_eq_false (show ¬ (i : Int) < (n : Int) by omega)]
    simp only [cond_false, checkE, cond_true]
  | c + 1, i, N, F, h => by
    rw [show N + (c + 1) + 40 = (N + c + 40) + 1 by omega, HeadK_succ VO5_a, key49a]
    refine (rnd49a pc F nW f oW n g o K n i _ (N + c + 1)).trans ?_
    have e4 : IntKind.i64.wrap ((i : Int) + 1) = ((i + 1 : Nat) : Int) := by rw [IntKind.wrap_i64]; omega
    have e6 : (i : Int).toNat = i := by omega
    have ih := head49a hn c (i + 1) N (updE (g i) F) (by omega)
    rw [ixZ_in (by omega) (by omega) (by decide), e4, e6, decide_eq_true (show (i : Int) < (n : Int) by omega), headE_eq (by omega) hn, ih, checkE]
    generalize K .ret (R49 (lB nW f oW n g o)) = y1
    generalize K (.exit 0) (X49a (lB nW f oW n g o)) = y2
    cases stepE nW n g i F <;> cases checkE nW n g c (i + 1) (updE (g i) F) <;> rfl
end
def d49a : AS := S49a 0 0 0 (fun _ _ => false) lB0
def leaf49a (dt : Dt) (K : Exit → AS → Out) : Out := match dt with
  | ⟨[nn, i, pc], [], [F], [nF, nW, n], [f, g], [oW, o], []⟩ => bif decide (i = 0) && decide (nn = (n : Int)) && Nat.ble n 1000 && Nat.beq nF 64 then
      (bif checkE nW n g n 0 F then K (.exit 0) (X49a (lB nW f oW n g o)) else K .ret (R49 (lB nW f oW n g o))) else none
  | _ => none
theorem ref49a (nn i pc : Int) (F : Nat → Nat → Bool) (nW n : Nat) (f g : Nat → Nat → Int) (oW o : Nat → Nat → ByteArray) :
    refS d49a ⟨[nn, i, pc], [], [F], [64, nW, n], [f, g], [oW, o], []⟩ = S49a pc nn i F (lB nW f oW n g o) := by kernel_rfl
theorem VO5_b : VO5.lp (keyC x49b) = some (lpG 2 d49b leaf49b) := by rw [key49b]; rfl
theorem VO5_lp : LpC VO5 (.loop x49a) := fun x hx f hf => by
  rcases List.mem_cons.1 (show x ∈ x49a :: loopsC x49a from hx) with rfl | hx
  · rw [VO5_a] at hf
    cases hf
  · rw [loops49a] at hx
    have hx : x = x49b := by simpa using hx
    subst hx
    rw [VO5_b] at hf
    injection hf with hf
    subst hf
    exact lp49b_ok
theorem lp49a_ok : LoopS Try.prog x49a (lpG 2 d49a leaf49a) := by
  refine LoopS.pat (E := VO5) VO5_s pfl VO5_lp VO5_a kp49a fun dt K out h => ?_
  unfold leaf49a at h
  split at h
  · rename_i nn i pc F nF nW n f g oW o
    cases hc : (decide (i = 0) && decide (nn = (n : Int)) && Nat.ble n 1000 && Nat.beq nF 64) with
    | false => simp [hc] at h
    | true =>
      simp only [hc, cond_true] at h
      simp only [Bool.and_eq_true, decide_eq_true_eq, Nat.ble_eq] at hc
      obtain ⟨⟨⟨rfl, rfl⟩, h1⟩, h2⟩ := hc
      have h2 := Nat.eq_of_beq_eq_true h2
      subst h2
      refine ⟨0 + n + 40, ?_⟩
      rw [ref49a, key49a, gcS49a]
      exact (head49a pc nW f oW n g o K h1 n 0 0 F (by omega)).trans h
  · cases h
noncomputable def VP1 : Env := (VO3.marks lv49 fun _ => none).loops fun i => bif Nat.beq i 13 then some (lpG 2 d49b leaf49b) else bif Nat.beq i 6 then some (lpG 2 d49a leaf49a) else none
theorem VP1_s : VP1.Sound := VO3_s.marks.loops
theorem VP1_lp : LpF VP1 Try.f49 := LpF.of fun x hx f hf => by
  rw [loops49] at hx
  simp only [List.mem_cons, List.not_mem_nil, or_false] at hx
  rcases hx with rfl | rfl
  · have e : VP1.lp (keyC x49a) = some (lpG 2 d49a leaf49a) := by rw [key49a]; rfl
    rw [e] at hf
    injection hf with hf
    subst hf
    exact lp49a_ok
  · have e : VP1.lp (keyC x49b) = some (lpG 2 d49b leaf49b) := by rw [key49b]; rfl
    rw [e] at hf
    injection hf with hf
    subst hf
    exact lp49b_ok
theorem has49 : hasFn Try.prog 49 Try.f49 := ⟨by kernel_rfl, by kernel_rfl, by kernel_rfl⟩
/-- What is asked of a block ahead of its operations. -/
def offE (pc : Int) (ws : List Int) (n : Nat) : Bool := orB (orB (orB (orB (pc.tmod 4 != 0) (!rightV ws)) (decide (IntKind.i64.wrap (IntKind.i64.wrap pc + IntKind.i64.wrap (4 * (ws.length : Int))) > 4294967296))) (decide ((n : Int) < 1))) (decide ((n : Int) > 120))
end Go.Proofs.Ytjpeplidbodjiaa
/- ir.Check by the reference: it is the program's. -/
namespace Go.Proofs.Ytjpeplidbodjiaa
set_option maxRecDepth 100000
theorem kcase_out {α : Type} {k : Int} (h : k < 0 ∨ k > 62) (x0 x1 x2 x3 x4 x5 x6 x7 x8 x9 x10 x11 x12 x13 d : α) : kcase k x0 x1 x2 x3 x4 x5 x6 x7 x8 x9 x10 x11 x12 x13 d = d := by
  rcases h with h0 | h0
  · simp only [kcase, (show (k == 1) = false by rw [beq_eq_false_iff_ne]; omega), (show (k == 2) = false by rw [beq_eq_false_iff_ne]; omega), (show (k == 21) = false by rw [beq_eq_false_iff_ne]; omega), (show (k == 22) = false by rw [beq_eq_false_iff_ne]; omega), (show (k == 23) = false by rw [beq_eq_false_iff_ne]; omega), (show (k == 24) = false by rw [beq_eq_false_iff_ne]; omega), (show (k == 60) = false by rw [beq_eq_false_iff_ne]; omega), (show (k == 61) = false by rw [beq_eq_false_iff_ne]; omega), (show (k == 62) = false by rw [beq_eq_false_iff_ne]; omega), (decide_eq_false (show ¬ k ≥ 27 by omega)), (decide_eq_false (show ¬ k ≥ 3 by omega)), (decide_eq_false (show ¬ k ≥ 33 by omega)), (decide_eq_false (show ¬ k ≥ 40 by omega)), (decide_eq_false (show ¬ k ≥ 50 by omega)), cond_false]
  · simp only [kcase, (show (k == 1) = false by rw [beq_eq_false_iff_ne]; omega), (show (k == 2) = false by rw [beq_eq_false_iff_ne]; omega), (show (k == 21) = false by rw [beq_eq_false_iff_ne]; omega), (show (k == 22) = false by rw [beq_eq_false_iff_ne]; omega), (show (k == 23) = false by rw [beq_eq_false_iff_ne]; omega), (show (k == 24) = false by rw [beq_eq_false_iff_ne]; omega), (show (k == 60) = false by rw [beq_eq_false_iff_ne]; omega), (show (k == 61) = false by rw [beq_eq_false_iff_ne]; omega), (show (k == 62) = false by rw [beq_eq_false_iff_ne]; omega), (decide_eq_false (show ¬ k ≤ 30 by omega)), (decide_eq_false (show ¬ k ≤ 32 by omega)), (decide_eq_false (show ¬ k ≤ 38 by omega)), (decide_eq_false (show ¬ k ≤ 46 by omega)), (decide_eq_false (show ¬ k ≤ 54 by omega)), cond_false]
    cases decide (k ≥ 27) <;> cases decide (k ≥ 3) <;> cases decide (k ≥ 33) <;> cases decide (k ≥ 40) <;> cases decide (k ≥ 50) <;> rfl
theorem ok_in {k : Int} (h : (shpK k).ok = true) : 0 ≤ k ∧ k ≤ 62 := by
  by_cases hk : k < 0 ∨ k > 62
  · unfold shpK at h
    rw [kcase_out hk] at h
    cases h
  · omega
theorem end_ok {k : Int} (h : (shpK k).ok = true) : endK k = decide (k ≥ 60) ∧ (k != 61 && endK k) = (k == 60 || k == 62) := by
  obtain ⟨h0, h1⟩ := ok_in h
  have := all62 (fun k => !(shpK k).ok || ((endK k == decide (k ≥ 60)) && ((k != 61 && endK k) == (k == 60 || k == 62)))) (by kernel_rfl) h0 h1
  simp only [h, Bool.not_true, Bool.false_or, Bool.and_eq_true] at this
  exact ⟨eq_of_beq this.1, eq_of_beq this.2⟩
theorem listOk_congr {F F' : Nat → Nat → Bool} (h : ∀ j, F j 0 = F' j 0) (q : Nat → Nat → Int) : ∀ r i, listOk F q r i = listOk F' q r i
  | 0, _ => rfl
  | r + 1, i => by
    rw [listOk, listOk, listOk_congr h q r (i + 1)]
    unfold readOk
    rw [h]
theorem bools10 : ∀ b0 b1 b2 b3 b4 b5 b6 b7 b8 b9 b10 b11 : Bool,
    ((b3 && (b4 && (b5 && (b6 && b7)))) && (b1 && (b2 && (!b0 && (b8 && (b9 && !(b10 && b11))))))) =
    (((b1 && (b2 && (b3 && (b4 && (b5 && (b6 && (b7 && !(b10 && b11)))))))) && b8) && (!b0 && b9)) := by decide +kernel
theorem step_eq {W : Int} {n : Nat} {g : Nat → Nat → Int} {i : Nat} {F F' : Nat → Nat → Bool} {at' : Int} (hF : ∀ j, F j 0 = F' j 0) (ha : at' = if i = 0 then 0 else g (i - 1) 5) : stepE W n g i F = stepK W n i (g i) at' F' := by
  unfold stepE stepK rightK fieldsK fldK
  rw [listOk_congr hF]
  cases hok : (shpK (g i 0)).ok with
  | false => simp only [Bool.false_and]
  | true =>
    obtain ⟨e1, e2⟩ := end_ok hok
    simp only [Bool.true_and]
    have e3 : (!decide (g i 5 < 0) && !(decide (i > 0) && decide (g i 5 < g (i - 1) 5))) = (!decide (g i 5 < 0) && !decide (g i 5 < at')) := by
      by_cases h0 : i = 0
      · rw [ha, if_pos h0, decide_eq_false (show ¬ i > 0 by omega)]
        cases decide (g i 5 < 0) <;> rfl
      · rw [ha, if_neg h0, decide_eq_true (show i > 0 by omega)]
        rfl
    have e4 : (g i 0 != 61 && (endK (g i 0) && (g i 4).tmod 4 != 0)) = ((g i 0 == 60 || g i 0 == 62) && (g i 4).tmod 4 != 0) := by
      rw [← e2, Bool.and_assoc]
    rw [e4, e1]
    have e5 : ∀ x y : Bool, (!decide (g i 5 < 0) && (x && (!(decide (i > 0) && decide (g i 5 < g (i - 1) 5)) && y))) = (!decide (g i 5 < 0) && (x && (!decide (g i 5 < at') && y))) := by
      intro x y
      cases hx : decide (g i 5 < 0) with
      | true => rfl
      | false =>
        rw [hx] at e3
        simp only [Bool.not_false, Bool.true_and] at e3 ⊢
        rw [e3]
    rw [e5]
    exact bools10 _ _ _ _ _ _ _ _ _ _ _ _
theorem next_eq {W : Int} {n : Nat} {g : Nat → Nat → Int} {i : Nat} {F F' : Nat → Nat → Bool} (hF : ∀ j, F j 0 = F' j 0) (hr : rightK W F' (g i 0) (g i 1) (g i 2) (g i 3) (g i 4) (g i 5) = true) (j : Nat) : updE (g i) F j 0 = nextF W (g i) F' j 0 := by
  have hf : fieldsK W (g i 0) (g i 1) (g i 2) (g i 3) (g i 4) (g i 5) = true := by
    unfold rightK at hr
    rw [Bool.and_eq_true] at hr
    exact hr.1
  obtain ⟨_, _, hD, _⟩ := fieldsK_range hf
  unfold updE nextF afterK writesK
  rw [hr]
  cases (shpK (g i 0)).w with
  | true =>
    simp only [cond_true, Bool.and_self, decide_eq_true (show g i 1 ≥ 0 from hD.1)]
    unfold updB
    simp only [hF]
  | false =>
    simp only [cond_false, Bool.and_false]
    exact hF j
theorem checkE_eq (W : Int) (n : Nat) (g : Nat → Nat → Int) : ∀ (c i : Nat) (at' : Int) (F F' : Nat → Nat → Bool), (∀ j, F j 0 = F' j 0) → (at' = if i = 0 then 0 else g (i - 1) 5) → checkE W n g c i F = checkR W n g c i at' F'
  | 0, _, _, _, _, _, _ => rfl
  | c + 1, i, at', F, F', hF, ha => by
    rw [checkE, checkR, step_eq hF ha]
    cases hs : stepK W n i (g i) at' F' with
    | false => rfl
    | true =>
      have hr : rightK W F' (g i 0) (g i 1) (g i 2) (g i 3) (g i 4) (g i 5) = true := by
        unfold stepK at hs
        rw [Bool.and_eq_true] at hs
        exact hs.1
      rw [Bool.true_and, Bool.true_and]
      exact checkE_eq W n g c (i + 1) (g i 5) _ _ (next_eq (n := n) hF hr) (by rw [if_neg (by omega), Nat.add_sub_cancel])
/-- May a block be, by the reference? -/
def checkV (pc : Int) (ws : List Int) (os : List OpT) : Bool := !offE pc ws os.length && chkL ws.length os.length 0 os 0 fun _ _ => false
theorem t49 (pc : Int) (nW : Nat) (f : Nat → Nat → Int) (oW : Nat → Nat → ByteArray) (n : Nat) (g : Nat → Nat → Int) (o : Nat → Nat → ByteArray) : evV VP1 Try.f49 200 [.agg [.v (.int .u32 pc), .ow 0, .ow 1]] ⟨[], lB nW f oW n g o, 2⟩ =
    bif pc.tmod 4 != 0 then some (boolV false, hh0) else bif orB (orB (orB (orB false (!rightV (tabI f nW 0))) (decide (IntKind.i64.wrap (IntKind.i64.wrap pc + IntKind.i64.wrap (4 * (nW : Int))) > 4294967296))) (decide ((n : Int) < 1))) (decide ((n : Int) > 120)) then some (boolV false, hh0) else
      bif decide ((0 : Int) = 0) && decide ((n : Int) = (n : Int)) && Nat.ble n 1000 && Nat.beq 64 64 then (bif checkE nW n g n 0 (fun _ _ => false) then some (boolV true, hh0) else some (boolV false, hh0)) else none := by kernel_rfl
theorem t49' (pc : Int) (nW : Nat) (f : Nat → Nat → Int) (oW : Nat → Nat → ByteArray) (n : Nat) (g : Nat → Nat → Int) (o : Nat → Nat → ByteArray) : evV VP1 Try.f49 200 [.agg [.v (.int .u32 pc), .ow 0, .ow 1]] ⟨[], lB nW f oW n g o, 2⟩ = some (boolV (checkV pc (tabI f nW 0) (tabO g n 0)), hh0) := by
  rw [t49]
  unfold checkV offE
  rw [tabI_len, tabO_len]
  cases pc.tmod 4 != 0
  case true => rfl
  have e0 : ∀ b, orB false b = b := fun b => rfl
  simp only [cond_false, e0]
  generalize decide (IntKind.i64.wrap (IntKind.i64.wrap pc + IntKind.i64.wrap (4 * (nW : Int))) > 4294967296) = b1
  by_cases h1 : (n : Int) < 1
  · rw [decide_eq_true h1]
    cases rightV (tabI f nW 0) <;> cases b1 <;> rfl
  · by_cases h2 : (n : Int) > 120
    · rw [decide_eq_false h1, decide_eq_true h2]
      cases rightV (tabI f nW 0) <;> cases b1 <;> rfl
    · rw [decide_eq_false h1, decide_eq_false h2, show Nat.ble n 1000 = true by rw [Nat.ble_eq]; omega]
      rw [checkE_eq nW n g n 0 0 _ (fun _ _ => false) (fun _ => rfl) rfl, checkR_eq]
      cases rightV (tabI f nW 0) <;> cases b1 <;> cases chkL (nW : Int) n 0 (tabO g n 0) 0 (fun _ _ => false) <;> rfl
def F49 (args : List AV) (l : List (Nat × LB)) : Option (Bool × AV) := match args, l with
  | [.agg [.v (.int .u32 pc), .ow 0, .ow 1]], [(0, la), (1, lb)] => (match asW la, asO lb with
    | some (nW, f), some (n, g) => some (true, boolV (checkV pc (tabI f nW 0) (tabO g n 0)))
    | _, _ => none)
  | _, _ => none
theorem q49_ok : CallQ Try.prog 49 (handQ F49) := by
  refine CallQ.hand (E := VP1) VP1_s pfl VP1_lp has49 fun args l v h => ?_
  unfold F49 at h
  split at h
  · rename_i pc la lb
    split at h
    · rename_i nW f n g ha hb
      obtain ⟨oW, rfl⟩ := asW_spec ha
      obtain ⟨o, rfl⟩ := asO_spec hb
      simp only [Option.some.injEq, Prod.mk.injEq, true_and] at h
      subst h
      exact ⟨rfl, 200, hh0, t49' pc nW f oW n g o⟩
    · cases h
  · cases h
end Go.Proofs.Ytjpeplidbodjiaa
/- A word read by the reference is what the program reads. -/
namespace Go.Proofs.Ytjpeplidbodjiaa
set_option maxRecDepth 100000
theorem and_mask (x n : Nat) (hx : x < 18446744073709551616) (hn : n ≤ 32) : (BitVec.ofInt 64 (x : Int) &&& BitVec.ofInt 64 ((2 ^ n - 1 : Nat) : Int)).toNat = x % 2 ^ n := by
  have h2 : 2 ^ n ≤ 2 ^ 32 := Nat.pow_le_pow_right (by omega) hn
  rw [BitVec.toNat_and, BitVec.ofInt_natCast, BitVec.ofInt_natCast, BitVec.toNat_ofNat, BitVec.toNat_ofNat, Nat.mod_eq_of_lt (by simpa using hx), Nat.mod_eq_of_lt (by omega), Nat.and_two_pow_sub_one_eq_mod]
theorem fieldZ_eq {w : Int} (h0 : 0 ≤ w) (h1 : w < 4294967296) (a n : Nat) (hn : n ≤ 32) : fieldZ w a n = (w / 2 ^ a) % 2 ^ n := by
  obtain ⟨m, rfl⟩ : ∃ m : Nat, w = m := ⟨w.toNat, by omega⟩
  have h2 : 2 ^ n ≤ 2 ^ 32 := Nat.pow_le_pow_right (by omega) hn
  have h3 : 0 < 2 ^ n := Nat.two_pow_pos n
  have hmask : IntKind.u64.wrap (IntKind.u64.wrap (1 * 2 ^ n) - 1) = ((2 ^ n - 1 : Nat) : Int) := by
    rw [IntKind.wrap_u64, IntKind.wrap_u64]
    have e : ((2 : Int) ^ n) = ((2 ^ n : Nat) : Int) := by simp
    rw [e]
    omega
  have hd : m / 2 ^ a ≤ m := Nat.div_le_self _ _
  have hx : (IntKind.u64.wrap (m : Int)).fdiv (2 ^ a) = ((m / 2 ^ a : Nat) : Int) := by
    rw [IntKind.wrap_u64, Int.emod_eq_of_lt h0 (by omega), Int.fdiv_eq_ediv_of_nonneg _ (by exact Int.le_of_lt (Int.pow_pos (by omega)))]
    simp
  unfold fieldZ
  rw [hmask, hx, and_mask _ _ (by omega) hn, IntKind.wrap_u64, IntKind.wrap_u32]
  have h4 : (m / 2 ^ a) % 2 ^ n < 2 ^ n := Nat.mod_lt _ h3
  have e1 : ((m : Int) / 2 ^ a) % 2 ^ n = ((m / 2 ^ a % 2 ^ n : Nat) : Int) := by simp
  rw [e1]
  omega
theorem or32 {x y : Int} (x0 : 0 ≤ x) (x1 : x < 4294967296) (y0 : 0 ≤ y) (y1 : y < 4294967296) : 0 ≤ orZ x y ∧ orZ x y < 4294967296 ∧ (orZ x y == 0) = (x == 0 && y == 0) := by
  obtain ⟨a, rfl⟩ : ∃ m : Nat, x = m := ⟨x.toNat, by omega⟩
  obtain ⟨b, rfl⟩ : ∃ m : Nat, y = m := ⟨y.toNat, by omega⟩
  have e : orZ a b = ((a ||| b : Nat) : Int) := by
    unfold orZ
    have hb : IntKind.u32.bits = 32 := rfl
    rw [hb, BitVec.toNat_or, BitVec.ofInt_natCast, BitVec.ofInt_natCast, BitVec.toNat_ofNat, BitVec.toNat_ofNat, Nat.mod_eq_of_lt (by omega), Nat.mod_eq_of_lt (by omega), IntKind.wrap_u32]
    have : a ||| b < 2 ^ 32 := Nat.or_lt_two_pow (by omega) (by omega)
    omega
  have hlt : a ||| b < 2 ^ 32 := Nat.or_lt_two_pow (by omega) (by omega)
  rw [e]
  refine ⟨by omega, by omega, ?_⟩
  rw [Bool.eq_iff_iff]
  simp only [beq_iff_eq, Bool.and_eq_true, Int.natCast_eq_zero]
  exact Nat.or_eq_zero_iff
theorem xor32 {x y : Int} (x0 : 0 ≤ x) (x1 : x < 4294967296) (y0 : 0 ≤ y) (y1 : y < 4294967296) : 0 ≤ xorZ x y ∧ xorZ x y < 4294967296 ∧ (xorZ x y == 0) = (x == y) := by
  obtain ⟨a, rfl⟩ : ∃ m : Nat, x = m := ⟨x.toNat, by omega⟩
  obtain ⟨b, rfl⟩ : ∃ m : Nat, y = m := ⟨y.toNat, by omega⟩
  have hlt : a ^^^ b < 2 ^ 32 := Nat.xor_lt_two_pow (by omega) (by omega)
  have e : xorZ a b = ((a ^^^ b : Nat) : Int) := by
    unfold xorZ
    have hb : IntKind.u32.bits = 32 := rfl
    rw [hb, BitVec.toNat_xor, BitVec.ofInt_natCast, BitVec.ofInt_natCast, BitVec.toNat_ofNat, BitVec.toNat_ofNat, Nat.mod_eq_of_lt (by omega), Nat.mod_eq_of_lt (by omega), IntKind.wrap_u32]
    omega
  rw [e]
  refine ⟨by omega, by omega, ?_⟩
  rw [Bool.eq_iff_iff]
  simp only [beq_iff_eq, Int.natCast_eq_zero]
  constructor
  · intro h
    have : a = b := by
      calc a = a ^^^ b ^^^ b := by rw [Nat.xor_assoc, Nat.xor_self, Nat.xor_zero]
        _ = b := by rw [h, Nat.zero_xor]
    rw [this]
  · intro h
    have : a = b := by omega
    rw [this]
    exact Nat.xor_self b
theorem opcZ_eq {w : Int} (h0 : 0 ≤ w) (h1 : w < 4294967296) : opcZ w = fA w := by
  unfold opcZ fA
  rw [fieldZ_eq h0 h1 26 6 (by omega), Int.fdiv_eq_ediv_of_nonneg _ (by decide), IntKind.wrap_i64]
  omega
theorem andZ_eq {w : Int} (h0 : 0 ≤ w) (h1 : w < 4294967296) : andZ w 65535 = fieldZ w 0 16 := by
  rw [fieldZ_eq h0 h1 0 16 (by omega)]
  obtain ⟨m, rfl⟩ : ∃ m : Nat, w = m := ⟨w.toNat, by omega⟩
  unfold andZ
  have hb : IntKind.u32.bits = 32 := rfl
  have e : (65535 : Int) = ((2 ^ 16 - 1 : Nat) : Int) := by decide
  rw [hb, e, BitVec.toNat_and, BitVec.ofInt_natCast, BitVec.ofInt_natCast, BitVec.toNat_ofNat, BitVec.toNat_ofNat, Nat.mod_eq_of_lt (by omega), Nat.mod_eq_of_lt (by omega), Nat.and_two_pow_sub_one_eq_mod, IntKind.wrap_u32]
  omega
theorem sextZ_eq {w : Int} (h0 : 0 ≤ w) (h1 : w < 4294967296) : sextZ w 16 = sextZ (fieldZ w 0 16) 16 := by
  rw [fieldZ_eq h0 h1 0 16 (by omega)]
  unfold sextZ
  have e : IntKind.u32.wrap (w * 2 ^ 16) = IntKind.u32.wrap (w / 2 ^ 0 % 2 ^ 16 * 2 ^ 16) := by
    rw [IntKind.wrap_u32, IntKind.wrap_u32]
    omega
  rw [e]
/-- The fields, in their room. -/
theorem fieldZ_in {w : Int} (h0 : 0 ≤ w) (h1 : w < 4294967296) (a n : Nat) (hn : n ≤ 31) : 0 ≤ fieldZ w a n ∧ fieldZ w a n < 2147483649 ∧ IntKind.i64.wrap (fieldZ w a n) = fieldZ w a n := by
  rw [fieldZ_eq h0 h1 a n (by omega)]
  have h2 : 2 ^ n ≤ 2 ^ 31 := Nat.pow_le_pow_right (by omega) hn
  have h3 : 0 < 2 ^ n := Nat.two_pow_pos n
  have e : ((2 : Int) ^ n) = ((2 ^ n : Nat) : Int) := by simp
  rw [e]
  have a1 := Int.emod_nonneg (w / 2 ^ a) (b := ((2 ^ n : Nat) : Int)) (by omega)
  have a2 := Int.emod_lt_of_pos (w / 2 ^ a) (b := ((2 ^ n : Nat) : Int)) (by omega)
  refine ⟨a1, by omega, ?_⟩
  rw [IntKind.wrap_i64]
  omega
/-- What must be nought, by the form. -/
def zF (fm w : Int) : Bool := caseL fm [(68, fieldZ w 6 5 == 0), (88, fieldZ w 6 5 == 0), (72, fieldZ w 21 5 == 0), (77, fieldZ w 11 5 == 0 && fieldZ w 6 5 == 0), (70, fieldZ w 21 5 == 0 && (fieldZ w 16 5 == 0 && fieldZ w 6 5 == 0)),
  (76, fieldZ w 16 5 == 0 && (fieldZ w 11 5 == 0 && fieldZ w 6 5 == 0)), (71, fieldZ w 16 5 == 0 && fieldZ w 6 5 == 0), (89, fieldZ w 6 5 == 0 && fieldZ w 16 5 == fieldZ w 11 5), (86, fieldZ w 21 5 == 0), (90, fieldZ w 16 5 == 0)] true
def hitQ (w : Int) (r : RowR) : Bool := fA w == r.o && fB w == r.f
def clsA (r : RowR) : Bool := (r.o == 0 || r.o == 28) && [68, 88, 72, 77, 70, 76, 71, 84, 67, 89].contains r.fm
def clsB (r : RowR) : Bool := (r.o != 0 && r.o != 28 && r.o != 1 && r.f == 0) && [73, 80, 85, 86, 66, 90, 74].contains r.fm
def clsC (r : RowR) : Bool := r.o == 1 && r.fm == 82
theorem cls_all : rows45.all (fun r => clsA r || clsB r || clsC r) = true := by decide +kernel
theorem fits_eq {w : Int} (h0 : 0 ≤ w) (h1 : w < 4294967296) {r : RowR} (hr : r ∈ rows45) : fitsZ r.fm r.o r.f w = (hitQ w r && zF r.fm w) := by
  have hc := List.all_eq_true.1 cls_all r hr
  obtain ⟨op, fm, o, f⟩ := r
  unfold fitsZ hitQ
  rw [opcZ_eq h0 h1]
  simp only
  by_cases hA : fA w = o
  case neg =>
    rw [show (fA w != o) = true by simpa using hA, show (fA w == o) = false by simpa using hA]
    rfl
  rw [show (fA w != o) = false by simpa using hA, show (fA w == o) = true by simpa using hA]
  have e6 := (fieldZ_in h0 h1 0 6 (by omega)).2.2
  have e16 := (fieldZ_in h0 h1 16 5 (by omega)).2.2
  simp only [cond_false, Bool.true_and]
  simp only [Bool.or_eq_true] at hc
  rcases hc with (hc | hc) | hc
  · simp only [clsA, Bool.and_eq_true, Bool.or_eq_true, beq_iff_eq, List.contains_iff_mem, List.mem_cons, List.not_mem_nil, or_false] at hc
    have hB : fB w = fieldZ w 0 6 := by
      unfold fB
      rcases hc.1 with h | h
      · rw [hA, h]; rfl
      · rw [hA, h]; rfl
    rw [hB]
    rcases hc.2 with h | h | h | h | h | h | h | h | h | h <;> subst h <;> simp [caseL, fitL, zF, e6, Bool.and_assoc]
  · simp only [clsB, Bool.and_eq_true, bne_iff_ne, beq_iff_eq, List.contains_iff_mem, List.mem_cons, List.not_mem_nil, or_false] at hc
    have hB : fB w = 0 := by
      unfold fB
      rw [hA, show (o == 0) = false by simpa using hc.1.1.1.1, show (o == 28) = false by simpa using hc.1.1.1.2, show (o == 1) = false by simpa using hc.1.1.2]
      rfl
    rw [hB, hc.1.2]
    rcases hc.2 with h | h | h | h | h | h | h <;> subst h <;> simp [caseL, fitL, zF]
  · simp only [clsC, Bool.and_eq_true, beq_iff_eq] at hc
    have hB : fB w = fieldZ w 16 5 := by
      unfold fB
      rw [hA, hc.1]
      rfl
    rw [hB, hc.2]
    simp [caseL, fitL, zF, e16]
theorem dec_none {w : Int} : ∀ {rs : List RowR}, (∀ r ∈ rs, fitsZ r.fm r.o r.f w = (hitQ w r && zF r.fm w)) → (∀ r ∈ rs, hitQ w r = false) → dec45 w rs = (0, zDec)
  | [], _, _ => rfl
  | r :: rs, hf, hn => by
    simp only [dec45]
    rw [hf r (List.mem_cons_self ..), hn r (List.mem_cons_self ..), Bool.false_and, cond_false]
    exact dec_none (fun r' h => hf r' (List.mem_cons_of_mem _ h)) fun r' h => hn r' (List.mem_cons_of_mem _ h)
theorem dec_find {w : Int} : ∀ {rs : List RowR}, (∀ r ∈ rs, fitsZ r.fm r.o r.f w = (hitQ w r && zF r.fm w)) → rs.Pairwise (fun r r' => ¬ (r.o = r'.o ∧ r.f = r'.f)) →
    dec45 w rs = match rs.find? (hitQ w) with
      | some r => bif zF r.fm w then (r.op, cutZ r.fm w) else (0, zDec)
      | none => (0, zDec)
  | [], _, _ => rfl
  | r :: rs, hf, hp => by
    simp only [dec45, List.find?_cons]
    rw [hf r (List.mem_cons_self ..)]
    have hf' := fun r' (h : r' ∈ rs) => hf r' (List.mem_cons_of_mem _ h)
    cases hh : hitQ w r with
    | false =>
      rw [Bool.false_and, cond_false]
      exact dec_find hf' (List.pairwise_cons.1 hp).2
    | true =>
      rw [Bool.true_and]
      cases hz : zF r.fm w with
      | true =>
        show (r.op, cutZ r.fm w) = bif zF r.fm w then (r.op, cutZ r.fm w) else (0, zDec)
        rw [hz]
        rfl
      | false =>
        show dec45 w rs = bif zF r.fm w then (r.op, cutZ r.fm w) else (0, zDec)
        rw [hz, cond_false]
        refine dec_none hf' fun r' hr' => ?_
        have hne := (List.pairwise_cons.1 hp).1 r' hr'
        cases h2 : hitQ w r' with
        | false => rfl
        | true =>
          exfalso
          simp only [hitQ, Bool.and_eq_true, beq_iff_eq] at hh h2
          exact hne ⟨hh.1.symm.trans h2.1, hh.2.symm.trans h2.2⟩
theorem rows_pw : rows45.Pairwise (fun r r' => ¬ (r.o = r'.o ∧ r.f = r'.f)) := by decide +kernel
def letF (f : Int) : Int := dcase f 68 88 72 77 70 76 71 84 67 89 73 80 85 86 66 90 82 74 0
def toR (r : Int × Int × ByteArray × Int) : RowR := ⟨r.1, letF r.2.1, slotA r.2.1 r.2.2.2, slotB r.2.1 r.2.2.2⟩
theorem rows_eq : rowsT.map toR = rows45 := by kernel_rfl
theorem find_eq (w : Int) : ∀ rs : List (Int × Int × ByteArray × Int), (rs.map toR).find? (hitQ w) = (findR (fA w) (fB w) rs).map toR
  | [] => rfl
  | r :: rs => by
    simp only [List.map_cons, List.find?_cons, findR]
    have e : hitQ w (toR r) = hit (fA w) (fB w) r := by
      unfold hitQ hit toR
      simp only [Bool.and_true]
      rw [Bool.eq_iff_iff]
      simp only [Bool.and_eq_true, beq_iff_eq]
      exact ⟨fun h => ⟨h.1.symm, h.2.symm⟩, fun h => ⟨h.1.symm, h.2.symm⟩⟩
    rw [e]
    cases hit (fA w) (fB w) r with
    | true => rfl
    | false => exact find_eq w rs
theorem forms_all : rowsT.all (fun r => (List.range 18).any fun k => r.2.1 == (k : Int)) = true := by decide +kernel
/-- The two cuts of a word by a form. -/
theorem cut_eq {w : Int} (h0 : 0 ≤ w) (h1 : w < 4294967296) (k : Nat) (hk : k < 18) : ((decF w k).n == 0) = zF (letF k) w ∧ cutZ (letF k) w = ⟨0, (decF w k).s, (decF w k).t, (decF w k).d, (decF w k).a, (decF w k).i⟩ := by
  have r6 := fieldZ_in h0 h1 6 5 (by omega)
  have r11 := fieldZ_in h0 h1 11 5 (by omega)
  have r16 := fieldZ_in h0 h1 16 5 (by omega)
  have r21 := fieldZ_in h0 h1 21 5 (by omega)
  have o11_6 := or32 r11.1 (by omega) r6.1 (by omega)
  have o16_6 := or32 r16.1 (by omega) r6.1 (by omega)
  have o21_16 := or32 r21.1 (by omega) r16.1 (by omega)
  have o16_11 := or32 r16.1 (by omega) r11.1 (by omega)
  have x16_11 := xor32 r16.1 (by omega) r11.1 (by omega)
  have o3 := or32 o21_16.1 o21_16.2.1 r6.1 (by omega)
  have o4 := or32 o16_11.1 o16_11.2.1 r6.1 (by omega)
  have o5 := or32 r6.1 (by omega) x16_11.1 x16_11.2.1
  have hs := sextZ_eq h0 h1
  have ha := andZ_eq h0 h1
  match k, hk with
  | 0, _ => exact ⟨rfl, rfl⟩
  | 8, _ => exact ⟨rfl, rfl⟩
  | 1, _ => exact ⟨rfl, rfl⟩
  | 2, _ => exact ⟨o11_6.2.2, rfl⟩
  | 3, _ => exact ⟨(o3.2.2.trans (by rw [o21_16.2.2, Bool.and_assoc]; rfl)), rfl⟩
  | 4, _ => exact ⟨(o4.2.2.trans (by rw [o16_11.2.2, Bool.and_assoc]; rfl)), rfl⟩
  | 5, _ => exact ⟨o16_6.2.2, rfl⟩
  | 6, _ => exact ⟨rfl, rfl⟩
  | 7, _ => exact ⟨rfl, rfl⟩
  | 9, _ => exact ⟨(o5.2.2.trans (by rw [x16_11.2.2]; rfl)), rfl⟩
  | 10, _ => exact ⟨rfl, by show Dec.mk _ _ _ _ _ (sextZ w 16) = _; rw [hs]; rfl⟩
  | 13, _ => exact ⟨rfl, by show Dec.mk _ _ _ _ _ (sextZ w 16) = _; rw [hs]; rfl⟩
  | 11, _ => exact ⟨rfl, by show Dec.mk _ _ _ _ _ (andZ w 65535) = _; rw [ha]; rfl⟩
  | 12, _ => exact ⟨rfl, by show Dec.mk _ _ _ _ _ (andZ w 65535) = _; rw [ha]; rfl⟩
  | 14, _ => exact ⟨rfl, by show Dec.mk _ _ _ _ _ (IntKind.u32.wrap (sextZ w 16 * 4)) = _; rw [hs]; rfl⟩
  | 15, _ => exact ⟨rfl, by show Dec.mk _ _ _ _ _ (IntKind.u32.wrap (sextZ w 16 * 4)) = _; rw [hs]; rfl⟩
  | 16, _ => exact ⟨rfl, by show Dec.mk _ _ _ _ _ (IntKind.u32.wrap (sextZ w 16 * 4)) = _; rw [hs]; rfl⟩
  | 17, _ => exact ⟨rfl, rfl⟩
  | k + 18, hk => omega
theorem findR_mem {a b : Int} : ∀ {rs : List (Int × Int × ByteArray × Int)} {r : Int × Int × ByteArray × Int}, findR a b rs = some r → r ∈ rs
  | [], _, h => by cases h
  | x :: rs, r, h => by
    simp only [findR] at h
    cases hx : hit a b x with
    | true => simp only [hx, cond_true, Option.some.injEq] at h; subst h; exact List.mem_cons_self ..
    | false => simp only [hx, cond_false] at h; exact List.mem_cons_of_mem _ (findR_mem h)
/-- What the reference reads is what the program reads. -/
theorem dec_eq {w : Int} (h0 : 0 ≤ w) (h1 : w < 4294967296) : dec45 w rows45 = (dOp w, ⟨0, dS w, dT w, dD w, dA w, dI w⟩) := by
  rw [dec_find (fun r hr => fits_eq h0 h1 hr) rows_pw, ← rows_eq, find_eq]
  unfold dOp dS dT dD dA dI dBad rT rOk rowOf isHit
  cases hf : findR (fA w) (fB w) rowsT with
  | none => rfl
  | some r =>
    have hm := List.all_eq_true.1 forms_all r (findR_mem hf)
    obtain ⟨k, hk, e⟩ := List.any_eq_true.1 hm
    have e := eq_of_beq e
    obtain ⟨g1, g2⟩ := cut_eq h0 h1 k (List.mem_range.1 hk)
    obtain ⟨op, fm, nm, cd⟩ := r
    simp only at e
    subst e
    simp only [Option.map_some, toR, Option.isSome_some, Option.getD_some, Bool.not_true, Bool.false_or]
    rw [← g1]
    have e2 : ((decF w k).n != 0) = !((decF w k).n == 0) := rfl
    rw [e2]
    cases (decF w (k : Int)).n == 0 with
    | true => simp only [cond_true, Bool.not_true, cond_false]; rw [g2]
    | false => rfl
theorem insV_eq {w : Int} (h0 : 0 ≤ w) (h1 : w < 4294967296) : insV w = insW w := by
  unfold insV insW
  rw [dec_eq h0 h1]
  rfl
theorem vOp_eq {w : Int} (h0 : 0 ≤ w) (h1 : w < 4294967296) : vOp w = dOp w := by
  unfold vOp
  rw [dec_eq h0 h1]
/-- Words of 32 bits. -/
def w32 (l : List Int) : Prop := ∀ v ∈ l, 0 ≤ v ∧ v < 4294967296
theorem okL_eq (n : Nat) : ∀ {l : List Int} (i : Nat), w32 l → okL n i l = goodL n i l
  | [], _, _ => rfl
  | v :: r, i, h => by
    have e := vOp_eq (h v (List.mem_cons_self ..)).1 (h v (List.mem_cons_self ..)).2
    simp only [okL, goodL, okV, fitsW, plainV, jumpsV, plainW, jumpsW, e]
    rw [okL_eq n (i + 1) fun v' hv => h v' (List.mem_cons_of_mem _ hv)]
theorem rightV_eq {l : List Int} (h : w32 l) : rightV l = rightL l := by
  unfold rightV rightL
  rw [okL_eq _ _ h]
/-- The two Checks agree. -/
theorem checkV_eq {pc : Int} {ws : List Int} (os : List OpT) (p0 : 0 ≤ pc) (p1 : pc < 4294967296) (h : w32 ws) (hl : ws.length ≤ 1000) : checkV pc ws os = checkL pc ws os := by
  unfold checkV checkL offE headL
  rw [rightV_eq h]
  have e : IntKind.i64.wrap (IntKind.i64.wrap pc + IntKind.i64.wrap (4 * (ws.length : Int))) = IntKind.u64.wrap (IntKind.u64.wrap pc + IntKind.u64.wrap (4 * IntKind.u64.wrap (ws.length : Int))) := by
    simp only [IntKind.wrap_i64, IntKind.wrap_u64]
    omega
  rw [e]
  generalize decide (IntKind.u64.wrap (IntKind.u64.wrap pc + IntKind.u64.wrap (4 * IntKind.u64.wrap (ws.length : Int))) > 4294967296) = b1
  cases pc.tmod 4 != 0 <;> cases rightL ws <;> cases b1 <;> cases decide ((os.length : Int) < 1) <;> cases decide ((os.length : Int) > 120) <;> rfl
end Go.Proofs.Ytjpeplidbodjiaa
