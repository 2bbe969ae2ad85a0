/- Words: fields, rows. -/
import Derived.Test.YtjpeplidbodjiaaFO
namespace Go.Proofs.Ytjpeplidbodjiaa
open Go.RowKit
set_option maxRecDepth 100000
def fieldZ (w : Int) (at' n : Nat) : Int :=
  IntKind.u32.wrap (IntKind.u64.wrap (BitVec.ofInt 64 ((IntKind.u64.wrap w).fdiv (2 ^ at')) &&& BitVec.ofInt 64 (IntKind.u64.wrap (IntKind.u64.wrap (1 * 2 ^ n) - 1))).toNat)
def fieldL : List (Nat × Nat) := [(26, 6), (0, 6), (16, 5), (21, 5), (11, 5), (6, 5), (0, 16), (6, 10), (6, 20), (0, 26), (2, 16), (2, 26)]
def okF (a n : Nat) : List (Nat × Nat) → Bool
  | [] => false
  | (x, y) :: r => (Nat.beq a x && Nat.beq n y) || okF a n r
def q137 (args : List AV) (_ : AH) : Option (Bool × AV) := match args with
  | [.one (.v (.int .u32 w)), .one (.v (.int .i64 (.ofNat a))), .one (.v (.int .i64 (.ofNat n)))] => bif okF a n fieldL then some (true, .one (.v (.int .u32 (fieldZ w a n)))) else none
  | _ => none
theorem has137 : hasFn Try.prog 137 Try.f137 := ⟨by kernel_rfl, by kernel_rfl, by kernel_rfl⟩
def rowsC : List AC := [.v (.int .i64 0), .v (.int .i64 0), .v (.string ⟨#[]⟩), .v (.int .u32 0),
  .v (.int .i64 1), .v (.int .i64 0), .v (.string ⟨#[97, 100, 100, 117]⟩), .v (.int .u32 33),
  .v (.int .i64 2), .v (.int .i64 0), .v (.string ⟨#[115, 117, 98, 117]⟩), .v (.int .u32 35),
  .v (.int .i64 3), .v (.int .i64 0), .v (.string ⟨#[97, 110, 100]⟩), .v (.int .u32 36),
  .v (.int .i64 4), .v (.int .i64 0), .v (.string ⟨#[111, 114]⟩), .v (.int .u32 37),
  .v (.int .i64 5), .v (.int .i64 0), .v (.string ⟨#[120, 111, 114]⟩), .v (.int .u32 38),
  .v (.int .i64 6), .v (.int .i64 0), .v (.string ⟨#[110, 111, 114]⟩), .v (.int .u32 39),
  .v (.int .i64 7), .v (.int .i64 0), .v (.string ⟨#[115, 108, 116]⟩), .v (.int .u32 42),
  .v (.int .i64 8), .v (.int .i64 0), .v (.string ⟨#[115, 108, 116, 117]⟩), .v (.int .u32 43),
  .v (.int .i64 9), .v (.int .i64 0), .v (.string ⟨#[97, 100, 100]⟩), .v (.int .u32 32),
  .v (.int .i64 10), .v (.int .i64 0), .v (.string ⟨#[115, 117, 98]⟩), .v (.int .u32 34),
  .v (.int .i64 11), .v (.int .i64 0), .v (.string ⟨#[115, 108, 108, 118]⟩), .v (.int .u32 4),
  .v (.int .i64 12), .v (.int .i64 0), .v (.string ⟨#[115, 114, 108, 118]⟩), .v (.int .u32 6),
  .v (.int .i64 13), .v (.int .i64 0), .v (.string ⟨#[115, 114, 97, 118]⟩), .v (.int .u32 7),
  .v (.int .i64 14), .v (.int .i64 0), .v (.string ⟨#[109, 111, 118, 122]⟩), .v (.int .u32 10),
  .v (.int .i64 15), .v (.int .i64 0), .v (.string ⟨#[109, 111, 118, 110]⟩), .v (.int .u32 11),
  .v (.int .i64 16), .v (.int .i64 1), .v (.string ⟨#[115, 108, 108]⟩), .v (.int .u32 0),
  .v (.int .i64 17), .v (.int .i64 1), .v (.string ⟨#[115, 114, 108]⟩), .v (.int .u32 2),
  .v (.int .i64 18), .v (.int .i64 1), .v (.string ⟨#[115, 114, 97]⟩), .v (.int .u32 3),
  .v (.int .i64 19), .v (.int .i64 2), .v (.string ⟨#[109, 117, 108, 116]⟩), .v (.int .u32 24),
  .v (.int .i64 20), .v (.int .i64 2), .v (.string ⟨#[109, 117, 108, 116, 117]⟩), .v (.int .u32 25),
  .v (.int .i64 21), .v (.int .i64 2), .v (.string ⟨#[100, 105, 118]⟩), .v (.int .u32 26),
  .v (.int .i64 22), .v (.int .i64 2), .v (.string ⟨#[100, 105, 118, 117]⟩), .v (.int .u32 27),
  .v (.int .i64 23), .v (.int .i64 3), .v (.string ⟨#[109, 102, 104, 105]⟩), .v (.int .u32 16),
  .v (.int .i64 24), .v (.int .i64 3), .v (.string ⟨#[109, 102, 108, 111]⟩), .v (.int .u32 18),
  .v (.int .i64 25), .v (.int .i64 4), .v (.string ⟨#[109, 116, 104, 105]⟩), .v (.int .u32 17),
  .v (.int .i64 26), .v (.int .i64 4), .v (.string ⟨#[109, 116, 108, 111]⟩), .v (.int .u32 19),
  .v (.int .i64 27), .v (.int .i64 4), .v (.string ⟨#[106, 114]⟩), .v (.int .u32 8),
  .v (.int .i64 28), .v (.int .i64 5), .v (.string ⟨#[106, 97, 108, 114]⟩), .v (.int .u32 9),
  .v (.int .i64 29), .v (.int .i64 6), .v (.string ⟨#[116, 103, 101]⟩), .v (.int .u32 48),
  .v (.int .i64 30), .v (.int .i64 6), .v (.string ⟨#[116, 103, 101, 117]⟩), .v (.int .u32 49),
  .v (.int .i64 31), .v (.int .i64 6), .v (.string ⟨#[116, 108, 116]⟩), .v (.int .u32 50),
  .v (.int .i64 32), .v (.int .i64 6), .v (.string ⟨#[116, 108, 116, 117]⟩), .v (.int .u32 51),
  .v (.int .i64 33), .v (.int .i64 6), .v (.string ⟨#[116, 101, 113]⟩), .v (.int .u32 52),
  .v (.int .i64 34), .v (.int .i64 6), .v (.string ⟨#[116, 110, 101]⟩), .v (.int .u32 54),
  .v (.int .i64 35), .v (.int .i64 7), .v (.string ⟨#[115, 121, 115, 99, 97, 108, 108]⟩), .v (.int .u32 12),
  .v (.int .i64 36), .v (.int .i64 7), .v (.string ⟨#[98, 114, 101, 97, 107]⟩), .v (.int .u32 13),
  .v (.int .i64 37), .v (.int .i64 8), .v (.string ⟨#[109, 117, 108]⟩), .v (.int .u32 2),
  .v (.int .i64 38), .v (.int .i64 9), .v (.string ⟨#[99, 108, 122]⟩), .v (.int .u32 32),
  .v (.int .i64 39), .v (.int .i64 9), .v (.string ⟨#[99, 108, 111]⟩), .v (.int .u32 33),
  .v (.int .i64 40), .v (.int .i64 10), .v (.string ⟨#[97, 100, 100, 105, 117]⟩), .v (.int .u32 9),
  .v (.int .i64 41), .v (.int .i64 10), .v (.string ⟨#[97, 100, 100, 105]⟩), .v (.int .u32 8),
  .v (.int .i64 42), .v (.int .i64 10), .v (.string ⟨#[115, 108, 116, 105]⟩), .v (.int .u32 10),
  .v (.int .i64 43), .v (.int .i64 10), .v (.string ⟨#[115, 108, 116, 105, 117]⟩), .v (.int .u32 11),
  .v (.int .i64 44), .v (.int .i64 11), .v (.string ⟨#[97, 110, 100, 105]⟩), .v (.int .u32 12),
  .v (.int .i64 45), .v (.int .i64 11), .v (.string ⟨#[111, 114, 105]⟩), .v (.int .u32 13),
  .v (.int .i64 46), .v (.int .i64 11), .v (.string ⟨#[120, 111, 114, 105]⟩), .v (.int .u32 14),
  .v (.int .i64 47), .v (.int .i64 12), .v (.string ⟨#[108, 117, 105]⟩), .v (.int .u32 15),
  .v (.int .i64 48), .v (.int .i64 13), .v (.string ⟨#[108, 98]⟩), .v (.int .u32 32),
  .v (.int .i64 49), .v (.int .i64 13), .v (.string ⟨#[108, 104]⟩), .v (.int .u32 33),
  .v (.int .i64 50), .v (.int .i64 13), .v (.string ⟨#[108, 119, 108]⟩), .v (.int .u32 34),
  .v (.int .i64 51), .v (.int .i64 13), .v (.string ⟨#[108, 119]⟩), .v (.int .u32 35),
  .v (.int .i64 52), .v (.int .i64 13), .v (.string ⟨#[108, 98, 117]⟩), .v (.int .u32 36),
  .v (.int .i64 53), .v (.int .i64 13), .v (.string ⟨#[108, 104, 117]⟩), .v (.int .u32 37),
  .v (.int .i64 54), .v (.int .i64 13), .v (.string ⟨#[108, 119, 114]⟩), .v (.int .u32 38),
  .v (.int .i64 55), .v (.int .i64 13), .v (.string ⟨#[115, 98]⟩), .v (.int .u32 40),
  .v (.int .i64 56), .v (.int .i64 13), .v (.string ⟨#[115, 104]⟩), .v (.int .u32 41),
  .v (.int .i64 57), .v (.int .i64 13), .v (.string ⟨#[115, 119, 108]⟩), .v (.int .u32 42),
  .v (.int .i64 58), .v (.int .i64 13), .v (.string ⟨#[115, 119]⟩), .v (.int .u32 43),
  .v (.int .i64 59), .v (.int .i64 13), .v (.string ⟨#[115, 119, 114]⟩), .v (.int .u32 46),
  .v (.int .i64 60), .v (.int .i64 14), .v (.string ⟨#[98, 101, 113]⟩), .v (.int .u32 4),
  .v (.int .i64 61), .v (.int .i64 14), .v (.string ⟨#[98, 110, 101]⟩), .v (.int .u32 5),
  .v (.int .i64 62), .v (.int .i64 15), .v (.string ⟨#[98, 108, 101, 122]⟩), .v (.int .u32 6),
  .v (.int .i64 63), .v (.int .i64 15), .v (.string ⟨#[98, 103, 116, 122]⟩), .v (.int .u32 7),
  .v (.int .i64 64), .v (.int .i64 16), .v (.string ⟨#[98, 108, 116, 122]⟩), .v (.int .u32 0),
  .v (.int .i64 65), .v (.int .i64 16), .v (.string ⟨#[98, 103, 101, 122]⟩), .v (.int .u32 1),
  .v (.int .i64 66), .v (.int .i64 16), .v (.string ⟨#[98, 108, 116, 122, 97, 108]⟩), .v (.int .u32 16),
  .v (.int .i64 67), .v (.int .i64 16), .v (.string ⟨#[98, 103, 101, 122, 97, 108]⟩), .v (.int .u32 17),
  .v (.int .i64 68), .v (.int .i64 17), .v (.string ⟨#[106]⟩), .v (.int .u32 2),
  .v (.int .i64 69), .v (.int .i64 17), .v (.string ⟨#[106, 97, 108]⟩), .v (.int .u32 3)]
theorem v137_26_6 (w : Int) : valOf (evF E0 Try.f137 60 [.one (.v (.int .u32 w)), .one (.v (.int .i64 26)), .one (.v (.int .i64 6))] ⟨[], [], 0⟩) = some (.one (.v (.int .u32 (fieldZ w 26 6)))) := by kernel_rfl
theorem v137_0_6 (w : Int) : valOf (evF E0 Try.f137 60 [.one (.v (.int .u32 w)), .one (.v (.int .i64 0)), .one (.v (.int .i64 6))] ⟨[], [], 0⟩) = some (.one (.v (.int .u32 (fieldZ w 0 6)))) := by kernel_rfl
theorem v137_16_5 (w : Int) : valOf (evF E0 Try.f137 60 [.one (.v (.int .u32 w)), .one (.v (.int .i64 16)), .one (.v (.int .i64 5))] ⟨[], [], 0⟩) = some (.one (.v (.int .u32 (fieldZ w 16 5)))) := by kernel_rfl
theorem v137_21_5 (w : Int) : valOf (evF E0 Try.f137 60 [.one (.v (.int .u32 w)), .one (.v (.int .i64 21)), .one (.v (.int .i64 5))] ⟨[], [], 0⟩) = some (.one (.v (.int .u32 (fieldZ w 21 5)))) := by kernel_rfl
theorem v137_11_5 (w : Int) : valOf (evF E0 Try.f137 60 [.one (.v (.int .u32 w)), .one (.v (.int .i64 11)), .one (.v (.int .i64 5))] ⟨[], [], 0⟩) = some (.one (.v (.int .u32 (fieldZ w 11 5)))) := by kernel_rfl
theorem v137_6_5 (w : Int) : valOf (evF E0 Try.f137 60 [.one (.v (.int .u32 w)), .one (.v (.int .i64 6)), .one (.v (.int .i64 5))] ⟨[], [], 0⟩) = some (.one (.v (.int .u32 (fieldZ w 6 5)))) := by kernel_rfl
theorem v137_0_16 (w : Int) : valOf (evF E0 Try.f137 60 [.one (.v (.int .u32 w)), .one (.v (.int .i64 0)), .one (.v (.int .i64 16))] ⟨[], [], 0⟩) = some (.one (.v (.int .u32 (fieldZ w 0 16)))) := by kernel_rfl
theorem v137_6_10 (w : Int) : valOf (evF E0 Try.f137 60 [.one (.v (.int .u32 w)), .one (.v (.int .i64 6)), .one (.v (.int .i64 10))] ⟨[], [], 0⟩) = some (.one (.v (.int .u32 (fieldZ w 6 10)))) := by kernel_rfl
theorem v137_6_20 (w : Int) : valOf (evF E0 Try.f137 60 [.one (.v (.int .u32 w)), .one (.v (.int .i64 6)), .one (.v (.int .i64 20))] ⟨[], [], 0⟩) = some (.one (.v (.int .u32 (fieldZ w 6 20)))) := by kernel_rfl
theorem v137_0_26 (w : Int) : valOf (evF E0 Try.f137 60 [.one (.v (.int .u32 w)), .one (.v (.int .i64 0)), .one (.v (.int .i64 26))] ⟨[], [], 0⟩) = some (.one (.v (.int .u32 (fieldZ w 0 26)))) := by kernel_rfl
theorem v137_2_16 (w : Int) : valOf (evF E0 Try.f137 60 [.one (.v (.int .u32 w)), .one (.v (.int .i64 2)), .one (.v (.int .i64 16))] ⟨[], [], 0⟩) = some (.one (.v (.int .u32 (fieldZ w 2 16)))) := by kernel_rfl
theorem v137_2_26 (w : Int) : valOf (evF E0 Try.f137 60 [.one (.v (.int .u32 w)), .one (.v (.int .i64 2)), .one (.v (.int .i64 26))] ⟨[], [], 0⟩) = some (.one (.v (.int .u32 (fieldZ w 2 26)))) := by kernel_rfl
theorem okF_mem {a n : Nat} : ∀ {l : List (Nat × Nat)}, okF a n l = true → (a, n) ∈ l
  | [], h => by simp [okF] at h
  | (x, y) :: r, h => by
    simp only [okF, Bool.or_eq_true, Bool.and_eq_true] at h
    rcases h with ⟨h1, h2⟩ | h
    · rw [Nat.eq_of_beq_eq_true h1, Nat.eq_of_beq_eq_true h2]
      exact List.mem_cons_self ..
    · exact List.mem_cons_of_mem _ (okF_mem h)
theorem q137_ok : ∀ args h v, q137 args h = some (true, v) → inlQ E0 Try.f137 60 args h = some (true, v) := by
  intro args h v hq
  unfold q137 at hq
  split at hq
  · rename_i w a n
    cases hok : okF a n fieldL with
    | false => simp [hok] at hq
    | true =>
      simp only [hok, cond_true, Option.some.injEq, Prod.mk.injEq, true_and] at hq
      subst hq
      have := okF_mem hok
      simp only [fieldL, List.mem_cons, Prod.mk.injEq, List.not_mem_nil, or_false] at this
      rcases this with ⟨rfl, rfl⟩ | ⟨rfl, rfl⟩ | ⟨rfl, rfl⟩ | ⟨rfl, rfl⟩ | ⟨rfl, rfl⟩ | ⟨rfl, rfl⟩ | ⟨rfl, rfl⟩ | ⟨rfl, rfl⟩ | ⟨rfl, rfl⟩ | ⟨rfl, rfl⟩ | ⟨rfl, rfl⟩ | ⟨rfl, rfl⟩
      · exact inlQ_val rfl (fun _ => rfl) rfl (v137_26_6 w)
      · exact inlQ_val rfl (fun _ => rfl) rfl (v137_0_6 w)
      · exact inlQ_val rfl (fun _ => rfl) rfl (v137_16_5 w)
      · exact inlQ_val rfl (fun _ => rfl) rfl (v137_21_5 w)
      · exact inlQ_val rfl (fun _ => rfl) rfl (v137_11_5 w)
      · exact inlQ_val rfl (fun _ => rfl) rfl (v137_6_5 w)
      · exact inlQ_val rfl (fun _ => rfl) rfl (v137_0_16 w)
      · exact inlQ_val rfl (fun _ => rfl) rfl (v137_6_10 w)
      · exact inlQ_val rfl (fun _ => rfl) rfl (v137_6_20 w)
      · exact inlQ_val rfl (fun _ => rfl) rfl (v137_0_26 w)
      · exact inlQ_val rfl (fun _ => rfl) rfl (v137_2_16 w)
      · exact inlQ_val rfl (fun _ => rfl) rfl (v137_2_26 w)
  · cases hq
noncomputable def EB1 : Env := E0.sum 137 q137
theorem EB1_s : EB1.Sound := E0_s.sum pfl has137 q137_ok
def sextZ (w : Int) (k : Nat) : Int := IntKind.u32.wrap ((IntKind.i32.wrap (IntKind.u32.wrap (w * 2 ^ k))).fdiv (2 ^ k))
theorem has138 : hasFn Try.prog 138 Try.f138 := ⟨by kernel_rfl, by kernel_rfl, by kernel_rfl⟩
theorem v138 (w : Int) : valOf (evF EB1 Try.f138 60 [.one (.v (.int .u32 w)), .one (.v (.int .i64 16))] ⟨[], [], 0⟩) = some (.one (.v (.int .u32 (sextZ w 16)))) := by kernel_rfl
def q138 (args : List AV) (_ : AH) : Option (Bool × AV) := match args with
  | [.one (.v (.int .u32 w)), .one (.v (.int .i64 (.ofNat 16)))] => some (true, .one (.v (.int .u32 (sextZ w 16))))
  | _ => none
theorem q138_ok : ∀ args h v, q138 args h = some (true, v) → inlQ EB1 Try.f138 60 args h = some (true, v) := by
  intro args h v hq
  unfold q138 at hq
  split at hq
  · rename_i w
    simp only [Option.some.injEq, Prod.mk.injEq, true_and] at hq
    subst hq
    exact inlQ_val rfl (fun _ => rfl) rfl (v138 w)
  · cases hq
noncomputable def EB2 : Env := EB1.sum 138 q138
theorem EB2_s : EB2.Sound := EB1_s.sum pfl has138 q138_ok
theorem has175 : hasFn Try.prog 175 Try.f175 := ⟨by kernel_rfl, by kernel_rfl, by kernel_rfl⟩
theorem v175 : valOf (evF EB2 Try.f175 60 [] ⟨[], [], 0⟩) = some (.agg rowsC) := by kernel_rfl
def q175 (args : List AV) (_ : AH) : Option (Bool × AV) := match args with
  | [] => some (true, .agg rowsC)
  | _ => none
theorem q175_ok : ∀ args h v, q175 args h = some (true, v) → inlQ EB2 Try.f175 60 args h = some (true, v) := by
  intro args h v hq
  unfold q175 at hq
  split at hq
  · simp only [Option.some.injEq, Prod.mk.injEq, true_and] at hq
    subst hq
    exact inlQ_val rfl (fun _ => rfl) rfl v175
  · cases hq
noncomputable def EB3 : Env := EB2.sum 175 q175
theorem EB3_s : EB3.Sound := EB2_s.sum pfl has175 q175_ok
theorem has176 : hasFn Try.prog 176 Try.f176 := ⟨by kernel_rfl, by kernel_rfl, by kernel_rfl⟩
theorem t176 (op form : Int) (nm : ByteArray) (code : Int) : evF EB3 Try.f176 60 [.agg [.v (.int .i64 op), .v (.int .i64 form), .v (.string nm), .v (.int .u32 code)]] ⟨[], [], 0⟩ =
  bif decide (form < 8) then some (AV.agg [AC.v (Value.int IntKind.u32 0), AC.v (Value.int IntKind.u32 code)], { b := [], l := [], nx := 2 })
  else bif decide (form ≤ 9) then some (AV.agg [AC.v (Value.int IntKind.u32 28), AC.v (Value.int IntKind.u32 code)], { b := [], l := [], nx := 2 })
  else bif form == 16 then some (AV.agg [AC.v (Value.int IntKind.u32 1), AC.v (Value.int IntKind.u32 code)], { b := [], l := [], nx := 2 })
  else some (AV.agg [AC.v (Value.int IntKind.u32 code), AC.v (Value.int IntKind.u32 0)], { b := [], l := [], nx := 2 }) := by kernel_rfl
def slotA (form code : Int) : Int := bif decide (form < 8) then 0 else bif decide (form ≤ 9) then 28 else bif form == 16 then 1 else code
def slotB (form code : Int) : Int := bif decide (form < 8) then code else bif decide (form ≤ 9) then code else bif form == 16 then code else 0
def q176 (args : List AV) (_ : AH) : Option (Bool × AV) := match args with
  | [.agg [.v (.int .i64 _), .v (.int .i64 form), .v (.string _), .v (.int .u32 code)]] => some (true, .agg [.v (.int .u32 (slotA form code)), .v (.int .u32 (slotB form code))])
  | _ => none
theorem q176_ok : ∀ args h v, q176 args h = some (true, v) → inlQ EB3 Try.f176 60 args h = some (true, v) := by
  intro args h v hq
  unfold q176 at hq
  split at hq
  · rename_i op form nm code
    simp only [Option.some.injEq, Prod.mk.injEq, true_and] at hq
    subst hq
    refine inlQ_val rfl (fun _ => rfl) rfl ?_
    rw [t176]
    unfold slotA slotB
    cases decide (form < 8) <;> cases decide (form ≤ 9) <;> cases (form == 16) <;> rfl
  · cases hq
noncomputable def EB4 : Env := EB3.sum 176 q176
theorem EB4_s : EB4.Sound := EB3_s.sum pfl has176 q176_ok
theorem has136 : hasFn Try.prog 136 Try.f136 := ⟨by kernel_rfl, by kernel_rfl, by kernel_rfl⟩
theorem has139 : hasFn Try.prog 139 Try.f139 := ⟨by kernel_rfl, by kernel_rfl, by kernel_rfl⟩
theorem has76 : hasFn Try.prog 76 Try.f76 := ⟨by kernel_rfl, by kernel_rfl, by kernel_rfl⟩
end Go.Proofs.Ytjpeplidbodjiaa
