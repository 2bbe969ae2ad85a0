/- Operations reckoned: numbers. -/
import Derived.Test.YtjpeplidbodjiaaFV
import Derived.Test.YtjpeplidbodjiaaSndX
namespace Go.Proofs.Ytjpeplidbodjiaa
open Go.RowKit
set_option maxRecDepth 100000
def q103 (args : List AV) (_ : AH) : Option (Bool × AV) := match args with
  | [.one (.v (.bool b))] => some (true, u32V (bif b then 1 else 0))
  | _ => none
theorem v103t : valOf (evF EB4 Try.f103 60 [boolV true] ⟨[], [], 0⟩) = some (u32V 1) := by kernel_rfl
theorem v103f : valOf (evF EB4 Try.f103 60 [boolV false] ⟨[], [], 0⟩) = some (u32V 0) := by kernel_rfl
theorem q103_ok : ∀ args h v, q103 args h = some (true, v) → inlQ EB4 Try.f103 60 args h = some (true, v) := by
  intro args h v hq
  unfold q103 at hq
  split at hq
  · rename_i b
    simp only [Option.some.injEq, Prod.mk.injEq, true_and] at hq
    subst hq
    cases b with
    | true => exact inlQ_val rfl (fun _ => rfl) rfl v103t
    | false => exact inlQ_val rfl (fun _ => rfl) rfl v103f
  · cases hq
noncomputable def EI1 : Env := EB4.sum 103 q103
theorem EI1_s : EI1.Sound := EB4_s.sum pfl has103 q103_ok
theorem has105 : hasFn Try.prog 105 Try.f105 := ⟨by kernel_rfl, by kernel_rfl, by kernel_rfl⟩
theorem has106 : hasFn Try.prog 106 Try.f106 := ⟨by kernel_rfl, by kernel_rfl, by kernel_rfl⟩
theorem has107 : hasFn Try.prog 107 Try.f107 := ⟨by kernel_rfl, by kernel_rfl, by kernel_rfl⟩
theorem has164 : hasFn Try.prog 164 Try.f164 := ⟨by kernel_rfl, by kernel_rfl, by kernel_rfl⟩
theorem has165 : hasFn Try.prog 165 Try.f165 := ⟨by kernel_rfl, by kernel_rfl, by kernel_rfl⟩
theorem has116 : hasFn Try.prog 116 Try.f116 := ⟨by kernel_rfl, by kernel_rfl, by kernel_rfl⟩
theorem has117 : hasFn Try.prog 117 Try.f117 := ⟨by kernel_rfl, by kernel_rfl, by kernel_rfl⟩
noncomputable def EI2 : Env := EI1.inlQ 104 Try.f104 30
theorem EI2_s : EI2.Sound := EI1_s.inlQ pfl has104
noncomputable def EI3 : Env := EI2.inlQ 105 Try.f105 30
theorem EI3_s : EI3.Sound := EI2_s.inlQ pfl has105
noncomputable def EI4 : Env := EI3.inlQ 106 Try.f106 30
theorem EI4_s : EI4.Sound := EI3_s.inlQ pfl has106
noncomputable def EI5 : Env := EI4.inlQ 107 Try.f107 30
theorem EI5_s : EI5.Sound := EI4_s.inlQ pfl has107
def h00 : AH := ⟨[], [], 0⟩
def mulP (a b : Int) : Bool → Int
  | true => IntKind.u64.wrap (IntKind.i64.wrap (IntKind.i64.wrap (IntKind.i32.wrap a) * IntKind.i64.wrap (IntKind.i32.wrap b)))
  | false => IntKind.u64.wrap (IntKind.u64.wrap a * IntKind.u64.wrap b)
def mulLo (a b : Int) (s : Bool) : Int := IntKind.u32.wrap (mulP a b s)
def mulHi (a b : Int) (s : Bool) : Int := IntKind.u32.wrap ((mulP a b s).fdiv (2 ^ min (Int.toNat 32) IntKind.u64.bits))
def q164 (args : List AV) (_ : AH) : Option (Bool × AV) := match args with
  | [.one (.v (.int .u32 a)), .one (.v (.int .u32 b)), .one (.v (.bool s))] => some (true, .tup [u32V (mulHi a b s), u32V (mulLo a b s)])
  | _ => none
theorem v164t (a b : Int) : valOf (evF EI5 Try.f164 60 [u32V a, u32V b, boolV true] ⟨[], [], 0⟩) = some (.tup [u32V (mulHi a b true), u32V (mulLo a b true)]) := by kernel_rfl
theorem v164f (a b : Int) : valOf (evF EI5 Try.f164 60 [u32V a, u32V b, boolV false] ⟨[], [], 0⟩) = some (.tup [u32V (mulHi a b false), u32V (mulLo a b false)]) := by kernel_rfl
theorem q164_ok : ∀ args h v, q164 args h = some (true, v) → inlQ EI5 Try.f164 60 args h = some (true, v) := by
  intro args h v hq
  unfold q164 at hq
  split at hq
  · rename_i a b s
    simp only [Option.some.injEq, Prod.mk.injEq, true_and] at hq
    subst hq
    cases s with
    | true => exact inlQ_val rfl (fun _ => rfl) rfl (v164t a b)
    | false => exact inlQ_val rfl (fun _ => rfl) rfl (v164f a b)
  · cases hq
noncomputable def EI6 : Env := EI5.sum 164 q164
theorem EI6_s : EI6.Sound := EI5_s.sum pfl has164 q164_ok
def divS (b : Int) : Int := IntKind.i64.wrap (IntKind.i32.wrap b)
def quoS (a b : Int) : Int := bif b == 0 then 0 else IntKind.u32.wrap (IntKind.i64.wrap ((divS a).tdiv (divS b)))
def remS (a b : Int) : Int := bif b == 0 then 0 else IntKind.u32.wrap ((divS a).tmod (divS b))
def quoU (a b : Int) : Int := bif b == 0 then 0 else IntKind.u32.wrap (a.tdiv b)
def remU (a b : Int) : Int := bif b == 0 then 0 else a.tmod b
def divG (b : Int) : Bool := (b == 0) || !(divS b == 0)
def quoB (a b : Int) (s : Bool) : Int := bif s then quoS a b else quoU a b
def remB (a b : Int) (s : Bool) : Int := bif s then remS a b else remU a b
def q165 (args : List AV) (_ : AH) : Option (Bool × AV) := match args with
  | [.one (.v (.int .u32 a)), .one (.v (.int .u32 b)), .one (.v (.bool s))] => some (bif s then divG b else true, .tup [u32V (quoB a b s), u32V (remB a b s)])
  | _ => none
theorem v165t (a b : Int) : evF EI6 Try.f165 60 [u32V a, u32V b, boolV true] ⟨[], [], 0⟩ =
    bif b == 0 then some (.tup [u32V 0, u32V 0], h00) else bif !(divS b == 0) then bif !(divS b == 0) then
      some (.tup [u32V (IntKind.u32.wrap (IntKind.i64.wrap ((divS a).tdiv (divS b)))), u32V (IntKind.u32.wrap ((divS a).tmod (divS b)))], h00) else none else none := by kernel_rfl
theorem v165f (a b : Int) : evF EI6 Try.f165 60 [u32V a, u32V b, boolV false] ⟨[], [], 0⟩ =
    bif b == 0 then some (.tup [u32V 0, u32V 0], h00) else bif !(b == 0) then bif !(b == 0) then
      some (.tup [u32V (IntKind.u32.wrap (a.tdiv b)), u32V (a.tmod b)], h00) else none else none := by kernel_rfl
theorem q165_ok : ∀ args h v, q165 args h = some (true, v) → inlQ EI6 Try.f165 60 args h = some (true, v) := by
  intro args h v hq
  unfold q165 at hq
  split at hq
  · rename_i a b s
    simp only [Option.some.injEq, Prod.mk.injEq] at hq
    obtain ⟨hg, rfl⟩ := hq
    cases s with
    | true =>
      refine inlQ_val rfl (fun _ => rfl) rfl ((congrArg valOf (v165t a b)).trans ?_)
      simp only [cond_true] at hg
      unfold divG at hg
      simp only [quoB, remB, cond_true, quoS, remS]
      cases h0 : b == 0 with
      | true => rfl
      | false =>
        rw [h0, Bool.false_or] at hg
        rw [hg]
        rfl
    | false =>
      refine inlQ_val rfl (fun _ => rfl) rfl ((congrArg valOf (v165f a b)).trans ?_)
      simp only [quoB, remB, cond_false, quoU, remU]
      cases h0 : b == 0 with
      | true => rfl
      | false => rfl
  · cases hq
noncomputable def EI7 : Env := EI6.sum 165 q165
theorem EI7_s : EI7.Sound := EI6_s.sum pfl has165 q165_ok
noncomputable def EI8 : Env := EI7.inlQ 116 Try.f116 30
theorem EI8_s : EI8.Sound := EI7_s.inlQ pfl has116
noncomputable def EI9 : Env := EI8.inlQ 117 Try.f117 30
theorem EI9_s : EI9.Sound := EI8_s.inlQ pfl has117
end Go.Proofs.Ytjpeplidbodjiaa
