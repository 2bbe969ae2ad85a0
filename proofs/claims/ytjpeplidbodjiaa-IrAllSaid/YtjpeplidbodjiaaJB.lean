/- Operations reckoned, by their kinds. -/
import Derived.Test.YtjpeplidbodjiaaJA
namespace Go.Proofs.Ytjpeplidbodjiaa
open Go.RowKit
set_option maxRecDepth 100000
def longV (k a b : Int) : Int :=
  bif k == 14 then mulLo a b true else bif k == 15 then mulHi a b true else bif k == 16 then mulHi a b false else
  bif k == 17 then quoS a b else bif k == 18 then quoU a b else bif k == 19 then remS a b else bif k == 20 then remU a b else 0
def longG (k b : Int) : Bool := bif (bif k == 17 then true else k == 19) then divG b else true
def longT (k a b : Int) : Out :=
  bif k == 14 then some (u32V (mulLo a b (k != 16)), h00) else bif k == 15 then some (u32V (mulHi a b (k != 16)), h00) else bif k == 16 then some (u32V (mulHi a b (k != 16)), h00) else
  bif k == 17 then some (u32V (quoB a b (bif k == 17 then true else k == 19)), h00) else bif k == 18 then some (u32V (quoB a b (bif k == 17 then true else k == 19)), h00) else
  bif k == 19 then some (u32V (remB a b (bif k == 17 then true else k == 19)), h00) else bif k == 20 then some (u32V (remB a b (bif k == 17 then true else k == 19)), h00) else some (u32V 0, h00)
theorem has110 : hasFn Try.prog 110 Try.f110 := ⟨by kernel_rfl, by kernel_rfl, by kernel_rfl⟩
theorem v110 (k a b : Int) : evF EI9 Try.f110 60 [intV k, u32V a, u32V b] ⟨[], [], 0⟩ = bif longG k b then longT k a b else none := by kernel_rfl
def q110 (args : List AV) (_ : AH) : Option (Bool × AV) := match args with
  | [.one (.v (.int .i64 k)), .one (.v (.int .u32 a)), .one (.v (.int .u32 b))] => some (longG k b, u32V (longV k a b))
  | _ => none
theorem long_case (k : Int) (P : Int → Prop) (h14 : P 14) (h15 : P 15) (h16 : P 16) (h17 : P 17) (h18 : P 18) (h19 : P 19) (h20 : P 20)
    (hd : (k == 14) = false → (k == 15) = false → (k == 16) = false → (k == 17) = false → (k == 18) = false → (k == 19) = false → (k == 20) = false → P k) : P k := by
  by_cases e14 : k = 14
  · subst e14; exact h14
  by_cases e15 : k = 15
  · subst e15; exact h15
  by_cases e16 : k = 16
  · subst e16; exact h16
  by_cases e17 : k = 17
  · subst e17; exact h17
  by_cases e18 : k = 18
  · subst e18; exact h18
  by_cases e19 : k = 19
  · subst e19; exact h19
  by_cases e20 : k = 20
  · subst e20; exact h20
  exact hd (beq_false_of_ne e14) (beq_false_of_ne e15) (beq_false_of_ne e16) (beq_false_of_ne e17) (beq_false_of_ne e18) (beq_false_of_ne e19) (beq_false_of_ne e20)
theorem q110_ok : ∀ args h v, q110 args h = some (true, v) → inlQ EI9 Try.f110 60 args h = some (true, v) := by
  intro args h v hq
  unfold q110 at hq
  split at hq
  · rename_i k a b
    simp only [Option.some.injEq, Prod.mk.injEq] at hq
    obtain ⟨hg, rfl⟩ := hq
    refine inlQ_val rfl (fun _ => rfl) rfl ((congrArg valOf (v110 k a b)).trans ?_)
    rw [hg, cond_true]
    clear hg
    exact long_case k (fun k => valOf (longT k a b) = some (u32V (longV k a b))) rfl rfl rfl rfl rfl rfl rfl fun h1 h2 h3 h4 h5 h6 h7 => by
      simp only [longT, longV, h1, h2, h3, h4, h5, h6, h7, cond_false, valOf]
  · cases hq
noncomputable def EJ1 : Env := EI9.sum 110 q110
theorem EJ1_s : EJ1.Sound := EI9_s.sum pfl has110 q110_ok
def bitV (b : Bool) : Int := bif b then 1 else 0
def ltS (a b : Int) : Bool := decide (IntKind.i32.wrap a < IntKind.i32.wrap b)
def bitsV (f : BitVec 32 → BitVec 32 → BitVec 32) (a b : Int) : Int := IntKind.u32.wrap (f (BitVec.ofInt IntKind.u32.bits a) (BitVec.ofInt IntKind.u32.bits b)).toNat
def notV (a : Int) : Int := IntKind.u32.wrap (BitVec.ofInt IntKind.u32.bits (if IntKind.u32.signed = true then -1 else IntKind.u32.max) ^^^ BitVec.ofInt IntKind.u32.bits a).toNat
def shV (b : Int) : Nat := (bitsV (· &&& ·) b 31).toNat
/-- What an operation of a kind puts into its place. -/
def recV (k : Nat) (I a b d : Int) : Int := match k with
  | 1 => I
  | 2 => a
  | 3 => IntKind.u32.wrap (a + b)
  | 4 => IntKind.u32.wrap (a - b)
  | 5 => bitsV (· &&& ·) a b
  | 6 => bitsV (· ||| ·) a b
  | 7 => bitsV (· ^^^ ·) a b
  | 8 => notV (bitsV (· ||| ·) a b)
  | 9 => bitV (ltS a b)
  | 10 => bitV (decide (a < b))
  | 11 => IntKind.u32.wrap (a * 2 ^ min (shV b) IntKind.u32.bits)
  | 12 => a.fdiv (2 ^ min (shV b) IntKind.u32.bits)
  | 13 => IntKind.u32.wrap ((IntKind.i32.wrap a).fdiv (2 ^ min (shV b) IntKind.i32.bits))
  | 23 => bif b == 0 then a else d
  | 24 => bif b == 0 then d else a
  | 25 => bitV (a == b)
  | 26 => bitV (a != b)
  | 27 => bitV (!ltS 0 a)
  | 28 => bitV (ltS 0 a)
  | 29 => bitV (ltS a 0)
  | 30 => bitV (!ltS a 0)
  | 31 => IntKind.u32.wrap (a + b)
  | 32 => IntKind.u32.wrap (a - b)
  | k => longV k a b
def recG (k : Nat) (b : Int) : Bool := match k with
  | 17 => divG b
  | 19 => divG b
  | _ => true
theorem v53_0 (D A B I At a b d : Int) : evF EJ1 Try.f53 200 [opA 0 D A B I At, u32V a, u32V b, u32V d] ⟨[], [], 0⟩ = some (u32V (recV 0 I a b d), h01) := by kernel_rfl
theorem v53_1 (D A B I At a b d : Int) : evF EJ1 Try.f53 200 [opA 1 D A B I At, u32V a, u32V b, u32V d] ⟨[], [], 0⟩ = some (u32V (recV 1 I a b d), h01) := by kernel_rfl
theorem v53_2 (D A B I At a b d : Int) : evF EJ1 Try.f53 200 [opA 2 D A B I At, u32V a, u32V b, u32V d] ⟨[], [], 0⟩ = some (u32V (recV 2 I a b d), h01) := by kernel_rfl
theorem v53_3 (D A B I At a b d : Int) : evF EJ1 Try.f53 200 [opA 3 D A B I At, u32V a, u32V b, u32V d] ⟨[], [], 0⟩ = some (u32V (recV 3 I a b d), h01) := by kernel_rfl
theorem v53_4 (D A B I At a b d : Int) : evF EJ1 Try.f53 200 [opA 4 D A B I At, u32V a, u32V b, u32V d] ⟨[], [], 0⟩ = some (u32V (recV 4 I a b d), h01) := by kernel_rfl
theorem v53_5 (D A B I At a b d : Int) : evF EJ1 Try.f53 200 [opA 5 D A B I At, u32V a, u32V b, u32V d] ⟨[], [], 0⟩ = some (u32V (recV 5 I a b d), h01) := by kernel_rfl
theorem v53_6 (D A B I At a b d : Int) : evF EJ1 Try.f53 200 [opA 6 D A B I At, u32V a, u32V b, u32V d] ⟨[], [], 0⟩ = some (u32V (recV 6 I a b d), h01) := by kernel_rfl
theorem v53_7 (D A B I At a b d : Int) : evF EJ1 Try.f53 200 [opA 7 D A B I At, u32V a, u32V b, u32V d] ⟨[], [], 0⟩ = some (u32V (recV 7 I a b d), h01) := by kernel_rfl
theorem v53_8 (D A B I At a b d : Int) : evF EJ1 Try.f53 200 [opA 8 D A B I At, u32V a, u32V b, u32V d] ⟨[], [], 0⟩ = some (u32V (recV 8 I a b d), h01) := by kernel_rfl
theorem v53_9 (D A B I At a b d : Int) : evF EJ1 Try.f53 200 [opA 9 D A B I At, u32V a, u32V b, u32V d] ⟨[], [], 0⟩ = some (u32V (recV 9 I a b d), h01) := by kernel_rfl
theorem v53_10 (D A B I At a b d : Int) : evF EJ1 Try.f53 200 [opA 10 D A B I At, u32V a, u32V b, u32V d] ⟨[], [], 0⟩ = some (u32V (recV 10 I a b d), h01) := by kernel_rfl
theorem v53_11 (D A B I At a b d : Int) : evF EJ1 Try.f53 200 [opA 11 D A B I At, u32V a, u32V b, u32V d] ⟨[], [], 0⟩ = some (u32V (recV 11 I a b d), h01) := by kernel_rfl
theorem v53_12 (D A B I At a b d : Int) : evF EJ1 Try.f53 200 [opA 12 D A B I At, u32V a, u32V b, u32V d] ⟨[], [], 0⟩ = some (u32V (recV 12 I a b d), h01) := by kernel_rfl
theorem v53_13 (D A B I At a b d : Int) : evF EJ1 Try.f53 200 [opA 13 D A B I At, u32V a, u32V b, u32V d] ⟨[], [], 0⟩ = some (u32V (recV 13 I a b d), h01) := by kernel_rfl
theorem v53_14 (D A B I At a b d : Int) : evF EJ1 Try.f53 200 [opA 14 D A B I At, u32V a, u32V b, u32V d] ⟨[], [], 0⟩ = some (u32V (recV 14 I a b d), h01) := by kernel_rfl
theorem v53_15 (D A B I At a b d : Int) : evF EJ1 Try.f53 200 [opA 15 D A B I At, u32V a, u32V b, u32V d] ⟨[], [], 0⟩ = some (u32V (recV 15 I a b d), h01) := by kernel_rfl
theorem v53_16 (D A B I At a b d : Int) : evF EJ1 Try.f53 200 [opA 16 D A B I At, u32V a, u32V b, u32V d] ⟨[], [], 0⟩ = some (u32V (recV 16 I a b d), h01) := by kernel_rfl
theorem v53_17 (D A B I At a b d : Int) : evF EJ1 Try.f53 200 [opA 17 D A B I At, u32V a, u32V b, u32V d] ⟨[], [], 0⟩ = bif divG b then some (u32V (recV 17 I a b d), h01) else none := by kernel_rfl
theorem v53_18 (D A B I At a b d : Int) : evF EJ1 Try.f53 200 [opA 18 D A B I At, u32V a, u32V b, u32V d] ⟨[], [], 0⟩ = some (u32V (recV 18 I a b d), h01) := by kernel_rfl
theorem v53_19 (D A B I At a b d : Int) : evF EJ1 Try.f53 200 [opA 19 D A B I At, u32V a, u32V b, u32V d] ⟨[], [], 0⟩ = bif divG b then some (u32V (recV 19 I a b d), h01) else none := by kernel_rfl
theorem v53_20 (D A B I At a b d : Int) : evF EJ1 Try.f53 200 [opA 20 D A B I At, u32V a, u32V b, u32V d] ⟨[], [], 0⟩ = some (u32V (recV 20 I a b d), h01) := by kernel_rfl
theorem v53_25 (D A B I At a b d : Int) : evF EJ1 Try.f53 200 [opA 25 D A B I At, u32V a, u32V b, u32V d] ⟨[], [], 0⟩ = some (u32V (recV 25 I a b d), h01) := by kernel_rfl
theorem v53_26 (D A B I At a b d : Int) : evF EJ1 Try.f53 200 [opA 26 D A B I At, u32V a, u32V b, u32V d] ⟨[], [], 0⟩ = some (u32V (recV 26 I a b d), h01) := by kernel_rfl
theorem v53_27 (D A B I At a b d : Int) : evF EJ1 Try.f53 200 [opA 27 D A B I At, u32V a, u32V b, u32V d] ⟨[], [], 0⟩ = some (u32V (recV 27 I a b d), h01) := by kernel_rfl
theorem v53_28 (D A B I At a b d : Int) : evF EJ1 Try.f53 200 [opA 28 D A B I At, u32V a, u32V b, u32V d] ⟨[], [], 0⟩ = some (u32V (recV 28 I a b d), h01) := by kernel_rfl
theorem v53_29 (D A B I At a b d : Int) : evF EJ1 Try.f53 200 [opA 29 D A B I At, u32V a, u32V b, u32V d] ⟨[], [], 0⟩ = some (u32V (recV 29 I a b d), h01) := by kernel_rfl
theorem v53_30 (D A B I At a b d : Int) : evF EJ1 Try.f53 200 [opA 30 D A B I At, u32V a, u32V b, u32V d] ⟨[], [], 0⟩ = some (u32V (recV 30 I a b d), h01) := by kernel_rfl
theorem v53_31 (D A B I At a b d : Int) : evF EJ1 Try.f53 200 [opA 31 D A B I At, u32V a, u32V b, u32V d] ⟨[], [], 0⟩ = some (u32V (recV 31 I a b d), h01) := by kernel_rfl
theorem v53_32 (D A B I At a b d : Int) : evF EJ1 Try.f53 200 [opA 32 D A B I At, u32V a, u32V b, u32V d] ⟨[], [], 0⟩ = some (u32V (recV 32 I a b d), h01) := by kernel_rfl
theorem v53_33 (D A B I At a b d : Int) : evF EJ1 Try.f53 200 [opA 33 D A B I At, u32V a, u32V b, u32V d] ⟨[], [], 0⟩ = some (u32V (recV 33 I a b d), h01) := by kernel_rfl
theorem v53_34 (D A B I At a b d : Int) : evF EJ1 Try.f53 200 [opA 34 D A B I At, u32V a, u32V b, u32V d] ⟨[], [], 0⟩ = some (u32V (recV 34 I a b d), h01) := by kernel_rfl
theorem v53_35 (D A B I At a b d : Int) : evF EJ1 Try.f53 200 [opA 35 D A B I At, u32V a, u32V b, u32V d] ⟨[], [], 0⟩ = some (u32V (recV 35 I a b d), h01) := by kernel_rfl
theorem v53_36 (D A B I At a b d : Int) : evF EJ1 Try.f53 200 [opA 36 D A B I At, u32V a, u32V b, u32V d] ⟨[], [], 0⟩ = some (u32V (recV 36 I a b d), h01) := by kernel_rfl
theorem v53_37 (D A B I At a b d : Int) : evF EJ1 Try.f53 200 [opA 37 D A B I At, u32V a, u32V b, u32V d] ⟨[], [], 0⟩ = some (u32V (recV 37 I a b d), h01) := by kernel_rfl
theorem v53_38 (D A B I At a b d : Int) : evF EJ1 Try.f53 200 [opA 38 D A B I At, u32V a, u32V b, u32V d] ⟨[], [], 0⟩ = some (u32V (recV 38 I a b d), h01) := by kernel_rfl
theorem v53_39 (D A B I At a b d : Int) : evF EJ1 Try.f53 200 [opA 39 D A B I At, u32V a, u32V b, u32V d] ⟨[], [], 0⟩ = some (u32V (recV 39 I a b d), h01) := by kernel_rfl
theorem v53_40 (D A B I At a b d : Int) : evF EJ1 Try.f53 200 [opA 40 D A B I At, u32V a, u32V b, u32V d] ⟨[], [], 0⟩ = some (u32V (recV 40 I a b d), h01) := by kernel_rfl
theorem v53_41 (D A B I At a b d : Int) : evF EJ1 Try.f53 200 [opA 41 D A B I At, u32V a, u32V b, u32V d] ⟨[], [], 0⟩ = some (u32V (recV 41 I a b d), h01) := by kernel_rfl
theorem v53_42 (D A B I At a b d : Int) : evF EJ1 Try.f53 200 [opA 42 D A B I At, u32V a, u32V b, u32V d] ⟨[], [], 0⟩ = some (u32V (recV 42 I a b d), h01) := by kernel_rfl
theorem v53_43 (D A B I At a b d : Int) : evF EJ1 Try.f53 200 [opA 43 D A B I At, u32V a, u32V b, u32V d] ⟨[], [], 0⟩ = some (u32V (recV 43 I a b d), h01) := by kernel_rfl
theorem v53_44 (D A B I At a b d : Int) : evF EJ1 Try.f53 200 [opA 44 D A B I At, u32V a, u32V b, u32V d] ⟨[], [], 0⟩ = some (u32V (recV 44 I a b d), h01) := by kernel_rfl
theorem v53_45 (D A B I At a b d : Int) : evF EJ1 Try.f53 200 [opA 45 D A B I At, u32V a, u32V b, u32V d] ⟨[], [], 0⟩ = some (u32V (recV 45 I a b d), h01) := by kernel_rfl
theorem v53_46 (D A B I At a b d : Int) : evF EJ1 Try.f53 200 [opA 46 D A B I At, u32V a, u32V b, u32V d] ⟨[], [], 0⟩ = some (u32V (recV 46 I a b d), h01) := by kernel_rfl
theorem v53_47 (D A B I At a b d : Int) : evF EJ1 Try.f53 200 [opA 47 D A B I At, u32V a, u32V b, u32V d] ⟨[], [], 0⟩ = some (u32V (recV 47 I a b d), h01) := by kernel_rfl
theorem v53_48 (D A B I At a b d : Int) : evF EJ1 Try.f53 200 [opA 48 D A B I At, u32V a, u32V b, u32V d] ⟨[], [], 0⟩ = some (u32V (recV 48 I a b d), h01) := by kernel_rfl
theorem v53_49 (D A B I At a b d : Int) : evF EJ1 Try.f53 200 [opA 49 D A B I At, u32V a, u32V b, u32V d] ⟨[], [], 0⟩ = some (u32V (recV 49 I a b d), h01) := by kernel_rfl
theorem v53_50 (D A B I At a b d : Int) : evF EJ1 Try.f53 200 [opA 50 D A B I At, u32V a, u32V b, u32V d] ⟨[], [], 0⟩ = some (u32V (recV 50 I a b d), h01) := by kernel_rfl
theorem v53_51 (D A B I At a b d : Int) : evF EJ1 Try.f53 200 [opA 51 D A B I At, u32V a, u32V b, u32V d] ⟨[], [], 0⟩ = some (u32V (recV 51 I a b d), h01) := by kernel_rfl
theorem v53_52 (D A B I At a b d : Int) : evF EJ1 Try.f53 200 [opA 52 D A B I At, u32V a, u32V b, u32V d] ⟨[], [], 0⟩ = some (u32V (recV 52 I a b d), h01) := by kernel_rfl
theorem v53_53 (D A B I At a b d : Int) : evF EJ1 Try.f53 200 [opA 53 D A B I At, u32V a, u32V b, u32V d] ⟨[], [], 0⟩ = some (u32V (recV 53 I a b d), h01) := by kernel_rfl
theorem v53_54 (D A B I At a b d : Int) : evF EJ1 Try.f53 200 [opA 54 D A B I At, u32V a, u32V b, u32V d] ⟨[], [], 0⟩ = some (u32V (recV 54 I a b d), h01) := by kernel_rfl
theorem v53_55 (D A B I At a b d : Int) : evF EJ1 Try.f53 200 [opA 55 D A B I At, u32V a, u32V b, u32V d] ⟨[], [], 0⟩ = some (u32V (recV 55 I a b d), h01) := by kernel_rfl
theorem v53_56 (D A B I At a b d : Int) : evF EJ1 Try.f53 200 [opA 56 D A B I At, u32V a, u32V b, u32V d] ⟨[], [], 0⟩ = some (u32V (recV 56 I a b d), h01) := by kernel_rfl
theorem v53_57 (D A B I At a b d : Int) : evF EJ1 Try.f53 200 [opA 57 D A B I At, u32V a, u32V b, u32V d] ⟨[], [], 0⟩ = some (u32V (recV 57 I a b d), h01) := by kernel_rfl
theorem v53_58 (D A B I At a b d : Int) : evF EJ1 Try.f53 200 [opA 58 D A B I At, u32V a, u32V b, u32V d] ⟨[], [], 0⟩ = some (u32V (recV 58 I a b d), h01) := by kernel_rfl
theorem v53_59 (D A B I At a b d : Int) : evF EJ1 Try.f53 200 [opA 59 D A B I At, u32V a, u32V b, u32V d] ⟨[], [], 0⟩ = some (u32V (recV 59 I a b d), h01) := by kernel_rfl
theorem v53_60 (D A B I At a b d : Int) : evF EJ1 Try.f53 200 [opA 60 D A B I At, u32V a, u32V b, u32V d] ⟨[], [], 0⟩ = some (u32V (recV 60 I a b d), h01) := by kernel_rfl
theorem v53_61 (D A B I At a b d : Int) : evF EJ1 Try.f53 200 [opA 61 D A B I At, u32V a, u32V b, u32V d] ⟨[], [], 0⟩ = some (u32V (recV 61 I a b d), h01) := by kernel_rfl
theorem v53_62 (D A B I At a b d : Int) : evF EJ1 Try.f53 200 [opA 62 D A B I At, u32V a, u32V b, u32V d] ⟨[], [], 0⟩ = some (u32V (recV 62 I a b d), h01) := by kernel_rfl
theorem v53_63 (D A B I At a b d : Int) : evF EJ1 Try.f53 200 [opA 63 D A B I At, u32V a, u32V b, u32V d] ⟨[], [], 0⟩ = some (u32V (recV 63 I a b d), h01) := by kernel_rfl
theorem v53_64 (D A B I At a b d : Int) : evF EJ1 Try.f53 200 [opA 64 D A B I At, u32V a, u32V b, u32V d] ⟨[], [], 0⟩ = some (u32V (recV 64 I a b d), h01) := by kernel_rfl
theorem v53_65 (D A B I At a b d : Int) : evF EJ1 Try.f53 200 [opA 65 D A B I At, u32V a, u32V b, u32V d] ⟨[], [], 0⟩ = some (u32V (recV 65 I a b d), h01) := by kernel_rfl
theorem v53_66 (D A B I At a b d : Int) : evF EJ1 Try.f53 200 [opA 66 D A B I At, u32V a, u32V b, u32V d] ⟨[], [], 0⟩ = some (u32V (recV 66 I a b d), h01) := by kernel_rfl
theorem v53_67 (D A B I At a b d : Int) : evF EJ1 Try.f53 200 [opA 67 D A B I At, u32V a, u32V b, u32V d] ⟨[], [], 0⟩ = some (u32V (recV 67 I a b d), h01) := by kernel_rfl
theorem v53_68 (D A B I At a b d : Int) : evF EJ1 Try.f53 200 [opA 68 D A B I At, u32V a, u32V b, u32V d] ⟨[], [], 0⟩ = some (u32V (recV 68 I a b d), h01) := by kernel_rfl
theorem v53_69 (D A B I At a b d : Int) : evF EJ1 Try.f53 200 [opA 69 D A B I At, u32V a, u32V b, u32V d] ⟨[], [], 0⟩ = some (u32V (recV 69 I a b d), h01) := by kernel_rfl
theorem v53_23 (D A B I At a b d : Int) : evF EJ1 Try.f53 200 [opA 23 D A B I At, u32V a, u32V b, u32V d] ⟨[], [], 0⟩ = bif ((b == 0) == true) then some (u32V a, h01) else some (u32V d, h01) := by kernel_rfl
theorem v53_24 (D A B I At a b d : Int) : evF EJ1 Try.f53 200 [opA 24 D A B I At, u32V a, u32V b, u32V d] ⟨[], [], 0⟩ = bif ((b == 0) == false) then some (u32V a, h01) else some (u32V d, h01) := by kernel_rfl
def P53 (k : Nat) : Prop := ∀ D A B I At a b d : Int, recG k b = true → valOf (evF EJ1 Try.f53 200 [opA k D A B I At, u32V a, u32V b, u32V d] ⟨[], [], 0⟩) = some (u32V (recV k I a b d))
def kinds53 : List Nat := [0, 1, 2, 3, 4, 5, 6, 7, 8, 9, 10, 11, 12, 13, 14, 15, 16, 17, 18, 19, 20, 23, 24, 25, 26, 27, 28, 29, 30, 31, 32, 33, 34, 35, 36, 37, 38, 39, 40, 41, 42, 43, 44, 45, 46, 47, 48, 49, 50, 51, 52, 53, 54, 55, 56, 57, 58, 59, 60, 61, 62, 63, 64, 65, 66, 67, 68, 69]
theorem all53 : ∀ k ∈ kinds53, P53 k := by
  simp only [kinds53, List.forall_mem_cons]
  refine ⟨fun D A B I At a b d _ => congrArg valOf (v53_0 D A B I At a b d),
    fun D A B I At a b d _ => congrArg valOf (v53_1 D A B I At a b d),
    fun D A B I At a b d _ => congrArg valOf (v53_2 D A B I At a b d),
    fun D A B I At a b d _ => congrArg valOf (v53_3 D A B I At a b d),
    fun D A B I At a b d _ => congrArg valOf (v53_4 D A B I At a b d),
    fun D A B I At a b d _ => congrArg valOf (v53_5 D A B I At a b d),
    fun D A B I At a b d _ => congrArg valOf (v53_6 D A B I At a b d),
    fun D A B I At a b d _ => congrArg valOf (v53_7 D A B I At a b d),
    fun D A B I At a b d _ => congrArg valOf (v53_8 D A B I At a b d),
    fun D A B I At a b d _ => congrArg valOf (v53_9 D A B I At a b d),
    fun D A B I At a b d _ => congrArg valOf (v53_10 D A B I At a b d),
    fun D A B I At a b d _ => congrArg valOf (v53_11 D A B I At a b d),
    fun D A B I At a b d _ => congrArg valOf (v53_12 D A B I At a b d),
    fun D A B I At a b d _ => congrArg valOf (v53_13 D A B I At a b d),
    fun D A B I At a b d _ => congrArg valOf (v53_14 D A B I At a b d),
    fun D A B I At a b d _ => congrArg valOf (v53_15 D A B I At a b d),
    fun D A B I At a b d _ => congrArg valOf (v53_16 D A B I At a b d),
    fun D A B I At a b d hg => (congrArg valOf (v53_17 D A B I At a b d)).trans (by have hg : divG b = true := hg; rw [hg]; rfl),
    fun D A B I At a b d _ => congrArg valOf (v53_18 D A B I At a b d),
    fun D A B I At a b d hg => (congrArg valOf (v53_19 D A B I At a b d)).trans (by have hg : divG b = true := hg; rw [hg]; rfl),
    fun D A B I At a b d _ => congrArg valOf (v53_20 D A B I At a b d),
    fun D A B I At a b d _ => (congrArg valOf (v53_23 D A B I At a b d)).trans (by simp only [recV]; cases b == 0 <;> rfl),
    fun D A B I At a b d _ => (congrArg valOf (v53_24 D A B I At a b d)).trans (by simp only [recV]; cases b == 0 <;> rfl),
    fun D A B I At a b d _ => congrArg valOf (v53_25 D A B I At a b d),
    fun D A B I At a b d _ => congrArg valOf (v53_26 D A B I At a b d),
    fun D A B I At a b d _ => congrArg valOf (v53_27 D A B I At a b d),
    fun D A B I At a b d _ => congrArg valOf (v53_28 D A B I At a b d),
    fun D A B I At a b d _ => congrArg valOf (v53_29 D A B I At a b d),
    fun D A B I At a b d _ => congrArg valOf (v53_30 D A B I At a b d),
    fun D A B I At a b d _ => congrArg valOf (v53_31 D A B I At a b d),
    fun D A B I At a b d _ => congrArg valOf (v53_32 D A B I At a b d),
    fun D A B I At a b d _ => congrArg valOf (v53_33 D A B I At a b d),
    fun D A B I At a b d _ => congrArg valOf (v53_34 D A B I At a b d),
    fun D A B I At a b d _ => congrArg valOf (v53_35 D A B I At a b d),
    fun D A B I At a b d _ => congrArg valOf (v53_36 D A B I At a b d),
    fun D A B I At a b d _ => congrArg valOf (v53_37 D A B I At a b d),
    fun D A B I At a b d _ => congrArg valOf (v53_38 D A B I At a b d),
    fun D A B I At a b d _ => congrArg valOf (v53_39 D A B I At a b d),
    fun D A B I At a b d _ => congrArg valOf (v53_40 D A B I At a b d),
    fun D A B I At a b d _ => congrArg valOf (v53_41 D A B I At a b d),
    fun D A B I At a b d _ => congrArg valOf (v53_42 D A B I At a b d),
    fun D A B I At a b d _ => congrArg valOf (v53_43 D A B I At a b d),
    fun D A B I At a b d _ => congrArg valOf (v53_44 D A B I At a b d),
    fun D A B I At a b d _ => congrArg valOf (v53_45 D A B I At a b d),
    fun D A B I At a b d _ => congrArg valOf (v53_46 D A B I At a b d),
    fun D A B I At a b d _ => congrArg valOf (v53_47 D A B I At a b d),
    fun D A B I At a b d _ => congrArg valOf (v53_48 D A B I At a b d),
    fun D A B I At a b d _ => congrArg valOf (v53_49 D A B I At a b d),
    fun D A B I At a b d _ => congrArg valOf (v53_50 D A B I At a b d),
    fun D A B I At a b d _ => congrArg valOf (v53_51 D A B I At a b d),
    fun D A B I At a b d _ => congrArg valOf (v53_52 D A B I At a b d),
    fun D A B I At a b d _ => congrArg valOf (v53_53 D A B I At a b d),
    fun D A B I At a b d _ => congrArg valOf (v53_54 D A B I At a b d),
    fun D A B I At a b d _ => congrArg valOf (v53_55 D A B I At a b d),
    fun D A B I At a b d _ => congrArg valOf (v53_56 D A B I At a b d),
    fun D A B I At a b d _ => congrArg valOf (v53_57 D A B I At a b d),
    fun D A B I At a b d _ => congrArg valOf (v53_58 D A B I At a b d),
    fun D A B I At a b d _ => congrArg valOf (v53_59 D A B I At a b d),
    fun D A B I At a b d _ => congrArg valOf (v53_60 D A B I At a b d),
    fun D A B I At a b d _ => congrArg valOf (v53_61 D A B I At a b d),
    fun D A B I At a b d _ => congrArg valOf (v53_62 D A B I At a b d),
    fun D A B I At a b d _ => congrArg valOf (v53_63 D A B I At a b d),
    fun D A B I At a b d _ => congrArg valOf (v53_64 D A B I At a b d),
    fun D A B I At a b d _ => congrArg valOf (v53_65 D A B I At a b d),
    fun D A B I At a b d _ => congrArg valOf (v53_66 D A B I At a b d),
    fun D A B I At a b d _ => congrArg valOf (v53_67 D A B I At a b d),
    fun D A B I At a b d _ => congrArg valOf (v53_68 D A B I At a b d),
    fun D A B I At a b d _ => congrArg valOf (v53_69 D A B I At a b d), fun x hx => by cases hx⟩
def inL (k : Nat) : List Nat → Bool
  | [] => false
  | x :: r => Nat.beq k x || inL k r
theorem inL_mem {k : Nat} : ∀ {l : List Nat}, inL k l = true → k ∈ l
  | [], h => by simp [inL] at h
  | x :: r, h => by
    simp only [inL, Bool.or_eq_true] at h
    rcases h with h | h
    · rw [Nat.eq_of_beq_eq_true h]; exact List.mem_cons_self ..
    · exact List.mem_cons_of_mem _ (inL_mem h)
def q53 (args : List AV) (_ : AH) : Option (Bool × AV) := match args with
  | [.agg [.v (.int .i64 (.ofNat k)), .v (.int .i64 _), .v (.int .i64 _), .v (.int .i64 _), .v (.int .u32 I), .v (.int .i64 _)], .one (.v (.int .u32 a)), .one (.v (.int .u32 b)), .one (.v (.int .u32 d))] =>
    bif inL k kinds53 then some (recG k b, u32V (recV k I a b d)) else none
  | _ => none
theorem q53_ok : ∀ args h v, q53 args h = some (true, v) → inlQ EJ1 Try.f53 200 args h = some (true, v) := by
  intro args h v hq
  unfold q53 at hq
  split at hq
  · rename_i k D A B I At a b d
    cases hk : inL k kinds53 with
    | false => simp [hk] at hq
    | true =>
      simp only [hk, cond_true, Option.some.injEq, Prod.mk.injEq] at hq
      obtain ⟨hg, rfl⟩ := hq
      exact inlQ_val rfl (fun _ => rfl) rfl (all53 k (inL_mem hk) D A B I At a b d hg)
  · cases hq
theorem c53_ok : CallQ Try.prog 53 q53 := (inlQ_CallQ EJ1_s pfl (LpF.none fun _ => rfl) has53).of q53_ok
end Go.Proofs.Ytjpeplidbodjiaa
