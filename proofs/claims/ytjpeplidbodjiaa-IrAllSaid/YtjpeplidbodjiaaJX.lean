/- Reckon and Stops, by the program and by the reference, for every kind: they agree. -/
import Derived.Test.YtjpeplidbodjiaaJB
/- Leading noughts and ones, by the table of the program's library. -/
namespace Go.Proofs.Ytjpeplidbodjiaa
open Go.RowKit
set_option maxRecDepth 100000
def lenT : List UInt8 := 0 :: 1 :: (List.replicate 2 2 ++ (List.replicate 4 3 ++ (List.replicate 8 4 ++ (List.replicate 16 5 ++ (List.replicate 32 6 ++ (List.replicate 64 7 ++ List.replicate 128 8))))))
def lenB : ByteArray := ⟨lenT.toArray⟩
def lenG (y : Int) : Bool := decide (0 ≤ IntKind.u8.wrap y) && decide (IntKind.u8.wrap y < 256)
def len8 (y : Int) : Int := IntKind.i64.wrap (byteS lenB (IntKind.u8.wrap y).toNat)
def lenO (b y : Int) : Out := bif lenG y then some (intV (IntKind.i64.wrap (b + len8 y)), h00) else none
def len32 (x : Int) : Int := bif decide (x ≥ 65536) then (bif decide (x.fdiv (2 ^ 16) ≥ 256) then IntKind.i64.wrap (IntKind.i64.wrap (16 + 8) + len8 ((x.fdiv (2 ^ 16)).fdiv (2 ^ 8))) else IntKind.i64.wrap (16 + len8 (x.fdiv (2 ^ 16)))) else
  bif decide (x ≥ 256) then IntKind.i64.wrap (IntKind.i64.wrap (0 + 8) + len8 (x.fdiv (2 ^ 8))) else IntKind.i64.wrap (0 + len8 x)
theorem t184 (x : Int) : evF EJ1 Try.f184 60 [u32V x] ⟨[], [], 0⟩ = bif decide (x ≥ 65536) then (bif decide (x.fdiv (2 ^ 16) ≥ 256) then lenO (IntKind.i64.wrap (16 + 8)) ((x.fdiv (2 ^ 16)).fdiv (2 ^ 8)) else lenO 16 (x.fdiv (2 ^ 16))) else
  bif decide (x ≥ 256) then lenO (IntKind.i64.wrap (0 + 8)) (x.fdiv (2 ^ 8)) else lenO 0 x := by kernel_rfl
theorem lenG_true (y : Int) : lenG y = true := by
  unfold lenG
  rw [IntKind.wrap_u8, decide_eq_true (by omega), decide_eq_true (by omega)]
  rfl
def q184 (args : List AV) (_ : AH) : Option (Bool × AV) := match args with
  | [.one (.v (.int .u32 x))] => some (true, intV (len32 x))
  | _ => none
theorem has184 : hasFn Try.prog 184 Try.f184 := ⟨by kernel_rfl, by kernel_rfl, by kernel_rfl⟩
theorem has163 : hasFn Try.prog 163 Try.f163 := ⟨by kernel_rfl, by kernel_rfl, by kernel_rfl⟩
theorem has108 : hasFn Try.prog 108 Try.f108 := ⟨by kernel_rfl, by kernel_rfl, by kernel_rfl⟩
theorem has109 : hasFn Try.prog 109 Try.f109 := ⟨by kernel_rfl, by kernel_rfl, by kernel_rfl⟩
theorem q184_ok : ∀ args h v, q184 args h = some (true, v) → inlQ EJ1 Try.f184 60 args h = some (true, v) := by
  intro args h v hq
  unfold q184 at hq
  split at hq
  · rename_i x
    simp only [Option.some.injEq, Prod.mk.injEq, true_and] at hq
    subst hq
    refine inlQ_val rfl (fun _ => rfl) rfl ((congrArg valOf (t184 x)).trans ?_)
    simp only [lenO, lenG_true, cond_true]
    unfold len32
    cases decide (x ≥ 65536) <;> cases decide (x.fdiv (2 ^ 16) ≥ 256) <;> cases decide (x ≥ 256) <;> rfl
  · cases hq
noncomputable def EJ2 : Env := EJ1.sum 184 q184
theorem EJ2_s : EJ2.Sound := EJ1_s.sum pfl has184 q184_ok
noncomputable def EJ3 : Env := EJ2.inlQ 163 Try.f163 30
theorem EJ3_s : EJ3.Sound := EJ2_s.inlQ pfl has163
noncomputable def EJ4 : Env := EJ3.inlQ 108 Try.f108 30
theorem EJ4_s : EJ4.Sound := EJ3_s.inlQ pfl has108
noncomputable def EJ5 : Env := EJ4.inlQ 109 Try.f109 30
theorem EJ5_s : EJ5.Sound := EJ4_s.inlQ pfl has109
def zerosV (x : Int) : Int := IntKind.u32.wrap (IntKind.i64.wrap (32 - len32 x))
/-- What an operation of any kind puts into its place. -/
def recZ (k I a b d : Int) : Int := bif k == 1 then I else bif k == 2 then a else bif k == 31 then IntKind.u32.wrap (a + b) else bif k == 3 then IntKind.u32.wrap (a + b) else bif k == 32 then IntKind.u32.wrap (a - b) else bif k == 4 then IntKind.u32.wrap (a - b) else bif k == 5 then bitsV (· &&& ·) a b else bif k == 6 then bitsV (· ||| ·) a b else bif k == 7 then bitsV (· ^^^ ·) a b else bif k == 8 then notV (bitsV (· ||| ·) a b) else bif k == 9 then bitV (ltS a b) else bif k == 10 then bitV (decide (a < b)) else bif k == 11 then IntKind.u32.wrap (a * 2 ^ min (shV b) IntKind.u32.bits) else bif k == 12 then a.fdiv (2 ^ min (shV b) IntKind.u32.bits) else bif k == 13 then IntKind.u32.wrap ((IntKind.i32.wrap a).fdiv (2 ^ min (shV b) IntKind.i32.bits)) else bif k == 21 then zerosV a else bif k == 22 then zerosV (notV a) else bif k == 23 then (bif ((b == 0) == (k == 23)) then a else d) else bif k == 24 then (bif ((b == 0) == (k == 23)) then a else d) else bif k == 25 then bitV (a == b) else bif k == 26 then bitV (a != b) else bif k == 27 then bitV (!ltS 0 a) else bif k == 28 then bitV (ltS 0 a) else bif k == 29 then bitV (ltS a 0) else bif k == 30 then bitV (!ltS a 0) else longV k a b
theorem t53z (k D A B I At a b d : Int) : evF EJ5 Try.f53 200 [opA k D A B I At, u32V a, u32V b, u32V d] ⟨[], [], 0⟩ = bif k == 1 then some (u32V (I), h01) else bif k == 2 then some (u32V (a), h01) else bif k == 31 then some (u32V (IntKind.u32.wrap (a + b)), h01) else bif k == 3 then some (u32V (IntKind.u32.wrap (a + b)), h01) else bif k == 32 then some (u32V (IntKind.u32.wrap (a - b)), h01) else bif k == 4 then some (u32V (IntKind.u32.wrap (a - b)), h01) else bif k == 5 then some (u32V (bitsV (· &&& ·) a b), h01) else bif k == 6 then some (u32V (bitsV (· ||| ·) a b), h01) else bif k == 7 then some (u32V (bitsV (· ^^^ ·) a b), h01) else bif k == 8 then some (u32V (notV (bitsV (· ||| ·) a b)), h01) else bif k == 9 then some (u32V (bitV (ltS a b)), h01) else bif k == 10 then some (u32V (bitV (decide (a < b))), h01) else bif k == 11 then some (u32V (IntKind.u32.wrap (a * 2 ^ min (shV b) IntKind.u32.bits)), h01) else bif k == 12 then some (u32V (a.fdiv (2 ^ min (shV b) IntKind.u32.bits)), h01) else bif k == 13 then some (u32V (IntKind.u32.wrap ((IntKind.i32.wrap a).fdiv (2 ^ min (shV b) IntKind.i32.bits))), h01) else bif k == 21 then some (u32V (zerosV a), h01) else bif k == 22 then some (u32V (zerosV (notV a)), h01) else bif k == 23 then (bif ((b == 0) == (k == 23)) then some (u32V a, h01) else some (u32V d, h01)) else bif k == 24 then (bif ((b == 0) == (k == 23)) then some (u32V a, h01) else some (u32V d, h01)) else bif k == 25 then some (u32V (bitV (a == b)), h01) else bif k == 26 then some (u32V (bitV (a != b)), h01) else bif k == 27 then some (u32V (bitV (!ltS 0 a)), h01) else bif k == 28 then some (u32V (bitV (ltS 0 a)), h01) else bif k == 29 then some (u32V (bitV (ltS a 0)), h01) else bif k == 30 then some (u32V (bitV (!ltS a 0)), h01) else bif longG k b then some (u32V (longV k a b), h01) else none := by kernel_rfl
theorem cv {c : Bool} {X Y : Out} {x y : Int} (hX : valOf X = some (u32V x)) (hY : valOf Y = some (u32V y)) : valOf (bif c then X else Y) = some (u32V (bif c then x else y)) := by cases c <;> assumption
def q53z (args : List AV) (_ : AH) : Option (Bool × AV) := match args with
  | [.agg [.v (.int .i64 k), .v (.int .i64 _), .v (.int .i64 _), .v (.int .i64 _), .v (.int .u32 I), .v (.int .i64 _)], .one (.v (.int .u32 a)), .one (.v (.int .u32 b)), .one (.v (.int .u32 d))] => some (longG k b, u32V (recZ k I a b d))
  | _ => none
theorem q53z_ok : ∀ args h v, q53z args h = some (true, v) → inlQ EJ5 Try.f53 200 args h = some (true, v) := by
  intro args h v hq
  unfold q53z at hq
  split at hq
  · rename_i k D A B I At a b d
    simp only [Option.some.injEq, Prod.mk.injEq] at hq
    obtain ⟨hg, rfl⟩ := hq
    refine inlQ_val rfl (fun _ => rfl) rfl ((congrArg valOf (t53z k D A B I At a b d)).trans ?_)
    rw [hg, cond_true]
    unfold recZ
    refine cv rfl ?_
    refine cv rfl ?_
    refine cv rfl ?_
    refine cv rfl ?_
    refine cv rfl ?_
    refine cv rfl ?_
    refine cv rfl ?_
    refine cv rfl ?_
    refine cv rfl ?_
    refine cv rfl ?_
    refine cv rfl ?_
    refine cv rfl ?_
    refine cv rfl ?_
    refine cv rfl ?_
    refine cv rfl ?_
    refine cv rfl ?_
    refine cv rfl ?_
    refine cv (cv rfl rfl) ?_
    refine cv (cv rfl rfl) ?_
    refine cv rfl ?_
    refine cv rfl ?_
    refine cv rfl ?_
    refine cv rfl ?_
    refine cv rfl ?_
    refine cv rfl ?_
    rfl
  · cases hq
theorem c53z_ok : CallQ Try.prog 53 q53z := (inlQ_CallQ EJ5_s pfl (LpF.none fun _ => rfl) has53).of q53z_ok
end Go.Proofs.Ytjpeplidbodjiaa
/- ir.Stops for every kind. -/
namespace Go.Proofs.Ytjpeplidbodjiaa
open Go.RowKit
set_option maxRecDepth 100000
def addO (a b : Int) : Bool := bitsV (· &&& ·) (bitsV (· &&& ·) (bitsV (· ^^^ ·) a (IntKind.u32.wrap (a + b))) (bitsV (· ^^^ ·) b (IntKind.u32.wrap (a + b)))) 2147483648 != 0
def subO (a b : Int) : Bool := bitsV (· &&& ·) (bitsV (· &&& ·) (bitsV (· ^^^ ·) a b) (bitsV (· ^^^ ·) a (IntKind.u32.wrap (a - b)))) 2147483648 != 0
/-- Does an operation of a kind stop? -/
def stopZ (k a b : Int) : Bool := bif k == 31 then addO a b else bif k == 32 then subO a b else bif k == 33 then !ltS a b else bif k == 34 then decide (a ≥ b) else bif k == 35 then ltS a b else bif k == 36 then decide (a < b) else bif k == 37 then a == b else bif k == 38 then a != b else false
theorem has55 : hasFn Try.prog 55 Try.f55 := ⟨by kernel_rfl, by kernel_rfl, by kernel_rfl⟩
theorem t55z (k D A B I At a b : Int) : evF EJ5 Try.f55 200 [opA k D A B I At, u32V a, u32V b] ⟨[], [], 0⟩ = bif k == 31 then some (boolV (addO a b), h01) else bif k == 32 then some (boolV (subO a b), h01) else bif k == 33 then some (boolV (!ltS a b), h01) else bif k == 34 then some (boolV (decide (a ≥ b)), h01) else bif k == 35 then some (boolV (ltS a b), h01) else bif k == 36 then some (boolV (decide (a < b)), h01) else bif k == 37 then some (boolV (a == b), h01) else bif k == 38 then some (boolV (a != b), h01) else some (boolV false, h01) := by kernel_rfl
theorem cb {c : Bool} {X Y : Out} {x y : Bool} (hX : valOf X = some (boolV x)) (hY : valOf Y = some (boolV y)) : valOf (bif c then X else Y) = some (boolV (bif c then x else y)) := by cases c <;> assumption
def q55z (args : List AV) (_ : AH) : Option (Bool × AV) := match args with
  | [.agg [.v (.int .i64 k), .v (.int .i64 _), .v (.int .i64 _), .v (.int .i64 _), .v (.int .u32 _), .v (.int .i64 _)], .one (.v (.int .u32 a)), .one (.v (.int .u32 b))] => some (true, boolV (stopZ k a b))
  | _ => none
theorem q55z_ok : ∀ args h v, q55z args h = some (true, v) → inlQ EJ5 Try.f55 200 args h = some (true, v) := by
  intro args h v hq
  unfold q55z at hq
  split at hq
  · rename_i k D A B I At a b
    simp only [Option.some.injEq, Prod.mk.injEq, true_and] at hq
    subst hq
    refine inlQ_val rfl (fun _ => rfl) rfl ((congrArg valOf (t55z k D A B I At a b)).trans ?_)
    unfold stopZ
    exact cb rfl (cb rfl (cb rfl (cb rfl (cb rfl (cb rfl (cb rfl (cb rfl rfl)))))))
  · cases hq
theorem c55z_ok : CallQ Try.prog 55 q55z := (inlQ_CallQ EJ5_s pfl (LpF.none fun _ => rfl) has55).of q55z_ok
end Go.Proofs.Ytjpeplidbodjiaa
/- The reference's words: below, signed, products, quotients, leading noughts. -/
namespace Go.Proofs.Ytjpeplidbodjiaa
open Go.RowKit
set_option maxRecDepth 100000
theorem has111 : hasFn Try.prog 111 Try.f111 := ⟨by kernel_rfl, by kernel_rfl, by kernel_rfl⟩
theorem has112 : hasFn Try.prog 112 Try.f112 := ⟨by kernel_rfl, by kernel_rfl, by kernel_rfl⟩
theorem has113 : hasFn Try.prog 113 Try.f113 := ⟨by kernel_rfl, by kernel_rfl, by kernel_rfl⟩
theorem has118 : hasFn Try.prog 118 Try.f118 := ⟨by kernel_rfl, by kernel_rfl, by kernel_rfl⟩
theorem has119 : hasFn Try.prog 119 Try.f119 := ⟨by kernel_rfl, by kernel_rfl, by kernel_rfl⟩
theorem has166 : hasFn Try.prog 166 Try.f166 := ⟨by kernel_rfl, by kernel_rfl, by kernel_rfl⟩
theorem has167 : hasFn Try.prog 167 Try.f167 := ⟨by kernel_rfl, by kernel_rfl, by kernel_rfl⟩
theorem has168 : hasFn Try.prog 168 Try.f168 := ⟨by kernel_rfl, by kernel_rfl, by kernel_rfl⟩
theorem has169 : hasFn Try.prog 169 Try.f169 := ⟨by kernel_rfl, by kernel_rfl, by kernel_rfl⟩
theorem has170 : hasFn Try.prog 170 Try.f170 := ⟨by kernel_rfl, by kernel_rfl, by kernel_rfl⟩
theorem has171 : hasFn Try.prog 171 Try.f171 := ⟨by kernel_rfl, by kernel_rfl, by kernel_rfl⟩
noncomputable def EM0 : Env := EJ5.inlQ 171 Try.f171 30
theorem EM0_s : EM0.Sound := EJ5_s.inlQ pfl has171
noncomputable def EM1 : Env := EM0.inlQ 112 Try.f112 30
theorem EM1_s : EM1.Sound := EM0_s.inlQ pfl has112
noncomputable def EM2 : Env := EM1.inlQ 113 Try.f113 30
theorem EM2_s : EM2.Sound := EM1_s.inlQ pfl has113
def inZ (x : Int) : Bool := bif decide (x ≥ -2147483648) then decide (x < 2147483648) else false
theorem t170 (x : Int) : valOf (evF EM2 Try.f170 60 [intV x] ⟨[], [], 0⟩) = some (boolV (inZ x)) := by kernel_rfl
theorem t111t : valOf (evF EM2 Try.f111 60 [boolV true] ⟨[], [], 0⟩) = some (u32V 1) := by kernel_rfl
theorem t111f : valOf (evF EM2 Try.f111 60 [boolV false] ⟨[], [], 0⟩) = some (u32V 0) := by kernel_rfl
theorem t166t (a b : Int) : valOf (evF EM2 Try.f166 60 [u32V a, u32V b, boolV true] ⟨[], [], 0⟩) = some (.tup [u32V (mulHi a b true), u32V (mulLo a b true)]) := by kernel_rfl
theorem t166f (a b : Int) : valOf (evF EM2 Try.f166 60 [u32V a, u32V b, boolV false] ⟨[], [], 0⟩) = some (.tup [u32V (mulHi a b false), u32V (mulLo a b false)]) := by kernel_rfl
theorem t167t (a b : Int) : evF EM2 Try.f167 60 [u32V a, u32V b, boolV true] ⟨[], [], 0⟩ =
    bif b == 0 then some (.tup [u32V 0, u32V 0], h00) else bif !(divS b == 0) then bif !(divS b == 0) then
      some (.tup [u32V (IntKind.u32.wrap (IntKind.i64.wrap ((divS a).tdiv (divS b)))), u32V (IntKind.u32.wrap ((divS a).tmod (divS b)))], h00) else none else none := by kernel_rfl
theorem t167f (a b : Int) : evF EM2 Try.f167 60 [u32V a, u32V b, boolV false] ⟨[], [], 0⟩ =
    bif b == 0 then some (.tup [u32V 0, u32V 0], h00) else bif !(b == 0) then bif !(b == 0) then
      some (.tup [u32V (IntKind.u32.wrap (a.tdiv b)), u32V (a.tmod b)], h00) else none else none := by kernel_rfl
/-- Leading noughts, one by one. -/
def zRO (x : Int) : Nat → Nat → Out
  | 0, n => some (u32V (n : Int), h00)
  | c + 1, n => bif x.fdiv (2 ^ (31 - n)) == 0 then zRO x c (n + 1) else some (u32V (n : Int), h00)
def zR (x : Int) : Nat → Nat → Int
  | 0, n => (n : Int)
  | c + 1, n => bif x.fdiv (2 ^ (31 - n)) == 0 then zR x c (n + 1) else (n : Int)
theorem zRO_val (x : Int) : ∀ c n, valOf (zRO x c n) = some (u32V (zR x c n))
  | 0, _ => rfl
  | c + 1, n => by
    simp only [zRO, zR]
    exact cv (zRO_val x c (n + 1)) rfl
theorem t168 (x : Int) : evF EM2 Try.f168 400 [u32V x] ⟨[], [], 0⟩ = zRO x 32 0 := by kernel_rfl
def q170 (args : List AV) (_ : AH) : Option (Bool × AV) := match args with
  | [.one (.v (.int .i64 x))] => some (true, boolV (inZ x))
  | _ => none
theorem q170_ok : ∀ args h v, q170 args h = some (true, v) → inlQ EM2 Try.f170 60 args h = some (true, v) := by
  intro args h v hq
  unfold q170 at hq
  split at hq
  · rename_i x
    simp only [Option.some.injEq, Prod.mk.injEq, true_and] at hq
    subst hq
    exact inlQ_val rfl (fun _ => rfl) rfl (t170 x)
  · cases hq
noncomputable def EM3 : Env := EM2.sum 170 q170
theorem EM3_s : EM3.Sound := EM2_s.sum pfl has170 q170_ok
def q111r (args : List AV) (_ : AH) : Option (Bool × AV) := match args with
  | [.one (.v (.bool b))] => some (true, u32V (bitV b))
  | _ => none
theorem q111r_ok : ∀ args h v, q111r args h = some (true, v) → inlQ EM2 Try.f111 60 args h = some (true, v) := by
  intro args h v hq
  unfold q111r at hq
  split at hq
  · rename_i b
    simp only [Option.some.injEq, Prod.mk.injEq, true_and] at hq
    subst hq
    cases b with
    | true => exact inlQ_val rfl (fun _ => rfl) rfl t111t
    | false => exact inlQ_val rfl (fun _ => rfl) rfl t111f
  · cases hq
noncomputable def EM4 : Env := EM3.sum 111 q111r
theorem EM4_s : EM4.Sound := EM3_s.sumC ((inlQ_CallQ EM2_s pfl (LpF.none fun _ => rfl) has111).of q111r_ok)
def q166 (args : List AV) (_ : AH) : Option (Bool × AV) := match args with
  | [.one (.v (.int .u32 a)), .one (.v (.int .u32 b)), .one (.v (.bool s))] => some (true, .tup [u32V (mulHi a b s), u32V (mulLo a b s)])
  | _ => none
theorem q166_ok : ∀ args h v, q166 args h = some (true, v) → inlQ EM2 Try.f166 60 args h = some (true, v) := by
  intro args h v hq
  unfold q166 at hq
  split at hq
  · rename_i a b s
    simp only [Option.some.injEq, Prod.mk.injEq, true_and] at hq
    subst hq
    cases s with
    | true => exact inlQ_val rfl (fun _ => rfl) rfl (t166t a b)
    | false => exact inlQ_val rfl (fun _ => rfl) rfl (t166f a b)
  · cases hq
noncomputable def EM5 : Env := EM4.sum 166 q166
theorem EM5_s : EM5.Sound := EM4_s.sumC ((inlQ_CallQ EM2_s pfl (LpF.none fun _ => rfl) has166).of q166_ok)
def q167 (args : List AV) (_ : AH) : Option (Bool × AV) := match args with
  | [.one (.v (.int .u32 a)), .one (.v (.int .u32 b)), .one (.v (.bool s))] => some (bif s then divG b else true, .tup [u32V (quoB a b s), u32V (remB a b s)])
  | _ => none
theorem q167_ok : ∀ args h v, q167 args h = some (true, v) → inlQ EM2 Try.f167 60 args h = some (true, v) := by
  intro args h v hq
  unfold q167 at hq
  split at hq
  · rename_i a b s
    simp only [Option.some.injEq, Prod.mk.injEq] at hq
    obtain ⟨hg, rfl⟩ := hq
    cases s with
    | true =>
      refine inlQ_val rfl (fun _ => rfl) rfl ((congrArg valOf (t167t a b)).trans ?_)
      simp only [quoB, remB, cond_true, quoS, remS]
      cases h0 : b == 0 with
      | true => rfl
      | false =>
        simp only [cond_true] at hg
        unfold divG at hg
        rw [h0, Bool.false_or] at hg
        rw [hg]
        rfl
    | false =>
      refine inlQ_val rfl (fun _ => rfl) rfl ((congrArg valOf (t167f a b)).trans ?_)
      simp only [quoB, remB, cond_false, quoU, remU]
      cases h0 : b == 0 with
      | true => rfl
      | false =>
        rfl
  · cases hq
noncomputable def EM6 : Env := EM5.sum 167 q167
theorem EM6_s : EM6.Sound := EM5_s.sumC ((inlQ_CallQ EM2_s pfl (LpF.none fun _ => rfl) has167).of q167_ok)
def q168 (args : List AV) (_ : AH) : Option (Bool × AV) := match args with
  | [.one (.v (.int .u32 x))] => some (true, u32V (zR x 32 0))
  | _ => none
theorem q168_ok : ∀ args h v, q168 args h = some (true, v) → inlQ EM2 Try.f168 400 args h = some (true, v) := by
  intro args h v hq
  unfold q168 at hq
  split at hq
  · rename_i x
    simp only [Option.some.injEq, Prod.mk.injEq, true_and] at hq
    subst hq
    exact inlQ_val rfl (fun _ => rfl) rfl ((congrArg valOf (t168 x)).trans (zRO_val x 32 0))
  · cases hq
noncomputable def EM7 : Env := EM6.sum 168 q168
theorem EM7_s : EM7.Sound := EM6_s.sumC ((inlQ_CallQ EM2_s pfl (LpF.none fun _ => rfl) has168).of q168_ok)
noncomputable def EM8 : Env := EM7.inlQ 169 Try.f169 30
theorem EM8_s : EM8.Sound := EM7_s.inlQ pfl has169
noncomputable def EM9 : Env := EM8.inlQ 118 Try.f118 30
theorem EM9_s : EM9.Sound := EM8_s.inlQ pfl has118
noncomputable def EM10 : Env := EM9.inlQ 119 Try.f119 30
theorem EM10_s : EM10.Sound := EM9_s.inlQ pfl has119
end Go.Proofs.Ytjpeplidbodjiaa
/- The reference's Reckon and Stops, for every kind. -/
namespace Go.Proofs.Ytjpeplidbodjiaa
open Go.RowKit
set_option maxRecDepth 100000
theorem has114 : hasFn Try.prog 114 Try.f114 := ⟨by kernel_rfl, by kernel_rfl, by kernel_rfl⟩
theorem has115 : hasFn Try.prog 115 Try.f115 := ⟨by kernel_rfl, by kernel_rfl, by kernel_rfl⟩
theorem has54 : hasFn Try.prog 54 Try.f54 := ⟨by kernel_rfl, by kernel_rfl, by kernel_rfl⟩
theorem has56 : hasFn Try.prog 56 Try.f56 := ⟨by kernel_rfl, by kernel_rfl, by kernel_rfl⟩
def quoT (k a b : Int) : Out := bif (bif k == 17 then divG b else true) then some (u32V (quoB a b (k == 17)), h00) else none
def remT (k a b : Int) : Out := bif (bif k == 19 then divG b else true) then some (u32V (remB a b (k == 19)), h00) else none
theorem t114 (k a b : Int) : evF EM10 Try.f114 200 [intV k, u32V a, u32V b] ⟨[], [], 0⟩ = bif k == 14 then some (u32V (mulLo a b true), h00) else bif k == 15 then some (u32V (mulHi a b (k == 15)), h00) else bif k == 16 then some (u32V (mulHi a b (k == 15)), h00) else
  bif k == 17 then quoT k a b else bif k == 18 then quoT k a b else remT k a b := by kernel_rfl
theorem t115 (k a b d : Int) : evF EM10 Try.f115 200 [intV k, u32V a, u32V b, u32V d] ⟨[], [], 0⟩ = bif k == 21 then some (u32V (zR a 32 0), h00) else bif k == 22 then some (u32V (zR (notV a) 32 0), h00) else
  bif k == 23 then (bif ((b == 0) == (k == 23)) then some (u32V a, h00) else some (u32V d, h00)) else bif k == 24 then (bif ((b == 0) == (k == 23)) then some (u32V a, h00) else some (u32V d, h00)) else
  bif k == 25 then some (u32V (bitV (a == b)), h00) else bif k == 26 then some (u32V (bitV (a != b)), h00) else bif k == 27 then some (u32V (bitV (decide (IntKind.i32.wrap a ≤ 0))), h00) else
  bif k == 28 then some (u32V (bitV (decide (IntKind.i32.wrap a > 0))), h00) else bif k == 29 then some (u32V (bitV (decide (IntKind.i32.wrap a < 0))), h00) else some (u32V (bitV (decide (IntKind.i32.wrap a ≥ 0))), h00) := by kernel_rfl
def longR (k a b : Int) : Int := bif k == 14 then mulLo a b true else bif k == 15 then mulHi a b (k == 15) else bif k == 16 then mulHi a b (k == 15) else
  bif k == 17 then quoB a b (k == 17) else bif k == 18 then quoB a b (k == 17) else remB a b (k == 19)
def oneR (k a b d : Int) : Int := bif k == 21 then zR a 32 0 else bif k == 22 then zR (notV a) 32 0 else bif k == 23 then (bif ((b == 0) == (k == 23)) then a else d) else bif k == 24 then (bif ((b == 0) == (k == 23)) then a else d) else
  bif k == 25 then bitV (a == b) else bif k == 26 then bitV (a != b) else bif k == 27 then bitV (decide (IntKind.i32.wrap a ≤ 0)) else
  bif k == 28 then bitV (decide (IntKind.i32.wrap a > 0)) else bif k == 29 then bitV (decide (IntKind.i32.wrap a < 0)) else bitV (decide (IntKind.i32.wrap a ≥ 0))
def q114r (args : List AV) (_ : AH) : Option (Bool × AV) := match args with
  | [.one (.v (.int .i64 k)), .one (.v (.int .u32 a)), .one (.v (.int .u32 b))] => some (longG k b, u32V (longR k a b))
  | _ => none
theorem q114r_ok : ∀ args h v, q114r args h = some (true, v) → inlQ EM10 Try.f114 200 args h = some (true, v) := by
  intro args h v hq
  unfold q114r at hq
  split at hq
  · rename_i k a b
    simp only [Option.some.injEq, Prod.mk.injEq] at hq
    obtain ⟨hg, rfl⟩ := hq
    refine inlQ_val rfl (fun _ => rfl) rfl ((congrArg valOf (t114 k a b)).trans ?_)
    have hx : valOf (quoT k a b) = some (u32V (quoB a b (k == 17))) := by
      unfold quoT
      cases h : k == 17 with
      | true =>
        unfold longG at hg
        rw [h, cond_true, cond_true] at hg
        rw [cond_true, hg]
        rfl
      | false => rfl
    have hy : valOf (remT k a b) = some (u32V (remB a b (k == 19))) := by
      unfold remT
      cases h : k == 19 with
      | true =>
        unfold longG at hg
        rw [h] at hg
        have hg : divG b = true := by cases h2 : k == 17 <;> (rw [h2] at hg; exact hg)
        rw [cond_true, hg]
        rfl
      | false => rfl
    exact cv rfl (cv rfl (cv rfl (cv hx (cv hx hy))))
  · cases hq
def q115r (args : List AV) (_ : AH) : Option (Bool × AV) := match args with
  | [.one (.v (.int .i64 k)), .one (.v (.int .u32 a)), .one (.v (.int .u32 b)), .one (.v (.int .u32 d))] => some (true, u32V (oneR k a b d))
  | _ => none
theorem q115r_ok : ∀ args h v, q115r args h = some (true, v) → inlQ EM10 Try.f115 200 args h = some (true, v) := by
  intro args h v hq
  unfold q115r at hq
  split at hq
  · rename_i k a b d
    simp only [Option.some.injEq, Prod.mk.injEq, true_and] at hq
    subst hq
    refine inlQ_val rfl (fun _ => rfl) rfl ((congrArg valOf (t115 k a b d)).trans ?_)
    exact cv rfl (cv rfl (cv (cv rfl rfl) (cv (cv rfl rfl) (cv rfl (cv rfl (cv rfl (cv rfl (cv rfl rfl))))))))
  · cases hq
noncomputable def EM11 : Env := EM10.sum 114 q114r
theorem EM11_s : EM11.Sound := EM10_s.sumC ((inlQ_CallQ EM10_s pfl (LpF.none fun _ => rfl) has114).of q114r_ok)
noncomputable def EM12 : Env := EM11.sum 115 q115r
theorem EM12_s : EM12.Sound := EM11_s.sumC ((inlQ_CallQ EM10_s pfl (LpF.none fun _ => rfl) has115).of q115r_ok)
def lngO (k a b : Int) : Out := bif longG k b then some (u32V (longR k a b), h01) else none
def oneO (k a b d : Int) : Out := some (u32V (oneR k a b d), h01)
def nilO : Out := some (u32V 0, h01)
theorem t54 (k D A B I At a b d : Int) : evF EM12 Try.f54 200 [opA k D A B I At, u32V a, u32V b, u32V d] ⟨[], [], 0⟩ = bif k == 1 then some (u32V I, h01) else bif k == 2 then some (u32V a, h01) else bif k == 3 then some (u32V (IntKind.u32.wrap (a + b)), h01) else bif k == 31 then some (u32V (IntKind.u32.wrap (a + b)), h01) else
  bif k == 4 then some (u32V (IntKind.u32.wrap (a - b)), h01) else bif k == 32 then some (u32V (IntKind.u32.wrap (a - b)), h01) else bif k == 5 then some (u32V (bitsV (· &&& ·) a b), h01) else bif k == 6 then some (u32V (bitsV (· ||| ·) a b), h01) else bif k == 7 then some (u32V (bitsV (· ^^^ ·) a b), h01) else
  bif k == 8 then some (u32V (notV (bitsV (· ||| ·) a b)), h01) else bif k == 9 then some (u32V (bitV (ltS a b)), h01) else bif k == 10 then some (u32V (bitV (decide (a < b))), h01) else bif k == 11 then some (u32V (IntKind.u32.wrap (a * 2 ^ min (shV b) IntKind.u32.bits)), h01) else
  bif k == 12 then some (u32V (a.fdiv (2 ^ min (shV b) IntKind.u32.bits)), h01) else bif k == 13 then some (u32V (IntKind.u32.wrap ((IntKind.i32.wrap a).fdiv (2 ^ min (shV b) IntKind.i32.bits))), h01) else
  bif (bif decide (k ≥ 14) then decide (k ≤ 20) else false) then lngO k a b else bif (bif decide (k ≥ 21) then decide (k ≤ 30) else false) then oneO k a b d else nilO := by kernel_rfl
end Go.Proofs.Ytjpeplidbodjiaa
/- The reference's Stops, for every kind. -/
namespace Go.Proofs.Ytjpeplidbodjiaa
open Go.RowKit
set_option maxRecDepth 100000
theorem has120 : hasFn Try.prog 120 Try.f120 := ⟨by kernel_rfl, by kernel_rfl, by kernel_rfl⟩
def addR (a b : Int) : Bool := !inZ (IntKind.i64.wrap (divS a + divS b))
def subR (a b : Int) : Bool := !inZ (IntKind.i64.wrap (divS a - divS b))
def insX (o s t d x i : Int) : AV := .agg [.v (.int .i64 o), .v (.int .i64 s), .v (.int .i64 t), .v (.int .i64 d), .v (.int .i64 x), .v (.int .u32 i)]
theorem t120 (o s t d x i a b : Int) : evF EM12 Try.f120 200 [insX o s t d x i, u32V a, u32V b] ⟨[], [], 0⟩ = bif o == 9 then some (boolV (addR a b), h01) else bif o == 10 then some (boolV (subR a b), h01) else bif o == 41 then some (boolV (addR a i), h01) else
  bif o == 29 then some (boolV (!ltS a b), h01) else bif o == 30 then some (boolV (decide (a ≥ b)), h01) else bif o == 31 then some (boolV (ltS a b), h01) else bif o == 32 then some (boolV (decide (a < b)), h01) else bif o == 33 then some (boolV (a == b), h01) else
  bif o == 34 then some (boolV (a != b), h01) else some (boolV false, h01) := by kernel_rfl
def trapR (o a b i : Int) : Bool := bif o == 9 then addR a b else bif o == 10 then subR a b else bif o == 41 then addR a i else
  bif o == 29 then !ltS a b else bif o == 30 then decide (a ≥ b) else bif o == 31 then ltS a b else bif o == 32 then decide (a < b) else bif o == 33 then a == b else bif o == 34 then a != b else false
def q120 (args : List AV) (_ : AH) : Option (Bool × AV) := match args with
  | [.agg [.v (.int .i64 o), .v (.int .i64 _), .v (.int .i64 _), .v (.int .i64 _), .v (.int .i64 _), .v (.int .u32 i)], .one (.v (.int .u32 a)), .one (.v (.int .u32 b))] => some (true, boolV (trapR o a b i))
  | _ => none
theorem q120_ok : ∀ args h v, q120 args h = some (true, v) → inlQ EM12 Try.f120 200 args h = some (true, v) := by
  intro args h v hq
  unfold q120 at hq
  split at hq
  · rename_i o s t d x i a b
    simp only [Option.some.injEq, Prod.mk.injEq, true_and] at hq
    subst hq
    refine inlQ_val rfl (fun _ => rfl) rfl ((congrArg valOf (t120 o s t d x i a b)).trans ?_)
    exact cb rfl (cb rfl (cb rfl (cb rfl (cb rfl (cb rfl (cb rfl (cb rfl (cb rfl rfl))))))))
  · cases hq
noncomputable def EM13 : Env := EM12.sum 120 q120
theorem EM13_s : EM13.Sound := EM12_s.sumC ((inlQ_CallQ EM12_s pfl (LpF.none fun _ => rfl) has120).of q120_ok)
def trO (k a b : Int) : Out := some (boolV (trapR (IntKind.i64.wrap (k - 4)) a b 0), h01)
theorem t56 (k D A B I At a b : Int) : evF EM13 Try.f56 200 [opA k D A B I At, u32V a, u32V b] ⟨[], [], 0⟩ = bif k == 31 then some (boolV (addR a b), h01) else bif k == 32 then some (boolV (subR a b), h01) else
  bif k == 33 then trO k a b else bif k == 34 then trO k a b else bif k == 35 then trO k a b else bif k == 36 then trO k a b else bif k == 37 then trO k a b else bif k == 38 then trO k a b else some (boolV false, h01) := by kernel_rfl
def stopR (k a b : Int) : Bool := bif k == 31 then addR a b else bif k == 32 then subR a b else bif k == 33 then !ltS a b else bif k == 34 then decide (a ≥ b) else bif k == 35 then ltS a b else bif k == 36 then decide (a < b) else bif k == 37 then a == b else bif k == 38 then a != b else false
def q56r (args : List AV) (_ : AH) : Option (Bool × AV) := match args with
  | [.agg [.v (.int .i64 k), .v (.int .i64 _), .v (.int .i64 _), .v (.int .i64 _), .v (.int .u32 _), .v (.int .i64 _)], .one (.v (.int .u32 a)), .one (.v (.int .u32 b))] => some (true, boolV (stopR k a b))
  | _ => none
theorem tr_val {c : Int} {a b : Int} {v : Bool} (h : trapR (IntKind.i64.wrap (c - 4)) a b 0 = v) {Y : Out} {y : Bool} (k : Int) (hY : valOf Y = some (boolV y)) : valOf (bif k == c then trO k a b else Y) = some (boolV (bif k == c then v else y)) := by
  cases e : k == c with
  | true =>
    have := eq_of_beq e
    subst this
    simp only [cond_true, trO, h]
    rfl
  | false => exact hY
theorem q56r_ok : ∀ args h v, q56r args h = some (true, v) → inlQ EM13 Try.f56 200 args h = some (true, v) := by
  intro args h v hq
  unfold q56r at hq
  split at hq
  · rename_i k D A B I At a b
    simp only [Option.some.injEq, Prod.mk.injEq, true_and] at hq
    subst hq
    refine inlQ_val rfl (fun _ => rfl) rfl ((congrArg valOf (t56 k D A B I At a b)).trans ?_)
    exact cb rfl (cb rfl (tr_val rfl k (tr_val rfl k (tr_val rfl k (tr_val rfl k (tr_val rfl k (tr_val rfl k rfl)))))))
  · cases hq
theorem c56r_ok : CallQ Try.prog 56 q56r := (inlQ_CallQ EM13_s pfl (LpF.none fun _ => rfl) has56).of q56r_ok
def recR (k I a b d : Int) : Int := bif k == 1 then I else bif k == 2 then a else bif k == 3 then IntKind.u32.wrap (a + b) else bif k == 31 then IntKind.u32.wrap (a + b) else
  bif k == 4 then IntKind.u32.wrap (a - b) else bif k == 32 then IntKind.u32.wrap (a - b) else bif k == 5 then bitsV (· &&& ·) a b else bif k == 6 then bitsV (· ||| ·) a b else bif k == 7 then bitsV (· ^^^ ·) a b else
  bif k == 8 then notV (bitsV (· ||| ·) a b) else bif k == 9 then bitV (ltS a b) else bif k == 10 then bitV (decide (a < b)) else bif k == 11 then IntKind.u32.wrap (a * 2 ^ min (shV b) IntKind.u32.bits) else
  bif k == 12 then a.fdiv (2 ^ min (shV b) IntKind.u32.bits) else bif k == 13 then IntKind.u32.wrap ((IntKind.i32.wrap a).fdiv (2 ^ min (shV b) IntKind.i32.bits)) else
  bif (bif decide (k ≥ 14) then decide (k ≤ 20) else false) then longR k a b else bif (bif decide (k ≥ 21) then decide (k ≤ 30) else false) then oneR k a b d else 0
def q54r (args : List AV) (_ : AH) : Option (Bool × AV) := match args with
  | [.agg [.v (.int .i64 k), .v (.int .i64 _), .v (.int .i64 _), .v (.int .i64 _), .v (.int .u32 I), .v (.int .i64 _)], .one (.v (.int .u32 a)), .one (.v (.int .u32 b)), .one (.v (.int .u32 d))] => some (longG k b, u32V (recR k I a b d))
  | _ => none
theorem q54r_ok : ∀ args h v, q54r args h = some (true, v) → inlQ EM12 Try.f54 200 args h = some (true, v) := by
  intro args h v hq
  unfold q54r at hq
  split at hq
  · rename_i k D A B I At a b d
    simp only [Option.some.injEq, Prod.mk.injEq] at hq
    obtain ⟨hg, rfl⟩ := hq
    refine inlQ_val rfl (fun _ => rfl) rfl ((congrArg valOf (t54 k D A B I At a b d)).trans ?_)
    unfold lngO
    rw [hg, cond_true]
    exact cv rfl (cv rfl (cv rfl (cv rfl (cv rfl (cv rfl (cv rfl (cv rfl (cv rfl (cv rfl (cv rfl (cv rfl (cv rfl (cv rfl (cv rfl (cv rfl (cv rfl rfl))))))))))))))))
  · cases hq
theorem c54r_ok : CallQ Try.prog 54 q54r := (inlQ_CallQ EM12_s pfl (LpF.none fun _ => rfl) has54).of q54r_ok
end Go.Proofs.Ytjpeplidbodjiaa
/- The program's Stops is the reference's. -/
namespace Go.Proofs.Ytjpeplidbodjiaa
open Go.RowKit
set_option maxRecDepth 100000
theorem bits_and {a b : Nat} (ha : a < 4294967296) (hb : b < 4294967296) : bitsV (· &&& ·) (a : Int) (b : Int) = ((a &&& b : Nat) : Int) := by
  show IntKind.u32.wrap (((BitVec.ofInt 32 (a : Int) &&& BitVec.ofInt 32 (b : Int)).toNat : Nat) : Int) = _
  have hlt : a &&& b < 2 ^ 32 := Nat.and_lt_two_pow _ (by omega)
  rw [BitVec.toNat_and, BitVec.ofInt_natCast, BitVec.ofInt_natCast, BitVec.toNat_ofNat, BitVec.toNat_ofNat, Nat.mod_eq_of_lt (by omega), Nat.mod_eq_of_lt (by omega), IntKind.wrap_u32]
  omega
theorem bits_xor {a b : Nat} (ha : a < 4294967296) (hb : b < 4294967296) : bitsV (· ^^^ ·) (a : Int) (b : Int) = ((a ^^^ b : Nat) : Int) := by
  show IntKind.u32.wrap (((BitVec.ofInt 32 (a : Int) ^^^ BitVec.ofInt 32 (b : Int)).toNat : Nat) : Int) = _
  have hlt : a ^^^ b < 2 ^ 32 := Nat.xor_lt_two_pow (by omega) (by omega)
  rw [BitVec.toNat_xor, BitVec.ofInt_natCast, BitVec.ofInt_natCast, BitVec.toNat_ofNat, BitVec.toNat_ofNat, Nat.mod_eq_of_lt (by omega), Nat.mod_eq_of_lt (by omega), IntKind.wrap_u32]
  omega
theorem top_bit (x : Nat) (hx : x < 4294967296) : x.testBit 31 = decide (2147483648 ≤ x) := by
  rw [Nat.testBit_eq_decide_div_mod_eq]
  apply decide_eq_decide.2
  omega
theorem and_top (x : Nat) : (((x &&& 2 ^ 31 : Nat) : Int) != 0) = x.testBit 31 := by
  have hb : ∀ i, (x &&& 2 ^ 31).testBit i = (x.testBit i && decide (31 = i)) := fun i => by rw [Nat.testBit_and, Nat.testBit_two_pow]
  cases h : x.testBit 31 with
  | false =>
    have : x &&& 2 ^ 31 = 0 := by
      apply Nat.eq_of_testBit_eq
      intro i
      rw [hb, Nat.zero_testBit]
      by_cases hi : 31 = i
      · subst hi; rw [h]; rfl
      · rw [decide_eq_false hi, Bool.and_false]
    rw [this]
    rfl
  | true =>
    have h1 := hb 31
    rw [h] at h1
    have : x &&& 2 ^ 31 ≠ 0 := fun e => by rw [e, Nat.zero_testBit] at h1; cases h1
    rw [bne_iff_ne]
    omega
/-- The sign bit of two differences. -/
theorem sign_and {a b c d : Nat} (ha : a < 4294967296) (hb : b < 4294967296) (hc : c < 4294967296) (hd : d < 4294967296) :
    (bitsV (· &&& ·) (bitsV (· &&& ·) (bitsV (· ^^^ ·) (a : Int) (b : Int)) (bitsV (· ^^^ ·) (c : Int) (d : Int))) 2147483648 != 0) = ((decide (2147483648 ≤ a) != decide (2147483648 ≤ b)) && (decide (2147483648 ≤ c) != decide (2147483648 ≤ d))) := by
  have h1 : a ^^^ b < 2 ^ 32 := Nat.xor_lt_two_pow (by omega) (by omega)
  have h2 : c ^^^ d < 2 ^ 32 := Nat.xor_lt_two_pow (by omega) (by omega)
  have h3 : (a ^^^ b) &&& (c ^^^ d) < 2 ^ 32 := Nat.and_lt_two_pow _ h2
  have e : (2147483648 : Int) = ((2 ^ 31 : Nat) : Int) := by decide
  rw [bits_xor ha hb, bits_xor hc hd, bits_and (by omega) (by omega), e, bits_and (by omega) (by decide), and_top, Nat.testBit_and, Nat.testBit_xor, Nat.testBit_xor, top_bit a ha, top_bit b hb, top_bit c hc, top_bit d hd]
theorem divS_val (a : Int) : divS a = (a + 2147483648) % 4294967296 - 2147483648 := by
  unfold divS
  rw [IntKind.wrap_i64, IntKind.wrap_i32]
  omega
theorem addO_eq {a b : Int} (a0 : 0 ≤ a) (a1 : a < 4294967296) (b0 : 0 ≤ b) (b1 : b < 4294967296) : addO a b = addR a b := by
  obtain ⟨x, rfl⟩ : ∃ m : Nat, a = m := ⟨a.toNat, by omega⟩
  obtain ⟨y, rfl⟩ : ∃ m : Nat, b = m := ⟨b.toNat, by omega⟩
  have hs : IntKind.u32.wrap ((x : Int) + y) = (((x + y) % 4294967296 : Nat) : Int) := by rw [IntKind.wrap_u32]; omega
  unfold addO addR inZ
  rw [hs, sign_and (by omega) (by omega) (by omega) (by omega), divS_val, divS_val]
  have e : IntKind.i64.wrap (((x : Int) + 2147483648) % 4294967296 - 2147483648 + (((y : Int) + 2147483648) % 4294967296 - 2147483648)) = ((x : Int) + 2147483648) % 4294967296 - 2147483648 + (((y : Int) + 2147483648) % 4294967296 - 2147483648) := by rw [IntKind.wrap_i64]; omega
  rw [e]
  rw [Bool.eq_iff_iff]
  by_cases h1 : 2147483648 ≤ x <;> by_cases h2 : 2147483648 ≤ y <;> by_cases h3 : 2147483648 ≤ (x + y) % 4294967296 <;> simp [h1, h2, h3, Bool.cond_eq_ite] <;> omega
theorem subO_eq {a b : Int} (a0 : 0 ≤ a) (a1 : a < 4294967296) (b0 : 0 ≤ b) (b1 : b < 4294967296) : subO a b = subR a b := by
  obtain ⟨x, rfl⟩ : ∃ m : Nat, a = m := ⟨a.toNat, by omega⟩
  obtain ⟨y, rfl⟩ : ∃ m : Nat, b = m := ⟨b.toNat, by omega⟩
  have hs : IntKind.u32.wrap ((x : Int) - y) = (((x + 4294967296 - y) % 4294967296 : Nat) : Int) := by rw [IntKind.wrap_u32]; omega
  unfold subO subR inZ
  rw [hs, sign_and (by omega) (by omega) (by omega) (by omega), divS_val, divS_val]
  have e : IntKind.i64.wrap (((x : Int) + 2147483648) % 4294967296 - 2147483648 - (((y : Int) + 2147483648) % 4294967296 - 2147483648)) = ((x : Int) + 2147483648) % 4294967296 - 2147483648 - (((y : Int) + 2147483648) % 4294967296 - 2147483648) := by rw [IntKind.wrap_i64]; omega
  rw [e]
  rw [Bool.eq_iff_iff]
  by_cases h1 : 2147483648 ≤ x <;> by_cases h2 : 2147483648 ≤ y <;> by_cases h3 : 2147483648 ≤ (x + 4294967296 - y) % 4294967296 <;> simp [h1, h2, h3, Bool.cond_eq_ite] <;> omega
/-- Stops: the program says what the reference says. -/
theorem stop_eq {k a b : Int} (a0 : 0 ≤ a) (a1 : a < 4294967296) (b0 : 0 ≤ b) (b1 : b < 4294967296) : stopZ k a b = stopR k a b := by
  unfold stopZ stopR
  rw [addO_eq a0 a1 b0 b1, subO_eq a0 a1 b0 b1]
end Go.Proofs.Ytjpeplidbodjiaa
/- Leading noughts: by the table, and one by one. -/
namespace Go.Proofs.Ytjpeplidbodjiaa
open Go.RowKit
set_option maxRecDepth 100000
/-- How many bits a number needs. -/
def bl (x : Nat) : Nat := bif Nat.beq x 0 then 0 else Nat.log2 x + 1
theorem bl_zero : bl 0 = 0 := rfl
theorem bl_pos {x : Nat} (h : x ≠ 0) : bl x = Nat.log2 x + 1 := by
  unfold bl
  rw [show Nat.beq x 0 = false by rw [← Bool.not_eq_true]; exact fun e => h (Nat.eq_of_beq_eq_true e)]
  rfl
theorem bl_div {x k : Nat} (h : x / 2 ^ k ≠ 0) : bl x = k + bl (x / 2 ^ k) := by
  have hx : x ≠ 0 := fun e => h (by rw [e]; simp)
  rw [bl_pos hx, bl_pos h]
  have h1 := Nat.log2_self_le h
  have h2 := Nat.lt_log2_self (n := x / 2 ^ k)
  have hk := Nat.two_pow_pos k
  have e : Nat.log2 x = k + Nat.log2 (x / 2 ^ k) := by
    rw [Nat.log2_eq_iff hx]
    constructor
    · rw [Nat.pow_add]
      exact Nat.le_trans (Nat.mul_le_mul_left _ h1) (Nat.mul_div_le _ _)
    · rw [Nat.add_assoc, Nat.pow_add]
      have := (Nat.div_lt_iff_lt_mul hk).1 h2
      rw [Nat.mul_comm]
      exact this
  omega
theorem tab_ok : (List.range 256).all (fun y => byteS lenB y == (bl y : Int)) = true := by decide +kernel
theorem len8_eq {y : Nat} (h : y < 256) : len8 (y : Int) = (bl y : Int) := by
  have e : (IntKind.u8.wrap (y : Int)).toNat = y := by rw [IntKind.wrap_u8]; omega
  have := eq_of_beq (List.all_eq_true.1 tab_ok y (List.mem_range.2 h))
  have hb : bl y ≤ 9 := by
    rcases Nat.eq_zero_or_pos y with h0 | h0
    · subst h0; decide
    · rw [bl_pos (by omega)]
      have := (Nat.log2_lt (n := y) (k := 8) (by omega)).2 (by omega)
      omega
  unfold len8
  rw [e, this, IntKind.wrap_i64]
  omega
theorem fdiv_nat (x k : Nat) : ((x : Int)).fdiv (2 ^ k) = ((x / 2 ^ k : Nat) : Int) := by
  rw [Int.fdiv_eq_ediv_of_nonneg _ (by exact Int.le_of_lt (Int.pow_pos (by omega)))]
  simp
theorem len32_eq {x : Nat} (h : x < 4294967296) : len32 (x : Int) = (bl x : Int) := by
  unfold len32
  rw [fdiv_nat, fdiv_nat x 8, fdiv_nat]
  by_cases h1 : 65536 ≤ x
  · rw [decide_eq_true (show (x : Int) ≥ 65536 by omega), cond_true]
    by_cases h2 : 256 ≤ x / 2 ^ 16
    · have e := bl_div (x := x) (k := 16) (by omega)
      have e2 := bl_div (x := x / 2 ^ 16) (k := 8) (by omega)
      rw [decide_eq_true (show ((x / 2 ^ 16 : Nat) : Int) ≥ 256 by omega), cond_true, len8_eq (by omega), e, e2, IntKind.wrap_i64, IntKind.wrap_i64]
      have : bl (x / 2 ^ 16 / 2 ^ 8) ≤ 9 := by
        have := len8_eq (y := x / 2 ^ 16 / 2 ^ 8) (by omega)
        rcases Nat.eq_zero_or_pos (x / 2 ^ 16 / 2 ^ 8) with h0 | h0
        · rw [h0]; decide
        · rw [bl_pos (by omega)]
          have := (Nat.log2_lt (n := x / 2 ^ 16 / 2 ^ 8) (k := 8) (by omega)).2 (by omega)
          omega
      omega
    · have e := bl_div (x := x) (k := 16) (by omega)
      rw [decide_eq_false (show ¬ ((x / 2 ^ 16 : Nat) : Int) ≥ 256 by omega), cond_false, len8_eq (by omega), e, IntKind.wrap_i64]
      have : bl (x / 2 ^ 16) ≤ 9 := by
        rw [bl_pos (by omega)]
        have := (Nat.log2_lt (n := x / 2 ^ 16) (k := 8) (by omega)).2 (by omega)
        omega
      omega
  · rw [decide_eq_false (show ¬ (x : Int) ≥ 65536 by omega), cond_false]
    by_cases h2 : 256 ≤ x
    · have e := bl_div (x := x) (k := 8) (by omega)
      rw [decide_eq_true (show (x : Int) ≥ 256 by omega), cond_true, len8_eq (by omega), e, IntKind.wrap_i64, IntKind.wrap_i64]
      have : bl (x / 2 ^ 8) ≤ 9 := by
        rw [bl_pos (by omega)]
        have := (Nat.log2_lt (n := x / 2 ^ 8) (k := 8) (by omega)).2 (by omega)
        omega
      omega
    · rw [decide_eq_false (show ¬ (x : Int) ≥ 256 by omega), cond_false, len8_eq (by omega), IntKind.wrap_i64]
      have : bl x ≤ 9 := by
        rcases Nat.eq_zero_or_pos x with h0 | h0
        · subst h0; decide
        · rw [bl_pos (by omega)]
          have := (Nat.log2_lt (n := x) (k := 8) (by omega)).2 (by omega)
          omega
      omega
theorem zR_eq (x : Nat) : ∀ c n : Nat, n + c = 32 → x < 2 ^ c → zR (x : Int) c n = ((32 - bl x : Nat) : Int)
  | 0, n, hn, hx => by
    have : x = 0 := by simpa using hx
    subst this
    simp only [zR, bl_zero]
    omega
  | c + 1, n, hn, hx => by
    simp only [zR]
    rw [show 31 - n = c by omega, fdiv_nat]
    by_cases h : x < 2 ^ c
    · rw [Nat.div_eq_of_lt h]
      exact zR_eq x c (n + 1) (by omega) h
    · have hp := Nat.two_pow_pos c
      have hd : x / 2 ^ c ≠ 0 := by
        have := (Nat.le_div_iff_mul_le hp (x := 1) (y := x)).2 (by omega)
        omega
      have hx0 : x ≠ 0 := by omega
      have e : Nat.log2 x = c := (Nat.log2_eq_iff hx0).2 ⟨by omega, hx⟩
      rw [show (((x / 2 ^ c : Nat) : Int) == 0) = false by rw [beq_eq_false_iff_ne]; omega, cond_false, bl_pos hx0, e]
      omega
theorem zeros_eq {a : Int} (a0 : 0 ≤ a) (a1 : a < 4294967296) : zerosV a = zR a 32 0 := by
  obtain ⟨x, rfl⟩ : ∃ m : Nat, a = m := ⟨a.toNat, by omega⟩
  rw [zR_eq x 32 0 rfl (by omega)]
  unfold zerosV
  rw [len32_eq (by omega), IntKind.wrap_i64, IntKind.wrap_u32]
  have : bl x ≤ 32 := by
    rcases Nat.eq_zero_or_pos x with h0 | h0
    · subst h0; decide
    · rw [bl_pos (by omega)]
      have := (Nat.log2_lt (n := x) (k := 32) (by omega)).2 (by omega)
      omega
  omega
end Go.Proofs.Ytjpeplidbodjiaa
/- The program's Reckon is the reference's. -/
namespace Go.Proofs.Ytjpeplidbodjiaa
open Go.RowKit
set_option maxRecDepth 100000
theorem not_range (a : Int) : 0 ≤ notV a ∧ notV a < 4294967296 := by
  unfold notV
  rw [IntKind.wrap_u32]
  omega
theorem i32_0 : IntKind.i32.wrap 0 = 0 := by decide
theorem lt0_not (a : Int) : (!ltS 0 a) = decide (IntKind.i32.wrap a ≤ 0) := by
  unfold ltS
  rw [i32_0, ← decide_not]
  apply decide_eq_decide.2
  omega
theorem lt0_gt (a : Int) : ltS 0 a = decide (IntKind.i32.wrap a > 0) := by
  unfold ltS
  rw [i32_0]
theorem lt0_lt (a : Int) : ltS a 0 = decide (IntKind.i32.wrap a < 0) := by
  unfold ltS
  rw [i32_0]
theorem lt0_ge (a : Int) : (!ltS a 0) = decide (IntKind.i32.wrap a ≥ 0) := by
  unfold ltS
  rw [i32_0, ← decide_not]
  apply decide_eq_decide.2
  omega
theorem rec_out {k : Int} (h : k < 1 ∨ k > 32) (I a b d : Int) : recZ k I a b d = 0 ∧ recR k I a b d = 0 := by
  have hn : ∀ c : Int, 1 ≤ c → c ≤ 32 → (k == c) = false := fun c h1 h2 => beq_eq_false_iff_ne.2 (by omega)
  constructor
  · unfold recZ longV
    simp only [hn 1 (by omega) (by omega), hn 2 (by omega) (by omega), hn 3 (by omega) (by omega), hn 4 (by omega) (by omega), hn 5 (by omega) (by omega), hn 6 (by omega) (by omega), hn 7 (by omega) (by omega), hn 8 (by omega) (by omega), hn 9 (by omega) (by omega), hn 10 (by omega) (by omega), hn 11 (by omega) (by omega), hn 12 (by omega) (by omega), hn 13 (by omega) (by omega), hn 14 (by omega) (by omega), hn 15 (by omega) (by omega), hn 16 (by omega) (by omega), hn 17 (by omega) (by omega), hn 18 (by omega) (by omega), hn 19 (by omega) (by omega), hn 20 (by omega) (by omega), hn 21 (by omega) (by omega), hn 22 (by omega) (by omega), hn 23 (by omega) (by omega), hn 24 (by omega) (by omega), hn 25 (by omega) (by omega), hn 26 (by omega) (by omega), hn 27 (by omega) (by omega), hn 28 (by omega) (by omega), hn 29 (by omega) (by omega), hn 30 (by omega) (by omega), hn 31 (by omega) (by omega), hn 32 (by omega) (by omega), cond_false]
  · unfold recR
    simp only [hn 1 (by omega) (by omega), hn 2 (by omega) (by omega), hn 3 (by omega) (by omega), hn 4 (by omega) (by omega), hn 5 (by omega) (by omega), hn 6 (by omega) (by omega), hn 7 (by omega) (by omega), hn 8 (by omega) (by omega), hn 9 (by omega) (by omega), hn 10 (by omega) (by omega), hn 11 (by omega) (by omega), hn 12 (by omega) (by omega), hn 13 (by omega) (by omega), hn 31 (by omega) (by omega), hn 32 (by omega) (by omega), cond_false]
    rcases h with h | h
    · rw [decide_eq_false (show ¬ k ≥ 14 by omega), decide_eq_false (show ¬ k ≥ 21 by omega)]
      rfl
    · rw [decide_eq_false (show ¬ k ≤ 20 by omega), decide_eq_false (show ¬ k ≤ 30 by omega), decide_eq_true (show k ≥ 14 by omega), decide_eq_true (show k ≥ 21 by omega)]
      rfl
/-- Reckon: the program puts what the reference puts. -/
theorem rec_eq {k a b : Int} (I d : Int) (a0 : 0 ≤ a) (a1 : a < 4294967296) : recZ k I a b d = recR k I a b d := by
  by_cases h : k < 1 ∨ k > 32
  · rw [(rec_out h I a b d).1, (rec_out h I a b d).2]
  · have hk : k = 1 ∨ k = 2 ∨ k = 3 ∨ k = 4 ∨ k = 5 ∨ k = 6 ∨ k = 7 ∨ k = 8 ∨ k = 9 ∨ k = 10 ∨ k = 11 ∨ k = 12 ∨ k = 13 ∨ k = 14 ∨ k = 15 ∨ k = 16 ∨ k = 17 ∨ k = 18 ∨ k = 19 ∨ k = 20 ∨ k = 21 ∨ k = 22 ∨ k = 23 ∨ k = 24 ∨ k = 25 ∨ k = 26 ∨ k = 27 ∨ k = 28 ∨ k = 29 ∨ k = 30 ∨ k = 31 ∨ k = 32 := by omega
    rcases hk with h | h | h | h | h | h | h | h | h | h | h | h | h | h | h | h | h | h | h | h | h | h | h | h | h | h | h | h | h | h | h | h <;> subst h
    · rfl
    · rfl
    · rfl
    · rfl
    · rfl
    · rfl
    · rfl
    · rfl
    · rfl
    · rfl
    · rfl
    · rfl
    · rfl
    · rfl
    · rfl
    · rfl
    · rfl
    · rfl
    · rfl
    · rfl
    · exact zeros_eq a0 a1
    · exact zeros_eq (not_range a).1 (not_range a).2
    · rfl
    · rfl
    · rfl
    · rfl
    · exact congrArg bitV (lt0_not a)
    · exact congrArg bitV (lt0_gt a)
    · exact congrArg bitV (lt0_lt a)
    · exact congrArg bitV (lt0_ge a)
    · rfl
    · rfl
end Go.Proofs.Ytjpeplidbodjiaa
