/- ins.of: the search through the rows. -/
import Derived.Test.YtjpeplidbodjiaaFB
namespace Go.Proofs.Ytjpeplidbodjiaa
set_option maxRecDepth 100000
def orC {α : Type} : Option α → Option α → Option α
  | some x, _ => some x
  | none, y => y
/-- The first loop of a code. -/
def loopC : Code → Option Code
  | .seq x y => orC (loopC x) (loopC y)
  | .cond _ x y => orC (loopC x) (loopC y)
  | .block _ x => loopC x
  | .loop x => some x
  | _ => none
def bodyC (fn : Func) : Code := match fn.body with
  | some c => c
  | none => .skip
def loopF (fn : Func) : Code := match loopC (bodyC fn) with
  | some x => x
  | none => .skip
noncomputable def EC : Env := EB4.marks (fun i => bif Nat.beq i 10 then some [0, 2, 3, 4, 5, 25, 26, 27] else none) fun _ => none
theorem EC_s : EC.Sound := EB4_s.marks
def zRow : List AC := [.v (.int .i64 0), .v (.int .i64 0), .v (.string ByteArray.empty), .v (.int .u32 0)]
def S136 (k w a b : Int) : AS := ⟨[.one (.v (.int .u32 w)), .one .any, .one (.pt 0 0), .one (.v (.bool false)), .one (.pt 1 0), .one (.pt 2 0), .one .any, .one .any, .one .any, .one .any,
  .one .any, .one .any, .one .any, .one .any, .one .any, .one .any, .one .any, .one .any, .one .any, .one .any, .one .any, .one .any, .one .any, .one .any, .one .any,
  .one (.sl 1 4 1 69 69), .one (.v (.int .i64 69)), .one (.v (.int .i64 k)), .one .any, .one .any, .one .any, .one .any, .one .any, .one .any, .one .any, .one .any, .one .any, .one .any],
  ⟨[(2, 203, .cells [.v (.int .u32 a), .v (.int .u32 b)]), (1, 201, .cells rowsC), (0, 171, .cells zRow)], [], 3⟩⟩
noncomputable def x136 : Code := loopF Try.f136
theorem key136 : keyC x136 = 10 := by kernel_rfl
def rowA (op f : Int) (nm : ByteArray) (c : Int) : List AC := [.v (.int .i64 op), .v (.int .i64 f), .v (.string nm), .v (.int .u32 c)]
def anys : Nat → List AV
  | 0 => []
  | n + 1 => .one .any :: anys n
def kp136 : Exit → Option (List Nat)
  | .ret => some [2, 3]
  | .exit _ => some [2]
  | _ => none
/-- Found: the row lies in the result's cell. -/
def R136 (row : List AC) : AS := ⟨.one .any :: .one .any :: .one (.pt 0 0) :: .one (.v (.bool true)) :: anys 34, ⟨[(0, 171, .cells row)], [], 1⟩⟩
def X136 : AS := ⟨.one .any :: .one .any :: .one (.pt 0 0) :: .one .any :: anys 34, ⟨[(0, 171, .cells zRow)], [], 1⟩⟩
/-- What follows a round. -/
noncomputable def k136 (F : AS → Out) (K : Exit → AS → Out) (e : Exit) (st' : AS) : Out := match e with
  | .normal => gc 0 (EC.lv 10) st' F
  | e => gc 0 (kp136 e) st' (K e)
theorem s136_0 (w a b : Int) (n : Nat) (F : AS → Out) (K : Exit → AS → Out) : ev EC 0 (n + 30) x136 (S136 0 w a b) (k136 F K) = bif slotA 0 33 == a && (slotB 0 33 == b && true) then K .ret (R136 (rowA 1 0 ⟨#[97, 100, 100, 117]⟩ 33)) else F (S136 1 w a b) := by kernel_rfl
theorem s136_1 (w a b : Int) (n : Nat) (F : AS → Out) (K : Exit → AS → Out) : ev EC 0 (n + 30) x136 (S136 1 w a b) (k136 F K) = bif slotA 0 35 == a && (slotB 0 35 == b && true) then K .ret (R136 (rowA 2 0 ⟨#[115, 117, 98, 117]⟩ 35)) else F (S136 2 w a b) := by kernel_rfl
theorem s136_2 (w a b : Int) (n : Nat) (F : AS → Out) (K : Exit → AS → Out) : ev EC 0 (n + 30) x136 (S136 2 w a b) (k136 F K) = bif slotA 0 36 == a && (slotB 0 36 == b && true) then K .ret (R136 (rowA 3 0 ⟨#[97, 110, 100]⟩ 36)) else F (S136 3 w a b) := by kernel_rfl
theorem s136_3 (w a b : Int) (n : Nat) (F : AS → Out) (K : Exit → AS → Out) : ev EC 0 (n + 30) x136 (S136 3 w a b) (k136 F K) = bif slotA 0 37 == a && (slotB 0 37 == b && true) then K .ret (R136 (rowA 4 0 ⟨#[111, 114]⟩ 37)) else F (S136 4 w a b) := by kernel_rfl
theorem s136_4 (w a b : Int) (n : Nat) (F : AS → Out) (K : Exit → AS → Out) : ev EC 0 (n + 30) x136 (S136 4 w a b) (k136 F K) = bif slotA 0 38 == a && (slotB 0 38 == b && true) then K .ret (R136 (rowA 5 0 ⟨#[120, 111, 114]⟩ 38)) else F (S136 5 w a b) := by kernel_rfl
theorem s136_5 (w a b : Int) (n : Nat) (F : AS → Out) (K : Exit → AS → Out) : ev EC 0 (n + 30) x136 (S136 5 w a b) (k136 F K) = bif slotA 0 39 == a && (slotB 0 39 == b && true) then K .ret (R136 (rowA 6 0 ⟨#[110, 111, 114]⟩ 39)) else F (S136 6 w a b) := by kernel_rfl
theorem s136_6 (w a b : Int) (n : Nat) (F : AS → Out) (K : Exit → AS → Out) : ev EC 0 (n + 30) x136 (S136 6 w a b) (k136 F K) = bif slotA 0 42 == a && (slotB 0 42 == b && true) then K .ret (R136 (rowA 7 0 ⟨#[115, 108, 116]⟩ 42)) else F (S136 7 w a b) := by kernel_rfl
theorem s136_7 (w a b : Int) (n : Nat) (F : AS → Out) (K : Exit → AS → Out) : ev EC 0 (n + 30) x136 (S136 7 w a b) (k136 F K) = bif slotA 0 43 == a && (slotB 0 43 == b && true) then K .ret (R136 (rowA 8 0 ⟨#[115, 108, 116, 117]⟩ 43)) else F (S136 8 w a b) := by kernel_rfl
theorem s136_8 (w a b : Int) (n : Nat) (F : AS → Out) (K : Exit → AS → Out) : ev EC 0 (n + 30) x136 (S136 8 w a b) (k136 F K) = bif slotA 0 32 == a && (slotB 0 32 == b && true) then K .ret (R136 (rowA 9 0 ⟨#[97, 100, 100]⟩ 32)) else F (S136 9 w a b) := by kernel_rfl
theorem s136_9 (w a b : Int) (n : Nat) (F : AS → Out) (K : Exit → AS → Out) : ev EC 0 (n + 30) x136 (S136 9 w a b) (k136 F K) = bif slotA 0 34 == a && (slotB 0 34 == b && true) then K .ret (R136 (rowA 10 0 ⟨#[115, 117, 98]⟩ 34)) else F (S136 10 w a b) := by kernel_rfl
theorem s136_10 (w a b : Int) (n : Nat) (F : AS → Out) (K : Exit → AS → Out) : ev EC 0 (n + 30) x136 (S136 10 w a b) (k136 F K) = bif slotA 0 4 == a && (slotB 0 4 == b && true) then K .ret (R136 (rowA 11 0 ⟨#[115, 108, 108, 118]⟩ 4)) else F (S136 11 w a b) := by kernel_rfl
theorem s136_11 (w a b : Int) (n : Nat) (F : AS → Out) (K : Exit → AS → Out) : ev EC 0 (n + 30) x136 (S136 11 w a b) (k136 F K) = bif slotA 0 6 == a && (slotB 0 6 == b && true) then K .ret (R136 (rowA 12 0 ⟨#[115, 114, 108, 118]⟩ 6)) else F (S136 12 w a b) := by kernel_rfl
theorem s136_12 (w a b : Int) (n : Nat) (F : AS → Out) (K : Exit → AS → Out) : ev EC 0 (n + 30) x136 (S136 12 w a b) (k136 F K) = bif slotA 0 7 == a && (slotB 0 7 == b && true) then K .ret (R136 (rowA 13 0 ⟨#[115, 114, 97, 118]⟩ 7)) else F (S136 13 w a b) := by kernel_rfl
theorem s136_13 (w a b : Int) (n : Nat) (F : AS → Out) (K : Exit → AS → Out) : ev EC 0 (n + 30) x136 (S136 13 w a b) (k136 F K) = bif slotA 0 10 == a && (slotB 0 10 == b && true) then K .ret (R136 (rowA 14 0 ⟨#[109, 111, 118, 122]⟩ 10)) else F (S136 14 w a b) := by kernel_rfl
theorem s136_14 (w a b : Int) (n : Nat) (F : AS → Out) (K : Exit → AS → Out) : ev EC 0 (n + 30) x136 (S136 14 w a b) (k136 F K) = bif slotA 0 11 == a && (slotB 0 11 == b && true) then K .ret (R136 (rowA 15 0 ⟨#[109, 111, 118, 110]⟩ 11)) else F (S136 15 w a b) := by kernel_rfl
theorem s136_15 (w a b : Int) (n : Nat) (F : AS → Out) (K : Exit → AS → Out) : ev EC 0 (n + 30) x136 (S136 15 w a b) (k136 F K) = bif slotA 1 0 == a && (slotB 1 0 == b && true) then K .ret (R136 (rowA 16 1 ⟨#[115, 108, 108]⟩ 0)) else F (S136 16 w a b) := by kernel_rfl
theorem s136_16 (w a b : Int) (n : Nat) (F : AS → Out) (K : Exit → AS → Out) : ev EC 0 (n + 30) x136 (S136 16 w a b) (k136 F K) = bif slotA 1 2 == a && (slotB 1 2 == b && true) then K .ret (R136 (rowA 17 1 ⟨#[115, 114, 108]⟩ 2)) else F (S136 17 w a b) := by kernel_rfl
theorem s136_17 (w a b : Int) (n : Nat) (F : AS → Out) (K : Exit → AS → Out) : ev EC 0 (n + 30) x136 (S136 17 w a b) (k136 F K) = bif slotA 1 3 == a && (slotB 1 3 == b && true) then K .ret (R136 (rowA 18 1 ⟨#[115, 114, 97]⟩ 3)) else F (S136 18 w a b) := by kernel_rfl
theorem s136_18 (w a b : Int) (n : Nat) (F : AS → Out) (K : Exit → AS → Out) : ev EC 0 (n + 30) x136 (S136 18 w a b) (k136 F K) = bif slotA 2 24 == a && (slotB 2 24 == b && true) then K .ret (R136 (rowA 19 2 ⟨#[109, 117, 108, 116]⟩ 24)) else F (S136 19 w a b) := by kernel_rfl
theorem s136_19 (w a b : Int) (n : Nat) (F : AS → Out) (K : Exit → AS → Out) : ev EC 0 (n + 30) x136 (S136 19 w a b) (k136 F K) = bif slotA 2 25 == a && (slotB 2 25 == b && true) then K .ret (R136 (rowA 20 2 ⟨#[109, 117, 108, 116, 117]⟩ 25)) else F (S136 20 w a b) := by kernel_rfl
theorem s136_20 (w a b : Int) (n : Nat) (F : AS → Out) (K : Exit → AS → Out) : ev EC 0 (n + 30) x136 (S136 20 w a b) (k136 F K) = bif slotA 2 26 == a && (slotB 2 26 == b && true) then K .ret (R136 (rowA 21 2 ⟨#[100, 105, 118]⟩ 26)) else F (S136 21 w a b) := by kernel_rfl
theorem s136_21 (w a b : Int) (n : Nat) (F : AS → Out) (K : Exit → AS → Out) : ev EC 0 (n + 30) x136 (S136 21 w a b) (k136 F K) = bif slotA 2 27 == a && (slotB 2 27 == b && true) then K .ret (R136 (rowA 22 2 ⟨#[100, 105, 118, 117]⟩ 27)) else F (S136 22 w a b) := by kernel_rfl
theorem s136_22 (w a b : Int) (n : Nat) (F : AS → Out) (K : Exit → AS → Out) : ev EC 0 (n + 30) x136 (S136 22 w a b) (k136 F K) = bif slotA 3 16 == a && (slotB 3 16 == b && true) then K .ret (R136 (rowA 23 3 ⟨#[109, 102, 104, 105]⟩ 16)) else F (S136 23 w a b) := by kernel_rfl
theorem s136_23 (w a b : Int) (n : Nat) (F : AS → Out) (K : Exit → AS → Out) : ev EC 0 (n + 30) x136 (S136 23 w a b) (k136 F K) = bif slotA 3 18 == a && (slotB 3 18 == b && true) then K .ret (R136 (rowA 24 3 ⟨#[109, 102, 108, 111]⟩ 18)) else F (S136 24 w a b) := by kernel_rfl
theorem s136_24 (w a b : Int) (n : Nat) (F : AS → Out) (K : Exit → AS → Out) : ev EC 0 (n + 30) x136 (S136 24 w a b) (k136 F K) = bif slotA 4 17 == a && (slotB 4 17 == b && true) then K .ret (R136 (rowA 25 4 ⟨#[109, 116, 104, 105]⟩ 17)) else F (S136 25 w a b) := by kernel_rfl
theorem s136_25 (w a b : Int) (n : Nat) (F : AS → Out) (K : Exit → AS → Out) : ev EC 0 (n + 30) x136 (S136 25 w a b) (k136 F K) = bif slotA 4 19 == a && (slotB 4 19 == b && true) then K .ret (R136 (rowA 26 4 ⟨#[109, 116, 108, 111]⟩ 19)) else F (S136 26 w a b) := by kernel_rfl
theorem s136_26 (w a b : Int) (n : Nat) (F : AS → Out) (K : Exit → AS → Out) : ev EC 0 (n + 30) x136 (S136 26 w a b) (k136 F K) = bif slotA 4 8 == a && (slotB 4 8 == b && true) then K .ret (R136 (rowA 27 4 ⟨#[106, 114]⟩ 8)) else F (S136 27 w a b) := by kernel_rfl
theorem s136_27 (w a b : Int) (n : Nat) (F : AS → Out) (K : Exit → AS → Out) : ev EC 0 (n + 30) x136 (S136 27 w a b) (k136 F K) = bif slotA 5 9 == a && (slotB 5 9 == b && true) then K .ret (R136 (rowA 28 5 ⟨#[106, 97, 108, 114]⟩ 9)) else F (S136 28 w a b) := by kernel_rfl
theorem s136_28 (w a b : Int) (n : Nat) (F : AS → Out) (K : Exit → AS → Out) : ev EC 0 (n + 30) x136 (S136 28 w a b) (k136 F K) = bif slotA 6 48 == a && (slotB 6 48 == b && true) then K .ret (R136 (rowA 29 6 ⟨#[116, 103, 101]⟩ 48)) else F (S136 29 w a b) := by kernel_rfl
theorem s136_29 (w a b : Int) (n : Nat) (F : AS → Out) (K : Exit → AS → Out) : ev EC 0 (n + 30) x136 (S136 29 w a b) (k136 F K) = bif slotA 6 49 == a && (slotB 6 49 == b && true) then K .ret (R136 (rowA 30 6 ⟨#[116, 103, 101, 117]⟩ 49)) else F (S136 30 w a b) := by kernel_rfl
theorem s136_30 (w a b : Int) (n : Nat) (F : AS → Out) (K : Exit → AS → Out) : ev EC 0 (n + 30) x136 (S136 30 w a b) (k136 F K) = bif slotA 6 50 == a && (slotB 6 50 == b && true) then K .ret (R136 (rowA 31 6 ⟨#[116, 108, 116]⟩ 50)) else F (S136 31 w a b) := by kernel_rfl
theorem s136_31 (w a b : Int) (n : Nat) (F : AS → Out) (K : Exit → AS → Out) : ev EC 0 (n + 30) x136 (S136 31 w a b) (k136 F K) = bif slotA 6 51 == a && (slotB 6 51 == b && true) then K .ret (R136 (rowA 32 6 ⟨#[116, 108, 116, 117]⟩ 51)) else F (S136 32 w a b) := by kernel_rfl
theorem s136_32 (w a b : Int) (n : Nat) (F : AS → Out) (K : Exit → AS → Out) : ev EC 0 (n + 30) x136 (S136 32 w a b) (k136 F K) = bif slotA 6 52 == a && (slotB 6 52 == b && true) then K .ret (R136 (rowA 33 6 ⟨#[116, 101, 113]⟩ 52)) else F (S136 33 w a b) := by kernel_rfl
theorem s136_33 (w a b : Int) (n : Nat) (F : AS → Out) (K : Exit → AS → Out) : ev EC 0 (n + 30) x136 (S136 33 w a b) (k136 F K) = bif slotA 6 54 == a && (slotB 6 54 == b && true) then K .ret (R136 (rowA 34 6 ⟨#[116, 110, 101]⟩ 54)) else F (S136 34 w a b) := by kernel_rfl
theorem s136_34 (w a b : Int) (n : Nat) (F : AS → Out) (K : Exit → AS → Out) : ev EC 0 (n + 30) x136 (S136 34 w a b) (k136 F K) = bif slotA 7 12 == a && (slotB 7 12 == b && true) then K .ret (R136 (rowA 35 7 ⟨#[115, 121, 115, 99, 97, 108, 108]⟩ 12)) else F (S136 35 w a b) := by kernel_rfl
theorem s136_35 (w a b : Int) (n : Nat) (F : AS → Out) (K : Exit → AS → Out) : ev EC 0 (n + 30) x136 (S136 35 w a b) (k136 F K) = bif slotA 7 13 == a && (slotB 7 13 == b && true) then K .ret (R136 (rowA 36 7 ⟨#[98, 114, 101, 97, 107]⟩ 13)) else F (S136 36 w a b) := by kernel_rfl
theorem s136_36 (w a b : Int) (n : Nat) (F : AS → Out) (K : Exit → AS → Out) : ev EC 0 (n + 30) x136 (S136 36 w a b) (k136 F K) = bif slotA 8 2 == a && (slotB 8 2 == b && true) then K .ret (R136 (rowA 37 8 ⟨#[109, 117, 108]⟩ 2)) else F (S136 37 w a b) := by kernel_rfl
theorem s136_37 (w a b : Int) (n : Nat) (F : AS → Out) (K : Exit → AS → Out) : ev EC 0 (n + 30) x136 (S136 37 w a b) (k136 F K) = bif slotA 9 32 == a && (slotB 9 32 == b && true) then K .ret (R136 (rowA 38 9 ⟨#[99, 108, 122]⟩ 32)) else F (S136 38 w a b) := by kernel_rfl
theorem s136_38 (w a b : Int) (n : Nat) (F : AS → Out) (K : Exit → AS → Out) : ev EC 0 (n + 30) x136 (S136 38 w a b) (k136 F K) = bif slotA 9 33 == a && (slotB 9 33 == b && true) then K .ret (R136 (rowA 39 9 ⟨#[99, 108, 111]⟩ 33)) else F (S136 39 w a b) := by kernel_rfl
theorem s136_39 (w a b : Int) (n : Nat) (F : AS → Out) (K : Exit → AS → Out) : ev EC 0 (n + 30) x136 (S136 39 w a b) (k136 F K) = bif slotA 10 9 == a && (slotB 10 9 == b && true) then K .ret (R136 (rowA 40 10 ⟨#[97, 100, 100, 105, 117]⟩ 9)) else F (S136 40 w a b) := by kernel_rfl
theorem s136_40 (w a b : Int) (n : Nat) (F : AS → Out) (K : Exit → AS → Out) : ev EC 0 (n + 30) x136 (S136 40 w a b) (k136 F K) = bif slotA 10 8 == a && (slotB 10 8 == b && true) then K .ret (R136 (rowA 41 10 ⟨#[97, 100, 100, 105]⟩ 8)) else F (S136 41 w a b) := by kernel_rfl
theorem s136_41 (w a b : Int) (n : Nat) (F : AS → Out) (K : Exit → AS → Out) : ev EC 0 (n + 30) x136 (S136 41 w a b) (k136 F K) = bif slotA 10 10 == a && (slotB 10 10 == b && true) then K .ret (R136 (rowA 42 10 ⟨#[115, 108, 116, 105]⟩ 10)) else F (S136 42 w a b) := by kernel_rfl
theorem s136_42 (w a b : Int) (n : Nat) (F : AS → Out) (K : Exit → AS → Out) : ev EC 0 (n + 30) x136 (S136 42 w a b) (k136 F K) = bif slotA 10 11 == a && (slotB 10 11 == b && true) then K .ret (R136 (rowA 43 10 ⟨#[115, 108, 116, 105, 117]⟩ 11)) else F (S136 43 w a b) := by kernel_rfl
theorem s136_43 (w a b : Int) (n : Nat) (F : AS → Out) (K : Exit → AS → Out) : ev EC 0 (n + 30) x136 (S136 43 w a b) (k136 F K) = bif slotA 11 12 == a && (slotB 11 12 == b && true) then K .ret (R136 (rowA 44 11 ⟨#[97, 110, 100, 105]⟩ 12)) else F (S136 44 w a b) := by kernel_rfl
theorem s136_44 (w a b : Int) (n : Nat) (F : AS → Out) (K : Exit → AS → Out) : ev EC 0 (n + 30) x136 (S136 44 w a b) (k136 F K) = bif slotA 11 13 == a && (slotB 11 13 == b && true) then K .ret (R136 (rowA 45 11 ⟨#[111, 114, 105]⟩ 13)) else F (S136 45 w a b) := by kernel_rfl
theorem s136_45 (w a b : Int) (n : Nat) (F : AS → Out) (K : Exit → AS → Out) : ev EC 0 (n + 30) x136 (S136 45 w a b) (k136 F K) = bif slotA 11 14 == a && (slotB 11 14 == b && true) then K .ret (R136 (rowA 46 11 ⟨#[120, 111, 114, 105]⟩ 14)) else F (S136 46 w a b) := by kernel_rfl
theorem s136_46 (w a b : Int) (n : Nat) (F : AS → Out) (K : Exit → AS → Out) : ev EC 0 (n + 30) x136 (S136 46 w a b) (k136 F K) = bif slotA 12 15 == a && (slotB 12 15 == b && true) then K .ret (R136 (rowA 47 12 ⟨#[108, 117, 105]⟩ 15)) else F (S136 47 w a b) := by kernel_rfl
theorem s136_47 (w a b : Int) (n : Nat) (F : AS → Out) (K : Exit → AS → Out) : ev EC 0 (n + 30) x136 (S136 47 w a b) (k136 F K) = bif slotA 13 32 == a && (slotB 13 32 == b && true) then K .ret (R136 (rowA 48 13 ⟨#[108, 98]⟩ 32)) else F (S136 48 w a b) := by kernel_rfl
theorem s136_48 (w a b : Int) (n : Nat) (F : AS → Out) (K : Exit → AS → Out) : ev EC 0 (n + 30) x136 (S136 48 w a b) (k136 F K) = bif slotA 13 33 == a && (slotB 13 33 == b && true) then K .ret (R136 (rowA 49 13 ⟨#[108, 104]⟩ 33)) else F (S136 49 w a b) := by kernel_rfl
theorem s136_49 (w a b : Int) (n : Nat) (F : AS → Out) (K : Exit → AS → Out) : ev EC 0 (n + 30) x136 (S136 49 w a b) (k136 F K) = bif slotA 13 34 == a && (slotB 13 34 == b && true) then K .ret (R136 (rowA 50 13 ⟨#[108, 119, 108]⟩ 34)) else F (S136 50 w a b) := by kernel_rfl
theorem s136_50 (w a b : Int) (n : Nat) (F : AS → Out) (K : Exit → AS → Out) : ev EC 0 (n + 30) x136 (S136 50 w a b) (k136 F K) = bif slotA 13 35 == a && (slotB 13 35 == b && true) then K .ret (R136 (rowA 51 13 ⟨#[108, 119]⟩ 35)) else F (S136 51 w a b) := by kernel_rfl
theorem s136_51 (w a b : Int) (n : Nat) (F : AS → Out) (K : Exit → AS → Out) : ev EC 0 (n + 30) x136 (S136 51 w a b) (k136 F K) = bif slotA 13 36 == a && (slotB 13 36 == b && true) then K .ret (R136 (rowA 52 13 ⟨#[108, 98, 117]⟩ 36)) else F (S136 52 w a b) := by kernel_rfl
theorem s136_52 (w a b : Int) (n : Nat) (F : AS → Out) (K : Exit → AS → Out) : ev EC 0 (n + 30) x136 (S136 52 w a b) (k136 F K) = bif slotA 13 37 == a && (slotB 13 37 == b && true) then K .ret (R136 (rowA 53 13 ⟨#[108, 104, 117]⟩ 37)) else F (S136 53 w a b) := by kernel_rfl
theorem s136_53 (w a b : Int) (n : Nat) (F : AS → Out) (K : Exit → AS → Out) : ev EC 0 (n + 30) x136 (S136 53 w a b) (k136 F K) = bif slotA 13 38 == a && (slotB 13 38 == b && true) then K .ret (R136 (rowA 54 13 ⟨#[108, 119, 114]⟩ 38)) else F (S136 54 w a b) := by kernel_rfl
theorem s136_54 (w a b : Int) (n : Nat) (F : AS → Out) (K : Exit → AS → Out) : ev EC 0 (n + 30) x136 (S136 54 w a b) (k136 F K) = bif slotA 13 40 == a && (slotB 13 40 == b && true) then K .ret (R136 (rowA 55 13 ⟨#[115, 98]⟩ 40)) else F (S136 55 w a b) := by kernel_rfl
theorem s136_55 (w a b : Int) (n : Nat) (F : AS → Out) (K : Exit → AS → Out) : ev EC 0 (n + 30) x136 (S136 55 w a b) (k136 F K) = bif slotA 13 41 == a && (slotB 13 41 == b && true) then K .ret (R136 (rowA 56 13 ⟨#[115, 104]⟩ 41)) else F (S136 56 w a b) := by kernel_rfl
theorem s136_56 (w a b : Int) (n : Nat) (F : AS → Out) (K : Exit → AS → Out) : ev EC 0 (n + 30) x136 (S136 56 w a b) (k136 F K) = bif slotA 13 42 == a && (slotB 13 42 == b && true) then K .ret (R136 (rowA 57 13 ⟨#[115, 119, 108]⟩ 42)) else F (S136 57 w a b) := by kernel_rfl
theorem s136_57 (w a b : Int) (n : Nat) (F : AS → Out) (K : Exit → AS → Out) : ev EC 0 (n + 30) x136 (S136 57 w a b) (k136 F K) = bif slotA 13 43 == a && (slotB 13 43 == b && true) then K .ret (R136 (rowA 58 13 ⟨#[115, 119]⟩ 43)) else F (S136 58 w a b) := by kernel_rfl
theorem s136_58 (w a b : Int) (n : Nat) (F : AS → Out) (K : Exit → AS → Out) : ev EC 0 (n + 30) x136 (S136 58 w a b) (k136 F K) = bif slotA 13 46 == a && (slotB 13 46 == b && true) then K .ret (R136 (rowA 59 13 ⟨#[115, 119, 114]⟩ 46)) else F (S136 59 w a b) := by kernel_rfl
theorem s136_59 (w a b : Int) (n : Nat) (F : AS → Out) (K : Exit → AS → Out) : ev EC 0 (n + 30) x136 (S136 59 w a b) (k136 F K) = bif slotA 14 4 == a && (slotB 14 4 == b && true) then K .ret (R136 (rowA 60 14 ⟨#[98, 101, 113]⟩ 4)) else F (S136 60 w a b) := by kernel_rfl
theorem s136_60 (w a b : Int) (n : Nat) (F : AS → Out) (K : Exit → AS → Out) : ev EC 0 (n + 30) x136 (S136 60 w a b) (k136 F K) = bif slotA 14 5 == a && (slotB 14 5 == b && true) then K .ret (R136 (rowA 61 14 ⟨#[98, 110, 101]⟩ 5)) else F (S136 61 w a b) := by kernel_rfl
theorem s136_61 (w a b : Int) (n : Nat) (F : AS → Out) (K : Exit → AS → Out) : ev EC 0 (n + 30) x136 (S136 61 w a b) (k136 F K) = bif slotA 15 6 == a && (slotB 15 6 == b && true) then K .ret (R136 (rowA 62 15 ⟨#[98, 108, 101, 122]⟩ 6)) else F (S136 62 w a b) := by kernel_rfl
theorem s136_62 (w a b : Int) (n : Nat) (F : AS → Out) (K : Exit → AS → Out) : ev EC 0 (n + 30) x136 (S136 62 w a b) (k136 F K) = bif slotA 15 7 == a && (slotB 15 7 == b && true) then K .ret (R136 (rowA 63 15 ⟨#[98, 103, 116, 122]⟩ 7)) else F (S136 63 w a b) := by kernel_rfl
theorem s136_63 (w a b : Int) (n : Nat) (F : AS → Out) (K : Exit → AS → Out) : ev EC 0 (n + 30) x136 (S136 63 w a b) (k136 F K) = bif slotA 16 0 == a && (slotB 16 0 == b && true) then K .ret (R136 (rowA 64 16 ⟨#[98, 108, 116, 122]⟩ 0)) else F (S136 64 w a b) := by kernel_rfl
theorem s136_64 (w a b : Int) (n : Nat) (F : AS → Out) (K : Exit → AS → Out) : ev EC 0 (n + 30) x136 (S136 64 w a b) (k136 F K) = bif slotA 16 1 == a && (slotB 16 1 == b && true) then K .ret (R136 (rowA 65 16 ⟨#[98, 103, 101, 122]⟩ 1)) else F (S136 65 w a b) := by kernel_rfl
theorem s136_65 (w a b : Int) (n : Nat) (F : AS → Out) (K : Exit → AS → Out) : ev EC 0 (n + 30) x136 (S136 65 w a b) (k136 F K) = bif slotA 16 16 == a && (slotB 16 16 == b && true) then K .ret (R136 (rowA 66 16 ⟨#[98, 108, 116, 122, 97, 108]⟩ 16)) else F (S136 66 w a b) := by kernel_rfl
theorem s136_66 (w a b : Int) (n : Nat) (F : AS → Out) (K : Exit → AS → Out) : ev EC 0 (n + 30) x136 (S136 66 w a b) (k136 F K) = bif slotA 16 17 == a && (slotB 16 17 == b && true) then K .ret (R136 (rowA 67 16 ⟨#[98, 103, 101, 122, 97, 108]⟩ 17)) else F (S136 67 w a b) := by kernel_rfl
theorem s136_67 (w a b : Int) (n : Nat) (F : AS → Out) (K : Exit → AS → Out) : ev EC 0 (n + 30) x136 (S136 67 w a b) (k136 F K) = bif slotA 17 2 == a && (slotB 17 2 == b && true) then K .ret (R136 (rowA 68 17 ⟨#[106]⟩ 2)) else F (S136 68 w a b) := by kernel_rfl
theorem s136_68 (w a b : Int) (n : Nat) (F : AS → Out) (K : Exit → AS → Out) : ev EC 0 (n + 30) x136 (S136 68 w a b) (k136 F K) = bif slotA 17 3 == a && (slotB 17 3 == b && true) then K .ret (R136 (rowA 69 17 ⟨#[106, 97, 108]⟩ 3)) else F (S136 69 w a b) := by kernel_rfl
theorem s136_69 (w a b : Int) (n : Nat) (F : AS → Out) (K : Exit → AS → Out) : ev EC 0 (n + 30) x136 (S136 69 w a b) (k136 F K) = K (.exit 1) X136 := by kernel_rfl
end Go.Proofs.Ytjpeplidbodjiaa
