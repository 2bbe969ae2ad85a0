/- live.Dead: its inner loop. -/
import Derived.Test.YtjpeplidbodjiaaGD
import Derived.Test.YtjpeplidbodjiaaSndX
namespace Go.Proofs.Ytjpeplidbodjiaa
set_option maxRecDepth 100000
noncomputable def x19 : Code := nthL (loopsC (bodyC Try.f19)) 0
noncomputable def x19i : Code := nthL (loopsC (bodyC Try.f19)) 1
theorem key19 : keyC x19 = 3 := by kernel_rfl
theorem key19i : keyC x19i = 6 := by kernel_rfl
theorem loops19 : loopsC (bodyC Try.f19) = [x19, x19i] := by kernel_rfl
theorem loops19o : loopsC x19 = [x19i] := by kernel_rfl
def lv19 : Nat → Option (List Nat) := fun i => bif Nat.beq i 6 then some [1, 2, 3, 4, 14, 15, 16, 31004] else bif Nat.beq i 3 then some [1, 2] else none
noncomputable def EH19 : Env := ED0.marks lv19 fun _ => none
theorem EH19_s : EH19.Sound := ED0_s.marks
def kp19i : Exit → Option (List Nat)
  | .exit _ => some [1, 2, 4]
  | _ => none
def z26 : List AC := [.v (.int .u32 0), .v (.slice none 0 0), .v (.slice none 0 0)]
/-- A list's rows, as they are made. -/
structure RowL where
  n : Nat
  f : Nat → Nat → Int
  o : Nat → Nat → ByteArray
def RowL.push (r : RowL) (cs : List AC) : RowL := ⟨r.n + 1, fun k j => bif Nat.blt k r.n then r.f k j else intAt cs j, fun k j => bif Nat.blt k r.n then r.o k j else ByteArray.empty⟩
def RowL.bb (sh : List CK) (r : RowL) : BB := .row sh r.n r.f r.o
def nilR : RowL := ⟨0, fun _ _ => 0, fun _ _ => ByteArray.empty⟩
/-- Of rows those that are kept. -/
def filtR (p : Nat → Bool) (row : Nat → List AC) : Nat → Nat → RowL → RowL
  | 0, _, r => r
  | c + 1, i, r => filtR p row c (i + 1) (bif p i then r.push (row i) else r)
theorem filtR_le (p : Nat → Bool) (row : Nat → List AC) : ∀ (c i : Nat) (r : RowL), (filtR p row c i r).n ≤ r.n + c
  | 0, _, r => Nat.le_refl _
  | c + 1, i, r => by
    simp only [filtR]
    have := filtR_le p row c (i + 1) (bif p i then r.push (row i) else r)
    cases h : p i with
    | true =>
      simp only [h, cond_true] at this ⊢
      have e : (r.push (row i)).n = r.n + 1 := rfl
      omega
    | false =>
      simp only [h, cond_false] at this ⊢
      omega
def opRow (g : Nat → Nat → Int) (i : Nat) : List AC := opC (g i 0) (g i 1) (g i 2) (g i 3) (g i 4) (g i 5)
/-- At the inner loop's head. -/
def S19i (s : Nat) (pc nn i : Int) (nG : Nat) (G : Nat → Nat → Bool) (r : RowL) (l : List (Nat × LB)) : AS :=
  ⟨.one .any :: .one (.pt 2 0) :: .one (.pt 3 0) :: .one (.ow 4) :: .one (.ow 5) :: (anys 9 ++ (.one (.ow s) :: .one (.v (.int .i64 nn)) :: .one (.v (.int .i64 i)) :: anys 31)),
    ⟨[(3, 26, .cells z26), (2, 26, .cells [.v (.int .u32 pc), .ow 0, .ow s])], (5, ⟨true, 31, r.bb opSh⟩) :: (4, ⟨true, 85, .bools 64 nG G⟩) :: l, 6⟩⟩
def S19j (pc nn i : Int) (nG : Nat) (G : Nat → Nat → Bool) (r : RowL) (q : RowL) (l : List (Nat × LB)) : AS :=
  ⟨.one .any :: .one (.pt 2 0) :: .one (.pt 3 0) :: .one (.ow 4) :: .one (.ow 5) :: (anys 9 ++ (.one (.ow 6) :: .one (.v (.int .i64 nn)) :: .one (.v (.int .i64 i)) :: anys 31)),
    ⟨[(3, 26, .cells z26), (2, 26, .cells [.v (.int .u32 pc), .ow 0, .ow 6])], (5, ⟨true, 31, r.bb opSh⟩) :: (4, ⟨true, 85, .bools 64 nG G⟩) :: (6, ⟨true, 31, q.bb opSh⟩) :: l, 7⟩⟩
def X19i (pc : Int) (r : RowL) (l : List (Nat × LB)) : AS :=
  ⟨.one .any :: .one (.pt 2 0) :: .one (.pt 3 0) :: .one .any :: .one (.ow 4) :: anys 43, ⟨[(3, 26, .cells z26), (2, 26, .cells [.v (.int .u32 pc), .ow 0, .ow 1])], (4, ⟨true, 31, r.bb opSh⟩) :: l, 5⟩⟩
def X19j (pc : Int) (r : RowL) (q : RowL) (l : List (Nat × LB)) : AS :=
  ⟨.one .any :: .one (.pt 2 0) :: .one (.pt 3 0) :: .one .any :: .one (.ow 4) :: anys 43, ⟨[(3, 26, .cells z26), (2, 26, .cells [.v (.int .u32 pc), .ow 0, .ow 5])], (4, ⟨true, 31, r.bb opSh⟩) :: (5, ⟨true, 31, q.bb opSh⟩) :: l, 6⟩⟩
/-- Operation i is kept; else it goes on without. -/
def keep19 (nG : Nat) (G : Nat → Nat → Bool) (g : Nat → Nat → Int) (i : Int) (nK : Nat) (A B : Out) : Out :=
  bif !pureK (g i.toNat 0) then (bif Nat.ble (nK + 1) 1048576 then A else none) else
    (bif decide (0 ≤ i) && decide (i < (nG : Int)) then bif decide (0 ≤ g i.toNat 1) && decide (g i.toNat 1 < ((64 : Nat) : Int)) then bif decide (i.toNat < nG) && decide ((g i.toNat 1).toNat < 64) then
      (bif (bif false then true else G i.toNat (g i.toNat 1).toNat) then (bif Nat.ble (nK + 1) 1048576 then A else none) else B) else none else none else none)
section
variable (pc : Int) (nG : Nat) (G : Nat → Nat → Bool) (r : RowL) (nW : Nat) (f : Nat → Nat → Int) (oW : Nat → Nat → ByteArray) (n : Nat) (g : Nat → Nat → Int) (o : Nat → Nat → ByteArray) (K : Exit → AS → Out)
theorem gcS19i (i : Int) (H : AS → Out) : gc 2 (EH19.lv 6) (S19i 1 pc n i nG G r (lB nW f oW n g o)) H = H (S19i 1 pc n i nG G r (lB nW f oW n g o)) := by kernel_rfl
theorem rnd19i (i : Int) (H : AS → Out) (N : Nat) : ev EH19 2 (N + 50) x19i (S19i 1 pc n i nG G r (lB nW f oW n g o)) (rkG 2 (EH19.lv 6) kp19i H K) =
    bif decide (i < (n : Int)) then bif decide (0 ≤ i) && decide (i < (n : Int)) then bif decide (i.toNat < n) && decide (0 < 6) then
      keep19 nG G g i r.n (H (S19i 1 pc n (IntKind.i64.wrap (i + 1)) nG G (r.push (opRow g i.toNat)) (lB nW f oW n g o))) (H (S19i 1 pc n (IntKind.i64.wrap (i + 1)) nG G r (lB nW f oW n g o))) else none else none
    else K (.exit 2) (X19i pc r (lB nW f oW n g o)) := by kernel_rfl
theorem gcS19j (i : Int) (q : RowL) (H : AS → Out) : gc 2 (EH19.lv 6) (S19j pc q.n i nG G r q (lB nW f oW n g o)) H = H (S19j pc q.n i nG G r q (lB nW f oW n g o)) := by kernel_rfl
theorem rnd19j (i : Int) (q : RowL) (H : AS → Out) (N : Nat) : ev EH19 2 (N + 50) x19i (S19j pc q.n i nG G r q (lB nW f oW n g o)) (rkG 2 (EH19.lv 6) kp19i H K) =
    bif decide (i < (q.n : Int)) then bif decide (0 ≤ i) && decide (i < (q.n : Int)) then bif decide (i.toNat < q.n) && decide (0 < 6) then
      keep19 nG G q.f i r.n (H (S19j pc q.n (IntKind.i64.wrap (i + 1)) nG G (r.push (opRow q.f i.toNat)) q (lB nW f oW n g o))) (H (S19j pc q.n (IntKind.i64.wrap (i + 1)) nG G r q (lB nW f oW n g o))) else none else none
    else K (.exit 2) (X19j pc r q (lB nW f oW n g o)) := by kernel_rfl
end
end Go.Proofs.Ytjpeplidbodjiaa
