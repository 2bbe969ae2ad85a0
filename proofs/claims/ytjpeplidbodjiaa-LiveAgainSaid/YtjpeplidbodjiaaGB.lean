/- live.needs: a round of its loop. -/
import Derived.Test.YtjpeplidbodjiaaGA
namespace Go.Proofs.Ytjpeplidbodjiaa
set_option maxRecDepth 100000
noncomputable def EA1 : Env := (EZ0.marks lv62 fun _ => none).loops fun i => bif Nat.beq i 12 then some lp62b else bif Nat.beq i 18 then some lp62c else none
theorem EA1_s : EA1.Sound := EZ0_s.marks.loops
def S62 (pc i : Int) (nF : Nat) (F : Nat → Nat → Bool) (nl : Nat) (G : Nat → Nat → Bool) (l : List (Nat × LB)) : AS :=
  ⟨.one .any :: .one (.pt 2 0) :: .one .any :: .one (.ow 3) :: .one (.pt 4 0) :: .one (.v (.int .i64 i)) :: anys 82, ⟨[(4, 85, .bools 1 nF F), (2, 26, .cells [.v (.int .u32 pc), .ow 0, .ow 1])], l62 nl G l, 5⟩⟩
def X62a (nl : Nat) (G : Nat → Nat → Bool) (l : List (Nat × LB)) : AS := ⟨.one .any :: .one .any :: .one .any :: .one (.ow 2) :: anys 84, ⟨[], (2, ⟨true, 85, .bools 64 nl G⟩) :: l, 3⟩⟩
def kp62a : Exit → Option (List Nat)
  | .exit _ => some [3]
  | _ => none
def ixG (n : Nat) (i : Int) (x : Out) : Out := bif decide (0 ≤ i) && decide (i < (n : Int)) then bif decide (i.toNat < n) && decide (0 < 64) then x else none else none
section
variable (pc : Int) (nl : Nat) (nW : Nat) (f : Nat → Nat → Int) (oW : Nat → Nat → ByteArray) (n : Nat) (g : Nat → Nat → Int) (o : Nat → Nat → ByteArray)
def A4 (i : Nat) (N : (Nat → Nat → Bool) → Out) (F : Nat → Nat → Bool) : Out := bif Nat.blt i n && Nat.ble n 100000 && Nat.ble nW 100000 then
  (bif slotG (tabW (fun k => f k 0) nW 0) n g i then ix n (IntKind.i64.wrap ((n : Int) - 1)) 2 (ix64 (g (IntKind.i64.wrap ((n : Int) - 1)).toNat 2) (N (updB F (g (IntKind.i64.wrap ((n : Int) - 1)).toNat 2).toNat 0 true))) else N F) else none
def A3 (i : Nat) (k : Int) (N : (Nat → Nat → Bool) → Out) (F : Nat → Nat → Bool) : Out := bif !pureK k then A4 nW f n g i N (setC 33 1 F) else
  bif Nat.blt i n && Nat.ble n 100000 then (bif (bif false then true else behindG g i) then A4 nW f n g i N (setC 33 1 F) else A4 nW f n g i N F) else none
def A2 (i : Nat) (k : Int) (R : List Int) (N : (Nat → Nat → Bool) → Out) (F : Nat → Nat → Bool) : Out :=
  bif decide ((0 : Int) = 0) && decide ((R.length : Int) = (R.length : Int)) && Nat.ble R.length 1000 && Nat.beq 64 64 && inR (listF R) R.length 0 then A3 nW f n g i k N (setR (listF R) R.length 0 F) else none
def A1 (i : Nat) (k D A B : Int) (N : (Nat → Nat → Bool) → Out) (F : Nat → Nat → Bool) : Out :=
  bif (bif (bif decide (writesK k D > 0) then k != 23 else false) then k != 24 else false) then ix64 (writesK k D) (A2 nW f n g i k (readsK k D A B) N (updB F (writesK k D).toNat 0 false)) else A2 nW f n g i k (readsK k D A B) N F
theorem rnd62a (i : Nat) (F G : Nat → Nat → Bool) (H : AS → Out) (K : Exit → AS → Out) (N : Nat) : ev EA1 2 (N + 50) x62a (S62 pc i 64 F nl G (lB nW f oW n g o)) (rkG 2 (EA1.lv 4) kp62a H K) =
    ix n i 0 (ixG nl i (A1 nW f n g i (g (i : Int).toNat 0) (g (i : Int).toNat 1) (g (i : Int).toNat 2) (g (i : Int).toNat 3) (fun F' => H (S62 pc (IntKind.i64.wrap ((i : Int) - 1)) 64 F' nl (updB1 G (i : Int).toNat fun j => F j 0) (lB nW f oW n g o))) F)) := by kernel_rfl
theorem end62a (F G : Nat → Nat → Bool) (H : AS → Out) (K : Exit → AS → Out) (N : Nat) : ev EA1 2 (N + 50) x62a (S62 pc (-1) 64 F nl G (lB nW f oW n g o)) (rkG 2 (EA1.lv 4) kp62a H K) = K (.exit 0) (X62a nl G (lB nW f oW n g o)) := by kernel_rfl
end
end Go.Proofs.Ytjpeplidbodjiaa
