/- live.needs: its inner loops. -/
import Derived.Test.YtjpeplidbodjiaaFZ
namespace Go.Proofs.Ytjpeplidbodjiaa
set_option maxRecDepth 100000
def nthL : List Code → Nat → Code
  | [], _ => .skip
  | a :: _, 0 => a
  | _ :: r, n + 1 => nthL r n
noncomputable def x62a : Code := nthL (loopsC (bodyC Try.f62)) 0
noncomputable def x62b : Code := nthL (loopsC (bodyC Try.f62)) 1
noncomputable def x62c : Code := nthL (loopsC (bodyC Try.f62)) 2
theorem key62a : keyC x62a = 4 := by kernel_rfl
theorem key62b : keyC x62b = 12 := by kernel_rfl
theorem key62c : keyC x62c = 18 := by kernel_rfl
theorem loops62 : loopsC (bodyC Try.f62) = [x62a, x62b, x62c] := by kernel_rfl
def lv62 : Nat → Option (List Nat) := fun i => bif Nat.beq i 12 then some [1, 3, 4, 5, 6, 49, 50, 51] else bif Nat.beq i 18 then some [1, 3, 4, 5, 6, 10] else bif Nat.beq i 4 then some [1, 3, 4, 5] else none
noncomputable def EA62 : Env := EZ0.marks lv62 fun _ => none
theorem EA62_s : EA62.Sound := EZ0_s.marks
def kp62 : Exit → Option (List Nat)
  | .exit _ => some [1, 3, 4, 5, 6]
  | _ => none
/-- The blocks and lists while an operation is looked at. -/
def b62 (pc : Int) (nF : Nat) (F : Nat → Nat → Bool) (k D A B I At : Int) : List (Nat × TypeId × BB) := [(5, 31, .cells (opC k D A B I At)), (4, 85, .bools 1 nF F), (2, 26, .cells [.v (.int .u32 pc), .ow 0, .ow 1])]
def l62 (nl : Nat) (G : Nat → Nat → Bool) (l : List (Nat × LB)) : List (Nat × LB) := (3, ⟨true, 85, .bools 64 nl G⟩) :: l
def fr62 (i : Int) (r : List AV) : List AV := .one .any :: .one (.pt 2 0) :: .one .any :: .one (.ow 3) :: .one (.pt 4 0) :: .one (.v (.int .i64 i)) :: .one (.pt 5 0) :: r
def S62b (pc i nn j : Int) (nF : Nat) (F : Nat → Nat → Bool) (k D A B I At : Int) (r : Nat) (q : Nat → Nat → Int) (oo : Nat → Nat → ByteArray) (nl : Nat) (G : Nat → Nat → Bool) (l : List (Nat × LB)) : AS :=
  ⟨fr62 i (anys 42 ++ (.one (.ow 6) :: .one (.v (.int .i64 nn)) :: .one (.v (.int .i64 j)) :: anys 36)), ⟨b62 pc nF F k D A B I At, (6, ⟨true, 3, .row [.i .i64] r q oo⟩) :: l62 nl G l, 7⟩⟩
def X62 (pc i : Int) (nF : Nat) (F : Nat → Nat → Bool) (k D A B I At : Int) (nl : Nat) (G : Nat → Nat → Bool) (l : List (Nat × LB)) : AS :=
  ⟨fr62 i (anys 81), ⟨b62 pc nF F k D A B I At, l62 nl G l, 6⟩⟩
def S62c (pc i p : Int) (nF : Nat) (F : Nat → Nat → Bool) (k D A B I At : Int) (nl : Nat) (G : Nat → Nat → Bool) (l : List (Nat × LB)) : AS :=
  ⟨fr62 i (.one .any :: .one .any :: .one .any :: .one (.v (.int .i64 p)) :: anys 77), ⟨b62 pc nF F k D A B I At, l62 nl G l, 6⟩⟩
section
variable (pc i : Int) (k D A B I At : Int) (nl : Nat) (G : Nat → Nat → Bool) (nW : Nat) (f : Nat → Nat → Int) (oW : Nat → Nat → ByteArray) (n : Nat) (g : Nat → Nat → Int) (o : Nat → Nat → ByteArray) (K : Exit → AS → Out)
theorem gcS62b (nn j : Int) (nF : Nat) (F : Nat → Nat → Bool) (r : Nat) (q : Nat → Nat → Int) (oo : Nat → Nat → ByteArray) (H : AS → Out) : gc 2 (EA62.lv 12) (S62b pc i nn j nF F k D A B I At r q oo nl G (lB nW f oW n g o)) H = H (S62b pc i nn j nF F k D A B I At r q oo nl G (lB nW f oW n g o)) := by kernel_rfl
theorem gcS62c (p : Int) (nF : Nat) (F : Nat → Nat → Bool) (H : AS → Out) : gc 2 (EA62.lv 18) (S62c pc i p nF F k D A B I At nl G (lB nW f oW n g o)) H = H (S62c pc i p nF F k D A B I At nl G (lB nW f oW n g o)) := by kernel_rfl
/-- Place p of 64. -/
def ix64 (p : Int) (x : Out) : Out := bif decide (0 ≤ p) && decide (p < ((64 : Nat) : Int)) then bif decide (p.toNat < 64) && decide (0 < 1) then x else none else none
theorem ix64_in {p : Int} {x : Out} (h0 : 0 ≤ p) (h1 : p < 64) : ix64 p x = x := by
  unfold ix64
  rw [decide_eq_true h0, decide_eq_true (show p < ((64 : Nat) : Int) from h1), decide_eq_true (show p.toNat < 64 by omega)]
  rfl
theorem rnd62b (j : Int) (F : Nat → Nat → Bool) (r : Nat) (q : Nat → Nat → Int) (oo : Nat → Nat → ByteArray) (H : AS → Out) (N : Nat) : ev EA62 2 (N + 30) x62b (S62b pc i r j 64 F k D A B I At r q oo nl G (lB nW f oW n g o)) (rkG 2 (EA62.lv 12) kp62 H K) =
    bif decide (j < (r : Int)) then bif decide (0 ≤ j) && decide (j < (r : Int)) then bif decide (j.toNat < r) && decide (0 < 1) then
      ix64 (q j.toNat 0) (H (S62b pc i r (IntKind.i64.wrap (j + 1)) 64 (updB F (q j.toNat 0).toNat 0 true) k D A B I At r q oo nl G (lB nW f oW n g o))) else none else none
    else K (.exit 2) (X62 pc i 64 F k D A B I At nl G (lB nW f oW n g o)) := by kernel_rfl
theorem rnd62c (p : Int) (F : Nat → Nat → Bool) (H : AS → Out) (N : Nat) : ev EA62 2 (N + 30) x62c (S62c pc i p 64 F k D A B I At nl G (lB nW f oW n g o)) (rkG 2 (EA62.lv 18) kp62 H K) =
    bif decide (p < 34) then ix64 p (H (S62c pc i (IntKind.i64.wrap (p + 1)) 64 (updB F p.toNat 0 true) k D A B I At nl G (lB nW f oW n g o)))
    else K (.exit 4) (X62 pc i 64 F k D A B I At nl G (lB nW f oW n g o)) := by kernel_rfl
/-- Places set, as a list tells. -/
def setR (q : Nat → Nat → Int) : Nat → Nat → (Nat → Nat → Bool) → Nat → Nat → Bool
  | 0, _, F => F
  | r + 1, j, F => setR q r (j + 1) (updB F (q j 0).toNat 0 true)
def inR (q : Nat → Nat → Int) : Nat → Nat → Bool
  | 0, _ => true
  | r + 1, j => (decide (0 ≤ q j 0) && decide (q j 0 < 64)) && inR q r (j + 1)
/-- Places p, p + 1, .. set. -/
def setC : Nat → Nat → (Nat → Nat → Bool) → Nat → Nat → Bool
  | 0, _, F => F
  | c + 1, p, F => setC c (p + 1) (updB F p 0 true)
theorem head62b (r : Nat) (q : Nat → Nat → Int) (oo : Nat → Nat → ByteArray) (hr : r ≤ 1000) : ∀ (c j N : Nat) (F : Nat → Nat → Bool), j + c = r → inR q c j = true →
    HeadK EA62 2 kp62 x62b (N + c + 30) K (S62b pc i r j 64 F k D A B I At r q oo nl G (lB nW f oW n g o)) = K (.exit 2) (X62 pc i 64 (setR q c j F) k D A B I At nl G (lB nW f oW n g o))
  | 0, j, N, F, h, _ => by
    rw [show N + 0 + 30 = (N + 29) + 1 by omega, HeadK_succ (by rw [key62b]; rfl), key62b]
    refine (rnd62b pc i k D A B I At nl G nW f oW n g o K j F r q oo _ N).trans ?_
    rw [decide_eq_false (show ¬ (j : Int) < (r : Int) by omega)]
    simp only [cond_false, setR]
  | c + 1, j, N, F, h, hin => by
    rw [show N + (c + 1) + 30 = (N + c + 30) + 1 by omega, HeadK_succ (by rw [key62b]; rfl), key62b]
    refine (rnd62b pc i k D A B I At nl G nW f oW n g o K j F r q oo _ (N + c + 1)).trans ?_
    simp only [inR, Bool.and_eq_true, decide_eq_true_eq] at hin
    have e4 : IntKind.i64.wrap ((j : Int) + 1) = ((j + 1 : Nat) : Int) := by rw [IntKind.wrap_i64]; omega
    have e6 : (j : Int).toNat = j := by omega
    have ih := head62b r q oo hr c (j + 1) N (updB F (q j 0).toNat 0 true) (by omega) hin.2
    rw [decide_eq_true (show (j : Int) < (r : Int) by omega), decide_eq_true (show 0 ≤ (j : Int) by omega), e4, e6, decide_eq_true (show j < r by omega), ix64_in hin.1.1 hin.1.2]
    rw [setR]
    generalize HeadK EA62 2 kp62 x62b (N + c + 30) K (S62b pc i r ((j + 1 : Nat) : Int) 64 (updB F (q j 0).toNat 0 true) k D A B I At r q oo nl G (lB nW f oW n g o)) = H at ih ⊢
    rw [ih]
    rfl
theorem head62c : ∀ (c p N : Nat) (F : Nat → Nat → Bool), p + c = 34 →
    HeadK EA62 2 kp62 x62c (N + c + 30) K (S62c pc i p 64 F k D A B I At nl G (lB nW f oW n g o)) = K (.exit 4) (X62 pc i 64 (setC c p F) k D A B I At nl G (lB nW f oW n g o))
  | 0, p, N, F, h => by
    rw [show N + 0 + 30 = (N + 29) + 1 by omega, HeadK_succ (by rw [key62c]; rfl), key62c]
    refine (rnd62c pc i k D A B I At nl G nW f oW n g o K p F _ N).trans ?_
    rw [decide_eq_false (show ¬ (p : Int) < 34 by omega)]
    simp only [cond_false, setC]
  | c + 1, p, N, F, h => by
    rw [show N + (c + 1) + 30 = (N + c + 30) + 1 by omega, HeadK_succ (by rw [key62c]; rfl), key62c]
    refine (rnd62c pc i k D A B I At nl G nW f oW n g o K p F _ (N + c + 1)).trans ?_
    have e4 : IntKind.i64.wrap ((p : Int) + 1) = ((p + 1 : Nat) : Int) := by rw [IntKind.wrap_i64]; omega
    have e6 : (p : Int).toNat = p := by omega
    have ih := head62c c (p + 1) N (updB F p 0 true) (by omega)
    rw [decide_eq_true (show (p : Int) < 34 by omega), e4, e6, ix64_in (by omega) (by omega)]
    rw [setC]
    generalize HeadK EA62 2 kp62 x62c (N + c + 30) K (S62c pc i ((p + 1 : Nat) : Int) 64 (updB F p 0 true) k D A B I At nl G (lB nW f oW n g o)) = H at ih ⊢
    rw [ih]
    rfl
end
def d62b : AS := S62b 0 0 0 0 0 (fun _ _ => false) 0 0 0 0 0 0 0 (fun _ _ => 0) (fun _ _ => ByteArray.empty) 0 (fun _ _ => false) (lB 0 (fun _ _ => 0) (fun _ _ => ByteArray.empty) 0 (fun _ _ => 0) (fun _ _ => ByteArray.empty))
def d62c : AS := S62c 0 0 0 0 (fun _ _ => false) 0 0 0 0 0 0 0 (fun _ _ => false) (lB 0 (fun _ _ => 0) (fun _ _ => ByteArray.empty) 0 (fun _ _ => 0) (fun _ _ => ByteArray.empty))
def lp62b (m : Nat) (st : AS) (K : Exit → AS → Out) : Out := bif Nat.beq m 2 && likeS st d62b then (match datS st with
  | ⟨[i, nn, j, k, D, A, B, I, At, pc], [], [F, G], [nF, r, nl, nW, n], [q, f, g], [_, oW, o], []⟩ => bif decide (j = 0) && decide (nn = (r : Int)) && Nat.ble r 1000 && Nat.beq nF 64 && inR q r 0 then
      K (.exit 2) (X62 pc i 64 (setR q r 0 F) k D A B I At nl G (lB nW f oW n g o)) else none
  | _ => none) else none
def lp62c (m : Nat) (st : AS) (K : Exit → AS → Out) : Out := bif Nat.beq m 2 && likeS st d62c then (match datS st with
  | ⟨[i, p, k, D, A, B, I, At, pc], [], [F, G], [nF, nl, nW, n], [f, g], [oW, o], []⟩ => bif decide (p = 1) && Nat.beq nF 64 then
      K (.exit 4) (X62 pc i 64 (setC 33 1 F) k D A B I At nl G (lB nW f oW n g o)) else none
  | _ => none) else none
theorem ref62b (i nn j k D A B I At pc : Int) (F G : Nat → Nat → Bool) (nF r nl nW n : Nat) (q f g : Nat → Nat → Int) (oo oW o : Nat → Nat → ByteArray) :
    refS d62b ⟨[i, nn, j, k, D, A, B, I, At, pc], [], [F, G], [nF, r, nl, nW, n], [q, f, g], [oo, oW, o], []⟩ = S62b pc i nn j nF F k D A B I At r q oo nl G (lB nW f oW n g o) := by kernel_rfl
theorem ref62c (i p k D A B I At pc : Int) (F G : Nat → Nat → Bool) (nF nl nW n : Nat) (f g : Nat → Nat → Int) (oW o : Nat → Nat → ByteArray) :
    refS d62c ⟨[i, p, k, D, A, B, I, At, pc], [], [F, G], [nF, nl, nW, n], [f, g], [oW, o], []⟩ = S62c pc i p nF F k D A B I At nl G (lB nW f oW n g o) := by kernel_rfl
theorem lp62b_ok : LoopS Try.prog x62b lp62b := by
  refine LoopS.head (E := EA62) (kp := kp62) EA62_s pfl (LpC.none fun _ => rfl) (by rw [key62b]; rfl) fun m st K out h => ?_
  unfold lp62b at h
  cases hl : (Nat.beq m 2 && likeS st d62b) with
  | false => simp [hl] at h
  | true =>
    simp only [hl, cond_true] at h
    rw [Bool.and_eq_true] at hl
    have hm := Nat.eq_of_beq_eq_true hl.1
    have hst := likeS_ref hl.2
    split at h
    · rename_i i nn j k D A B I At pc F G nF r nl nW n q f g oo oW o hd
      cases hc : (decide (j = 0) && decide (nn = (r : Int)) && Nat.ble r 1000 && Nat.beq nF 64 && inR q r 0) with
      | false => simp [hc] at h
      | true =>
        simp only [hc, cond_true] at h
        simp only [Bool.and_eq_true, decide_eq_true_eq, Nat.ble_eq] at hc
        obtain ⟨⟨⟨⟨rfl, rfl⟩, hr⟩, hF⟩, hin⟩ := hc
        have hF := Nat.eq_of_beq_eq_true hF
        subst hF
        rw [hd, ref62b] at hst
        subst hst hm
        refine ⟨r + 30, ?_⟩
        rw [key62b, gcS62b]
        have := head62b pc i k D A B I At nl G nW f oW n g o K r q oo hr r 0 0 F (by omega) hin
        rw [Nat.zero_add] at this
        exact this.trans h
    · cases h
theorem lp62c_ok : LoopS Try.prog x62c lp62c := by
  refine LoopS.head (E := EA62) (kp := kp62) EA62_s pfl (LpC.none fun _ => rfl) (by rw [key62c]; rfl) fun m st K out h => ?_
  unfold lp62c at h
  cases hl : (Nat.beq m 2 && likeS st d62c) with
  | false => simp [hl] at h
  | true =>
    simp only [hl, cond_true] at h
    rw [Bool.and_eq_true] at hl
    have hm := Nat.eq_of_beq_eq_true hl.1
    have hst := likeS_ref hl.2
    split at h
    · rename_i i p k D A B I At pc F G nF nl nW n f g oW o hd
      cases hc : (decide (p = 1) && Nat.beq nF 64) with
      | false => simp [hc] at h
      | true =>
        simp only [hc, cond_true] at h
        simp only [Bool.and_eq_true, decide_eq_true_eq] at hc
        obtain ⟨rfl, hF⟩ := hc
        have hF := Nat.eq_of_beq_eq_true hF
        subst hF
        rw [hd, ref62c] at hst
        subst hst hm
        refine ⟨0 + 33 + 30, ?_⟩
        rw [key62c, gcS62c]
        exact (head62c pc i k D A B I At nl G nW f oW n g o K 33 1 0 F (by omega)).trans h
    · cases h
end Go.Proofs.Ytjpeplidbodjiaa
