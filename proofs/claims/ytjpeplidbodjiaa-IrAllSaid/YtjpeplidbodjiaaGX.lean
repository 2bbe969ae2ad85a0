/- live.needs: what is needed behind each operation. -/
import Derived.Test.YtjpeplidbodjiaaFY
import Derived.Test.YtjpeplidbodjiaaSndD
/- live.slot. -/
namespace Go.Proofs.Ytjpeplidbodjiaa
set_option maxRecDepth 100000
theorem t126 (pc i : Int) (nW : Nat) (f : Nat → Nat → Int) (oW : Nat → Nat → ByteArray) (n : Nat) (g : Nat → Nat → Int) (o : Nat → Nat → ByteArray) : evV EY2 Try.f126 100 [.agg [.v (.int .u32 pc), .ow 0, .ow 1], intV i] ⟨[], lB nW f oW n g o, 2⟩ =
    ix n i 0 (bif g i.toNat 5 != IntKind.i64.wrap ((nW : Int) - 1) then some (boolV false, hh0) else
      ix n (IntKind.i64.wrap ((n : Int) - 1)) 0 (bif (bif false then true else g (IntKind.i64.wrap ((n : Int) - 1)).toNat 0 == 60) then some (boolV false, hh0) else
        bif (bif false then true else !jumpsL (tabW (fun k => f k 0) nW 0)) then some (boolV false, hh0) else
          bif (bif !pureK (g i.toNat 0) then true else i == 0) then some (boolV true, hh0) else
            ix n (IntKind.i64.wrap (i - 1)) 5 (some (boolV (bif false then true else g (IntKind.i64.wrap (i - 1)).toNat 5 != g i.toNat 5), hh0)))) := by kernel_rfl
/-- Does an operation of the last word of a block that jumps show what the end asks? -/
def slotG (ws : List Int) (n : Nat) (g : Nat → Nat → Int) (i : Nat) : Bool :=
  bif g i 5 != (ws.length : Int) - 1 then false else bif g (n - 1) 0 == 60 then false else bif !jumpsL ws then false else
  bif !pureK (g i 0) then true else bif Nat.beq i 0 then true else g (i - 1) 5 != g i 5
theorem t126' (pc : Int) (i nW : Nat) (f : Nat → Nat → Int) (oW : Nat → Nat → ByteArray) (n : Nat) (g : Nat → Nat → Int) (o : Nat → Nat → ByteArray) (h : i < n) (hn : n ≤ 100000) (hw : nW ≤ 100000) :
    evV EY2 Try.f126 100 [.agg [.v (.int .u32 pc), .ow 0, .ow 1], intV i] ⟨[], lB nW f oW n g o, 2⟩ = some (boolV (slotG (tabW (fun k => f k 0) nW 0) n g i), hh0) := by
  rw [t126]
  unfold slotG
  have e2 : IntKind.i64.wrap ((n : Int) - 1) = ((n - 1 : Nat) : Int) := by rw [IntKind.wrap_i64]; omega
  have e2' : IntKind.i64.wrap ((nW : Int) - 1) = (nW : Int) - 1 := by rw [IntKind.wrap_i64]; omega
  have e3 : ∀ (j : Nat) (x : Out), j < 6 → ix n (i : Int) j x = x := fun j x hj => ix_in (by omega) (by omega) hj
  have e4 : ∀ (j : Nat) (x : Out), j < 6 → ix n ((n - 1 : Nat) : Int) j x = x := fun j x hj => ix_in (by omega) (by omega) hj
  have e5 : ((i : Nat) : Int).toNat = i := by omega
  have e6 : (((n - 1 : Nat)) : Int).toNat = n - 1 := by omega
  rw [e2, e2', e3 0 _ (by decide), e4 0 _ (by decide), e5, e6, tabW_len]
  generalize (g i 5 != (nW : Int) - 1) = b1
  generalize (g (n - 1) 0 == 60) = b2
  generalize jumpsL (tabW (fun k => f k 0) nW 0) = b3
  cases b1
  case true => rfl
  cases b2
  case true => rfl
  cases b3
  case false => rfl
  cases hp : pureK (g i 0)
  case false => rfl
  by_cases h0 : i = 0
  · subst h0
    rfl
  · have e0 : ((i : Int) == 0) = false := by simpa using h0
    have e1 : Nat.beq i 0 = false := by
      cases e : Nat.beq i 0 with
      | false => rfl
      | true => exact absurd (Nat.eq_of_beq_eq_true e) h0
    have e7 : IntKind.i64.wrap ((i : Int) - 1) = ((i - 1 : Nat) : Int) := by rw [IntKind.wrap_i64]; omega
    have e8 : ∀ (j : Nat) (x : Out), j < 6 → ix n ((i - 1 : Nat) : Int) j x = x := fun j x hj => ix_in (by omega) (by omega) hj
    have e9 : (((i - 1 : Nat)) : Int).toNat = i - 1 := by omega
    rw [e0, e1, e7, e8 5 _ (by decide), e9]
    rfl
section
variable {E : Env} {fn : Func} {fuel : Nat} {h h' : AH} {v : AV}
theorem inlP_twoV {x y : Value} {a b : Nat} {la lb : LB} (hab : a ≠ b) (ha : look a h.l = some la) (hb : look b h.l = some lb) (hs : sure v = true)
    (he : evV E fn fuel [.agg [.v x, .ow 0, .ow 1], .one (.v y)] ⟨[], [(0, ⟨false, la.e, la.bb⟩), (1, ⟨false, lb.e, lb.bb⟩)], 2⟩ = some (v, h')) : inlP E fn fuel [.agg [.v x, .ow a, .ow b], .one (.v y)] h = some (true, v) := by
  have e0 : ∀ i, Nat.blt i 0 = false := fun i => blt_false (by omega)
  have hba : Nat.beq b a = false := by
    cases e : Nat.beq b a with
    | false => rfl
    | true => exact absurd (Nat.eq_of_beq_eq_true e).symm hab
  have e1 : idF 0 (upto [AV.agg [.v x, .ow a, .ow b], .one (.v y)].length) [] 0 [.agg [.v x, .ow a, .ow b], .one (.v y)] = [a, b] := by
    simp [idF, upto, memN, idCs, idC, addN, e0, hba]
  unfold inlP inlPO
  rw [e1]
  have e2 : ∀ k : List AV → Out, renF 0 (upto [AV.agg [.v x, .ow a, .ow b], .one (.v y)].length) [a, b] 0 [.agg [.v x, .ow a, .ow b], .one (.v y)] k = k [.agg [.v x, .ow 0, .ow 1], .one (.v y)] := by
    intro k
    simp only [renF, upto, List.length_cons, List.length_nil, memN, renCs, renC, ren1, posN, e0, forceV_eq]
    simp [hba]
  rw [e2]
  simp only [pickL, ha, hb, List.length_cons, List.length_nil]
  rw [he]
  simp [hs]
end
def q126 (args : List AV) (h : AH) : Option (Bool × AV) := match args with
  | [.agg [.v (.int .u32 _), .ow a, .ow b], .one (.v (.int .i64 (.ofNat i)))] => (match wordsOf (.one (.ow a)) h, opsOf (.one (.ow b)) h with
    | some (nW, f), some (n, g) => some (Nat.blt i n && Nat.ble n 100000 && Nat.ble nW 100000, boolV (slotG (tabW (fun k => f k 0) nW 0) n g i))
    | _, _ => none)
  | _ => none
theorem q126_ok : ∀ args h v, q126 args h = some (true, v) → inlP EY2 Try.f126 100 args h = some (true, v) := by
  intro args h v hq
  unfold q126 at hq
  split at hq
  · rename_i pc a b i
    split at hq
    · rename_i nW f n g hw ho
      simp only [Option.some.injEq, Prod.mk.injEq, Bool.and_eq_true, Nat.blt_eq, Nat.ble_eq] at hq
      obtain ⟨⟨⟨h1, h2⟩, h3⟩, rfl⟩ := hq
      rcases wordsOf_spec hw with ⟨id, own, o, hw1, hl⟩ | ⟨hw1, _⟩
      · rcases opsOf_spec ho with ⟨id', own', o', ho1, hl'⟩ | ⟨ho1, _⟩
        · injection hw1 with hw1
          injection hw1 with hw1
          injection ho1 with ho1
          injection ho1 with ho1
          subst hw1 ho1
          refine inlP_twoV (fun e => ?_) hl hl' rfl (t126' pc i nW f o n g o' h1 h2 h3)
          rw [e, hl'] at hl
          injection hl with hl
          injection hl with _ hl _
          cases hl
        · cases ho1
      · cases hw1
    · cases hq
  · cases hq
noncomputable def EZ0 : Env := EY2.sum 126 q126
theorem EZ0_s : EZ0.Sound := EY2_s.sumC ((inlP_CallQ EY2_s pfl (LpF.none fun _ => rfl) has126).of q126_ok)
end Go.Proofs.Ytjpeplidbodjiaa
/- live.needs: its inner loops. -/
namespace Go.Proofs.Ytjpeplidbodjiaa
set_option maxRecDepth 100000
def nthL : List Code → Nat → Code
  | [], _ => .skip
  | a :: _, 0 => a
  | _ :: r, n + 1 => nthL r n
noncomputable def x62a : Code := nthL (loopsC (bodyC Try.f62)) 0
noncomputable def x62b : Code := nthL (loopsC (bodyC Try.f62)) 1
noncomputable def x62c : Code := nthL (loopsC (bodyC Try.f62)) 2
theorem key62a : keyC x62a = 4 := by kernel_rfl
theorem key62b : keyC x62b = 12 := by kernel_rfl
theorem key62c : keyC x62c = 18 := by kernel_rfl
theorem loops62 : loopsC (bodyC Try.f62) = [x62a, x62b, x62c] := by kernel_rfl
def lv62 : Nat → Option (List Nat) := fun i => bif Nat.beq i 12 then some [1, 3, 4, 5, 6, 49, 50, 51] else bif Nat.beq i 18 then some [1, 3, 4, 5, 6, 10] else bif Nat.beq i 4 then some [1, 3, 4, 5] else none
noncomputable def EA62 : Env := EZ0.marks lv62 fun _ => none
theorem EA62_s : EA62.Sound := EZ0_s.marks
def kp62 : Exit → Option (List Nat)
  | .exit _ => some [1, 3, 4, 5, 6]
  | _ => none
/-- The blocks and lists while an operation is looked at. -/
def b62 (pc : Int) (nF : Nat) (F : Nat → Nat → Bool) (k D A B I At : Int) : List (Nat × TypeId × BB) := [(5, 31, .cells (opC k D A B I At)), (4, 85, .bools 1 nF F), (2, 26, .cells [.v (.int .u32 pc), .ow 0, .ow 1])]
def l62 (nl : Nat) (G : Nat → Nat → Bool) (l : List (Nat × LB)) : List (Nat × LB) := (3, ⟨true, 85, .bools 64 nl G⟩) :: l
def fr62 (i : Int) (r : List AV) : List AV := .one .any :: .one (.pt 2 0) :: .one .any :: .one (.ow 3) :: .one (.pt 4 0) :: .one (.v (.int .i64 i)) :: .one (.pt 5 0) :: r
def S62b (pc i nn j : Int) (nF : Nat) (F : Nat → Nat → Bool) (k D A B I At : Int) (r : Nat) (q : Nat → Nat → Int) (oo : Nat → Nat → ByteArray) (nl : Nat) (G : Nat → Nat → Bool) (l : List (Nat × LB)) : AS :=
  ⟨fr62 i (anys 42 ++ (.one (.ow 6) :: .one (.v (.int .i64 nn)) :: .one (.v (.int .i64 j)) :: anys 36)), ⟨b62 pc nF F k D A B I At, (6, ⟨true, 3, .row [.i .i64] r q oo⟩) :: l62 nl G l, 7⟩⟩
def X62 (pc i : Int) (nF : Nat) (F : Nat → Nat → Bool) (k D A B I At : Int) (nl : Nat) (G : Nat → Nat → Bool) (l : List (Nat × LB)) : AS :=
  ⟨fr62 i (anys 81), ⟨b62 pc nF F k D A B I At, l62 nl G l, 6⟩⟩
def S62c (pc i p : Int) (nF : Nat) (F : Nat → Nat → Bool) (k D A B I At : Int) (nl : Nat) (G : Nat → Nat → Bool) (l : List (Nat × LB)) : AS :=
  ⟨fr62 i (.one .any :: .one .any :: .one .any :: .one (.v (.int .i64 p)) :: anys 77), ⟨b62 pc nF F k D A B I At, l62 nl G l, 6⟩⟩
section
variable (pc i : Int) (k D A B I At : Int) (nl : Nat) (G : Nat → Nat → Bool) (nW : Nat) (f : Nat → Nat → Int) (oW : Nat → Nat → ByteArray) (n : Nat) (g : Nat → Nat → Int) (o : Nat → Nat → ByteArray) (K : Exit → AS → Out)
theorem gcS62b (nn j : Int) (nF : Nat) (F : Nat → Nat → Bool) (r : Nat) (q : Nat → Nat → Int) (oo : Nat → Nat → ByteArray) (H : AS → Out) : gc 2 (EA62.lv 12) (S62b pc i nn j nF F k D A B I At r q oo nl G (lB nW f oW n g o)) H = H (S62b pc i nn j nF F k D A B I At r q oo nl G (lB nW f oW n g o)) := by kernel_rfl
theorem gcS62c (p : Int) (nF : Nat) (F : Nat → Nat → Bool) (H : AS → Out) : gc 2 (EA62.lv 18) (S62c pc i p nF F k D A B I At nl G (lB nW f oW n g o)) H = H (S62c pc i p nF F k D A B I At nl G (lB nW f oW n g o)) := by kernel_rfl
/-- Place p of 64. -/
def ix64 (p : Int) (x : Out) : Out := bif decide (0 ≤ p) && decide (p < ((64 : Nat) : Int)) then bif decide (p.toNat < 64) && decide (0 < 1) then x else none else none
theorem ix64_in {p : Int} {x : Out} (h0 : 0 ≤ p) (h1 : p < 64) : ix64 p x = x := by
  unfold ix64
  rw [decide_eq_true h0, decide_eq_true (show p < ((64 : Nat) : Int) from h1), decide_eq_true (show p.toNat < 64 by omega)]
  rfl
theorem rnd62b (j : Int) (F : Nat → Nat → Bool) (r : Nat) (q : Nat → Nat → Int) (oo : Nat → Nat → ByteArray) (H : AS → Out) (N : Nat) : ev EA62 2 (N + 30) x62b (S62b pc i r j 64 F k D A B I At r q oo nl G (lB nW f oW n g o)) (rkG 2 (EA62.lv 12) kp62 H K) =
    bif decide (j < (r : Int)) then bif decide (0 ≤ j) && decide (j < (r : Int)) then bif decide (j.toNat < r) && decide (0 < 1) then
      ix64 (q j.toNat 0) (H (S62b pc i r (IntKind.i64.wrap (j + 1)) 64 (updB F (q j.toNat 0).toNat 0 true) k D A B I At r q oo nl G (lB nW f oW n g o))) else none else none
    else K (.exit 2) (X62 pc i 64 F k D A B I At nl G (lB nW f oW n g o)) := by kernel_rfl
theorem rnd62c (p : Int) (F : Nat → Nat → Bool) (H : AS → Out) (N : Nat) : ev EA62 2 (N + 30) x62c (S62c pc i p 64 F k D A B I At nl G (lB nW f oW n g o)) (rkG 2 (EA62.lv 18) kp62 H K) =
    bif decide (p < 34) then ix64 p (H (S62c pc i (IntKind.i64.wrap (p + 1)) 64 (updB F p.toNat 0 true) k D A B I At nl G (lB nW f oW n g o)))
    else K (.exit 4) (X62 pc i 64 F k D A B I At nl G (lB nW f oW n g o)) := by kernel_rfl
/-- Places set, as a list tells. -/
def setR (q : Nat → Nat → Int) : Nat → Nat → (Nat → Nat → Bool) → Nat → Nat → Bool
  | 0, _, F => F
  | r + 1, j, F => setR q r (j + 1) (updB F (q j 0).toNat 0 true)
def inR (q : Nat → Nat → Int) : Nat → Nat → Bool
  | 0, _ => true
  | r + 1, j => (decide (0 ≤ q j 0) && decide (q j 0 < 64)) && inR q r (j + 1)
/-- Places p, p + 1, .. set. -/
def setC : Nat → Nat → (Nat → Nat → Bool) → Nat → Nat → Bool
  | 0, _, F => F
  | c + 1, p, F => setC c (p + 1) (updB F p 0 true)
theorem head62b (r : Nat) (q : Nat → Nat → Int) (oo : Nat → Nat → ByteArray) (hr : r ≤ 1000) : ∀ (c j N : Nat) (F : Nat → Nat → Bool), j + c = r → inR q c j = true →
    HeadK EA62 2 kp62 x62b (N + c + 30) K (S62b pc i r j 64 F k D A B I At r q oo nl G (lB nW f oW n g o)) = K (.exit 2) (X62 pc i 64 (setR q c j F) k D A B I At nl G (lB nW f oW n g o))
  | 0, j, N, F, h, _ => by
    rw [show N + 0 + 30 = (N + 29) + 1 by omega, HeadK_succ (by rw [key62b]; rfl), key62b]
    refine (rnd62b pc i k D A B I At nl G nW f oW n g o K j F r q oo _ N).trans ?_
    rw [decide_eq_false (show ¬ (j : Int) < (r : Int) by omega)]
    simp only [cond_false, setR]
  | c + 1, j, N, F, h, hin => by
    rw [show N + (c + 1) + 30 = (N + c + 30) + 1 by omega, HeadK_succ (by rw [key62b]; rfl), key62b]
    refine (rnd62b pc i k D A B I At nl G nW f oW n g o K j F r q oo _ (N + c + 1)).trans ?_
    simp only [inR, Bool.and_eq_true, decide_eq_true_eq] at hin
    have e4 : IntKind.i64.wrap ((j : Int) + 1) = ((j + 1 : Nat) : Int) := by rw [IntKind.wrap_i64]; omega
    have e6 : (j : Int).toNat = j := by omega
    have ih := head62b r q oo hr c (j + 1) N (updB F (q j 0).toNat 0 true) (by omega) hin.2
    rw [decide_eq_true (show (j : Int) < (r : Int) by omega), decide_eq_true (show 0 ≤ (j : Int) by omega), e4, e6, decide_eq_true (show j < r by omega), ix64_in hin.1.1 hin.1.2]
    rw [setR]
    generalize HeadK EA62 2 kp62 x62b (N + c + 30) K (S62b pc i r ((j + 1 : Nat) : Int) 64 (updB F (q j 0).toNat 0 true) k D A B I At r q oo nl G (lB nW f oW n g o)) = H at ih ⊢
    rw [ih]
    rfl
theorem head62c : ∀ (c p N : Nat) (F : Nat → Nat → Bool), p + c = 34 →
    HeadK EA62 2 kp62 x62c (N + c + 30) K (S62c pc i p 64 F k D A B I At nl G (lB nW f oW n g o)) = K (.exit 4) (X62 pc i 64 (setC c p F) k D A B I At nl G (lB nW f oW n g o))
  | 0, p, N, F, h => by
    rw [show N + 0 + 30 = (N + 29) + 1 by omega, HeadK_succ (by rw [key62c]; rfl), key62c]
    refine (rnd62c pc i k D A B I At nl G nW f oW n g o K p F _ N).trans ?_
    rw [decide_eq_false (show ¬ (p : Int) < 34 by omega)]
    simp only [cond_false, setC]
  | c + 1, p, N, F, h => by
    rw [show N + (c + 1) + 30 = (N + c + 30) + 1 by omega, HeadK_succ (by rw [key62c]; rfl), key62c]
    refine (rnd62c pc i k D A B I At nl G nW f oW n g o K p F _ (N + c + 1)).trans ?_
    have e4 : IntKind.i64.wrap ((p : Int) + 1) = ((p + 1 : Nat) : Int) := by rw [IntKind.wrap_i64]; omega
    have e6 : (p : Int).toNat = p := by omega
    have ih := head62c c (p + 1) N (updB F p 0 true) (by omega)
    rw [decide_eq_true (show (p : Int) < 34 by omega), e4, e6, ix64_in (by omega) (by omega)]
    rw [setC]
    generalize HeadK EA62 2 kp62 x62c (N + c + 30) K (S62c pc i ((p + 1 : Nat) : Int) 64 (updB F p 0 true) k D A B I At nl G (lB nW f oW n g o)) = H at ih ⊢
    rw [ih]
    rfl
end
def d62b : AS := S62b 0 0 0 0 0 (fun _ _ => false) 0 0 0 0 0 0 0 (fun _ _ => 0) (fun _ _ => ByteArray.empty) 0 (fun _ _ => false) (lB 0 (fun _ _ => 0) (fun _ _ => ByteArray.empty) 0 (fun _ _ => 0) (fun _ _ => ByteArray.empty))
def d62c : AS := S62c 0 0 0 0 (fun _ _ => false) 0 0 0 0 0 0 0 (fun _ _ => false) (lB 0 (fun _ _ => 0) (fun _ _ => ByteArray.empty) 0 (fun _ _ => 0) (fun _ _ => ByteArray.empty))
def lp62b (m : Nat) (st : AS) (K : Exit → AS → Out) : Out := bif Nat.beq m 2 && likeS st d62b then (match datS st with
  | ⟨[i, nn, j, k, D, A, B, I, At, pc], [], [F, G], [nF, r, nl, nW, n], [q, f, g], [_, oW, o], []⟩ => bif decide (j = 0) && decide (nn = (r : Int)) && Nat.ble r 1000 && Nat.beq nF 64 && inR q r 0 then
      K (.exit 2) (X62 pc i 64 (setR q r 0 F) k D A B I At nl G (lB nW f oW n g o)) else none
  | _ => none) else none
def lp62c (m : Nat) (st : AS) (K : Exit → AS → Out) : Out := bif Nat.beq m 2 && likeS st d62c then (match datS st with
  | ⟨[i, p, k, D, A, B, I, At, pc], [], [F, G], [nF, nl, nW, n], [f, g], [oW, o], []⟩ => bif decide (p = 1) && Nat.beq nF 64 then
      K (.exit 4) (X62 pc i 64 (setC 33 1 F) k D A B I At nl G (lB nW f oW n g o)) else none
  | _ => none) else none
theorem ref62b (i nn j k D A B I At pc : Int) (F G : Nat → Nat → Bool) (nF r nl nW n : Nat) (q f g : Nat → Nat → Int) (oo oW o : Nat → Nat → ByteArray) :
    refS d62b ⟨[i, nn, j, k, D, A, B, I, At, pc], [], [F, G], [nF, r, nl, nW, n], [q, f, g], [oo, oW, o], []⟩ = S62b pc i nn j nF F k D A B I At r q oo nl G (lB nW f oW n g o) := by kernel_rfl
theorem ref62c (i p k D A B I At pc : Int) (F G : Nat → Nat → Bool) (nF nl nW n : Nat) (f g : Nat → Nat → Int) (oW o : Nat → Nat → ByteArray) :
    refS d62c ⟨[i, p, k, D, A, B, I, At, pc], [], [F, G], [nF, nl, nW, n], [f, g], [oW, o], []⟩ = S62c pc i p nF F k D A B I At nl G (lB nW f oW n g o) := by kernel_rfl
theorem lp62b_ok : LoopS Try.prog x62b lp62b := by
  refine LoopS.head (E := EA62) (kp := kp62) EA62_s pfl (LpC.none fun _ => rfl) (by rw [key62b]; rfl) fun m st K out h => ?_
  unfold lp62b at h
  cases hl : (Nat.beq m 2 && likeS st d62b) with
  | false => simp [hl] at h
  | true =>
    simp only [hl, cond_true] at h
    rw [Bool.and_eq_true] at hl
    have hm := Nat.eq_of_beq_eq_true hl.1
    have hst := likeS_ref hl.2
    split at h
    · rename_i i nn j k D A B I At pc F G nF r nl nW n q f g oo oW o hd
      cases hc : (decide (j = 0) && decide (nn = (r : Int)) && Nat.ble r 1000 && Nat.beq nF 64 && inR q r 0) with
      | false => simp [hc] at h
      | true =>
        simp only [hc, cond_true] at h
        simp only [Bool.and_eq_true, decide_eq_true_eq, Nat.ble_eq] at hc
        obtain ⟨⟨⟨⟨rfl, rfl⟩, hr⟩, hF⟩, hin⟩ := hc
        have hF := Nat.eq_of_beq_eq_true hF
        subst hF
        rw [hd, ref62b] at hst
        subst hst hm
        refine ⟨r + 30, ?_⟩
        rw [key62b, gcS62b]
        have := head62b pc i k D A B I At nl G nW f oW n g o K r q oo hr r 0 0 F (by omega) hin
        rw [Nat.zero_add] at this
        exact this.trans h
    · cases h
theorem lp62c_ok : LoopS Try.prog x62c lp62c := by
  refine LoopS.head (E := EA62) (kp := kp62) EA62_s pfl (LpC.none fun _ => rfl) (by rw [key62c]; rfl) fun m st K out h => ?_
  unfold lp62c at h
  cases hl : (Nat.beq m 2 && likeS st d62c) with
  | false => simp [hl] at h
  | true =>
    simp only [hl, cond_true] at h
    rw [Bool.and_eq_true] at hl
    have hm := Nat.eq_of_beq_eq_true hl.1
    have hst := likeS_ref hl.2
    split at h
    · rename_i i p k D A B I At pc F G nF nl nW n f g oW o hd
      cases hc : (decide (p = 1) && Nat.beq nF 64) with
      | false => simp [hc] at h
      | true =>
        simp only [hc, cond_true] at h
        simp only [Bool.and_eq_true, decide_eq_true_eq] at hc
        obtain ⟨rfl, hF⟩ := hc
        have hF := Nat.eq_of_beq_eq_true hF
        subst hF
        rw [hd, ref62c] at hst
        subst hst hm
        refine ⟨0 + 33 + 30, ?_⟩
        rw [key62c, gcS62c]
        exact (head62c pc i k D A B I At nl G nW f oW n g o K 33 1 0 F (by omega)).trans h
    · cases h
end Go.Proofs.Ytjpeplidbodjiaa
/- live.needs: a round of its loop. -/
namespace Go.Proofs.Ytjpeplidbodjiaa
set_option maxRecDepth 100000
noncomputable def EA1 : Env := (EZ0.marks lv62 fun _ => none).loops fun i => bif Nat.beq i 12 then some lp62b else bif Nat.beq i 18 then some lp62c else none
theorem EA1_s : EA1.Sound := EZ0_s.marks.loops
def S62 (pc i : Int) (nF : Nat) (F : Nat → Nat → Bool) (nl : Nat) (G : Nat → Nat → Bool) (l : List (Nat × LB)) : AS :=
  ⟨.one .any :: .one (.pt 2 0) :: .one .any :: .one (.ow 3) :: .one (.pt 4 0) :: .one (.v (.int .i64 i)) :: anys 82, ⟨[(4, 85, .bools 1 nF F), (2, 26, .cells [.v (.int .u32 pc), .ow 0, .ow 1])], l62 nl G l, 5⟩⟩
def X62a (nl : Nat) (G : Nat → Nat → Bool) (l : List (Nat × LB)) : AS := ⟨.one .any :: .one .any :: .one .any :: .one (.ow 2) :: anys 84, ⟨[], (2, ⟨true, 85, .bools 64 nl G⟩) :: l, 3⟩⟩
def kp62a : Exit → Option (List Nat)
  | .exit _ => some [3]
  | _ => none
def ixG (n : Nat) (i : Int) (x : Out) : Out := bif decide (0 ≤ i) && decide (i < (n : Int)) then bif decide (i.toNat < n) && decide (0 < 64) then x else none else none
section
variable (pc : Int) (nl : Nat) (nW : Nat) (f : Nat → Nat → Int) (oW : Nat → Nat → ByteArray) (n : Nat) (g : Nat → Nat → Int) (o : Nat → Nat → ByteArray)
def A4 (i : Nat) (N : (Nat → Nat → Bool) → Out) (F : Nat → Nat → Bool) : Out := bif Nat.blt i n && Nat.ble n 100000 && Nat.ble nW 100000 then
  (bif slotG (tabW (fun k => f k 0) nW 0) n g i then ix n (IntKind.i64.wrap ((n : Int) - 1)) 2 (ix64 (g (IntKind.i64.wrap ((n : Int) - 1)).toNat 2) (N (updB F (g (IntKind.i64.wrap ((n : Int) - 1)).toNat 2).toNat 0 true))) else N F) else none
def A3 (i : Nat) (k : Int) (N : (Nat → Nat → Bool) → Out) (F : Nat → Nat → Bool) : Out := bif !pureK k then A4 nW f n g i N (setC 33 1 F) else
  bif Nat.blt i n && Nat.ble n 100000 then (bif (bif false then true else behindG g i) then A4 nW f n g i N (setC 33 1 F) else A4 nW f n g i N F) else none
def A2 (i : Nat) (k : Int) (R : List Int) (N : (Nat → Nat → Bool) → Out) (F : Nat → Nat → Bool) : Out :=
  bif decide ((0 : Int) = 0) && decide ((R.length : Int) = (R.length : Int)) && Nat.ble R.length 1000 && Nat.beq 64 64 && inR (listF R) R.length 0 then A3 nW f n g i k N (setR (listF R) R.length 0 F) else none
def A1 (i : Nat) (k D A B : Int) (N : (Nat → Nat → Bool) → Out) (F : Nat → Nat → Bool) : Out :=
  bif (bif (bif decide (writesK k D > 0) then k != 23 else false) then k != 24 else false) then ix64 (writesK k D) (A2 nW f n g i k (readsK k D A B) N (updB F (writesK k D).toNat 0 false)) else A2 nW f n g i k (readsK k D A B) N F
theorem rnd62a (i : Nat) (F G : Nat → Nat → Bool) (H : AS → Out) (K : Exit → AS → Out) (N : Nat) : ev EA1 2 (N + 50) x62a (S62 pc i 64 F nl G (lB nW f oW n g o)) (rkG 2 (EA1.lv 4) kp62a H K) =
    ix n i 0 (ixG nl i (A1 nW f n g i (g (i : Int).toNat 0) (g (i : Int).toNat 1) (g (i : Int).toNat 2) (g (i : Int).toNat 3) (fun F' => H (S62 pc (IntKind.i64.wrap ((i : Int) - 1)) 64 F' nl (updB1 G (i : Int).toNat fun j => F j 0) (lB nW f oW n g o))) F)) := by kernel_rfl
theorem end62a (F G : Nat → Nat → Bool) (H : AS → Out) (K : Exit → AS → Out) (N : Nat) : ev EA1 2 (N + 50) x62a (S62 pc (-1) 64 F nl G (lB nW f oW n g o)) (rkG 2 (EA1.lv 4) kp62a H K) = K (.exit 0) (X62a nl G (lB nW f oW n g o)) := by kernel_rfl
end
end Go.Proofs.Ytjpeplidbodjiaa
/- live.needs: its loop. -/
namespace Go.Proofs.Ytjpeplidbodjiaa
set_option maxRecDepth 100000
/-- Has an operation its places in room? -/
def opIn (q : Nat → Int) : Bool := decide (writesK (q 0) (q 1) < 64) && inR (listF (readsK (q 0) (q 1) (q 2) (q 3))) (readsK (q 0) (q 1) (q 2) (q 3)).length 0
def opsIn (g : Nat → Nat → Int) : Nat → Bool
  | 0 => true
  | n + 1 => opIn (g n) && opsIn g n
theorem opsIn_at {g : Nat → Nat → Int} : ∀ {n i : Nat}, opsIn g n = true → i < n → opIn (g i) = true
  | 0, _, _, h => by omega
  | n + 1, i, h, hi => by
    simp only [opsIn, Bool.and_eq_true] at h
    by_cases e : i = n
    · rw [e]; exact h.1
    · exact opsIn_at h.2 (by omega)
theorem reads_len (k D A B : Int) : (readsK k D A B).length ≤ 3 := by
  unfold readsK
  cases (shpK k).a <;> cases (shpK k).b <;> cases (shpK k).d <;> simp
def step1 (q : Nat → Int) (F : Nat → Nat → Bool) : Nat → Nat → Bool :=
  bif (bif (bif decide (writesK (q 0) (q 1) > 0) then q 0 != 23 else false) then q 0 != 24 else false) then updB F (writesK (q 0) (q 1)).toNat 0 false else F
def step2 (q : Nat → Int) (F : Nat → Nat → Bool) : Nat → Nat → Bool := setR (listF (readsK (q 0) (q 1) (q 2) (q 3))) (readsK (q 0) (q 1) (q 2) (q 3)).length 0 F
def step3 (g : Nat → Nat → Int) (i : Nat) (F : Nat → Nat → Bool) : Nat → Nat → Bool := bif !pureK (g i 0) then setC 33 1 F else bif behindG g i then setC 33 1 F else F
def step4 (ws : List Int) (n : Nat) (g : Nat → Nat → Int) (i : Nat) (F : Nat → Nat → Bool) : Nat → Nat → Bool := bif slotG ws n g i then updB F (g (n - 1) 2).toNat 0 true else F
/-- What is needed ahead of operation number i, of what is needed behind it. -/
def needStep (ws : List Int) (n : Nat) (g : Nat → Nat → Int) (i : Nat) (F : Nat → Nat → Bool) : Nat → Nat → Bool := step4 ws n g i (step3 g i (step2 (g i) (step1 (g i) F)))
def needG (ws : List Int) (n : Nat) (g : Nat → Nat → Int) : Nat → (Nat → Nat → Bool) → (Nat → Nat → Bool) → Nat → Nat → Bool
  | 0, _, G => G
  | s + 1, F, G => needG ws n g s (needStep ws n g s F) (updB1 G s fun j => F j 0)
section
variable (pc : Int) (nW : Nat) (f : Nat → Nat → Int) (oW : Nat → Nat → ByteArray) (n : Nat) (g : Nat → Nat → Int) (o : Nat → Nat → ByteArray)
theorem A4_eq {i : Nat} {N : (Nat → Nat → Bool) → Out} {F : Nat → Nat → Bool} (hi : i < n) (hn : n ≤ 100000) (hw : nW ≤ 100000) (hl : 0 ≤ g (n - 1) 2 ∧ g (n - 1) 2 < 64) : A4 nW f n g i N F = N (step4 (tabW (fun k => f k 0) nW 0) n g i F) := by
  unfold A4 step4
  have e1 : Nat.blt i n = true := by rw [Nat.blt_eq]; exact hi
  have e2 : Nat.ble n 100000 = true := by rw [Nat.ble_eq]; exact hn
  have e3 : Nat.ble nW 100000 = true := by rw [Nat.ble_eq]; exact hw
  have e4 : IntKind.i64.wrap ((n : Int) - 1) = ((n - 1 : Nat) : Int) := by rw [IntKind.wrap_i64]; omega
  have e5 : (((n - 1 : Nat)) : Int).toNat = n - 1 := by omega
  rw [e1, e2, e3, e4, e5, ix_in (k := ((n - 1 : Nat) : Int)) (by omega) (by omega) (by decide), ix64_in hl.1 hl.2]
  cases slotG (tabW (fun k => f k 0) nW 0) n g i <;> rfl
theorem A3_eq {i : Nat} {N : (Nat → Nat → Bool) → Out} {F : Nat → Nat → Bool} (hi : i < n) (hn : n ≤ 100000) (hw : nW ≤ 100000) (hl : 0 ≤ g (n - 1) 2 ∧ g (n - 1) 2 < 64) : A3 nW f n g i (g i 0) N F = N (step4 (tabW (fun k => f k 0) nW 0) n g i (step3 g i F)) := by
  unfold A3 step3
  have e1 : Nat.blt i n = true := by rw [Nat.blt_eq]; exact hi
  have e2 : Nat.ble n 100000 = true := by rw [Nat.ble_eq]; exact hn
  rw [e1, e2, A4_eq nW f n g hi hn hw hl, A4_eq nW f n g hi hn hw hl]
  cases pureK (g i 0) <;> cases behindG g i <;> rfl
theorem A2_eq {i : Nat} {N : (Nat → Nat → Bool) → Out} {F : Nat → Nat → Bool} (hi : i < n) (hn : n ≤ 100000) (hw : nW ≤ 100000) (hl : 0 ≤ g (n - 1) 2 ∧ g (n - 1) 2 < 64) (ho : opIn (g i) = true) :
    A2 nW f n g i (g i 0) (readsK (g i 0) (g i 1) (g i 2) (g i 3)) N F = N (step4 (tabW (fun k => f k 0) nW 0) n g i (step3 g i (step2 (g i) F))) := by
  unfold A2 step2
  simp only [opIn, Bool.and_eq_true] at ho
  have e1 : Nat.ble (readsK (g i 0) (g i 1) (g i 2) (g i 3)).length 1000 = true := by rw [Nat.ble_eq]; have := reads_len (g i 0) (g i 1) (g i 2) (g i 3); omega
  rw [e1, ho.2, decide_eq_true (rfl : ((readsK (g i 0) (g i 1) (g i 2) (g i 3)).length : Int) = _), A3_eq nW f n g hi hn hw hl]
  rfl
theorem A1_eq {i : Nat} {N : (Nat → Nat → Bool) → Out} {F : Nat → Nat → Bool} (hi : i < n) (hn : n ≤ 100000) (hw : nW ≤ 100000) (hl : 0 ≤ g (n - 1) 2 ∧ g (n - 1) 2 < 64) (ho : opIn (g i) = true) :
    A1 nW f n g i (g i 0) (g i 1) (g i 2) (g i 3) N F = N (needStep (tabW (fun k => f k 0) nW 0) n g i F) := by
  unfold A1 needStep step1
  rw [A2_eq nW f n g hi hn hw hl ho, A2_eq nW f n g hi hn hw hl ho]
  simp only [opIn, Bool.and_eq_true, decide_eq_true_eq] at ho
  by_cases hp : writesK (g i 0) (g i 1) > 0
  · rw [ix64_in (by omega) ho.1]
    cases (bif (bif decide (writesK (g i 0) (g i 1) > 0) then g i 0 != 23 else false) then g i 0 != 24 else false) <;> rfl
  · rw [decide_eq_false hp]
    rfl
theorem head62a (K : Exit → AS → Out) (hn : n ≤ 100000) (hw : nW ≤ 100000) (hl : 0 ≤ g (n - 1) 2 ∧ g (n - 1) 2 < 64) (ho : opsIn g n = true) : ∀ (s N : Nat) (F G : Nat → Nat → Bool), s ≤ n →
    HeadK EA1 2 kp62a x62a (N + s + 50) K (S62 pc ((s : Int) - 1) 64 F n G (lB nW f oW n g o)) = K (.exit 0) (X62a n (needG (tabW (fun k => f k 0) nW 0) n g s F G) (lB nW f oW n g o))
  | 0, N, F, G, _ => by
    rw [show N + 0 + 50 = (N + 49) + 1 by omega, HeadK_succ (by rw [key62a]; rfl), key62a]
    exact end62a pc n nW f oW n g o F G _ K N
  | s + 1, N, F, G, hs => by
    rw [show N + (s + 1) + 50 = (N + s + 50) + 1 by omega, HeadK_succ (by rw [key62a]; rfl), key62a]
    have e1 : ((s + 1 : Nat) : Int) - 1 = (s : Int) := by omega
    rw [e1]
    refine (rnd62a pc n nW f oW n g o s F G _ K (N + s + 1)).trans ?_
    have e3 : IntKind.i64.wrap ((s : Int) - 1) = (s : Int) - 1 := by rw [IntKind.wrap_i64]; omega
    have e5 : ((s : Nat) : Int).toNat = s := by omega
    have e6 : ∀ x, ixG n (s : Int) x = x := fun x => by
      unfold ixG
      rw [decide_eq_true (show 0 ≤ (s : Int) by omega), decide_eq_true (show (s : Int) < (n : Int) by omega), decide_eq_true (show ((s : Nat) : Int).toNat < n by omega)]
      rfl
    rw [ix_in (k := (s : Int)) (by omega) (by omega) (by decide), e6, e5, e3, A1_eq nW f n g (by omega) hn hw hl (opsIn_at ho (by omega))]
    exact head62a K hn hw hl ho s N (needStep (tabW (fun k => f k 0) nW 0) n g s F) (updB1 G s fun j => F j 0) (by omega)
end
theorem gcS62 (pc i : Int) (nF : Nat) (F : Nat → Nat → Bool) (nl : Nat) (G : Nat → Nat → Bool) (nW : Nat) (f : Nat → Nat → Int) (oW : Nat → Nat → ByteArray) (n : Nat) (g : Nat → Nat → Int) (o : Nat → Nat → ByteArray) (H : AS → Out) :
    gc 2 (EA1.lv 4) (S62 pc i nF F nl G (lB nW f oW n g o)) H = H (S62 pc i nF F nl G (lB nW f oW n g o)) := by kernel_rfl
def d62 : AS := S62 0 0 0 (fun _ _ => false) 0 (fun _ _ => false) (lB 0 (fun _ _ => 0) (fun _ _ => ByteArray.empty) 0 (fun _ _ => 0) (fun _ _ => ByteArray.empty))
def okN (nW n : Nat) (g : Nat → Nat → Int) : Bool := Nat.ble n 100000 && Nat.ble nW 100000 && (decide (0 ≤ g (n - 1) 2) && decide (g (n - 1) 2 < 64)) && opsIn g n
def lp62a (m : Nat) (st : AS) (K : Exit → AS → Out) : Out := bif Nat.beq m 2 && likeS st d62 then (match datS st with
  | ⟨[i, _], [], [F, G], [nF, nl, nW, n], [f, g], [oW, o], []⟩ => bif decide (i = (n : Int) - 1) && Nat.beq nl n && Nat.beq nF 64 && okN nW n g then
      K (.exit 0) (X62a n (needG (tabW (fun k => f k 0) nW 0) n g n F G) (lB nW f oW n g o)) else none
  | _ => none) else none
theorem ref62 (i pc : Int) (F G : Nat → Nat → Bool) (nF nl nW n : Nat) (f g : Nat → Nat → Int) (oW o : Nat → Nat → ByteArray) :
    refS d62 ⟨[i, pc], [], [F, G], [nF, nl, nW, n], [f, g], [oW, o], []⟩ = S62 pc i nF F nl G (lB nW f oW n g o) := by kernel_rfl
theorem EA1_in : LpC EA1 x62a → True := fun _ => trivial
theorem loops62a : loopsC x62a = [x62b, x62c] := by kernel_rfl
theorem EA1_lp {x : Code} (hx : x = x62b ∨ x = x62c) : ∀ f, EA1.lp (keyC x) = some f → LoopS EA1.P x f := by
  intro f hf
  rcases hx with rfl | rfl
  · have e : EA1.lp (keyC x62b) = some lp62b := by rw [key62b]; rfl
    rw [e] at hf
    injection hf with hf
    subst hf
    exact lp62b_ok
  · have e : EA1.lp (keyC x62c) = some lp62c := by rw [key62c]; rfl
    rw [e] at hf
    injection hf with hf
    subst hf
    exact lp62c_ok
theorem EA1_a : EA1.lp (keyC x62a) = none := by rw [key62a]; rfl
theorem lp62a_ok : LoopS Try.prog x62a lp62a := by
  refine LoopS.head (E := EA1) (kp := kp62a) EA1_s pfl (fun x hx f hf => ?_) EA1_a fun m st K out h => ?_
  · rcases List.mem_cons.1 (show x ∈ x62a :: loopsC x62a from hx) with rfl | hx
    · rw [EA1_a] at hf
      cases hf
    · rw [loops62a] at hx
      exact EA1_lp (by simpa using hx) f hf
  · unfold lp62a at h
    cases hl : (Nat.beq m 2 && likeS st d62) with
    | false => simp [hl] at h
    | true =>
      simp only [hl, cond_true] at h
      rw [Bool.and_eq_true] at hl
      have hm := Nat.eq_of_beq_eq_true hl.1
      have hst := likeS_ref hl.2
      split at h
      · rename_i i pc F G nF nl nW n f g oW o hd
        cases hc : (decide (i = (n : Int) - 1) && Nat.beq nl n && Nat.beq nF 64 && okN nW n g) with
        | false => simp [hc] at h
        | true =>
          simp only [hc, cond_true] at h
          simp only [okN, Bool.and_eq_true, decide_eq_true_eq, Nat.ble_eq] at hc
          obtain ⟨⟨⟨rfl, h1⟩, h2⟩, ⟨⟨h3, h4⟩, h5⟩, h6⟩ := hc
          have h1 := Nat.eq_of_beq_eq_true h1
          have h2 := Nat.eq_of_beq_eq_true h2
          subst h1 h2
          rw [hd, ref62] at hst
          subst hst hm
          refine ⟨0 + nl + 50, ?_⟩
          rw [key62a, gcS62]
          exact (head62a pc nW f oW nl g o K h3 h4 h5 h6 nl 0 F G (Nat.le_refl _)).trans h
      · cases h
noncomputable def EA2 : Env := (EZ0.marks lv62 fun _ => none).loops fun i => bif Nat.beq i 12 then some lp62b else bif Nat.beq i 18 then some lp62c else bif Nat.beq i 4 then some lp62a else none
theorem EA2_s : EA2.Sound := EZ0_s.marks.loops
theorem EA2_lp : LpF EA2 Try.f62 := LpF.of fun x hx f hf => by
  rw [loops62] at hx
  simp only [List.mem_cons, List.not_mem_nil, or_false] at hx
  rcases hx with rfl | rfl | rfl
  · have e : EA2.lp (keyC x62a) = some lp62a := by rw [key62a]; rfl
    rw [e] at hf
    injection hf with hf
    subst hf
    exact lp62a_ok
  · have e : EA2.lp (keyC x62b) = some lp62b := by rw [key62b]; rfl
    rw [e] at hf
    injection hf with hf
    subst hf
    exact lp62b_ok
  · have e : EA2.lp (keyC x62c) = some lp62c := by rw [key62c]; rfl
    rw [e] at hf
    injection hf with hf
    subst hf
    exact lp62c_ok
theorem has62 : hasFn Try.prog 62 Try.f62 := ⟨by kernel_rfl, by kernel_rfl, by kernel_rfl⟩
end Go.Proofs.Ytjpeplidbodjiaa
/- live.needs, whole. -/
namespace Go.Proofs.Ytjpeplidbodjiaa
set_option maxRecDepth 100000
/-- What is needed behind each operation. -/
def needsG (ws : List Int) (n : Nat) (g : Nat → Nat → Int) : Nat → Nat → Bool := needG ws n g n (fun _ _ => false) fun _ _ => false
theorem t62 (pc : Int) (nW : Nat) (f : Nat → Nat → Int) (oW : Nat → Nat → ByteArray) (n : Nat) (g : Nat → Nat → Int) (o : Nat → Nat → ByteArray) : evC EA2 Try.f62 200 [.agg [.v (.int .u32 pc), .ow 0, .ow 1]] ⟨[], lB nW f oW n g o, 2⟩ rowG =
    bif decide ((n : Int) = (n : Int)) && (decide (0 ≤ (n : Int)) && decide ((n : Int) ≤ 100000)) then
      bif decide (IntKind.i64.wrap ((n : Int) - 1) = (n : Int) - 1) && Nat.beq (n : Int).toNat n && Nat.beq 64 64 && okN nW n g then some (rowsL n (needsG (tabW (fun k => f k 0) nW 0) n g), hh0) else none else none := by kernel_rfl
theorem t62' (pc : Int) (nW : Nat) (f : Nat → Nat → Int) (oW : Nat → Nat → ByteArray) (n : Nat) (g : Nat → Nat → Int) (o : Nat → Nat → ByteArray) (hk : okN nW n g = true) : evC EA2 Try.f62 200 [.agg [.v (.int .u32 pc), .ow 0, .ow 1]] ⟨[], lB nW f oW n g o, 2⟩ rowG = some (rowsL n (needsG (tabW (fun k => f k 0) nW 0) n g), hh0) := by
  rw [t62, hk]
  simp only [okN, Bool.and_eq_true, Nat.ble_eq] at hk
  have h1 := hk.1.1.1
  have e4 : IntKind.i64.wrap ((n : Int) - 1) = (n : Int) - 1 := by rw [IntKind.wrap_i64]; omega
  have e5 : Nat.beq (n : Int).toNat n = true := by rw [show (n : Int).toNat = n by omega]; exact Nat.beq_refl n
  rw [decide_eq_true (rfl : (n : Int) = (n : Int)), decide_eq_true (show 0 ≤ (n : Int) by omega), decide_eq_true (show (n : Int) ≤ 100000 by omega), decide_eq_true e4, e5]
  rfl
section
variable {E : Env} {fn : Func} {fuel : Nat} {h : AH} {gg : AV → AH → Out}
theorem handC_two {x : Value} {a b : Nat} {la lb : LB} (hab : a ≠ b) (ha : look a h.l = some la) (hb : look b h.l = some lb) :
    handC E fn fuel [a, b] [.agg [.v x, .ow a, .ow b]] h gg = evC E fn fuel [.agg [.v x, .ow 0, .ow 1]] ⟨[], [(0, ⟨false, la.e, la.bb⟩), (1, ⟨false, lb.e, lb.bb⟩)], 2⟩ gg := by
  have e0 : ∀ i, Nat.blt i 0 = false := fun i => blt_false (by omega)
  have hba : Nat.beq b a = false := by
    cases e : Nat.beq b a with
    | false => rfl
    | true => exact absurd (Nat.eq_of_beq_eq_true e).symm hab
  unfold handC
  have e2 : ∀ k : List AV → Out, renF 0 (upto [AV.agg [.v x, .ow a, .ow b]].length) [a, b] 0 [.agg [.v x, .ow a, .ow b]] k = k [.agg [.v x, .ow 0, .ow 1]] := by
    intro k
    simp [renF, upto, memN, renCs, renC, ren1, posN, e0, hba]
  rw [e2]
  simp only [pickL, ha, hb, List.length_cons, List.length_nil]
end
def c62 (args : List AV) (h : AH) : Option (Bool × AV × AH) := match args with
  | [.agg [.v (.int .u32 _), .ow a, .ow b]] => (match wordsOf (.one (.ow a)) h, opsOf (.one (.ow b)) h with
    | some (nW, f), some (n, g) => some (okN nW n g, .one (.ow h.nx), ⟨h.b, (h.nx, ⟨true, 85, .bools 64 n (needsG (tabW (fun k => f k 0) nW 0) n g)⟩) :: h.l, h.nx + 1⟩)
    | _, _ => none)
  | _ => none
theorem c62_ok : CallS Try.prog 62 c62 := by
  refine CallS.rows (E := EA2) EA2_s pfl EA2_lp has62 fun args h v h' hc => ?_
  unfold c62 at hc
  split at hc
  · rename_i pc a b
    split at hc
    · rename_i nW f n g hw ho
      simp only [Option.some.injEq, Prod.mk.injEq] at hc
      obtain ⟨hk, rfl, rfl⟩ := hc
      rcases wordsOf_spec hw with ⟨id, own, oW, hw1, hl⟩ | ⟨hw1, _⟩
      · rcases opsOf_spec ho with ⟨id', own', o', ho1, hl'⟩ | ⟨ho1, _⟩
        · injection hw1 with hw1
          injection hw1 with hw1
          injection ho1 with ho1
          injection ho1 with ho1
          subst hw1 ho1
          refine ⟨200, [a, b], n, needsG (tabW (fun k => f k 0) nW 0) n g, ?_, rfl, rfl⟩
          rw [handC_two (fun e => ?_) hl hl']
          · exact t62' pc nW f oW n g o' hk
          · rw [e, hl'] at hl
            injection hl with hl
            injection hl with _ hl _
            cases hl
        · cases ho1
      · cases hw1
    · cases hc
  · cases hc
theorem c62_keeps (args : List AV) (h : AH) (g : Bool) (v : AV) (h' : AH) (e : c62 args h = some (g, v, h')) : h.b.Sublist h'.b ∧ h.l.Sublist h'.l := by
  unfold c62 at e
  split at e
  · split at e
    · simp only [Option.some.injEq, Prod.mk.injEq] at e
      rw [← e.2.2]
      exact ⟨List.Sublist.refl _, List.sublist_cons_self _ _⟩
    · cases e
  · cases e
noncomputable def ED0 : Env := EZ0.add 62 c62 noQ false true
theorem ED0_s : ED0.Sound := EZ0_s.add c62_ok (noQ_CallQ has62) fun _ => c62_keeps
end Go.Proofs.Ytjpeplidbodjiaa
