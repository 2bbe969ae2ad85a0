/- ir.Check. -/
import Derived.Test.YtjpeplidbodjiaaFS
namespace Go.Proofs.Ytjpeplidbodjiaa
set_option maxRecDepth 100000
noncomputable def ET39 : Env := ES0.marks (fun i => bif Nat.beq i 7 then some [1, 3, 4, 5, 44, 45, 46] else none) fun _ => none
theorem ET39_s : ET39.Sound := ES0_s.marks
noncomputable def x39 : Code := loopF Try.f39
theorem key39 : keyC x39 = 7 := by kernel_rfl
theorem loops39 : loopsC (bodyC Try.f39) = [x39] := by kernel_rfl
theorem has39 : hasFn Try.prog 39 Try.f39 := ⟨by kernel_rfl, by kernel_rfl, by kernel_rfl⟩
def kp39 : Exit → Option (List Nat)
  | .ret => some [2]
  | .exit _ => some []
  | _ => none
def opSh : List CK := [.i .i64, .i .i64, .i .i64, .i .i64, .i .u32, .i .i64]
/-- A block's words and operations, as they are handed in. -/
def lB (nW : Nat) (f : Nat → Nat → Int) (oW : Nat → Nat → ByteArray) (n : Nat) (g : Nat → Nat → Int) (o : Nat → Nat → ByteArray) : List (Nat × LB) := [(0, ⟨false, 22, .row [.i .u32] nW f oW⟩), (1, ⟨false, 31, .row opSh n g o⟩)]
def S39 (pc W at' nn i : Int) (nF : Nat) (F : Nat → Nat → Bool) (l : List (Nat × LB)) : AS :=
  ⟨.one .any :: .one (.pt 2 0) :: .one .any :: .one (.v (.int .i64 W)) :: .one (.pt 3 0) :: .one (.v (.int .i64 at')) :: (anys 38 ++ (.one (.ow 1) :: .one (.v (.int .i64 nn)) :: .one (.v (.int .i64 i)) :: anys 29)),
    ⟨[(3, 42, .bools 1 nF F), (2, 26, .cells [.v (.int .u32 pc), .ow 0, .ow 1])], l, 4⟩⟩
def X39 (l : List (Nat × LB)) : AS := ⟨anys 76, ⟨[], l, 2⟩⟩
def R39 (l : List (Nat × LB)) : AS := ⟨.one .any :: .one .any :: .one (.v (.bool false)) :: anys 73, ⟨[], l, 2⟩⟩
section
variable (pc W : Int) (nW : Nat) (f : Nat → Nat → Int) (oW : Nat → Nat → ByteArray) (n : Nat) (g : Nat → Nat → Int) (o : Nat → Nat → ByteArray)
theorem gcS39 (at' nn i : Int) (nF : Nat) (F : Nat → Nat → Bool) (G : AS → Out) : gc 2 (ET39.lv 7) (S39 pc W at' nn i nF F (lB nW f oW n g o)) G = G (S39 pc W at' nn i nF F (lB nW f oW n g o)) := by kernel_rfl
theorem rnd39 (at' i : Int) (F : Nat → Nat → Bool) (G : AS → Out) (K : Exit → AS → Out) (N : Nat) : ev ET39 2 (N + 40) x39 (S39 pc W at' n i 64 F (lB nW f oW n g o)) (rkG 2 (ET39.lv 7) kp39 G K) =
    bif decide (i < (n : Int)) then bif decide (0 ≤ i) && decide (i < (n : Int)) then bif decide (i.toNat < n) && decide (0 < 6) then
      (bif (bif (bif !rightK W F (g i.toNat 0) (g i.toNat 1) (g i.toNat 2) (g i.toNat 3) (g i.toNat 4) (g i.toNat 5) then true else decide (g i.toNat 5 < at')) then true else (!(decide (g i.toNat 0 ≥ 60) == (i == IntKind.i64.wrap ((n : Int) - 1))))) then K .ret (R39 (lB nW f oW n g o))
      else G (S39 pc W (g i.toNat 5) n (IntKind.i64.wrap (i + 1)) 64 (fun j _ => afterK W F (g i.toNat 0) (g i.toNat 1) (g i.toNat 2) (g i.toNat 3) (g i.toNat 4) (g i.toNat 5) j) (lB nW f oW n g o))) else none else none
    else K (.exit 0) (X39 (lB nW f oW n g o)) := by kernel_rfl
/-- May operation number i stand there? -/
def stepK (W : Int) (n i : Nat) (q : Nat → Int) (at' : Int) (F : Nat → Nat → Bool) : Bool :=
  rightK W F (q 0) (q 1) (q 2) (q 3) (q 4) (q 5) && (!decide (q 5 < at') && (decide (q 0 ≥ 60) == ((i : Int) == (n : Int) - 1)))
def nextF (W : Int) (q : Nat → Int) (F : Nat → Nat → Bool) : Nat → Nat → Bool := fun j _ => afterK W F (q 0) (q 1) (q 2) (q 3) (q 4) (q 5) j
def checkR (W : Int) (n : Nat) (g : Nat → Nat → Int) : Nat → Nat → Int → (Nat → Nat → Bool) → Bool
  | 0, _, _, _ => true
  | r + 1, i, at', F => stepK W n i (g i) at' F && checkR W n g r (i + 1) (g i 5) (nextF W (g i) F)
theorem head39 (K : Exit → AS → Out) (hn : n ≤ 1000) : ∀ (r i N : Nat) (at' : Int) (F : Nat → Nat → Bool), i + r = n → HeadK ET39 2 kp39 x39 (N + r + 40) K (S39 pc W at' n i 64 F (lB nW f oW n g o)) = bif checkR W n g r i at' F then K (.exit 0) (X39 (lB nW f oW n g o)) else K .ret (R39 (lB nW f oW n g o))
  | 0, i, N, at', F, h => by
    rw [show N + 0 + 40 = (N + 39) + 1 by omega, HeadK_succ (by rw [key39]; rfl), key39]
    refine (rnd39 pc W nW f oW n g o at' i F _ K N).trans ?_
    rw [decide_eq_false (show ¬ (i : Int) < (n : Int) by omega)]
    rfl
  | r + 1, i, N, at', F, h => by
    rw [show N + (r + 1) + 40 = (N + r + 40) + 1 by omega, HeadK_succ (by rw [key39]; rfl), key39]
    refine (rnd39 pc W nW f oW n g o at' i F _ K (N + r + 1)).trans ?_
    have e4 : IntKind.i64.wrap ((i : Int) + 1) = ((i + 1 : Nat) : Int) := by rw [IntKind.wrap_i64]; omega
    have e5 : IntKind.i64.wrap ((n : Int) - 1) = (n : Int) - 1 := by rw [IntKind.wrap_i64]; omega
    have e6 : (i : Int).toNat = i := by omega
    rw [decide_eq_true (show (i : Int) < (n : Int) by omega), decide_eq_true (show 0 ≤ (i : Int) by omega), e4, e5, e6, decide_eq_true (show i < n by omega)]
    have ih := head39 K hn r (i + 1) N (g i 5) (nextF W (g i) F) (by omega)
    simp only [checkR, stepK]
    cases rightK W F (g i 0) (g i 1) (g i 2) (g i 3) (g i 4) (g i 5)
    case false => rfl
    cases decide (g i 5 < at')
    case true => rfl
    cases (decide (g i 0 ≥ 60) == ((i : Int) == (n : Int) - 1))
    case false => rfl
    exact ih
end
def d39 : AS := S39 0 0 0 0 0 0 (fun _ _ => false) (lB 0 (fun _ _ => 0) (fun _ _ => ByteArray.empty) 0 (fun _ _ => 0) fun _ _ => ByteArray.empty)
def falseB (F : Nat → Nat → Bool) : Prop := ∀ i j, F i j = false
def lp39 (m : Nat) (st : AS) (K : Exit → AS → Out) : Out := bif Nat.beq m 2 && likeS st d39 then (match datS st with
  | ⟨[W, at', nn, i, _], [], [F], [nF, nW, n], [f, g], [oW, o], []⟩ => bif decide (i = 0) && decide (nn = (n : Int)) && Nat.ble n 1000 && Nat.beq nF 64 then
      (bif checkR W n g n 0 at' F then K (.exit 0) (X39 (lB nW f oW n g o)) else K .ret (R39 (lB nW f oW n g o))) else none
  | _ => none) else none
theorem ref39 (W at' nn i pc : Int) (F : Nat → Nat → Bool) (nF nW n : Nat) (f g : Nat → Nat → Int) (oW o : Nat → Nat → ByteArray) : refS d39 ⟨[W, at', nn, i, pc], [], [F], [nF, nW, n], [f, g], [oW, o], []⟩ = S39 pc W at' nn i nF F (lB nW f oW n g o) := by kernel_rfl
theorem lp39_ok : LoopS Try.prog x39 lp39 := by
  refine LoopS.head (E := ET39) (kp := kp39) ET39_s pfl (LpC.none fun _ => rfl) (by rw [key39]; rfl) fun m st K out h => ?_
  unfold lp39 at h
  cases hl : (Nat.beq m 2 && likeS st d39) with
  | false => simp [hl] at h
  | true =>
    simp only [hl, cond_true] at h
    rw [Bool.and_eq_true] at hl
    have hm := Nat.eq_of_beq_eq_true hl.1
    have hst := likeS_ref hl.2
    split at h
    · rename_i W at' nn i pc F nF nW n f g oW o hd
      cases hc : (decide (i = 0) && decide (nn = (n : Int)) && Nat.ble n 1000 && Nat.beq nF 64) with
      | false => simp [hc] at h
      | true =>
        simp only [hc, cond_true] at h
        simp only [Bool.and_eq_true, decide_eq_true_eq, Nat.ble_eq] at hc
        obtain ⟨⟨⟨rfl, rfl⟩, hn⟩, hF⟩ := hc
        have hF := Nat.eq_of_beq_eq_true hF
        subst hF
        rw [hd, ref39] at hst
        subst hst hm
        refine ⟨n + 40, ?_⟩
        rw [key39, gcS39]
        have := head39 pc W nW f oW n g o K hn n 0 0 at' F (by omega)
        rw [Nat.zero_add] at this
        exact this.trans h
    · cases h
noncomputable def ET0 : Env := (ES0.marks (fun i => bif Nat.beq i 7 then some [1, 3, 4, 5, 44, 45, 46] else none) fun _ => none).loops fun i => bif Nat.beq i 7 then some lp39 else none
theorem ET0_s : ET0.Sound := ES0_s.marks.loops
theorem ET0_lp : LpF ET0 Try.f39 := LpF.of fun x hx f hf => by
  rw [loops39] at hx
  have hx : x = x39 := by simpa using hx
  subst hx
  have e : ET0.lp (keyC x39) = some lp39 := by rw [key39]; rfl
  rw [e] at hf
  injection hf with hf
  subst hf
  exact lp39_ok
end Go.Proofs.Ytjpeplidbodjiaa
