/- LiveAgain: its loops. -/
import Derived.Test.YtjpeplidbodjiaaHF
namespace Go.Proofs.Ytjpeplidbodjiaa
set_option maxRecDepth 100000
def F18 (args : List AV) (l : List (Nat × LB)) : Option (Bool × AV) := match args, l with
  | [], [] => some (true, boolV true)
  | _, _ => none
theorem q18_ok : CallQ Try.prog 18 (handQ F18) := by
  refine CallQ.hand (E := VF3) VF3_s pfl (LpF.none fun _ => rfl) has18 fun args l v h => ?_
  unfold F18 at h
  split at h
  · simp only [Option.some.injEq, Prod.mk.injEq, true_and] at h
    subst h
    exact ⟨rfl, 200, hh0, t18⟩
  · cases h
noncomputable def VG0 (v : Nat → Bool) : Env := EV7.gives 19 (F19 v)
theorem VG0_s (v : Nat → Bool) : (VG0 v).Sound := EV7_s.gives has19 (c19_ok v)
noncomputable def VG1 (v : Nat → Bool) : Env := (VG0 v).sum 18 (handQ F18)
theorem VG1_s (v : Nat → Bool) : (VG1 v).Sound := (VG0_s v).sumC q18_ok
noncomputable def VG2 (v : Nat → Bool) : Env := (VG1 v).sum 22 (handQ F22)
theorem VG2_s (v : Nat → Bool) : (VG2 v).Sound := (VG1_s v).sumC q22_ok
noncomputable def VG3 (v : Nat → Bool) : Env := (VG2 v).sum 23 (handQ F23)
theorem VG3_s (v : Nat → Bool) : (VG3 v).Sound := (VG2_s v).sumC q23_ok
noncomputable def x3a : Code := nthL (loopsC (bodyC Try.f3)) 0
noncomputable def x3b : Code := nthL (loopsC (bodyC Try.f3)) 1
theorem key3a : keyC x3a = 6 := by kernel_rfl
theorem key3b : keyC x3b = 11 := by kernel_rfl
theorem loops3 : loopsC (bodyC Try.f3) = [x3a, x3b] := by kernel_rfl
def lv3 : Nat → Option (List Nat) := fun i => bif Nat.beq i 6 then some [1, 3, 4, 5, 6, 31004] else bif Nat.beq i 11 then some [3, 4, 5, 7, 31005] else none
noncomputable def VG4 (v : Nat → Bool) : Env := (VG3 v).marks lv3 fun _ => none
theorem VG4_s (v : Nat → Bool) : (VG4 v).Sound := (VG3_s v).marks
def kp3a : Exit → Option (List Nat)
  | .exit _ => some [3, 4, 5]
  | _ => none
def nilV : AV := .one (.v (.slice none 0 0))
def l3 (nA : Nat) (fA : Nat → Nat → Int) (oA : Nat → Nat → ByteArray) (D : RowL) (l : List (Nat × LB)) (x : RowL) : List (Nat × LB) := (4, ⟨true, 31, x.bb opSh⟩) :: (6, ⟨true, 31, D.bb opSh⟩) :: (5, ⟨true, 22, .row [.i .u32] nA fA oA⟩) :: l
def S3a (pc pd i : Int) (x : RowL) (nA : Nat) (fA : Nat → Nat → Int) (oA : Nat → Nat → ByteArray) (D : RowL) (l : List (Nat × LB)) : AS :=
  ⟨.one .any :: .one (.pt 2 0) :: .one .any :: .one (.pt 3 0) :: .one (.ow 4) :: nilV :: .one (.v (.int .i64 i)) :: anys 73,
    ⟨[(3, 26, .cells [.v (.int .u32 pd), .ow 5, .ow 6]), (2, 26, .cells [.v (.int .u32 pc), .ow 0, .ow 1])], l3 nA fA oA D l x, 7⟩⟩
def X3a (pd : Int) (x : RowL) (nA : Nat) (fA : Nat → Nat → Int) (oA : Nat → Nat → ByteArray) (D : RowL) (l : List (Nat × LB)) : AS :=
  ⟨.one .any :: .one .any :: .one .any :: .one (.pt 2 0) :: .one (.ow 3) :: nilV :: anys 74,
    ⟨[(2, 26, .cells [.v (.int .u32 pd), .ow 4, .ow 5])], (3, ⟨true, 31, x.bb opSh⟩) :: (5, ⟨true, 31, D.bb opSh⟩) :: (4, ⟨true, 22, .row [.i .u32] nA fA oA⟩) :: l, 6⟩⟩
def S3b (pd i : Int) (y x : RowL) (nA : Nat) (fA : Nat → Nat → Int) (oA : Nat → Nat → ByteArray) (D : RowL) (l : List (Nat × LB)) : AS :=
  ⟨.one .any :: .one .any :: .one .any :: .one (.pt 2 0) :: .one (.ow 3) :: .one (.ow 4) :: .one .any :: .one (.v (.int .i64 i)) :: anys 72,
    ⟨[(2, 26, .cells [.v (.int .u32 pd), .ow 5, .ow 6])], (4, ⟨true, 31, y.bb opSh⟩) :: (3, ⟨true, 31, x.bb opSh⟩) :: (6, ⟨true, 31, D.bb opSh⟩) :: (5, ⟨true, 22, .row [.i .u32] nA fA oA⟩) :: l, 7⟩⟩
def X3b (pd : Int) (y x : RowL) (nA : Nat) (fA : Nat → Nat → Int) (oA : Nat → Nat → ByteArray) (D : RowL) (l : List (Nat × LB)) : AS :=
  ⟨.one .any :: .one .any :: .one .any :: .one (.pt 2 0) :: .one (.ow 3) :: .one (.ow 4) :: anys 74,
    ⟨[(2, 26, .cells [.v (.int .u32 pd), .ow 5, .ow 6])], (4, ⟨true, 31, y.bb opSh⟩) :: (3, ⟨true, 31, x.bb opSh⟩) :: (6, ⟨true, 31, D.bb opSh⟩) :: (5, ⟨true, 22, .row [.i .u32] nA fA oA⟩) :: l, 7⟩⟩
section
variable (v : Nat → Bool) (pc pd : Int) (x y : RowL) (nA : Nat) (fA : Nat → Nat → Int) (oA : Nat → Nat → ByteArray) (D : RowL) (nW : Nat) (f : Nat → Nat → Int) (oW : Nat → Nat → ByteArray) (n : Nat) (g : Nat → Nat → Int) (o : Nat → Nat → ByteArray) (K : Exit → AS → Out)
theorem gcS3a (i : Int) (H : AS → Out) : gc 2 ((VG4 v).lv 6) (S3a pc pd i x nA fA oA D (lB nW f oW n g o)) H = H (S3a pc pd i x nA fA oA D (lB nW f oW n g o)) := by kernel_rfl
theorem gcS3b (i : Int) (H : AS → Out) : gc 2 ((VG4 v).lv 11) (S3b pd i y x nA fA oA D (lB nW f oW n g o)) H = H (S3b pd i y x nA fA oA D (lB nW f oW n g o)) := by kernel_rfl
/-- One operation is taken over, where it is not Pure. -/
def take3 (n : Nat) (g : Nat → Nat → Int) (i : Int) (nK : Nat) (A B : Out) : Out := ixZ 6 n i (bif !pureK (g i.toNat 0) then ixZ 6 n i (bif Nat.ble (nK + 1) 1048576 then A else none) else B)
theorem rnd3a (i : Int) (H : AS → Out) (N : Nat) : ev (VG4 v) 2 (N + 30) x3a (S3a pc pd i x nA fA oA D (lB nW f oW n g o)) (rkG 2 ((VG4 v).lv 6) kp3a H K) =
    bif decide (i < (n : Int)) then take3 n g i x.n (H (S3a pc pd (IntKind.i64.wrap (i + 1)) (x.push (opRow g i.toNat)) nA fA oA D (lB nW f oW n g o))) (H (S3a pc pd (IntKind.i64.wrap (i + 1)) x nA fA oA D (lB nW f oW n g o)))
    else K (.exit 0) (X3a pd x nA fA oA D (lB nW f oW n g o)) := by kernel_rfl
theorem rnd3b (i : Int) (H : AS → Out) (N : Nat) : ev (VG4 v) 2 (N + 30) x3b (S3b pd i y x nA fA oA D (lB nW f oW n g o)) (rkG 2 ((VG4 v).lv 11) kp3a H K) =
    bif decide (i < (D.n : Int)) then take3 D.n D.f i y.n (H (S3b pd (IntKind.i64.wrap (i + 1)) (y.push (opRow D.f i.toNat)) x nA fA oA D (lB nW f oW n g o))) (H (S3b pd (IntKind.i64.wrap (i + 1)) y x nA fA oA D (lB nW f oW n g o)))
    else K (.exit 2) (X3b pd y x nA fA oA D (lB nW f oW n g o)) := by kernel_rfl
/-- What is not Pure. -/
def nonp (g : Nat → Nat → Int) (i : Nat) : Bool := !pureK (g i 0)
theorem head3a (hn : n ≤ 1000) : ∀ (c i N : Nat) (x : RowL), i + c = n → x.n ≤ i →
    HeadK (VG4 v) 2 kp3a x3a (N + c + 30) K (S3a pc pd (i : Int) x nA fA oA D (lB nW f oW n g o)) = K (.exit 0) (X3a pd (filtR (nonp g) (opRow g) c i x) nA fA oA D (lB nW f oW n g o))
  | 0, i, N, x, h, _ => by
    rw [show N + 0 + 30 = (N + 29) + 1 by omega, HeadK_succ (by rw [key3a]; rfl), key3a]
    refine (rnd3a v pc pd x nA fA oA D nW f oW n g o K i _ N).trans ?_
    rw [decide_eq_false (show ¬ (i : Int) < (n : Int) by omega)]
    simp only [cond_false, filtR]
  | c + 1, i, N, x, h, hr => by
    rw [show N + (c + 1) + 30 = (N + c + 30) + 1 by omega, HeadK_succ (by rw [key3a]; rfl), key3a]
    refine (rnd3a v pc pd x nA fA oA D nW f oW n g o K i _ (N + c + 1)).trans ?_
    have e4 : IntKind.i64.wrap ((i : Int) + 1) = ((i + 1 : Nat) : Int) := by rw [IntKind.wrap_i64]; omega
    have e6 : (i : Int).toNat = i := by omega
    have e7 : Nat.ble (x.n + 1) 1048576 = true := by rw [Nat.ble_eq]; omega
    unfold take3
    rw [ixZ_in (by omega) (by omega) (by decide), ixZ_in (by omega) (by omega) (by decide), e4, e6, e7, decide_eq_true (show (i : Int) < (n : Int) by omega), filtR]
    have i1 := head3a hn c (i + 1) N (x.push (opRow g i)) (by omega) (by simp only [RowL.push]; omega)
    have i2 := head3a hn c (i + 1) N x (by omega) (by omega)
    generalize HeadK (VG4 v) 2 kp3a x3a (N + c + 30) K (S3a pc pd ((i + 1 : Nat) : Int) (x.push (opRow g i)) nA fA oA D (lB nW f oW n g o)) = H1 at i1 ⊢
    generalize HeadK (VG4 v) 2 kp3a x3a (N + c + 30) K (S3a pc pd ((i + 1 : Nat) : Int) x nA fA oA D (lB nW f oW n g o)) = H2 at i2 ⊢
    rw [i1, i2]
    have e8 : nonp g i = !pureK (g i 0) := rfl
    rw [e8]
    cases pureK (g i 0) <;> simp only [Bool.not_true, Bool.not_false, cond_true, cond_false]
theorem head3b (hn : D.n ≤ 1000) : ∀ (c i N : Nat) (y : RowL), i + c = D.n → y.n ≤ i →
    HeadK (VG4 v) 2 kp3a x3b (N + c + 30) K (S3b pd (i : Int) y x nA fA oA D (lB nW f oW n g o)) = K (.exit 2) (X3b pd (filtR (nonp D.f) (opRow D.f) c i y) x nA fA oA D (lB nW f oW n g o))
  | 0, i, N, y, h, _ => by
    rw [show N + 0 + 30 = (N + 29) + 1 by omega, HeadK_succ (by rw [key3b]; rfl), key3b]
    refine (rnd3b v pd x y nA fA oA D nW f oW n g o K i _ N).trans ?_
    rw [decide_eq_false (show ¬ (i : Int) < (D.n : Int) by omega)]
    simp only [cond_false, filtR]
  | c + 1, i, N, y, h, hr => by
    rw [show N + (c + 1) + 30 = (N + c + 30) + 1 by omega, HeadK_succ (by rw [key3b]; rfl), key3b]
    refine (rnd3b v pd x y nA fA oA D nW f oW n g o K i _ (N + c + 1)).trans ?_
    have e4 : IntKind.i64.wrap ((i : Int) + 1) = ((i + 1 : Nat) : Int) := by rw [IntKind.wrap_i64]; omega
    have e6 : (i : Int).toNat = i := by omega
    have e7 : Nat.ble (y.n + 1) 1048576 = true := by rw [Nat.ble_eq]; omega
    unfold take3
    rw [ixZ_in (by omega) (by omega) (by decide), ixZ_in (by omega) (by omega) (by decide), e4, e6, e7, decide_eq_true (show (i : Int) < (D.n : Int) by omega), filtR]
    have i1 := head3b hn c (i + 1) N (y.push (opRow D.f i)) (by omega) (by simp only [RowL.push]; omega)
    have i2 := head3b hn c (i + 1) N y (by omega) (by omega)
    generalize HeadK (VG4 v) 2 kp3a x3b (N + c + 30) K (S3b pd ((i + 1 : Nat) : Int) (y.push (opRow D.f i)) x nA fA oA D (lB nW f oW n g o)) = H1 at i1 ⊢
    generalize HeadK (VG4 v) 2 kp3a x3b (N + c + 30) K (S3b pd ((i + 1 : Nat) : Int) y x nA fA oA D (lB nW f oW n g o)) = H2 at i2 ⊢
    rw [i1, i2]
    have e8 : nonp D.f i = !pureK (D.f i 0) := rfl
    rw [e8]
    cases pureK (D.f i 0) <;> simp only [Bool.not_true, Bool.not_false, cond_true, cond_false]
end
def d3a : AS := S3a 0 0 0 nilR 0 (fun _ _ => 0) (fun _ _ => ByteArray.empty) nilR lB0
def d3b : AS := S3b 0 0 nilR nilR 0 (fun _ _ => 0) (fun _ _ => ByteArray.empty) nilR lB0
def leaf3a (dt : Dt) (K : Exit → AS → Out) : Out := match dt with
  | ⟨[i, pd, pc], [], [], [nx, nD, nA, nW, n], [fx, fD, fA, f, g], [ox, oD, oA, oW, o], []⟩ => bif decide (i = 0) && Nat.beq nx 0 && Nat.ble n 1000 then
      K (.exit 0) (X3a pd (filtR (nonp g) (opRow g) n 0 ⟨nx, fx, ox⟩) nA fA oA ⟨nD, fD, oD⟩ (lB nW f oW n g o)) else none
  | _ => none
def leaf3b (dt : Dt) (K : Exit → AS → Out) : Out := match dt with
  | ⟨[i, pd], [], [], [ny, nx, nD, nA, nW, n], [fy, fx, fD, fA, f, g], [oy, ox, oD, oA, oW, o], []⟩ => bif decide (i = 0) && Nat.beq ny 0 && Nat.ble nD 1000 then
      K (.exit 2) (X3b pd (filtR (nonp fD) (opRow fD) nD 0 ⟨ny, fy, oy⟩) ⟨nx, fx, ox⟩ nA fA oA ⟨nD, fD, oD⟩ (lB nW f oW n g o)) else none
  | _ => none
theorem ref3a (i pd pc : Int) (nx nD nA nW n : Nat) (fx fD fA f g : Nat → Nat → Int) (ox oD oA oW o : Nat → Nat → ByteArray) :
    refS d3a ⟨[i, pd, pc], [], [], [nx, nD, nA, nW, n], [fx, fD, fA, f, g], [ox, oD, oA, oW, o], []⟩ = S3a pc pd i ⟨nx, fx, ox⟩ nA fA oA ⟨nD, fD, oD⟩ (lB nW f oW n g o) := by kernel_rfl
theorem ref3b (i pd : Int) (ny nx nD nA nW n : Nat) (fy fx fD fA f g : Nat → Nat → Int) (oy ox oD oA oW o : Nat → Nat → ByteArray) :
    refS d3b ⟨[i, pd], [], [], [ny, nx, nD, nA, nW, n], [fy, fx, fD, fA, f, g], [oy, ox, oD, oA, oW, o], []⟩ = S3b pd i ⟨ny, fy, oy⟩ ⟨nx, fx, ox⟩ nA fA oA ⟨nD, fD, oD⟩ (lB nW f oW n g o) := by kernel_rfl
theorem lp3a_ok : LoopS Try.prog x3a (lpG 2 d3a leaf3a) := by
  refine LoopS.pat (E := VG4 fun _ => true) (VG4_s _) pfl (LpC.none fun _ => rfl) (by rw [key3a]; rfl) kp3a fun dt K out h => ?_
  unfold leaf3a at h
  split at h
  · rename_i i pd pc nx nD nA nW n fx fD fA f g ox oD oA oW o
    cases hc : (decide (i = 0) && Nat.beq nx 0 && Nat.ble n 1000) with
    | false => simp [hc] at h
    | true =>
      simp only [hc, cond_true] at h
      simp only [Bool.and_eq_true, decide_eq_true_eq, Nat.ble_eq] at hc
      obtain ⟨⟨rfl, h1⟩, h2⟩ := hc
      have h1 := Nat.eq_of_beq_eq_true h1
      subst h1
      refine ⟨0 + n + 30, ?_⟩
      rw [ref3a, key3a, gcS3a]
      exact (head3a (fun _ => true) pc pd nA fA oA ⟨nD, fD, oD⟩ nW f oW n g o K h2 n 0 0 ⟨0, fx, ox⟩ (by omega) (Nat.le_refl _)).trans h
  · cases h
theorem lp3b_ok : LoopS Try.prog x3b (lpG 2 d3b leaf3b) := by
  refine LoopS.pat (E := VG4 fun _ => true) (VG4_s _) pfl (LpC.none fun _ => rfl) (by rw [key3b]; rfl) kp3a fun dt K out h => ?_
  unfold leaf3b at h
  split at h
  · rename_i i pd ny nx nD nA nW n fy fx fD fA f g oy ox oD oA oW o
    cases hc : (decide (i = 0) && Nat.beq ny 0 && Nat.ble nD 1000) with
    | false => simp [hc] at h
    | true =>
      simp only [hc, cond_true] at h
      simp only [Bool.and_eq_true, decide_eq_true_eq, Nat.ble_eq] at hc
      obtain ⟨⟨rfl, h1⟩, h2⟩ := hc
      have h1 := Nat.eq_of_beq_eq_true h1
      subst h1
      refine ⟨0 + nD + 30, ?_⟩
      rw [ref3b, key3b, gcS3b]
      exact (head3b (fun _ => true) pd ⟨nx, fx, ox⟩ nA fA oA ⟨nD, fD, oD⟩ nW f oW n g o K h2 nD 0 0 ⟨0, fy, oy⟩ (by simp) (Nat.le_refl _)).trans h
  · cases h
noncomputable def VG5 (v : Nat → Bool) : Env := ((VG3 v).marks lv3 fun _ => none).loops fun i => bif Nat.beq i 6 then some (lpG 2 d3a leaf3a) else bif Nat.beq i 11 then some (lpG 2 d3b leaf3b) else none
theorem VG5_s (v : Nat → Bool) : (VG5 v).Sound := (VG3_s v).marks.loops
theorem VG5_lp (v : Nat → Bool) : LpF (VG5 v) Try.f3 := LpF.of fun x hx f hf => by
  rw [loops3] at hx
  simp only [List.mem_cons, List.not_mem_nil, or_false] at hx
  rcases hx with rfl | rfl
  · have e : (VG5 v).lp (keyC x3a) = some (lpG 2 d3a leaf3a) := by rw [key3a]; rfl
    rw [e] at hf
    injection hf with hf
    subst hf
    exact lp3a_ok
  · have e : (VG5 v).lp (keyC x3b) = some (lpG 2 d3b leaf3b) := by rw [key3b]; rfl
    rw [e] at hf
    injection hf with hf
    subst hf
    exact lp3b_ok
theorem has3 : hasFn Try.prog 3 Try.f3 := ⟨by kernel_rfl, by kernel_rfl, by kernel_rfl⟩
end Go.Proofs.Ytjpeplidbodjiaa
