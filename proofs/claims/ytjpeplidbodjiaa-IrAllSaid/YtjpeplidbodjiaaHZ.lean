/- Blocks are copied, compared and cleared. -/
import Derived.Test.YtjpeplidbodjiaaHY
import Derived.Test.YtjpeplidbodjiaaFV
/- Sameness of blocks; live.Dead's summary; the document's example of layer 20. -/
namespace Go.Proofs.Ytjpeplidbodjiaa
set_option maxRecDepth 100000
noncomputable def VF1 : Env := E0'.sum 60 (handQ F60)
theorem VF1_s : VF1.Sound := E0'_s.sumC q60_ok
noncomputable def VF2 : Env := VF1.sum 23 (handQ F23)
theorem VF2_s : VF2.Sound := VF1_s.sumC q23_ok
def l22 (nW : Nat) (f : Nat → Nat → Int) (oW : Nat → Nat → ByteArray) (n : Nat) (g : Nat → Nat → Int) (o : Nat → Nat → ByteArray) (nW' : Nat) (f' : Nat → Nat → Int) (oW' : Nat → Nat → ByteArray) (n' : Nat) (g' : Nat → Nat → Int) (o' : Nat → Nat → ByteArray) : List (Nat × LB) := [(0, ⟨false, 22, .row [.i .u32] nW f oW⟩), (1, ⟨false, 31, .row opSh n g o⟩), (2, ⟨false, 22, .row [.i .u32] nW' f' oW'⟩), (3, ⟨false, 31, .row opSh n' g' o'⟩)]
theorem t22 (pc pc' : Int) (nW : Nat) (f : Nat → Nat → Int) (oW : Nat → Nat → ByteArray) (n : Nat) (g : Nat → Nat → Int) (o : Nat → Nat → ByteArray) (nW' : Nat) (f' : Nat → Nat → Int) (oW' : Nat → Nat → ByteArray) (n' : Nat) (g' : Nat → Nat → Int) (o' : Nat → Nat → ByteArray) :
    evV VF2 Try.f22 100 [.agg [.v (.int .u32 pc), .ow 0, .ow 1], .agg [.v (.int .u32 pc'), .ow 2, .ow 3]] ⟨[], l22 nW f oW n g o nW' f' oW' n' g' o', 4⟩ =
    bif pc == pc' then bif Nat.ble nW 100000 then bif (bif true then same60 (tabI f nW 0) (tabI f' nW' 0) else false) then bif Nat.ble n 100000 then some (boolV (bif true then same23 (tabO g n 0) (tabO g' n' 0) else false), hh0) else none
      else some (boolV false, hh0) else none else some (boolV false, hh0) := by kernel_rfl
/-- The same blocks? -/
def sameB (pc : Int) (ws : List Int) (os : List OpT) (pc' : Int) (ws' : List Int) (os' : List OpT) : Bool := pc == pc' && (same60 ws ws' && same23 os os')
def F22 (args : List AV) (l : List (Nat × LB)) : Option (Bool × AV) := match args, l with
  | [.agg [.v (.int .u32 pc), .ow 0, .ow 1], .agg [.v (.int .u32 pc'), .ow 2, .ow 3]], [(0, la), (1, lb), (2, lc), (3, ld)] => (match asW la, asO lb, asW lc, asO ld with
    | some (nW, f), some (n, g), some (nW', f'), some (n', g') => some (Nat.ble n 100000 && Nat.ble nW 100000, boolV (sameB pc (tabI f nW 0) (tabO g n 0) pc' (tabI f' nW' 0) (tabO g' n' 0)))
    | _, _, _, _ => none)
  | _, _ => none
theorem has22 : hasFn Try.prog 22 Try.f22 := ⟨by kernel_rfl, by kernel_rfl, by kernel_rfl⟩
theorem q22_ok : CallQ Try.prog 22 (handQ F22) := by
  refine CallQ.hand (E := VF2) VF2_s pfl (LpF.none fun _ => rfl) has22 fun args l v h => ?_
  unfold F22 at h
  split at h
  · rename_i pc pc' la lb lc ld
    split at h
    · rename_i nW f n g nW' f' n' g' ha hb hc hd
      obtain ⟨oW, rfl⟩ := asW_spec ha
      obtain ⟨o, rfl⟩ := asO_spec hb
      obtain ⟨oW', rfl⟩ := asW_spec hc
      obtain ⟨o', rfl⟩ := asO_spec hd
      simp only [Option.some.injEq, Prod.mk.injEq, Bool.and_eq_true] at h
      obtain ⟨⟨h1, h2⟩, rfl⟩ := h
      refine ⟨rfl, 100, hh0, (t22 pc pc' nW f oW n g o nW' f' oW' n' g' o').trans ?_⟩
      rw [h1, h2]
      unfold sameB
      cases (pc == pc') <;> cases same60 (tabI f nW 0) (tabI f' nW' 0) <;> cases same23 (tabO g n 0) (tabO g' n' 0) <;> rfl
    · cases h
  · cases h
/-- Does a round of live.Dead leave all? -/
def stays (ws : List Int) (n : Nat) (g : Nat → Nat → Int) : Bool := Nat.beq (stepR ws n g).n n
/-- What live.Dead leaves, where it takes something out. -/
def leftR (ws : List Int) (n : Nat) (g : Nat → Nat → Int) : RowL := deadR ws (n + 1) (stepR ws n g)
/-- live.Dead: one way or the other, by how much there is ahead of it. -/
def F19 (v : Nat → Bool) (nx : Nat) (args : List AV) (l : List (Nat × LB)) : Option Give := match args, l with
  | [.agg [.v (.int .u32 pc), .ow 0, .ow 1]], [(0, la), (1, lb)] => (match asW la, asO lb with
    | some (nW, f), some (n, g) => bif v nx then some ⟨checkL pc (tabI f nW 0) (tabO g n 0) && !stays (tabI f nW 0) n g, false, [.agg [.v (.int .u32 pc), .ow 0, .ow 2]], [(2, ⟨true, 31, (leftR (tabI f nW 0) n g).bb opSh⟩)], 3⟩
      else some ⟨!(checkL pc (tabI f nW 0) (tabO g n 0) && !stays (tabI f nW 0) n g), false, [.agg [.v (.int .u32 pc), .ow 0, .ow 1]], [], 2⟩
    | _, _ => none)
  | _, _ => none
theorem c19_ok (v : Nat → Bool) : CallS Try.prog 19 (handC' (F19 v)) := by
  refine CallS.hand (E := EHD2) EHD2_s pfl EHD2_lp has19 fun nx args l r h hok => ?_
  unfold F19 at h
  split at h
  · rename_i pc la lb
    split at h
    · rename_i nW f n g ha hb
      obtain ⟨oW, rfl⟩ := asW_spec ha
      obtain ⟨o, rfl⟩ := asO_spec hb
      refine ⟨200, (t19 pc nW f oW n g o).trans ?_⟩
      have hd : checkL pc (tabI f nW 0) (tabO g n 0) = true → okD nW (tabO g n 0) = true := fun hc => by
        have := check_okD hc
        rw [tabI_len] at this
        exact this
      cases hv : v nx with
      | true =>
        simp only [hv, cond_true, Option.some.injEq] at h
        subst h
        simp only [Bool.and_eq_true, Bool.not_eq_true'] at hok
        obtain ⟨h1, h2⟩ := hok
        have h1' : checkL pc (tabW (fun k => f k 0) nW 0) (tabO g n 0) = true := h1
        have h2' : Nat.beq (stepR (tabW (fun k => f k 0) nW 0) n g).n n = false := h2
        rw [h1', hd h1, h2']
        rfl
      | false =>
        simp only [hv, cond_false, Option.some.injEq] at h
        subst h
        simp only [Bool.not_eq_true', Bool.and_eq_false_iff, Bool.not_eq_false'] at hok
        cases h1 : checkL pc (tabI f nW 0) (tabO g n 0) with
        | false =>
          have h1' : checkL pc (tabW (fun k => f k 0) nW 0) (tabO g n 0) = false := h1
          rw [h1']
          rfl
        | true =>
          have h1' : checkL pc (tabW (fun k => f k 0) nW 0) (tabO g n 0) = true := h1
          have h2' : Nat.beq (stepR (tabW (fun k => f k 0) nW 0) n g).n n = true := by
            rcases hok with h | h
            · rw [h1] at h; cases h
            · exact h
          rw [h1', hd h1, h2']
          rfl
    · cases h
  · cases h
noncomputable def VF3 : Env := EV7.gives 19 (F19 fun _ => true)
theorem VF3_s : VF3.Sound := EV7_s.gives has19 (c19_ok _)
theorem has18 : hasFn Try.prog 18 Try.f18 := ⟨by kernel_rfl, by kernel_rfl, by kernel_rfl⟩
theorem t18 : evV VF3 Try.f18 200 [] ⟨[], [], 0⟩ = some (boolV true, hh0) := by kernel_rfl
end Go.Proofs.Ytjpeplidbodjiaa
/- LiveAgain: its loops. -/
namespace Go.Proofs.Ytjpeplidbodjiaa
set_option maxRecDepth 100000
def F18 (args : List AV) (l : List (Nat × LB)) : Option (Bool × AV) := match args, l with
  | [], [] => some (true, boolV true)
  | _, _ => none
theorem q18_ok : CallQ Try.prog 18 (handQ F18) := by
  refine CallQ.hand (E := VF3) VF3_s pfl (LpF.none fun _ => rfl) has18 fun args l v h => ?_
  unfold F18 at h
  split at h
  · simp only [Option.some.injEq, Prod.mk.injEq, true_and] at h
    subst h
    exact ⟨rfl, 200, hh0, t18⟩
  · cases h
noncomputable def VG0 (v : Nat → Bool) : Env := EV7.gives 19 (F19 v)
theorem VG0_s (v : Nat → Bool) : (VG0 v).Sound := EV7_s.gives has19 (c19_ok v)
noncomputable def VG1 (v : Nat → Bool) : Env := (VG0 v).sum 18 (handQ F18)
theorem VG1_s (v : Nat → Bool) : (VG1 v).Sound := (VG0_s v).sumC q18_ok
noncomputable def VG2 (v : Nat → Bool) : Env := (VG1 v).sum 22 (handQ F22)
theorem VG2_s (v : Nat → Bool) : (VG2 v).Sound := (VG1_s v).sumC q22_ok
noncomputable def VG3 (v : Nat → Bool) : Env := (VG2 v).sum 23 (handQ F23)
theorem VG3_s (v : Nat → Bool) : (VG3 v).Sound := (VG2_s v).sumC q23_ok
noncomputable def x3a : Code := nthL (loopsC (bodyC Try.f3)) 0
noncomputable def x3b : Code := nthL (loopsC (bodyC Try.f3)) 1
theorem key3a : keyC x3a = 6 := by kernel_rfl
theorem key3b : keyC x3b = 11 := by kernel_rfl
theorem loops3 : loopsC (bodyC Try.f3) = [x3a, x3b] := by kernel_rfl
def lv3 : Nat → Option (List Nat) := fun i => bif Nat.beq i 6 then some [1, 3, 4, 5, 6, 31004] else bif Nat.beq i 11 then some [3, 4, 5, 7, 31005] else none
noncomputable def VG4 (v : Nat → Bool) : Env := (VG3 v).marks lv3 fun _ => none
theorem VG4_s (v : Nat → Bool) : (VG4 v).Sound := (VG3_s v).marks
def kp3a : Exit → Option (List Nat)
  | .exit _ => some [3, 4, 5]
  | _ => none
def nilV : AV := .one (.v (.slice none 0 0))
def l3 (nA : Nat) (fA : Nat → Nat → Int) (oA : Nat → Nat → ByteArray) (D : RowL) (l : List (Nat × LB)) (x : RowL) : List (Nat × LB) := (4, ⟨true, 31, x.bb opSh⟩) :: (6, ⟨true, 31, D.bb opSh⟩) :: (5, ⟨true, 22, .row [.i .u32] nA fA oA⟩) :: l
def S3a (pc pd i : Int) (x : RowL) (nA : Nat) (fA : Nat → Nat → Int) (oA : Nat → Nat → ByteArray) (D : RowL) (l : List (Nat × LB)) : AS :=
  ⟨.one .any :: .one (.pt 2 0) :: .one .any :: .one (.pt 3 0) :: .one (.ow 4) :: nilV :: .one (.v (.int .i64 i)) :: anys 73,
    ⟨[(3, 26, .cells [.v (.int .u32 pd), .ow 5, .ow 6]), (2, 26, .cells [.v (.int .u32 pc), .ow 0, .ow 1])], l3 nA fA oA D l x, 7⟩⟩
def X3a (pd : Int) (x : RowL) (nA : Nat) (fA : Nat → Nat → Int) (oA : Nat → Nat → ByteArray) (D : RowL) (l : List (Nat × LB)) : AS :=
  ⟨.one .any :: .one .any :: .one .any :: .one (.pt 2 0) :: .one (.ow 3) :: nilV :: anys 74,
    ⟨[(2, 26, .cells [.v (.int .u32 pd), .ow 4, .ow 5])], (3, ⟨true, 31, x.bb opSh⟩) :: (5, ⟨true, 31, D.bb opSh⟩) :: (4, ⟨true, 22, .row [.i .u32] nA fA oA⟩) :: l, 6⟩⟩
def S3b (pd i : Int) (y x : RowL) (nA : Nat) (fA : Nat → Nat → Int) (oA : Nat → Nat → ByteArray) (D : RowL) (l : List (Nat × LB)) : AS :=
  ⟨.one .any :: .one .any :: .one .any :: .one (.pt 2 0) :: .one (.ow 3) :: .one (.ow 4) :: .one .any :: .one (.v (.int .i64 i)) :: anys 72,
    ⟨[(2, 26, .cells [.v (.int .u32 pd), .ow 5, .ow 6])], (4, ⟨true, 31, y.bb opSh⟩) :: (3, ⟨true, 31, x.bb opSh⟩) :: (6, ⟨true, 31, D.bb opSh⟩) :: (5, ⟨true, 22, .row [.i .u32] nA fA oA⟩) :: l, 7⟩⟩
def X3b (pd : Int) (y x : RowL) (nA : Nat) (fA : Nat → Nat → Int) (oA : Nat → Nat → ByteArray) (D : RowL) (l : List (Nat × LB)) : AS :=
  ⟨.one .any :: .one .any :: .one .any :: .one (.pt 2 0) :: .one (.ow 3) :: .one (.ow 4) :: anys 74,
    ⟨[(2, 26, .cells [.v (.int .u32 pd), .ow 5, .ow 6])], (4, ⟨true, 31, y.bb opSh⟩) :: (3, ⟨true, 31, x.bb opSh⟩) :: (6, ⟨true, 31, D.bb opSh⟩) :: (5, ⟨true, 22, .row [.i .u32] nA fA oA⟩) :: l, 7⟩⟩
section
variable (v : Nat → Bool) (pc pd : Int) (x y : RowL) (nA : Nat) (fA : Nat → Nat → Int) (oA : Nat → Nat → ByteArray) (D : RowL) (nW : Nat) (f : Nat → Nat → Int) (oW : Nat → Nat → ByteArray) (n : Nat) (g : Nat → Nat → Int) (o : Nat → Nat → ByteArray) (K : Exit → AS → Out)
theorem gcS3a (i : Int) (H : AS → Out) : gc 2 ((VG4 v).lv 6) (S3a pc pd i x nA fA oA D (lB nW f oW n g o)) H = H (S3a pc pd i x nA fA oA D (lB nW f oW n g o)) := by kernel_rfl
theorem gcS3b (i : Int) (H : AS → Out) : gc 2 ((VG4 v).lv 11) (S3b pd i y x nA fA oA D (lB nW f oW n g o)) H = H (S3b pd i y x nA fA oA D (lB nW f oW n g o)) := by kernel_rfl
/-- One operation is taken over, where it is not Pure. -/
def take3 (n : Nat) (g : Nat → Nat → Int) (i : Int) (nK : Nat) (A B : Out) : Out := ixZ 6 n i (bif !pureK (g i.toNat 0) then ixZ 6 n i (bif Nat.ble (nK + 1) 1048576 then A else none) else B)
theorem rnd3a (i : Int) (H : AS → Out) (N : Nat) : ev (VG4 v) 2 (N + 30) x3a (S3a pc pd i x nA fA oA D (lB nW f oW n g o)) (rkG 2 ((VG4 v).lv 6) kp3a H K) =
    bif decide (i < (n : Int)) then take3 n g i x.n (H (S3a pc pd (IntKind.i64.wrap (i + 1)) (x.push (opRow g i.toNat)) nA fA oA D (lB nW f oW n g o))) (H (S3a pc pd (IntKind.i64.wrap (i + 1)) x nA fA oA D (lB nW f oW n g o)))
    else K (.exit 0) (X3a pd x nA fA oA D (lB nW f oW n g o)) := by kernel_rfl
theorem rnd3b (i : Int) (H : AS → Out) (N : Nat) : ev (VG4 v) 2 (N + 30) x3b (S3b pd i y x nA fA oA D (lB nW f oW n g o)) (rkG 2 ((VG4 v).lv 11) kp3a H K) =
    bif decide (i < (D.n : Int)) then take3 D.n D.f i y.n (H (S3b pd (IntKind.i64.wrap (i + 1)) (y.push (opRow D.f i.toNat)) x nA fA oA D (lB nW f oW n g o))) (H (S3b pd (IntKind.i64.wrap (i + 1)) y x nA fA oA D (lB nW f oW n g o)))
    else K (.exit 2) (X3b pd y x nA fA oA D (lB nW f oW n g o)) := by kernel_rfl
/-- What is not Pure. -/
def nonp (g : Nat → Nat → Int) (i : Nat) : Bool := !pureK (g i 0)
theorem head3a (hn : n ≤ 1000) : ∀ (c i N : Nat) (x : RowL), i + c = n → x.n ≤ i →
    HeadK (VG4 v) 2 kp3a x3a (N + c + 30) K (S3a pc pd (i : Int) x nA fA oA D (lB nW f oW n g o)) = K (.exit 0) (X3a pd (filtR (nonp g) (opRow g) c i x) nA fA oA D (lB nW f oW n g o))
  | 0, i, N, x, h, _ => by
    rw [show N + 0 + 30 = (N + 29) + 1 by omega, HeadK_succ (by rw [key3a]; rfl), key3a]
    refine (rnd3a v pc pd x nA fA oA D nW f oW n g o K i _ N).trans ?_
    rw [decide_eq_false (show ¬ (i : Int) < (n : Int) by omega)]
    simp only [cond_false, filtR]
  | c + 1, i, N, x, h, hr => by
    rw [show N + (c + 1) + 30 = (N + c + 30) + 1 by omega, HeadK_succ (by rw [key3a]; rfl), key3a]
    refine (rnd3a v pc pd x nA fA oA D nW f oW n g o K i _ (N + c + 1)).trans ?_
    have e4 : IntKind.i64.wrap ((i : Int) + 1) = ((i + 1 : Nat) : Int) := by rw [IntKind.wrap_i64]; omega
    have e6 : (i : Int).toNat = i := by omega
    have e7 : Nat.ble (x.n + 1) 1048576 = true := by rw [Nat.ble_eq]; omega
    unfold take3
    rw [ixZ_in (by omega) (by omega) (by decide), ixZ_in (by omega) (by omega) (by decide), e4, e6, e7, decide_eq_true (show (i : Int) < (n : Int) by omega), filtR]
    have i1 := head3a hn c (i + 1) N (x.push (opRow g i)) (by omega) (by simp only [RowL.push]; omega)
    have i2 := head3a hn c (i + 1) N x (by omega) (by omega)
    generalize HeadK (VG4 v) 2 kp3a x3a (N + c + 30) K (S3a pc pd ((i + 1 : Nat) : Int) (x.push (opRow g i)) nA fA oA D (lB nW f oW n g o)) = H1 at i1 ⊢
    generalize HeadK (VG4 v) 2 kp3a x3a (N + c + 30) K (S3a pc pd ((i + 1 : Nat) : Int) x nA fA oA D (lB nW f oW n g o)) = H2 at i2 ⊢
    rw [i1, i2]
    have e8 : nonp g i = !pureK (g i 0) := rfl
    rw [e8]
    cases pureK (g i 0) <;> simp only [Bool.not_true, Bool.not_false, cond_true, cond_false]
theorem head3b (hn : D.n ≤ 1000) : ∀ (c i N : Nat) (y : RowL), i + c = D.n → y.n ≤ i →
    HeadK (VG4 v) 2 kp3a x3b (N + c + 30) K (S3b pd (i : Int) y x nA fA oA D (lB nW f oW n g o)) = K (.exit 2) (X3b pd (filtR (nonp D.f) (opRow D.f) c i y) x nA fA oA D (lB nW f oW n g o))
  | 0, i, N, y, h, _ => by
    rw [show N + 0 + 30 = (N + 29) + 1 by omega, HeadK_succ (by rw [key3b]; rfl), key3b]
    refine (rnd3b v pd x y nA fA oA D nW f oW n g o K i _ N).trans ?_
    rw [decide_eq_false (show ¬ (i : Int) < (D.n : Int) by omega)]
    simp only [cond_false, filtR]
  | c + 1, i, N, y, h, hr => by
    rw [show N + (c + 1) + 30 = (N + c + 30) + 1 by omega, HeadK_succ (by rw [key3b]; rfl), key3b]
    refine (rnd3b v pd x y nA fA oA D nW f oW n g o K i _ (N + c + 1)).trans ?_
    have e4 : IntKind.i64.wrap ((i : Int) + 1) = ((i + 1 : Nat) : Int) := by rw [IntKind.wrap_i64]; omega
    have e6 : (i : Int).toNat = i := by omega
    have e7 : Nat.ble (y.n + 1) 1048576 = true := by rw [Nat.ble_eq]; omega
    unfold take3
    rw [ixZ_in (by omega) (by omega) (by decide), ixZ_in (by omega) (by omega) (by decide), e4, e6, e7, decide_eq_true (show (i : Int) < (D.n : Int) by omega), filtR]
    have i1 := head3b hn c (i + 1) N (y.push (opRow D.f i)) (by omega) (by simp only [RowL.push]; omega)
    have i2 := head3b hn c (i + 1) N y (by omega) (by omega)
    generalize HeadK (VG4 v) 2 kp3a x3b (N + c + 30) K (S3b pd ((i + 1 : Nat) : Int) (y.push (opRow D.f i)) x nA fA oA D (lB nW f oW n g o)) = H1 at i1 ⊢
    generalize HeadK (VG4 v) 2 kp3a x3b (N + c + 30) K (S3b pd ((i + 1 : Nat) : Int) y x nA fA oA D (lB nW f oW n g o)) = H2 at i2 ⊢
    rw [i1, i2]
    have e8 : nonp D.f i = !pureK (D.f i 0) := rfl
    rw [e8]
    cases pureK (D.f i 0) <;> simp only [Bool.not_true, Bool.not_false, cond_true, cond_false]
end
def d3a : AS := S3a 0 0 0 nilR 0 (fun _ _ => 0) (fun _ _ => ByteArray.empty) nilR lB0
def d3b : AS := S3b 0 0 nilR nilR 0 (fun _ _ => 0) (fun _ _ => ByteArray.empty) nilR lB0
def leaf3a (dt : Dt) (K : Exit → AS → Out) : Out := match dt with
  | ⟨[i, pd, pc], [], [], [nx, nD, nA, nW, n], [fx, fD, fA, f, g], [ox, oD, oA, oW, o], []⟩ => bif decide (i = 0) && Nat.beq nx 0 && Nat.ble n 1000 then
      K (.exit 0) (X3a pd (filtR (nonp g) (opRow g) n 0 ⟨nx, fx, ox⟩) nA fA oA ⟨nD, fD, oD⟩ (lB nW f oW n g o)) else none
  | _ => none
def leaf3b (dt : Dt) (K : Exit → AS → Out) : Out := match dt with
  | ⟨[i, pd], [], [], [ny, nx, nD, nA, nW, n], [fy, fx, fD, fA, f, g], [oy, ox, oD, oA, oW, o], []⟩ => bif decide (i = 0) && Nat.beq ny 0 && Nat.ble nD 1000 then
      K (.exit 2) (X3b pd (filtR (nonp fD) (opRow fD) nD 0 ⟨ny, fy, oy⟩) ⟨nx, fx, ox⟩ nA fA oA ⟨nD, fD, oD⟩ (lB nW f oW n g o)) else none
  | _ => none
theorem ref3a (i pd pc : Int) (nx nD nA nW n : Nat) (fx fD fA f g : Nat → Nat → Int) (ox oD oA oW o : Nat → Nat → ByteArray) :
    refS d3a ⟨[i, pd, pc], [], [], [nx, nD, nA, nW, n], [fx, fD, fA, f, g], [ox, oD, oA, oW, o], []⟩ = S3a pc pd i ⟨nx, fx, ox⟩ nA fA oA ⟨nD, fD, oD⟩ (lB nW f oW n g o) := by kernel_rfl
theorem ref3b (i pd : Int) (ny nx nD nA nW n : Nat) (fy fx fD fA f g : Nat → Nat → Int) (oy ox oD oA oW o : Nat → Nat → ByteArray) :
    refS d3b ⟨[i, pd], [], [], [ny, nx, nD, nA, nW, n], [fy, fx, fD, fA, f, g], [oy, ox, oD, oA, oW, o], []⟩ = S3b pd i ⟨ny, fy, oy⟩ ⟨nx, fx, ox⟩ nA fA oA ⟨nD, fD, oD⟩ (lB nW f oW n g o) := by kernel_rfl
theorem lp3a_ok : LoopS Try.prog x3a (lpG 2 d3a leaf3a) := by
  refine LoopS.pat (E := VG4 fun _ => true) (VG4_s _) pfl (LpC.none fun _ => rfl) (by rw [key3a]; rfl) kp3a fun dt K out h => ?_
  unfold leaf3a at h
  split at h
  · rename_i i pd pc nx nD nA nW n fx fD fA f g ox oD oA oW o
    cases hc : (decide (i = 0) && Nat.beq nx 0 && Nat.ble n 1000) with
    | false => simp [hc] at h
    | true =>
      simp only [hc, cond_true] at h
      simp only [Bool.and_eq_true, decide_eq_true_eq, Nat.ble_eq] at hc
      obtain ⟨⟨rfl, h1⟩, h2⟩ := hc
      have h1 := Nat.eq_of_beq_eq_true h1
      subst h1
      refine ⟨0 + n + 30, ?_⟩
      rw [ref3a, key3a, gcS3a]
      exact (head3a (fun _ => true) pc pd nA fA oA ⟨nD, fD, oD⟩ nW f oW n g o K h2 n 0 0 ⟨0, fx, ox⟩ (by omega) (Nat.le_refl _)).trans h
  · cases h
theorem lp3b_ok : LoopS Try.prog x3b (lpG 2 d3b leaf3b) := by
  refine LoopS.pat (E := VG4 fun _ => true) (VG4_s _) pfl (LpC.none fun _ => rfl) (by rw [key3b]; rfl) kp3a fun dt K out h => ?_
  unfold leaf3b at h
  split at h
  · rename_i i pd ny nx nD nA nW n fy fx fD fA f g oy ox oD oA oW o
    cases hc : (decide (i = 0) && Nat.beq ny 0 && Nat.ble nD 1000) with
    | false => simp [hc] at h
    | true =>
      simp only [hc, cond_true] at h
      simp only [Bool.and_eq_true, decide_eq_true_eq, Nat.ble_eq] at hc
      obtain ⟨⟨rfl, h1⟩, h2⟩ := hc
      have h1 := Nat.eq_of_beq_eq_true h1
      subst h1
      refine ⟨0 + nD + 30, ?_⟩
      rw [ref3b, key3b, gcS3b]
      exact (head3b (fun _ => true) pd ⟨nx, fx, ox⟩ nA fA oA ⟨nD, fD, oD⟩ nW f oW n g o K h2 nD 0 0 ⟨0, fy, oy⟩ (by simp) (Nat.le_refl _)).trans h
  · cases h
noncomputable def VG5 (v : Nat → Bool) : Env := ((VG3 v).marks lv3 fun _ => none).loops fun i => bif Nat.beq i 6 then some (lpG 2 d3a leaf3a) else bif Nat.beq i 11 then some (lpG 2 d3b leaf3b) else none
theorem VG5_s (v : Nat → Bool) : (VG5 v).Sound := (VG3_s v).marks.loops
theorem VG5_lp (v : Nat → Bool) : LpF (VG5 v) Try.f3 := LpF.of fun x hx f hf => by
  rw [loops3] at hx
  simp only [List.mem_cons, List.not_mem_nil, or_false] at hx
  rcases hx with rfl | rfl
  · have e : (VG5 v).lp (keyC x3a) = some (lpG 2 d3a leaf3a) := by rw [key3a]; rfl
    rw [e] at hf
    injection hf with hf
    subst hf
    exact lp3a_ok
  · have e : (VG5 v).lp (keyC x3b) = some (lpG 2 d3b leaf3b) := by rw [key3b]; rfl
    rw [e] at hf
    injection hf with hf
    subst hf
    exact lp3b_ok
theorem has3 : hasFn Try.prog 3 Try.f3 := ⟨by kernel_rfl, by kernel_rfl, by kernel_rfl⟩
end Go.Proofs.Ytjpeplidbodjiaa
/- Copies of lists and blocks. -/
namespace Go.Proofs.Ytjpeplidbodjiaa
set_option maxRecDepth 100000
def cpy (n : Nat) (f : Nat → Nat → Int) : Nat → Nat → Int := fun k j => bif Nat.blt k 0 then 0 else f (k - 0) j
def cpyO (o : Nat → Nat → ByteArray) : Nat → Nat → ByteArray := fun k j => bif Nat.blt k 0 then ByteArray.empty else o (k - 0) j
theorem t34 (n : Nat) (f : Nat → Nat → Int) (o : Nat → Nat → ByteArray) : evC E0' Try.f34 60 [.one (.ow 0)] ⟨[], [(0, ⟨false, 22, .row [.i .u32] n f o⟩)], 1⟩ (canG 1) =
    bif Nat.ble n 1048576 then canO false [.one (.ow 1)] [encL (1, ⟨true, 22, .row [.i .u32] (0 + n) (cpy n f) (cpyO o)⟩)] 2 else none := by kernel_rfl
theorem t63 (n : Nat) (f : Nat → Nat → Int) (o : Nat → Nat → ByteArray) : evC E0' Try.f63 60 [.one (.ow 0)] ⟨[], [(0, ⟨false, 31, .row opSh n f o⟩)], 1⟩ (canG 1) =
    bif Nat.ble n 1048576 then canO false [.one (.ow 1)] [encL (1, ⟨true, 31, .row opSh (0 + n) (cpy n f) (cpyO o)⟩)] 2 else none := by kernel_rfl
def noO : Nat → Nat → ByteArray := fun _ _ => ByteArray.empty
theorem enc_w (i n : Nat) (f : Nat → Nat → Int) (o : Nat → Nat → ByteArray) : encL (i, ⟨true, 22, .row [.i .u32] (0 + n) (cpy n f) (cpyO o)⟩) = encL (i, ⟨true, 22, .row [.i .u32] n f noO⟩) := by
  rw [Nat.zero_add]
  rfl
theorem enc_o (i n : Nat) (f : Nat → Nat → Int) (o : Nat → Nat → ByteArray) : encL (i, ⟨true, 31, .row opSh (0 + n) (cpy n f) (cpyO o)⟩) = encL (i, ⟨true, 31, .row opSh n f noO⟩) := by
  rw [Nat.zero_add]
  rfl
def F34 (_ : Nat) (args : List AV) (l : List (Nat × LB)) : Option Give := match args, l with
  | [.one (.ow 0)], [(0, la)] => (match asW la with
    | some (n, f) => some ⟨Nat.ble n 1048576, false, [.one (.ow 1)], [(1, ⟨true, 22, .row [.i .u32] n f noO⟩)], 2⟩
    | none => none)
  | _, _ => none
def F63 (_ : Nat) (args : List AV) (l : List (Nat × LB)) : Option Give := match args, l with
  | [.one (.ow 0)], [(0, la)] => (match asO la with
    | some (n, f) => some ⟨Nat.ble n 1048576, false, [.one (.ow 1)], [(1, ⟨true, 31, .row opSh n f noO⟩)], 2⟩
    | none => none)
  | _, _ => none
theorem c34_ok : CallS Try.prog 34 (handC' F34) := by
  refine CallS.hand (E := E0') E0'_s pfl (LpF.none fun _ => rfl) has34 fun nx args l r h hok => ?_
  unfold F34 at h
  split at h
  · rename_i la
    split at h
    · rename_i n f ha
      obtain ⟨o, rfl⟩ := asW_spec ha
      simp only [Option.some.injEq] at h
      subst h
      refine ⟨60, (t34 n f o).trans ?_⟩
      simp only at hok
      rw [hok, enc_w]
      rfl
    · cases h
  · cases h
theorem c63_ok : CallS Try.prog 63 (handC' F63) := by
  refine CallS.hand (E := E0') E0'_s pfl (LpF.none fun _ => rfl) has63 fun nx args l r h hok => ?_
  unfold F63 at h
  split at h
  · rename_i la
    split at h
    · rename_i n f ha
      obtain ⟨o, rfl⟩ := asO_spec ha
      simp only [Option.some.injEq] at h
      subst h
      refine ⟨60, (t63 n f o).trans ?_⟩
      simp only at hok
      rw [hok, enc_o]
      rfl
    · cases h
  · cases h
noncomputable def VH1 : Env := E0'.gives 34 F34
theorem VH1_s : VH1.Sound := E0'_s.gives has34 c34_ok
noncomputable def VH2 : Env := VH1.gives 63 F63
theorem VH2_s : VH2.Sound := VH1_s.gives has63 c63_ok
theorem t20 (pc : Int) (nW : Nat) (f : Nat → Nat → Int) (oW : Nat → Nat → ByteArray) (n : Nat) (g : Nat → Nat → Int) (o : Nat → Nat → ByteArray) : evC VH2 Try.f20 60 [.agg [.v (.int .u32 pc), .ow 0, .ow 1]] ⟨[], lB nW f oW n g o, 2⟩ (canG 2) =
    bif Nat.ble nW 1048576 then bif Nat.ble n 1048576 then canO false [.agg [.v (.int .u32 pc), .ow 2, .ow 3]] [encL (3, ⟨true, 31, .row opSh n g noO⟩), encL (2, ⟨true, 22, .row [.i .u32] nW f noO⟩)] 4 else none else none := by kernel_rfl
def F20 (_ : Nat) (args : List AV) (l : List (Nat × LB)) : Option Give := match args, l with
  | [.agg [.v (.int .u32 pc), .ow 0, .ow 1]], [(0, la), (1, lb)] => (match asW la, asO lb with
    | some (nW, f), some (n, g) => some ⟨Nat.ble n 1048576 && Nat.ble nW 1048576, false, [.agg [.v (.int .u32 pc), .ow 2, .ow 3]], [(3, ⟨true, 31, .row opSh n g noO⟩), (2, ⟨true, 22, .row [.i .u32] nW f noO⟩)], 4⟩
    | _, _ => none)
  | _, _ => none
theorem c20_ok : CallS Try.prog 20 (handC' F20) := by
  refine CallS.hand (E := VH2) VH2_s pfl (LpF.none fun _ => rfl) has20 fun nx args l r h hok => ?_
  unfold F20 at h
  split at h
  · rename_i pc la lb
    split at h
    · rename_i nW f n g ha hb
      obtain ⟨oW, rfl⟩ := asW_spec ha
      obtain ⟨o, rfl⟩ := asO_spec hb
      simp only [Option.some.injEq] at h
      subst h
      refine ⟨60, (t20 pc nW f oW n g o).trans ?_⟩
      simp only [Bool.and_eq_true] at hok
      rw [hok.1, hok.2]
      rfl
    · cases h
  · cases h
noncomputable def VH3 (v : Nat → Bool) : Env := (VG3 v).gives 20 F20
theorem VH3_s (v : Nat → Bool) : (VH3 v).Sound := (VG3_s v).gives has20 c20_ok
noncomputable def VH5 (v : Nat → Bool) : Env := ((VH3 v).marks lv3 fun _ => none).loops fun i => bif Nat.beq i 6 then some (lpG 2 d3a leaf3a) else bif Nat.beq i 11 then some (lpG 2 d3b leaf3b) else none
theorem VH5_s (v : Nat → Bool) : (VH5 v).Sound := (VH3_s v).marks.loops
theorem VH5_lp (v : Nat → Bool) : LpF (VH5 v) Try.f3 := LpF.of fun x hx f hf => by
  rw [loops3] at hx
  simp only [List.mem_cons, List.not_mem_nil, or_false] at hx
  rcases hx with rfl | rfl
  · have e : (VH5 v).lp (keyC x3a) = some (lpG 2 d3a leaf3a) := by rw [key3a]; rfl
    rw [e] at hf
    injection hf with hf
    subst hf
    exact lp3a_ok
  · have e : (VH5 v).lp (keyC x3b) = some (lpG 2 d3b leaf3b) := by rw [key3b]; rfl
    rw [e] at hf
    injection hf with hf
    subst hf
    exact lp3b_ok
end Go.Proofs.Ytjpeplidbodjiaa
