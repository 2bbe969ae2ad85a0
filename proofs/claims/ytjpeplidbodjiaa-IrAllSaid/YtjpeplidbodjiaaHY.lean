/- live.Dead and sameness: what a block that may be gives. -/
import Derived.Test.YtjpeplidbodjiaaGX
import Derived.Test.YtjpeplidbodjiaaSndX
/- live.Dead: its inner loop. -/
namespace Go.Proofs.Ytjpeplidbodjiaa
set_option maxRecDepth 100000
noncomputable def x19 : Code := nthL (loopsC (bodyC Try.f19)) 0
noncomputable def x19i : Code := nthL (loopsC (bodyC Try.f19)) 1
theorem key19 : keyC x19 = 3 := by kernel_rfl
theorem key19i : keyC x19i = 6 := by kernel_rfl
theorem loops19 : loopsC (bodyC Try.f19) = [x19, x19i] := by kernel_rfl
theorem loops19o : loopsC x19 = [x19i] := by kernel_rfl
def lv19 : Nat → Option (List Nat) := fun i => bif Nat.beq i 6 then some [1, 2, 3, 4, 14, 15, 16, 31004] else bif Nat.beq i 3 then some [1, 2] else none
noncomputable def EH19 : Env := ED0.marks lv19 fun _ => none
theorem EH19_s : EH19.Sound := ED0_s.marks
def kp19i : Exit → Option (List Nat)
  | .exit _ => some [1, 2, 4]
  | _ => none
def z26 : List AC := [.v (.int .u32 0), .v (.slice none 0 0), .v (.slice none 0 0)]
/-- A list's rows, as they are made. -/
structure RowL where
  n : Nat
  f : Nat → Nat → Int
  o : Nat → Nat → ByteArray
def RowL.push (r : RowL) (cs : List AC) : RowL := ⟨r.n + 1, fun k j => bif Nat.blt k r.n then r.f k j else intAt cs j, fun k j => bif Nat.blt k r.n then r.o k j else ByteArray.empty⟩
def RowL.bb (sh : List CK) (r : RowL) : BB := .row sh r.n r.f r.o
def nilR : RowL := ⟨0, fun _ _ => 0, fun _ _ => ByteArray.empty⟩
/-- Of rows those that are kept. -/
def filtR (p : Nat → Bool) (row : Nat → List AC) : Nat → Nat → RowL → RowL
  | 0, _, r => r
  | c + 1, i, r => filtR p row c (i + 1) (bif p i then r.push (row i) else r)
theorem filtR_le (p : Nat → Bool) (row : Nat → List AC) : ∀ (c i : Nat) (r : RowL), (filtR p row c i r).n ≤ r.n + c
  | 0, _, r => Nat.le_refl _
  | c + 1, i, r => by
    simp only [filtR]
    have := filtR_le p row c (i + 1) (bif p i then r.push (row i) else r)
    cases h : p i with
    | true =>
      simp only [h, cond_true] at this ⊢
      have e : (r.push (row i)).n = r.n + 1 := rfl
      omega
    | false =>
      simp only [h, cond_false] at this ⊢
      omega
def opRow (g : Nat → Nat → Int) (i : Nat) : List AC := opC (g i 0) (g i 1) (g i 2) (g i 3) (g i 4) (g i 5)
/-- At the inner loop's head. -/
def S19i (s : Nat) (pc nn i : Int) (nG : Nat) (G : Nat → Nat → Bool) (r : RowL) (l : List (Nat × LB)) : AS :=
  ⟨.one .any :: .one (.pt 2 0) :: .one (.pt 3 0) :: .one (.ow 4) :: .one (.ow 5) :: (anys 9 ++ (.one (.ow s) :: .one (.v (.int .i64 nn)) :: .one (.v (.int .i64 i)) :: anys 31)),
    ⟨[(3, 26, .cells z26), (2, 26, .cells [.v (.int .u32 pc), .ow 0, .ow s])], (5, ⟨true, 31, r.bb opSh⟩) :: (4, ⟨true, 85, .bools 64 nG G⟩) :: l, 6⟩⟩
def S19j (pc nn i : Int) (nG : Nat) (G : Nat → Nat → Bool) (r : RowL) (q : RowL) (l : List (Nat × LB)) : AS :=
  ⟨.one .any :: .one (.pt 2 0) :: .one (.pt 3 0) :: .one (.ow 4) :: .one (.ow 5) :: (anys 9 ++ (.one (.ow 6) :: .one (.v (.int .i64 nn)) :: .one (.v (.int .i64 i)) :: anys 31)),
    ⟨[(3, 26, .cells z26), (2, 26, .cells [.v (.int .u32 pc), .ow 0, .ow 6])], (5, ⟨true, 31, r.bb opSh⟩) :: (4, ⟨true, 85, .bools 64 nG G⟩) :: (6, ⟨true, 31, q.bb opSh⟩) :: l, 7⟩⟩
def X19i (pc : Int) (r : RowL) (l : List (Nat × LB)) : AS :=
  ⟨.one .any :: .one (.pt 2 0) :: .one (.pt 3 0) :: .one .any :: .one (.ow 4) :: anys 43, ⟨[(3, 26, .cells z26), (2, 26, .cells [.v (.int .u32 pc), .ow 0, .ow 1])], (4, ⟨true, 31, r.bb opSh⟩) :: l, 5⟩⟩
def X19j (pc : Int) (r : RowL) (q : RowL) (l : List (Nat × LB)) : AS :=
  ⟨.one .any :: .one (.pt 2 0) :: .one (.pt 3 0) :: .one .any :: .one (.ow 4) :: anys 43, ⟨[(3, 26, .cells z26), (2, 26, .cells [.v (.int .u32 pc), .ow 0, .ow 5])], (4, ⟨true, 31, r.bb opSh⟩) :: (5, ⟨true, 31, q.bb opSh⟩) :: l, 6⟩⟩
/-- Operation i is kept; else it goes on without. -/
def keep19 (nG : Nat) (G : Nat → Nat → Bool) (g : Nat → Nat → Int) (i : Int) (nK : Nat) (A B : Out) : Out :=
  bif !pureK (g i.toNat 0) then (bif Nat.ble (nK + 1) 1048576 then A else none) else
    (bif decide (0 ≤ i) && decide (i < (nG : Int)) then bif decide (0 ≤ g i.toNat 1) && decide (g i.toNat 1 < ((64 : Nat) : Int)) then bif decide (i.toNat < nG) && decide ((g i.toNat 1).toNat < 64) then
      (bif (bif false then true else G i.toNat (g i.toNat 1).toNat) then (bif Nat.ble (nK + 1) 1048576 then A else none) else B) else none else none else none)
section
variable (pc : Int) (nG : Nat) (G : Nat → Nat → Bool) (r : RowL) (nW : Nat) (f : Nat → Nat → Int) (oW : Nat → Nat → ByteArray) (n : Nat) (g : Nat → Nat → Int) (o : Nat → Nat → ByteArray) (K : Exit → AS → Out)
theorem gcS19i (i : Int) (H : AS → Out) : gc 2 (EH19.lv 6) (S19i 1 pc n i nG G r (lB nW f oW n g o)) H = H (S19i 1 pc n i nG G r (lB nW f oW n g o)) := by kernel_rfl
theorem rnd19i (i : Int) (H : AS → Out) (N : Nat) : ev EH19 2 (N + 50) x19i (S19i 1 pc n i nG G r (lB nW f oW n g o)) (rkG 2 (EH19.lv 6) kp19i H K) =
    bif decide (i < (n : Int)) then bif decide (0 ≤ i) && decide (i < (n : Int)) then bif decide (i.toNat < n) && decide (0 < 6) then
      keep19 nG G g i r.n (H (S19i 1 pc n (IntKind.i64.wrap (i + 1)) nG G (r.push (opRow g i.toNat)) (lB nW f oW n g o))) (H (S19i 1 pc n (IntKind.i64.wrap (i + 1)) nG G r (lB nW f oW n g o))) else none else none
    else K (.exit 2) (X19i pc r (lB nW f oW n g o)) := by kernel_rfl
theorem gcS19j (i : Int) (q : RowL) (H : AS → Out) : gc 2 (EH19.lv 6) (S19j pc q.n i nG G r q (lB nW f oW n g o)) H = H (S19j pc q.n i nG G r q (lB nW f oW n g o)) := by kernel_rfl
theorem rnd19j (i : Int) (q : RowL) (H : AS → Out) (N : Nat) : ev EH19 2 (N + 50) x19i (S19j pc q.n i nG G r q (lB nW f oW n g o)) (rkG 2 (EH19.lv 6) kp19i H K) =
    bif decide (i < (q.n : Int)) then bif decide (0 ≤ i) && decide (i < (q.n : Int)) then bif decide (i.toNat < q.n) && decide (0 < 6) then
      keep19 nG G q.f i r.n (H (S19j pc q.n (IntKind.i64.wrap (i + 1)) nG G (r.push (opRow q.f i.toNat)) q (lB nW f oW n g o))) (H (S19j pc q.n (IntKind.i64.wrap (i + 1)) nG G r q (lB nW f oW n g o))) else none else none
    else K (.exit 2) (X19j pc r q (lB nW f oW n g o)) := by kernel_rfl
end
end Go.Proofs.Ytjpeplidbodjiaa
/- live.Dead: its inner loop, summed up; its outer loop. -/
namespace Go.Proofs.Ytjpeplidbodjiaa
set_option maxRecDepth 100000
/-- Is operation i kept, G being what is needed? -/
def keepP (G : Nat → Nat → Bool) (g : Nat → Nat → Int) (i : Nat) : Bool := bif !pureK (g i 0) then true else G i (g i 1).toNat
def dOk (q : Nat → Int) : Bool := !pureK (q 0) || (decide (0 ≤ q 1) && decide (q 1 < 64))
def dOks (g : Nat → Nat → Int) : Nat → Nat → Bool
  | 0, _ => true
  | c + 1, i => dOk (g i) && dOks g c (i + 1)
theorem keep19_eq {n i nK : Nat} {G : Nat → Nat → Bool} {g : Nat → Nat → Int} {A B : Out} (hi : i < n) (hd : dOk (g i) = true) (hk : nK < 1000000) : keep19 n G g (i : Int) nK A B = bif keepP G g i then A else B := by
  unfold keep19 keepP
  have e1 : ((i : Nat) : Int).toNat = i := by omega
  have e2 : Nat.ble (nK + 1) 1048576 = true := by rw [Nat.ble_eq]; omega
  rw [e1, e2, decide_eq_true (show 0 ≤ (i : Int) by omega), decide_eq_true (show (i : Int) < (n : Int) by omega), decide_eq_true (show i < n from hi)]
  unfold dOk at hd
  cases hp : pureK (g i 0) with
  | false => rfl
  | true =>
    simp only [hp, Bool.not_true, Bool.false_or, Bool.and_eq_true, decide_eq_true_eq] at hd
    rw [decide_eq_true hd.1, decide_eq_true (show g i 1 < ((64 : Nat) : Int) from hd.2), decide_eq_true (show (g i 1).toNat < 64 by omega)]
    cases G i (g i 1).toNat <;> rfl
section
variable (pc : Int) (G : Nat → Nat → Bool) (nW : Nat) (f : Nat → Nat → Int) (oW : Nat → Nat → ByteArray) (n : Nat) (g : Nat → Nat → Int) (o : Nat → Nat → ByteArray) (K : Exit → AS → Out)
theorem head19i (hn : n ≤ 1000) : ∀ (c i N : Nat) (r : RowL), i + c = n → r.n ≤ i → dOks g c i = true →
    HeadK EH19 2 kp19i x19i (N + c + 50) K (S19i 1 pc n i n G r (lB nW f oW n g o)) = K (.exit 2) (X19i pc (filtR (keepP G g) (opRow g) c i r) (lB nW f oW n g o))
  | 0, i, N, r, h, _, _ => by
    rw [show N + 0 + 50 = (N + 49) + 1 by omega, HeadK_succ (by rw [key19i]; rfl), key19i]
    refine (rnd19i pc n G r nW f oW n g o K i _ N).trans ?_
    rw [decide_eq_false (show ¬ (i : Int) < (n : Int) by omega)]
    simp only [cond_false, filtR]
  | c + 1, i, N, r, h, hr, hd => by
    rw [show N + (c + 1) + 50 = (N + c + 50) + 1 by omega, HeadK_succ (by rw [key19i]; rfl), key19i]
    refine (rnd19i pc n G r nW f oW n g o K i _ (N + c + 1)).trans ?_
    simp only [dOks, Bool.and_eq_true] at hd
    have e4 : IntKind.i64.wrap ((i : Int) + 1) = ((i + 1 : Nat) : Int) := by rw [IntKind.wrap_i64]; omega
    have e6 : (i : Int).toNat = i := by omega
    rw [keep19_eq (by omega) hd.1 (by omega), e4, e6, decide_eq_true (show (i : Int) < (n : Int) by omega), decide_eq_true (show 0 ≤ (i : Int) by omega), decide_eq_true (show i < n by omega)]
    rw [filtR]
    have ih := fun r hr => head19i hn c (i + 1) N r (by omega) hr hd.2
    have i1 := ih (r.push (opRow g i)) (by simp only [RowL.push]; omega)
    have i2 := ih r (by omega)
    generalize HeadK EH19 2 kp19i x19i (N + c + 50) K (S19i 1 pc n ((i + 1 : Nat) : Int) n G (r.push (opRow g i)) (lB nW f oW n g o)) = H1 at i1 ⊢
    generalize HeadK EH19 2 kp19i x19i (N + c + 50) K (S19i 1 pc n ((i + 1 : Nat) : Int) n G r (lB nW f oW n g o)) = H2 at i2 ⊢
    rw [i1, i2]
    simp only [cond_true, Bool.and_true, show decide (0 < 6) = true from rfl]
    cases keepP G g i <;> simp only [cond_true, cond_false]
theorem head19j (q : RowL) (hn : q.n ≤ 1000) : ∀ (c i N : Nat) (r : RowL), i + c = q.n → r.n ≤ i → dOks q.f c i = true →
    HeadK EH19 2 kp19i x19i (N + c + 50) K (S19j pc q.n i q.n G r q (lB nW f oW n g o)) = K (.exit 2) (X19j pc (filtR (keepP G q.f) (opRow q.f) c i r) q (lB nW f oW n g o))
  | 0, i, N, r, h, _, _ => by
    rw [show N + 0 + 50 = (N + 49) + 1 by omega, HeadK_succ (by rw [key19i]; rfl), key19i]
    refine (rnd19j pc q.n G r nW f oW n g o K i q _ N).trans ?_
    rw [decide_eq_false (show ¬ (i : Int) < (q.n : Int) by omega)]
    simp only [cond_false, filtR]
  | c + 1, i, N, r, h, hr, hd => by
    rw [show N + (c + 1) + 50 = (N + c + 50) + 1 by omega, HeadK_succ (by rw [key19i]; rfl), key19i]
    refine (rnd19j pc q.n G r nW f oW n g o K i q _ (N + c + 1)).trans ?_
    simp only [dOks, Bool.and_eq_true] at hd
    have e4 : IntKind.i64.wrap ((i : Int) + 1) = ((i + 1 : Nat) : Int) := by rw [IntKind.wrap_i64]; omega
    have e6 : (i : Int).toNat = i := by omega
    rw [keep19_eq (by omega) hd.1 (by omega), e4, e6, decide_eq_true (show (i : Int) < (q.n : Int) by omega), decide_eq_true (show 0 ≤ (i : Int) by omega), decide_eq_true (show i < q.n by omega)]
    rw [filtR]
    have ih := fun r hr => head19j q hn c (i + 1) N r (by omega) hr hd.2
    have i1 := ih (r.push (opRow q.f i)) (by simp only [RowL.push]; omega)
    have i2 := ih r (by omega)
    generalize HeadK EH19 2 kp19i x19i (N + c + 50) K (S19j pc q.n ((i + 1 : Nat) : Int) q.n G (r.push (opRow q.f i)) q (lB nW f oW n g o)) = H1 at i1 ⊢
    generalize HeadK EH19 2 kp19i x19i (N + c + 50) K (S19j pc q.n ((i + 1 : Nat) : Int) q.n G r q (lB nW f oW n g o)) = H2 at i2 ⊢
    rw [i1, i2]
    simp only [cond_true, Bool.and_true, show decide (0 < 6) = true from rfl]
    cases keepP G q.f i <;> simp only [cond_true, cond_false]
end
def lB0 : List (Nat × LB) := lB 0 (fun _ _ => 0) (fun _ _ => ByteArray.empty) 0 (fun _ _ => 0) (fun _ _ => ByteArray.empty)
def d19i : AS := S19i 1 0 0 0 0 (fun _ _ => false) nilR lB0
def d19j : AS := S19j 0 0 0 0 (fun _ _ => false) nilR nilR lB0
def leaf19i (dt : Dt) (K : Exit → AS → Out) : Out := match dt with
  | ⟨[nn, i, z, pc], [], [G], [nK, nG, nW, n], [gK, f, g], [oK, oW, o], []⟩ => bif decide (z = 0) && decide (i = 0) && decide (nn = (n : Int)) && Nat.beq nG n && Nat.beq nK 0 && Nat.ble n 1000 && dOks g n 0 then
      K (.exit 2) (X19i pc (filtR (keepP G g) (opRow g) n 0 ⟨nK, gK, oK⟩) (lB nW f oW n g o)) else none
  | _ => none
def leaf19j (dt : Dt) (K : Exit → AS → Out) : Out := match dt with
  | ⟨[nn, i, z, pc], [], [G], [nK, nG, nq, nW, n], [gK, gq, f, g], [oK, oq, oW, o], []⟩ => bif decide (z = 0) && decide (i = 0) && decide (nn = (nq : Int)) && Nat.beq nG nq && Nat.beq nK 0 && Nat.ble nq 1000 && dOks gq nq 0 then
      K (.exit 2) (X19j pc (filtR (keepP G gq) (opRow gq) nq 0 ⟨nK, gK, oK⟩) ⟨nq, gq, oq⟩ (lB nW f oW n g o)) else none
  | _ => none
theorem ref19i (nn i pc : Int) (G : Nat → Nat → Bool) (nK nG nW n : Nat) (gK f g : Nat → Nat → Int) (oK oW o : Nat → Nat → ByteArray) :
    refS d19i ⟨[nn, i, 0, pc], [], [G], [nK, nG, nW, n], [gK, f, g], [oK, oW, o], []⟩ = S19i 1 pc nn i nG G ⟨nK, gK, oK⟩ (lB nW f oW n g o) := by kernel_rfl
theorem ref19j (nn i pc : Int) (G : Nat → Nat → Bool) (nK nG nq nW n : Nat) (gK gq f g : Nat → Nat → Int) (oK oq oW o : Nat → Nat → ByteArray) :
    refS d19j ⟨[nn, i, 0, pc], [], [G], [nK, nG, nq, nW, n], [gK, gq, f, g], [oK, oq, oW, o], []⟩ = S19j pc nn i nG G ⟨nK, gK, oK⟩ ⟨nq, gq, oq⟩ (lB nW f oW n g o) := by kernel_rfl
theorem lp19i_ok : LoopS Try.prog x19i (lpG 2 d19i leaf19i) := by
  refine LoopS.pat (E := EH19) EH19_s pfl (LpC.none fun _ => rfl) (by rw [key19i]; rfl) kp19i fun dt K out h => ?_
  unfold leaf19i at h
  split at h
  · rename_i nn i z pc G nK nG nW n gK f g oK oW o
    cases hc : (decide (z = 0) && decide (i = 0) && decide (nn = (n : Int)) && Nat.beq nG n && Nat.beq nK 0 && Nat.ble n 1000 && dOks g n 0) with
    | false => simp [hc] at h
    | true =>
      simp only [hc, cond_true] at h
      simp only [Bool.and_eq_true, decide_eq_true_eq, Nat.ble_eq] at hc
      obtain ⟨⟨⟨⟨⟨⟨rfl, rfl⟩, rfl⟩, h1⟩, h2⟩, h3⟩, h4⟩ := hc
      have h1 := Nat.eq_of_beq_eq_true h1
      have h2 := Nat.eq_of_beq_eq_true h2
      subst h1 h2
      refine ⟨0 + nG + 50, ?_⟩
      rw [ref19i, key19i, gcS19i]
      exact (head19i pc G nW f oW nG g o K h3 nG 0 0 ⟨0, gK, oK⟩ (by omega) (Nat.le_refl _) h4).trans h
  · cases h
theorem lp19j_ok : LoopS Try.prog x19i (lpG 2 d19j leaf19j) := by
  refine LoopS.pat (E := EH19) EH19_s pfl (LpC.none fun _ => rfl) (by rw [key19i]; rfl) kp19i fun dt K out h => ?_
  unfold leaf19j at h
  split at h
  · rename_i nn i z pc G nK nG nq nW n gK gq f g oK oq oW o
    cases hc : (decide (z = 0) && decide (i = 0) && decide (nn = (nq : Int)) && Nat.beq nG nq && Nat.beq nK 0 && Nat.ble nq 1000 && dOks gq nq 0) with
    | false => simp [hc] at h
    | true =>
      simp only [hc, cond_true] at h
      simp only [Bool.and_eq_true, decide_eq_true_eq, Nat.ble_eq] at hc
      obtain ⟨⟨⟨⟨⟨⟨rfl, rfl⟩, rfl⟩, h1⟩, h2⟩, h3⟩, h4⟩ := hc
      have h1 := Nat.eq_of_beq_eq_true h1
      have h2 := Nat.eq_of_beq_eq_true h2
      subst h1 h2
      refine ⟨0 + nG + 50, ?_⟩
      have e := gcS19j pc nG G ⟨0, gK, oK⟩ nW f oW n g o 0 ⟨nG, gq, oq⟩ (HeadK EH19 2 kp19i x19i (0 + nG + 50) K)
      rw [ref19j, key19i]
      refine e.trans ?_
      exact (head19j pc G nW f oW n g o K ⟨nG, gq, oq⟩ h3 nG 0 0 ⟨0, gK, oK⟩ (by simp) (Nat.le_refl _) h4).trans h
  · cases h
/-! The outer loop. -/
noncomputable def EHD1 : Env := (ED0.marks lv19 fun _ => none).loops fun i => bif Nat.beq i 6 then some (lpOr 2 d19i leaf19i (lpG 2 d19j leaf19j)) else none
theorem EHD1_s : EHD1.Sound := ED0_s.marks.loops
theorem EHD1_c : LpC EHD1 x19i := fun x hx f hf => by
  have e : loopsC x19i = [] := by kernel_rfl
  rw [e] at hx
  cases hx
theorem lp19a_ok : LoopS Try.prog x19i (lpOr 2 d19i leaf19i (lpG 2 d19j leaf19j)) := lp19i_ok.or lp19j_ok
def kp19 : Exit → Option (List Nat)
  | .ret => some [2]
  | .exit _ => some []
  | _ => none
def S19 (pc : Int) (l : List (Nat × LB)) : AS := ⟨.one .any :: .one (.pt 2 0) :: .one (.pt 3 0) :: anys 45, ⟨[(3, 26, .cells z26), (2, 26, .cells [.v (.int .u32 pc), .ow 0, .ow 1])], l, 4⟩⟩
def S19q (pc : Int) (q : RowL) (l : List (Nat × LB)) : AS := ⟨.one .any :: .one (.pt 2 0) :: .one (.pt 3 0) :: anys 45, ⟨[(3, 26, .cells z26), (2, 26, .cells [.v (.int .u32 pc), .ow 0, .ow 4])], (4, ⟨true, 31, q.bb opSh⟩) :: l, 5⟩⟩
def R19 (pc : Int) (l : List (Nat × LB)) : AS := ⟨.one .any :: .one .any :: .one (.pt 2 0) :: anys 45, ⟨[(2, 26, .cells [.v (.int .u32 pc), .ow 0, .ow 1])], l, 3⟩⟩
def R19q (pc : Int) (q : RowL) (l : List (Nat × LB)) : AS := ⟨.one .any :: .one .any :: .one (.pt 2 0) :: anys 45, ⟨[(2, 26, .cells [.v (.int .u32 pc), .ow 0, .ow 3])], (3, ⟨true, 31, q.bb opSh⟩) :: l, 4⟩⟩
/-- What is left in one round. -/
def stepR (ws : List Int) (n : Nat) (g : Nat → Nat → Int) : RowL := filtR (keepP (needsG ws n g) g) (opRow g) n 0 nilR
section
variable (pc : Int) (nW : Nat) (f : Nat → Nat → Int) (oW : Nat → Nat → ByteArray) (n : Nat) (g : Nat → Nat → Int) (o : Nat → Nat → ByteArray) (K : Exit → AS → Out)
theorem gcS19 (H : AS → Out) : gc 2 (EHD1.lv 3) (S19 pc (lB nW f oW n g o)) H = H (S19 pc (lB nW f oW n g o)) := by kernel_rfl
theorem rnd19 (H : AS → Out) (N : Nat) : ev EHD1 2 (N + 50) x19 (S19 pc (lB nW f oW n g o)) (rkG 2 (EHD1.lv 3) kp19 H K) =
    bif okN nW n g then bif decide ((0 : Int) = 0) && decide ((0 : Int) = 0) && decide ((n : Int) = (n : Int)) && Nat.beq n n && Nat.beq 0 0 && Nat.ble n 1000 && dOks g n 0 then
      bif ((stepR (tabW (fun k => f k 0) nW 0) n g).n : Int) == (n : Int) then K .ret (R19 pc (lB nW f oW n g o)) else H (S19q pc (stepR (tabW (fun k => f k 0) nW 0) n g) (lB nW f oW n g o)) else none else none := by kernel_rfl
theorem rnd19q (q : RowL) (H : AS → Out) (N : Nat) : ev EHD1 2 (N + 50) x19 (S19q pc q (lB nW f oW n g o)) (rkG 2 (EHD1.lv 3) kp19 H K) =
    bif okN nW q.n q.f then bif decide ((0 : Int) = 0) && decide ((0 : Int) = 0) && decide ((q.n : Int) = (q.n : Int)) && Nat.beq q.n q.n && Nat.beq 0 0 && Nat.ble q.n 1000 && dOks q.f q.n 0 then
      bif ((stepR (tabW (fun k => f k 0) nW 0) q.n q.f).n : Int) == (q.n : Int) then K .ret (R19q pc q (lB nW f oW n g o)) else H (S19q pc (stepR (tabW (fun k => f k 0) nW 0) q.n q.f) (lB nW f oW n g o)) else none else none := by kernel_rfl
end
end Go.Proofs.Ytjpeplidbodjiaa
/- live.Dead: its outer loop, summed up. -/
namespace Go.Proofs.Ytjpeplidbodjiaa
set_option maxRecDepth 100000
def opAt (g : Nat → Nat → Int) (i : Nat) : OpT := ⟨g i 0, g i 1, g i 2, g i 3, g i 4, g i 5⟩
theorem tabO_cons (g : Nat → Nat → Int) (c i : Nat) : tabO g (c + 1) i = opAt g i :: tabO g c (i + 1) := rfl
theorem tabO_snoc (g : Nat → Nat → Int) : ∀ c i, tabO g (c + 1) i = tabO g c i ++ [opAt g (i + c)]
  | 0, i => rfl
  | c + 1, i => by
    rw [tabO_cons, tabO_snoc g c (i + 1), tabO_cons, List.cons_append, show i + 1 + c = i + (c + 1) by omega]
theorem tabO_congr {g g' : Nat → Nat → Int} : ∀ {c i : Nat}, (∀ k, i ≤ k → k < i + c → opAt g k = opAt g' k) → tabO g c i = tabO g' c i
  | 0, i, _ => rfl
  | c + 1, i, h => by
    rw [tabO_cons, tabO_cons, h i (Nat.le_refl _) (by omega), tabO_congr fun k h1 h2 => h k (by omega) (by omega)]
/-- A list's operations. -/
def RowL.ops (r : RowL) : List OpT := tabO r.f r.n 0
theorem RowL.ops_len (r : RowL) : r.ops.length = r.n := tabO_len _ _ _
theorem ops_push (r : RowL) (g : Nat → Nat → Int) (i : Nat) : (r.push (opRow g i)).ops = r.ops ++ [opAt g i] := by
  have e : (r.push (opRow g i)).ops = tabO (r.push (opRow g i)).f (r.n + 1) 0 := rfl
  rw [e, tabO_snoc]
  congr 1
  · refine tabO_congr fun k _ h => ?_
    have hk : Nat.blt k r.n = true := by rw [Nat.blt_eq]; omega
    simp only [opAt, RowL.push, hk, cond_true]
  · have hk : Nat.blt (0 + r.n) r.n = false := blt_false (by omega)
    simp only [opAt, RowL.push, hk, cond_false]
    rfl
/-- Of a list those that are kept, by their numbers. -/
def filtT (p : Nat → Bool) : Nat → List OpT → List OpT
  | _, [] => []
  | i, q :: l => bif p i then q :: filtT p (i + 1) l else filtT p (i + 1) l
theorem ops_filtR (p : Nat → Bool) (g : Nat → Nat → Int) : ∀ (c i : Nat) (r : RowL), (filtR p (opRow g) c i r).ops = r.ops ++ filtT p i (tabO g c i)
  | 0, i, r => by simp [filtR, tabO, filtT]
  | c + 1, i, r => by
    rw [filtR, ops_filtR p g c (i + 1), tabO_cons, filtT]
    cases p i with
    | true => rw [cond_true, cond_true, ops_push, List.append_assoc]; rfl
    | false => rfl
theorem ops_stepR (ws : List Int) (n : Nat) (g : Nat → Nat → Int) : (stepR ws n g).ops = filtT (keepP (needsG ws n g) g) 0 (tabO g n 0) := by
  unfold stepR
  rw [ops_filtR]
  rfl
theorem filtT_sub (p : Nat → Bool) : ∀ (l : List OpT) (i : Nat), (filtT p i l).Sublist l
  | [], _ => List.Sublist.slnil
  | q :: l, i => by
    rw [filtT]
    cases p i with
    | true => exact (filtT_sub p l (i + 1)).cons_cons _
    | false => exact (filtT_sub p l (i + 1)).cons _
theorem filtT_last (p : Nat → Bool) : ∀ (l : List OpT) (i : Nat), 0 < l.length → p (i + (l.length - 1)) = true → (filtT p i l).getLast? = l.getLast?
  | [], _, h, _ => by simp at h
  | [q], i, _, h => by
    have h : p i = true := h
    simp [filtT, h]
  | q :: q' :: l, i, _, h => by
    have ih := filtT_last p (q' :: l) (i + 1) (by simp) (by
      have e : i + 1 + ((q' :: l).length - 1) = i + ((q :: q' :: l).length - 1) := by simp; omega
      rw [e]; exact h)
    rw [List.getLast?_cons_cons, ← ih, filtT]
    cases p i with
    | false => rfl
    | true =>
      simp only [cond_true]
      cases hf : filtT p (i + 1) (q' :: l) with
      | nil => rw [hf, List.getLast?_nil] at ih; exact absurd ih.symm (by simp [List.getLast?_cons])
      | cons a b => exact List.getLast?_cons_cons
def opInT (q : OpT) : Bool := decide (writesK q.k q.D < 64) && inR (listF (readsK q.k q.D q.A q.B)) (readsK q.k q.D q.A q.B).length 0
def dOkT (q : OpT) : Bool := !pureK q.k || (decide (0 ≤ q.D) && decide (q.D < 64))
/-- What is asked of a block's operations. -/
def okD (nW : Nat) (os : List OpT) : Bool := Nat.ble os.length 1000 && Nat.ble nW 1000 && (match os.getLast? with
  | some q => decide (0 ≤ q.A) && decide (q.A < 64) && !pureK q.k
  | none => false) && os.all fun q => opInT q && dOkT q
theorem opsIn_all (g : Nat → Nat → Int) : ∀ n, (tabO g n 0).all opInT = opsIn g n
  | 0 => rfl
  | n + 1 => by
    rw [tabO_snoc, List.all_append, opsIn_all g n, opsIn, Bool.and_comm]
    simp only [List.all_cons, List.all_nil, Bool.and_true, Nat.zero_add]
    rfl
theorem dOks_all (g : Nat → Nat → Int) : ∀ c i, (tabO g c i).all dOkT = dOks g c i
  | 0, _ => rfl
  | c + 1, i => by
    rw [tabO_cons, List.all_cons, dOks_all g c (i + 1), dOks]
    rfl
theorem last_tab (g : Nat → Nat → Int) (n : Nat) (h : 0 < n) : (tabO g n 0).getLast? = some (opAt g (n - 1)) := by
  obtain ⟨m, rfl⟩ : ∃ m, n = m + 1 := ⟨n - 1, by omega⟩
  rw [tabO_snoc]
  simp
theorem okD_parts {nW n : Nat} {g : Nat → Nat → Int} (h : okD nW (tabO g n 0) = true) : 0 < n ∧ n ≤ 1000 ∧ nW ≤ 1000 ∧ okN nW n g = true ∧ dOks g n 0 = true ∧ pureK (g (n - 1) 0) = false := by
  unfold okD at h
  rw [tabO_len] at h
  simp only [Bool.and_eq_true, Nat.ble_eq] at h
  obtain ⟨⟨⟨h1, h2⟩, h3⟩, h4⟩ := h
  have hn : 0 < n := by
    rcases Nat.eq_zero_or_pos n with h0 | h0
    · subst h0
      simp [tabO] at h3
    · exact h0
  rw [last_tab g n hn] at h3
  simp only [Bool.and_eq_true, decide_eq_true_eq, Bool.not_eq_true'] at h3
  have h5 : (tabO g n 0).all opInT = true ∧ (tabO g n 0).all dOkT = true := by
    simp only [List.all_eq_true, Bool.and_eq_true] at h4 ⊢
    exact ⟨fun q hq => (h4 q hq).1, fun q hq => (h4 q hq).2⟩
  rw [opsIn_all, dOks_all] at h5
  refine ⟨hn, h1, h2, ?_, h5.2, h3.2⟩
  unfold okN
  have e1 : Nat.ble n 100000 = true := by rw [Nat.ble_eq]; omega
  have e2 : Nat.ble nW 100000 = true := by rw [Nat.ble_eq]; omega
  rw [e1, e2, h5.1]
  have e3 : g (n - 1) 2 = (opAt g (n - 1)).A := rfl
  rw [e3, decide_eq_true h3.1.1, decide_eq_true h3.1.2]
  rfl
theorem keep_last {ws : List Int} {n : Nat} {g : Nat → Nat → Int} (h : pureK (g (n - 1) 0) = false) : keepP (needsG ws n g) g (n - 1) = true := by
  unfold keepP
  rw [h]
  rfl
theorem okD_step {nW n : Nat} {ws : List Int} {g : Nat → Nat → Int} (h : okD nW (tabO g n 0) = true) : okD nW (stepR ws n g).ops = true := by
  obtain ⟨h0, h1, h2, _, _, h5⟩ := okD_parts h
  rw [ops_stepR]
  unfold okD at h ⊢
  simp only [Bool.and_eq_true, Nat.ble_eq] at h ⊢
  have hs := filtT_sub (keepP (needsG ws n g) g) (tabO g n 0) 0
  have hl := hs.length_le
  rw [filtT_last _ _ _ (by rw [tabO_len]; exact h0) (by rw [tabO_len, Nat.zero_add]; exact keep_last h5)]
  refine ⟨⟨⟨by omega, h2⟩, h.1.2⟩, ?_⟩
  have h4 := h.2
  rw [List.all_eq_true] at h4 ⊢
  exact fun q hq => h4 q (hs.subset hq)
/-- What is left when nothing more goes. -/
def deadR (ws : List Int) : Nat → RowL → RowL
  | 0, q => q
  | c + 1, q => bif Nat.beq (stepR ws q.n q.f).n q.n then q else deadR ws c (stepR ws q.n q.f)
theorem stepR_le (ws : List Int) (n : Nat) (g : Nat → Nat → Int) : (stepR ws n g).n ≤ n := by
  have := filtR_le (keepP (needsG ws n g) g) (opRow g) n 0 nilR
  unfold stepR
  have e : nilR.n = 0 := rfl
  omega
theorem beq_cast (a b : Nat) : ((a : Int) == (b : Int)) = Nat.beq a b := by
  by_cases h : a = b
  · subst h
    rw [Nat.beq_refl]
    simp
  · have e : Nat.beq a b = false := by
      cases e : Nat.beq a b with
      | false => rfl
      | true => exact absurd (Nat.eq_of_beq_eq_true e) h
    rw [e]
    have h' : ¬ (a : Int) = (b : Int) := fun e => h (by omega)
    exact beq_eq_false_iff_ne.2 h'
section
variable (pc : Int) (nW : Nat) (f : Nat → Nat → Int) (oW : Nat → Nat → ByteArray) (n : Nat) (g : Nat → Nat → Int) (o : Nat → Nat → ByteArray) (K : Exit → AS → Out)
theorem rnd19q' (q : RowL) (H : AS → Out) (N : Nat) (h : okD nW q.ops = true) : ev EHD1 2 (N + 50) x19 (S19q pc q (lB nW f oW n g o)) (rkG 2 (EHD1.lv 3) kp19 H K) =
    bif Nat.beq (stepR (tabW (fun k => f k 0) nW 0) q.n q.f).n q.n then K .ret (R19q pc q (lB nW f oW n g o)) else H (S19q pc (stepR (tabW (fun k => f k 0) nW 0) q.n q.f) (lB nW f oW n g o)) := by
  obtain ⟨h0, h1, h2, h3, h4, _⟩ := okD_parts h
  refine (rnd19q pc nW f oW n g o K q H N).trans ?_
  have e : Nat.ble q.n 1000 = true := by rw [Nat.ble_eq]; exact h1
  rw [h3, h4, e, decide_eq_true (rfl : ((q.n : Nat) : Int) = (q.n : Int)), Nat.beq_refl, beq_cast]
  rfl
theorem rnd19' (H : AS → Out) (N : Nat) (h : okD nW (tabO g n 0) = true) : ev EHD1 2 (N + 50) x19 (S19 pc (lB nW f oW n g o)) (rkG 2 (EHD1.lv 3) kp19 H K) =
    bif Nat.beq (stepR (tabW (fun k => f k 0) nW 0) n g).n n then K .ret (R19 pc (lB nW f oW n g o)) else H (S19q pc (stepR (tabW (fun k => f k 0) nW 0) n g) (lB nW f oW n g o)) := by
  obtain ⟨h0, h1, h2, h3, h4, _⟩ := okD_parts h
  refine (rnd19 pc nW f oW n g o K H N).trans ?_
  have e : Nat.ble n 1000 = true := by rw [Nat.ble_eq]; exact h1
  rw [h3, h4, e, decide_eq_true (rfl : ((n : Nat) : Int) = (n : Int)), Nat.beq_refl, beq_cast]
  rfl
theorem head19q : ∀ (c N : Nat) (q : RowL), q.n < c → okD nW q.ops = true →
    HeadK EHD1 2 kp19 x19 (N + c + 50) K (S19q pc q (lB nW f oW n g o)) = K .ret (R19q pc (deadR (tabW (fun k => f k 0) nW 0) c q) (lB nW f oW n g o))
  | 0, N, q, h, _ => by omega
  | c + 1, N, q, h, hk => by
    rw [show N + (c + 1) + 50 = (N + c + 50) + 1 by omega, HeadK_succ (by rw [key19]; rfl), key19]
    refine (rnd19q' pc nW f oW n g o K q _ (N + c + 1) hk).trans ?_
    rw [deadR]
    have hle := stepR_le (tabW (fun k => f k 0) nW 0) q.n q.f
    have hst := okD_step (ws := tabW (fun k => f k 0) nW 0) hk
    have ih := head19q c N (stepR (tabW (fun k => f k 0) nW 0) q.n q.f)
    cases hb : Nat.beq (stepR (tabW (fun k => f k 0) nW 0) q.n q.f).n q.n with
    | true => simp only [cond_true]
    | false =>
      have hne := Nat.ne_of_beq_eq_false hb
      simp only [cond_false]
      exact ih (by omega) hst
/-- The whole loop. -/
theorem head19 (N : Nat) (h : okD nW (tabO g n 0) = true) : HeadK EHD1 2 kp19 x19 (N + n + 52) K (S19 pc (lB nW f oW n g o)) =
    bif Nat.beq (stepR (tabW (fun k => f k 0) nW 0) n g).n n then K .ret (R19 pc (lB nW f oW n g o)) else K .ret (R19q pc (deadR (tabW (fun k => f k 0) nW 0) (n + 1) (stepR (tabW (fun k => f k 0) nW 0) n g)) (lB nW f oW n g o)) := by
  rw [show N + n + 52 = (N + (n + 1) + 50) + 1 by omega, HeadK_succ (by rw [key19]; rfl), key19]
  refine (rnd19' pc nW f oW n g o K _ (N + n + 2) h).trans ?_
  have hle := stepR_le (tabW (fun k => f k 0) nW 0) n g
  have := head19q pc nW f oW n g o K (n + 1) N (stepR (tabW (fun k => f k 0) nW 0) n g) (by omega) (okD_step h)
  cases Nat.beq (stepR (tabW (fun k => f k 0) nW 0) n g).n n with
  | true => simp only [cond_true]
  | false =>
    simp only [cond_false]
    exact this
end
end Go.Proofs.Ytjpeplidbodjiaa
/- live.Dead: what a block that may be gives; the summary. -/
namespace Go.Proofs.Ytjpeplidbodjiaa
set_option maxRecDepth 100000
theorem placeB_range {p : Int} {b : Bool} (h : placeB p b = true) : 0 ≤ p ∧ p < 64 := by
  cases b with
  | true => have := placeB_in h; omega
  | false =>
    unfold placeB at h
    simp only [cond_false] at h
    have := eq_of_beq h
    omega
theorem fieldsK_range {W k D A B I t : Int} (h : fieldsK W k D A B I t = true) : (0 ≤ A ∧ A < 64) ∧ (0 ≤ B ∧ B < 64) ∧ (0 ≤ D ∧ D < 64) ∧ 0 ≤ t ∧ t < W := by
  unfold fieldsK at h
  simp only [Bool.and_eq_true, Bool.not_eq_true', decide_eq_false_iff_not] at h
  obtain ⟨_, h1, h2, h3, h4, h5, _⟩ := h
  exact ⟨placeB_range h3, placeB_range h4, placeB_range h5, by omega, by omega⟩
theorem fields_op {W k D A B I t : Int} (h : fieldsK W k D A B I t = true) : opInT ⟨k, D, A, B, I, t⟩ = true ∧ dOkT ⟨k, D, A, B, I, t⟩ = true := by
  obtain ⟨hA, hB, hD, _⟩ := fieldsK_range h
  have iA : (decide (0 ≤ A) && decide (A < 64)) = true := by rw [decide_eq_true hA.1, decide_eq_true hA.2]; rfl
  have iB : (decide (0 ≤ B) && decide (B < 64)) = true := by rw [decide_eq_true hB.1, decide_eq_true hB.2]; rfl
  have iD : (decide (0 ≤ D) && decide (D < 64)) = true := by rw [decide_eq_true hD.1, decide_eq_true hD.2]; rfl
  constructor
  · unfold opInT
    rw [Bool.and_eq_true]
    constructor
    · apply decide_eq_true
      show writesK k D < 64
      unfold writesK
      cases (shpK k).w with
      | true => exact hD.2
      | false => exact (by decide : (-1 : Int) < 64)
    · show inR (listF (readsK k D A B)) (readsK k D A B).length 0 = true
      unfold readsK
      cases (shpK k).a <;> cases (shpK k).b <;> cases (shpK k).d <;> simp [inR, listF, hA.1, hA.2, hB.1, hB.2, hD.1, hD.2]
  · show (!pureK k || (decide (0 ≤ D) && decide (D < 64))) = true
    rw [iD, Bool.or_true]
theorem chkL_all {W : Int} {n : Nat} : ∀ {os : List OpT} {i : Nat} {t : Int} {F : Nat → Nat → Bool}, chkL W n i os t F = true → i + os.length = n → (∀ q ∈ os, fieldsK W q.k q.D q.A q.B q.I q.t = true) ∧ (∀ q, os.getLast? = some q → q.k ≥ 60) ∧ (∀ q, q ∈ os.dropLast → ¬ q.k ≥ 60)
  | [], i, t, F, _, _ => ⟨fun q hq => (by cases hq), fun q hq => (by simp at hq), fun q hq => (by simp at hq)⟩
  | q :: r, i, t, F, h, hn => by
    simp only [chkL, stepL, Bool.and_eq_true] at h
    obtain ⟨⟨h1, _, h2⟩, h3⟩ := h
    obtain ⟨g1, g2, g3⟩ := chkL_all h3 (by simp at hn; omega)
    have hf : fieldsK W q.k q.D q.A q.B q.I q.t = true := by
      unfold rightK at h1
      rw [Bool.and_eq_true] at h1
      exact h1.1
    refine ⟨fun q' hq => ?_, fun q' hq => ?_, fun q' hq => ?_⟩
    · rcases List.mem_cons.1 hq with rfl | hq
      · exact hf
      · exact g1 q' hq
    · cases r with
      | nil =>
        simp only [List.getLast?_singleton, Option.some.injEq] at hq
        subst hq
        have e : ((i : Int) == (n : Int) - 1) = true := by
          simp only [List.length_cons, List.length_nil] at hn
          rw [beq_iff_eq]
          omega
        rw [e] at h2
        have := eq_of_beq h2
        exact of_decide_eq_true this
      | cons a b =>
        rw [List.getLast?_cons_cons] at hq
        exact g2 q' hq
    · cases r with
      | nil => simp at hq
      | cons a b =>
        rw [List.dropLast_cons_of_ne_nil (by simp)] at hq
        rcases List.mem_cons.1 hq with rfl | hq
        · have e : ((i : Int) == (n : Int) - 1) = false := by
            simp only [List.length_cons] at hn
            rw [beq_eq_false_iff_ne]
            omega
          rw [e] at h2
          have := eq_of_beq h2
          exact of_decide_eq_false this
        · exact g3 q' hq
theorem headL_parts {pc : Int} {ws : List Int} {n : Nat} (h : headL pc ws n = true) : rightL ws = true ∧ 1 ≤ n ∧ n ≤ 120 ∧ pc.tmod 4 = 0 := by
  unfold headL at h
  cases h1 : (pc.tmod 4 != 0) with
  | true => rw [h1] at h; cases h
  | false =>
    rw [h1] at h
    simp only [cond_false] at h
    have e1 : pc.tmod 4 = 0 := by simpa using h1
    cases h2 : rightL ws with
    | false =>
      rw [h2] at h
      exact absurd h (by simp)
    | true =>
      rw [h2] at h
      generalize decide (IntKind.u64.wrap (IntKind.u64.wrap pc + IntKind.u64.wrap (4 * IntKind.u64.wrap (ws.length : Int))) > 4294967296) = b1 at h
      by_cases h3 : (n : Int) < 1
      · rw [decide_eq_true h3] at h
        cases b1 <;> exact absurd h (by simp)
      · rw [decide_eq_false h3] at h
        by_cases h4 : (n : Int) > 120
        · rw [decide_eq_true h4] at h
          cases b1 <;> exact absurd h (by simp)
        · exact ⟨rfl, by omega, by omega, e1⟩
theorem rightL_len {ws : List Int} (h : rightL ws = true) : 1 ≤ ws.length ∧ ws.length ≤ 16 := by
  unfold rightL at h
  by_cases h3 : (ws.length : Int) < 1
  · rw [decide_eq_true h3] at h
    cases h
  · rw [decide_eq_false h3] at h
    by_cases h4 : (ws.length : Int) > 16
    · rw [decide_eq_true h4] at h
      cases h
    · omega
theorem check_okD {pc : Int} {ws : List Int} {os : List OpT} (h : checkL pc ws os = true) : okD ws.length os = true := by
  unfold checkL at h
  rw [Bool.and_eq_true] at h
  obtain ⟨h1, h2, h3, _⟩ := headL_parts h.1
  obtain ⟨g1, g2, _⟩ := chkL_all h.2 (by simp)
  have hw := rightL_len h1
  unfold okD
  simp only [Bool.and_eq_true, Nat.ble_eq]
  refine ⟨⟨⟨by omega, by omega⟩, ?_⟩, ?_⟩
  · cases hl : os.getLast? with
    | none =>
      rw [List.getLast?_eq_none_iff] at hl
      rw [hl] at h2
      simp at h2
    | some q =>
      have hm : q ∈ os := List.mem_of_getLast? hl
      have hr := fieldsK_range (g1 q hm)
      have hk := g2 q hl
      simp only [Bool.and_eq_true, decide_eq_true_eq, Bool.not_eq_true']
      refine ⟨hr.1, ?_⟩
      unfold pureK
      rw [decide_eq_true (show q.k ≥ 1 by omega), decide_eq_false (show ¬ q.k ≤ 30 by omega)]
      rfl
  · rw [List.all_eq_true]
    intro q hq
    rw [Bool.and_eq_true]
    exact fields_op (g1 q hq)
def d19 : AS := S19 0 lB0
def leaf19 (dt : Dt) (K : Exit → AS → Out) : Out := match dt with
  | ⟨[z, pc], [], [], [nW, n], [f, g], [oW, o], []⟩ => bif decide (z = 0) && okD nW (tabO g n 0) then
      (bif Nat.beq (stepR (tabW (fun k => f k 0) nW 0) n g).n n then K .ret (R19 pc (lB nW f oW n g o)) else K .ret (R19q pc (deadR (tabW (fun k => f k 0) nW 0) (n + 1) (stepR (tabW (fun k => f k 0) nW 0) n g)) (lB nW f oW n g o))) else none
  | _ => none
theorem ref19 (pc : Int) (nW n : Nat) (f g : Nat → Nat → Int) (oW o : Nat → Nat → ByteArray) : refS d19 ⟨[0, pc], [], [], [nW, n], [f, g], [oW, o], []⟩ = S19 pc (lB nW f oW n g o) := by kernel_rfl
theorem EHD1_n : EHD1.lp (keyC x19) = none := by rw [key19]; rfl
theorem EHD1_i : EHD1.lp (keyC x19i) = some (lpOr 2 d19i leaf19i (lpG 2 d19j leaf19j)) := by rw [key19i]; rfl
theorem EHD1_lp : LpC EHD1 (.loop x19) := fun x hx f hf => by
  rcases List.mem_cons.1 (show x ∈ x19 :: loopsC x19 from hx) with rfl | hx
  · rw [EHD1_n] at hf
    cases hf
  · rw [loops19o] at hx
    have hx : x = x19i := by simpa using hx
    subst hx
    rw [EHD1_i] at hf
    injection hf with hf
    subst hf
    exact lp19a_ok
theorem lp19_ok : LoopS Try.prog x19 (lpG 2 d19 leaf19) := by
  refine LoopS.pat (E := EHD1) EHD1_s pfl EHD1_lp EHD1_n kp19 fun dt K out h => ?_
  unfold leaf19 at h
  split at h
  · rename_i z pc nW n f g oW o
    cases hc : (decide (z = 0) && okD nW (tabO g n 0)) with
    | false => simp [hc] at h
    | true =>
      simp only [hc, cond_true] at h
      simp only [Bool.and_eq_true, decide_eq_true_eq] at hc
      obtain ⟨rfl, hk⟩ := hc
      refine ⟨0 + n + 52, ?_⟩
      rw [ref19, key19, gcS19]
      exact (head19 pc nW f oW n g o K 0 hk).trans h
  · cases h
noncomputable def EHD2 : Env := (ED0.marks lv19 fun _ => none).loops fun i => bif Nat.beq i 6 then some (lpOr 2 d19i leaf19i (lpG 2 d19j leaf19j)) else bif Nat.beq i 3 then some (lpG 2 d19 leaf19) else none
theorem EHD2_s : EHD2.Sound := ED0_s.marks.loops
theorem EHD2_lp : LpF EHD2 Try.f19 := LpF.of fun x hx f hf => by
  rw [loops19] at hx
  simp only [List.mem_cons, List.not_mem_nil, or_false] at hx
  rcases hx with rfl | rfl
  · have e : EHD2.lp (keyC x19) = some (lpG 2 d19 leaf19) := by rw [key19]; rfl
    rw [e] at hf
    injection hf with hf
    subst hf
    exact lp19_ok
  · have e : EHD2.lp (keyC x19i) = some (lpOr 2 d19i leaf19i (lpG 2 d19j leaf19j)) := by rw [key19i]; rfl
    rw [e] at hf
    injection hf with hf
    subst hf
    exact lp19a_ok
theorem has19 : hasFn Try.prog 19 Try.f19 := ⟨by kernel_rfl, by kernel_rfl, by kernel_rfl⟩
def same19 (pc : Int) : Out := canO false [.agg [.v (.int .u32 pc), .ow 0, .ow 1]] [] 2
def diff19 (pc : Int) (q : RowL) : Out := canO false [.agg [.v (.int .u32 pc), .ow 0, .ow 2]] [encL (2, ⟨true, 31, q.bb opSh⟩)] 3
theorem t19 (pc : Int) (nW : Nat) (f : Nat → Nat → Int) (oW : Nat → Nat → ByteArray) (n : Nat) (g : Nat → Nat → Int) (o : Nat → Nat → ByteArray) : evC EHD2 Try.f19 200 [.agg [.v (.int .u32 pc), .ow 0, .ow 1]] ⟨[], lB nW f oW n g o, 2⟩ (canG 2) =
    bif !checkL pc (tabW (fun k => f k 0) nW 0) (tabO g n 0) then same19 pc else
      bif okD nW (tabO g n 0) then (bif Nat.beq (stepR (tabW (fun k => f k 0) nW 0) n g).n n then same19 pc else diff19 pc (deadR (tabW (fun k => f k 0) nW 0) (n + 1) (stepR (tabW (fun k => f k 0) nW 0) n g))) else none := by kernel_rfl
end Go.Proofs.Ytjpeplidbodjiaa
/- The same lists? -/
namespace Go.Proofs.Ytjpeplidbodjiaa
set_option maxRecDepth 100000
noncomputable def E0' : Env := (Env.empty Try.prog).allocs
theorem E0'_s : E0'.Sound := (Env.empty_sound _).allocs
def kpS : Exit → Option (List Nat)
  | .ret => some [4]
  | .exit _ => some []
  | _ => none
/-- Element k of n, of z cells. -/
def ixZ (z n : Nat) (k : Int) (x : Out) : Out := bif decide (0 ≤ k) && decide (k < (n : Int)) then bif decide (k.toNat < n) && decide (0 < z) then x else none else none
theorem ixZ_in {z n : Nat} {k : Int} {x : Out} (h0 : 0 ≤ k) (h1 : k < (n : Int)) (hz : 0 < z) : ixZ z n k x = x := by
  unfold ixZ
  rw [decide_eq_true h0, decide_eq_true h1, decide_eq_true (show k.toNat < n by omega), decide_eq_true hz]
  rfl
def asW (lb : LB) : Option (Nat × (Nat → Nat → Int)) := match lb with
  | ⟨false, e, .row sh n f _⟩ => bif Nat.beq e 22 && eqSh sh [.i .u32] then some (n, f) else none
  | _ => none
def asI (lb : LB) : Option (Nat × (Nat → Nat → Int)) := match lb with
  | ⟨false, e, .row sh n f _⟩ => bif Nat.beq e 3 && eqSh sh [.i .i64] then some (n, f) else none
  | _ => none
def asO (lb : LB) : Option (Nat × (Nat → Nat → Int)) := match lb with
  | ⟨false, e, .row sh n f _⟩ => bif Nat.beq e 31 && eqSh sh opSh then some (n, f) else none
  | _ => none
theorem asRow {lb : LB} {t : Nat} {s : List CK} {n : Nat} {f : Nat → Nat → Int} (h : (match lb with
  | ⟨false, e, .row sh n f _⟩ => bif Nat.beq e t && eqSh sh s then some (n, f) else none
  | _ => none) = some (n, f)) : ∃ o, lb = ⟨false, t, .row s n f o⟩ := by
  split at h
  · rename_i e sh n' f' o
    cases hb : (Nat.beq e t && eqSh sh s) with
    | false => simp [hb] at h
    | true =>
      simp only [hb, cond_true, Option.some.injEq, Prod.mk.injEq] at h
      rw [Bool.and_eq_true] at hb
      rw [Nat.eq_of_beq_eq_true hb.1, eqSh_eq' hb.2, h.1, h.2]
      exact ⟨_, rfl⟩
  · cases h
theorem asW_spec {lb : LB} {n : Nat} {f : Nat → Nat → Int} (h : asW lb = some (n, f)) : ∃ o, lb = ⟨false, 22, .row [.i .u32] n f o⟩ := asRow h
theorem asI_spec {lb : LB} {n : Nat} {f : Nat → Nat → Int} (h : asI lb = some (n, f)) : ∃ o, lb = ⟨false, 3, .row [.i .i64] n f o⟩ := asRow h
theorem asO_spec {lb : LB} {n : Nat} {f : Nat → Nat → Int} (h : asO lb = some (n, f)) : ∃ o, lb = ⟨false, 31, .row opSh n f o⟩ := asRow h
/-- A list's numbers. -/
def tabI (f : Nat → Nat → Int) (r i : Nat) : List Int := tabW (fun k => f k 0) r i
theorem tabI_len (f : Nat → Nat → Int) (r i : Nat) : (tabI f r i).length = r := tabW_len _ _ _
noncomputable def x60 : Code := loopF Try.f60
theorem loops60 : loopsC (bodyC Try.f60) = [x60] := by kernel_rfl
theorem key60 : keyC x60 = 4 := by kernel_rfl
noncomputable def ES60 : Env := E0'.marks (fun i => bif Nat.beq i 4 then some [0, 1, 5] else none) fun _ => none
theorem ES60_s : ES60.Sound := E0'_s.marks
def l60 (n : Nat) (g : Nat → Nat → Int) (o : Nat → Nat → ByteArray) (n' : Nat) (g' : Nat → Nat → Int) (o' : Nat → Nat → ByteArray) : List (Nat × LB) := [(0, ⟨false, 22, .row [.i .u32] n g o⟩), (1, ⟨false, 22, .row [.i .u32] n' g' o'⟩)]
def S60 (i : Int) (l : List (Nat × LB)) : AS := ⟨.one (.ow 0) :: .one (.ow 1) :: .one .any :: .one .any :: .one .any :: .one (.v (.int .i64 i)) :: anys 20, ⟨[], l, 2⟩⟩
def X60 (l : List (Nat × LB)) : AS := ⟨anys 26, ⟨[], l, 2⟩⟩
def R60 (l : List (Nat × LB)) : AS := ⟨.one .any :: .one .any :: .one .any :: .one .any :: .one (.v (.bool false)) :: anys 21, ⟨[], l, 2⟩⟩
section
variable (n : Nat) (g : Nat → Nat → Int) (o : Nat → Nat → ByteArray) (n' : Nat) (g' : Nat → Nat → Int) (o' : Nat → Nat → ByteArray) (K : Exit → AS → Out)
theorem gcS60 (i : Int) (H : AS → Out) : gc 2 (ES60.lv 4) (S60 i (l60 n g o n' g' o')) H = H (S60 i (l60 n g o n' g' o')) := by kernel_rfl
theorem rnd60 (i : Int) (H : AS → Out) (N : Nat) : ev ES60 2 (N + 30) x60 (S60 i (l60 n g o n' g' o')) (rkG 2 (ES60.lv 4) kpS H K) =
    bif decide (i < (n : Int)) then ixZ 1 n i (ixZ 1 n' i (bif g i.toNat 0 != g' i.toNat 0 then K .ret (R60 (l60 n g o n' g' o')) else H (S60 (IntKind.i64.wrap (i + 1)) (l60 n g o n' g' o')))) else K (.exit 0) (X60 (l60 n g o n' g' o')) := by kernel_rfl
def eqR60 (g g' : Nat → Nat → Int) : Nat → Nat → Bool
  | 0, _ => true
  | c + 1, i => (g i 0 == g' i 0) && eqR60 g g' c (i + 1)
theorem head60 (hn : n ≤ 100000) (hn' : n = n') : ∀ (c i N : Nat), i + c = n → HeadK ES60 2 kpS x60 (N + c + 30) K (S60 i (l60 n g o n' g' o')) = bif eqR60 g g' c i then K (.exit 0) (X60 (l60 n g o n' g' o')) else K .ret (R60 (l60 n g o n' g' o'))
  | 0, i, N, h => by
    rw [show N + 0 + 30 = (N + 29) + 1 by omega, HeadK_succ (by rw [key60]; rfl), key60]
    refine (rnd60 n g o n' g' o' K i _ N).trans ?_
    rw [decide_eq_false (show ¬ (i : Int) < (n : Int) by omega)]
    simp only [cond_false, eqR60, cond_true]
  | c + 1, i, N, h => by
    rw [show N + (c + 1) + 30 = (N + c + 30) + 1 by omega, HeadK_succ (by rw [key60]; rfl), key60]
    refine (rnd60 n g o n' g' o' K i _ (N + c + 1)).trans ?_
    have e4 : IntKind.i64.wrap ((i : Int) + 1) = ((i + 1 : Nat) : Int) := by rw [IntKind.wrap_i64]; omega
    have e6 : (i : Int).toNat = i := by omega
    have ih := head60 hn hn' c (i + 1) N (by omega)
    rw [ixZ_in (by omega) (by omega) (by decide), ixZ_in (by omega) (by omega) (by decide), e4, e6, decide_eq_true (show (i : Int) < (n : Int) by omega), eqR60]
    generalize HeadK ES60 2 kpS x60 (N + c + 30) K (S60 ((i + 1 : Nat) : Int) (l60 n g o n' g' o')) = H1 at ih ⊢
    rw [ih]
    generalize K .ret (R60 (l60 n g o n' g' o')) = y1
    generalize K (.exit 0) (X60 (l60 n g o n' g' o')) = y2
    have e7 : (g i 0 != g' i 0) = !(g i 0 == g' i 0) := rfl
    rw [e7]
    cases (g i 0 == g' i 0) <;> cases eqR60 g g' c (i + 1) <;> rfl
end
def d60 : AS := S60 0 (l60 0 (fun _ _ => 0) (fun _ _ => ByteArray.empty) 0 (fun _ _ => 0) (fun _ _ => ByteArray.empty))
def leaf60 (dt : Dt) (K : Exit → AS → Out) : Out := match dt with
  | ⟨[i], [], [], [n, n'], [g, g'], [o, o'], []⟩ => bif decide (i = 0) && Nat.ble n 100000 && Nat.beq n n' then (bif eqR60 g g' n 0 then K (.exit 0) (X60 (l60 n g o n' g' o')) else K .ret (R60 (l60 n g o n' g' o'))) else none
  | _ => none
theorem ref60 (i : Int) (n n' : Nat) (g g' : Nat → Nat → Int) (o o' : Nat → Nat → ByteArray) : refS d60 ⟨[i], [], [], [n, n'], [g, g'], [o, o'], []⟩ = S60 i (l60 n g o n' g' o') := by kernel_rfl
theorem lp60_ok : LoopS Try.prog x60 (lpG 2 d60 leaf60) := by
  refine LoopS.pat (E := ES60) ES60_s pfl (LpC.none fun _ => rfl) (by rw [key60]; rfl) kpS fun dt K out h => ?_
  unfold leaf60 at h
  split at h
  · rename_i i n n' g g' o o'
    cases hc : (decide (i = 0) && Nat.ble n 100000 && Nat.beq n n') with
    | false => simp [hc] at h
    | true =>
      simp only [hc, cond_true] at h
      simp only [Bool.and_eq_true, decide_eq_true_eq, Nat.ble_eq] at hc
      obtain ⟨⟨rfl, h1⟩, h2⟩ := hc
      refine ⟨0 + n + 30, ?_⟩
      rw [ref60, key60, gcS60]
      exact (head60 n g o n' g' o' K h1 (Nat.eq_of_beq_eq_true h2) n 0 0 (by omega)).trans h
  · cases h
noncomputable def ET60 : Env := (E0'.marks (fun i => bif Nat.beq i 4 then some [0, 1, 5] else none) fun _ => none).loops fun i => bif Nat.beq i 4 then some (lpG 2 d60 leaf60) else none
theorem ET60_s : ET60.Sound := E0'_s.marks.loops
theorem ET60_lp : LpF ET60 Try.f60 := LpF.of fun x hx f hf => by
  rw [loops60] at hx
  have hx : x = x60 := by simpa using hx
  subst hx
  have e : ET60.lp (keyC x60) = some (lpG 2 d60 leaf60) := by rw [key60]; rfl
  rw [e] at hf
  injection hf with hf
  subst hf
  exact lp60_ok
theorem has60 : hasFn Try.prog 60 Try.f60 := ⟨by kernel_rfl, by kernel_rfl, by kernel_rfl⟩
theorem t60 (n : Nat) (g : Nat → Nat → Int) (o : Nat → Nat → ByteArray) (n' : Nat) (g' : Nat → Nat → Int) (o' : Nat → Nat → ByteArray) : evV ET60 Try.f60 100 [.one (.ow 0), .one (.ow 1)] ⟨[], l60 n g o n' g' o', 2⟩ =
    bif (n : Int) != (n' : Int) then some (boolV false, hh0) else bif decide ((0 : Int) = 0) && Nat.ble n 100000 && Nat.beq n n' then (bif eqR60 g g' n 0 then some (boolV true, hh0) else some (boolV false, hh0)) else none := by kernel_rfl
/-- The same lists? -/
def same60 (a b : List Int) : Bool := match a, b with
  | [], [] => true
  | x :: r, y :: s => (x == y) && same60 r s
  | _, _ => false
theorem eqR60_eq (g g' : Nat → Nat → Int) : ∀ c i, eqR60 g g' c i = same60 (tabI g c i) (tabI g' c i)
  | 0, _ => rfl
  | c + 1, i => by
    rw [eqR60, eqR60_eq g g' c (i + 1)]
    rfl
theorem same60_len : ∀ {a b : List Int}, a.length ≠ b.length → same60 a b = false
  | [], [], h => absurd rfl h
  | x :: r, y :: s, h => by
    simp only [same60]
    rw [same60_len (fun e => h (by simp [e])), Bool.and_false]
  | [], _ :: _, _ => rfl
  | _ :: _, [], _ => rfl
theorem same60_refl : ∀ (a : List Int), same60 a a = true
  | [] => rfl
  | x :: r => by simp [same60, same60_refl r]
theorem same60_eq : ∀ {a b : List Int}, same60 a b = true → a = b
  | [], [], _ => rfl
  | x :: r, y :: s, h => by
    simp only [same60, Bool.and_eq_true] at h
    rw [same60_eq h.2]
    rw [eq_of_beq h.1]
  | [], _ :: _, h => by cases h
  | _ :: _, [], h => by cases h
theorem t60' (n : Nat) (g : Nat → Nat → Int) (o : Nat → Nat → ByteArray) (n' : Nat) (g' : Nat → Nat → Int) (o' : Nat → Nat → ByteArray) (hn : n ≤ 100000) : evV ET60 Try.f60 100 [.one (.ow 0), .one (.ow 1)] ⟨[], l60 n g o n' g' o', 2⟩ = some (boolV (same60 (tabI g n 0) (tabI g' n' 0)), hh0) := by
  rw [t60]
  by_cases h : n = n'
  · subst h
    have e : ((n : Int) != (n : Int)) = false := by simp
    have e1 : Nat.ble n 100000 = true := by rw [Nat.ble_eq]; exact hn
    rw [e, e1, Nat.beq_refl, eqR60_eq]
    cases same60 (tabI g n 0) (tabI g' n 0) <;> rfl
  · have e : ((n : Int) != (n' : Int)) = true := by
      rw [bne_iff_ne]
      omega
    rw [e, same60_len (by rw [tabI_len, tabI_len]; exact h)]
    rfl
def F60 (args : List AV) (l : List (Nat × LB)) : Option (Bool × AV) := match args, l with
  | [.one (.ow 0), .one (.ow 1)], [(0, la), (1, lb)] => (match asW la, asW lb with
    | some (n, g), some (n', g') => some (Nat.ble n 100000, boolV (same60 (tabI g n 0) (tabI g' n' 0)))
    | _, _ => none)
  | _, _ => none
theorem q60_ok : CallQ Try.prog 60 (handQ F60) := by
  refine CallQ.hand (E := ET60) ET60_s pfl ET60_lp has60 fun args l v h => ?_
  unfold F60 at h
  split at h
  · rename_i la lb
    split at h
    · rename_i n g n' g' ha hb
      obtain ⟨o, rfl⟩ := asW_spec ha
      obtain ⟨o', rfl⟩ := asW_spec hb
      simp only [Option.some.injEq, Prod.mk.injEq, Nat.ble_eq] at h
      obtain ⟨h1, rfl⟩ := h
      exact ⟨rfl, 100, hh0, t60' n g o n' g' o' h1⟩
    · cases h
  · cases h
noncomputable def x26 : Code := loopF Try.f26
theorem loops26 : loopsC (bodyC Try.f26) = [x26] := by kernel_rfl
theorem key26 : keyC x26 = 4 := by kernel_rfl
noncomputable def ES26 : Env := E0'.marks (fun i => bif Nat.beq i 4 then some [0, 1, 5] else none) fun _ => none
theorem ES26_s : ES26.Sound := E0'_s.marks
def l26 (n : Nat) (g : Nat → Nat → Int) (o : Nat → Nat → ByteArray) (n' : Nat) (g' : Nat → Nat → Int) (o' : Nat → Nat → ByteArray) : List (Nat × LB) := [(0, ⟨false, 3, .row [.i .i64] n g o⟩), (1, ⟨false, 3, .row [.i .i64] n' g' o'⟩)]
def S26 (i : Int) (l : List (Nat × LB)) : AS := ⟨.one (.ow 0) :: .one (.ow 1) :: .one .any :: .one .any :: .one .any :: .one (.v (.int .i64 i)) :: anys 20, ⟨[], l, 2⟩⟩
def X26 (l : List (Nat × LB)) : AS := ⟨anys 26, ⟨[], l, 2⟩⟩
def R26 (l : List (Nat × LB)) : AS := ⟨.one .any :: .one .any :: .one .any :: .one .any :: .one (.v (.bool false)) :: anys 21, ⟨[], l, 2⟩⟩
section
variable (n : Nat) (g : Nat → Nat → Int) (o : Nat → Nat → ByteArray) (n' : Nat) (g' : Nat → Nat → Int) (o' : Nat → Nat → ByteArray) (K : Exit → AS → Out)
theorem gcS26 (i : Int) (H : AS → Out) : gc 2 (ES26.lv 4) (S26 i (l26 n g o n' g' o')) H = H (S26 i (l26 n g o n' g' o')) := by kernel_rfl
theorem rnd26 (i : Int) (H : AS → Out) (N : Nat) : ev ES26 2 (N + 30) x26 (S26 i (l26 n g o n' g' o')) (rkG 2 (ES26.lv 4) kpS H K) =
    bif decide (i < (n : Int)) then ixZ 1 n i (ixZ 1 n' i (bif g i.toNat 0 != g' i.toNat 0 then K .ret (R26 (l26 n g o n' g' o')) else H (S26 (IntKind.i64.wrap (i + 1)) (l26 n g o n' g' o')))) else K (.exit 0) (X26 (l26 n g o n' g' o')) := by kernel_rfl
def eqR26 (g g' : Nat → Nat → Int) : Nat → Nat → Bool
  | 0, _ => true
  | c + 1, i => (g i 0 == g' i 0) && eqR26 g g' c (i + 1)
theorem head26 (hn : n ≤ 100000) (hn' : n = n') : ∀ (c i N : Nat), i + c = n → HeadK ES26 2 kpS x26 (N + c + 30) K (S26 i (l26 n g o n' g' o')) = bif eqR26 g g' c i then K (.exit 0) (X26 (l26 n g o n' g' o')) else K .ret (R26 (l26 n g o n' g' o'))
  | 0, i, N, h => by
    rw [show N + 0 + 30 = (N + 29) + 1 by omega, HeadK_succ (by rw [key26]; rfl), key26]
    refine (rnd26 n g o n' g' o' K i _ N).trans ?_
    rw [decide_eq_false (show ¬ (i : Int) < (n : Int) by omega)]
    simp only [cond_false, eqR26, cond_true]
  | c + 1, i, N, h => by
    rw [show N + (c + 1) + 30 = (N + c + 30) + 1 by omega, HeadK_succ (by rw [key26]; rfl), key26]
    refine (rnd26 n g o n' g' o' K i _ (N + c + 1)).trans ?_
    have e4 : IntKind.i64.wrap ((i : Int) + 1) = ((i + 1 : Nat) : Int) := by rw [IntKind.wrap_i64]; omega
    have e6 : (i : Int).toNat = i := by omega
    have ih := head26 hn hn' c (i + 1) N (by omega)
    rw [ixZ_in (by omega) (by omega) (by decide), ixZ_in (by omega) (by omega) (by decide), e4, e6, decide_eq_true (show (i : Int) < (n : Int) by omega), eqR26]
    generalize HeadK ES26 2 kpS x26 (N + c + 30) K (S26 ((i + 1 : Nat) : Int) (l26 n g o n' g' o')) = H1 at ih ⊢
    rw [ih]
    generalize K .ret (R26 (l26 n g o n' g' o')) = y1
    generalize K (.exit 0) (X26 (l26 n g o n' g' o')) = y2
    have e7 : (g i 0 != g' i 0) = !(g i 0 == g' i 0) := rfl
    rw [e7]
    cases (g i 0 == g' i 0) <;> cases eqR26 g g' c (i + 1) <;> rfl
end
def d26 : AS := S26 0 (l26 0 (fun _ _ => 0) (fun _ _ => ByteArray.empty) 0 (fun _ _ => 0) (fun _ _ => ByteArray.empty))
def leaf26 (dt : Dt) (K : Exit → AS → Out) : Out := match dt with
  | ⟨[i], [], [], [n, n'], [g, g'], [o, o'], []⟩ => bif decide (i = 0) && Nat.ble n 100000 && Nat.beq n n' then (bif eqR26 g g' n 0 then K (.exit 0) (X26 (l26 n g o n' g' o')) else K .ret (R26 (l26 n g o n' g' o'))) else none
  | _ => none
theorem ref26 (i : Int) (n n' : Nat) (g g' : Nat → Nat → Int) (o o' : Nat → Nat → ByteArray) : refS d26 ⟨[i], [], [], [n, n'], [g, g'], [o, o'], []⟩ = S26 i (l26 n g o n' g' o') := by kernel_rfl
theorem lp26_ok : LoopS Try.prog x26 (lpG 2 d26 leaf26) := by
  refine LoopS.pat (E := ES26) ES26_s pfl (LpC.none fun _ => rfl) (by rw [key26]; rfl) kpS fun dt K out h => ?_
  unfold leaf26 at h
  split at h
  · rename_i i n n' g g' o o'
    cases hc : (decide (i = 0) && Nat.ble n 100000 && Nat.beq n n') with
    | false => simp [hc] at h
    | true =>
      simp only [hc, cond_true] at h
      simp only [Bool.and_eq_true, decide_eq_true_eq, Nat.ble_eq] at hc
      obtain ⟨⟨rfl, h1⟩, h2⟩ := hc
      refine ⟨0 + n + 30, ?_⟩
      rw [ref26, key26, gcS26]
      exact (head26 n g o n' g' o' K h1 (Nat.eq_of_beq_eq_true h2) n 0 0 (by omega)).trans h
  · cases h
noncomputable def ET26 : Env := (E0'.marks (fun i => bif Nat.beq i 4 then some [0, 1, 5] else none) fun _ => none).loops fun i => bif Nat.beq i 4 then some (lpG 2 d26 leaf26) else none
theorem ET26_s : ET26.Sound := E0'_s.marks.loops
theorem ET26_lp : LpF ET26 Try.f26 := LpF.of fun x hx f hf => by
  rw [loops26] at hx
  have hx : x = x26 := by simpa using hx
  subst hx
  have e : ET26.lp (keyC x26) = some (lpG 2 d26 leaf26) := by rw [key26]; rfl
  rw [e] at hf
  injection hf with hf
  subst hf
  exact lp26_ok
theorem has26 : hasFn Try.prog 26 Try.f26 := ⟨by kernel_rfl, by kernel_rfl, by kernel_rfl⟩
theorem t26 (n : Nat) (g : Nat → Nat → Int) (o : Nat → Nat → ByteArray) (n' : Nat) (g' : Nat → Nat → Int) (o' : Nat → Nat → ByteArray) : evV ET26 Try.f26 100 [.one (.ow 0), .one (.ow 1)] ⟨[], l26 n g o n' g' o', 2⟩ =
    bif (n : Int) != (n' : Int) then some (boolV false, hh0) else bif decide ((0 : Int) = 0) && Nat.ble n 100000 && Nat.beq n n' then (bif eqR26 g g' n 0 then some (boolV true, hh0) else some (boolV false, hh0)) else none := by kernel_rfl
/-- The same lists? -/
def same26 (a b : List Int) : Bool := match a, b with
  | [], [] => true
  | x :: r, y :: s => (x == y) && same26 r s
  | _, _ => false
theorem eqR26_eq (g g' : Nat → Nat → Int) : ∀ c i, eqR26 g g' c i = same26 (tabI g c i) (tabI g' c i)
  | 0, _ => rfl
  | c + 1, i => by
    rw [eqR26, eqR26_eq g g' c (i + 1)]
    rfl
theorem same26_len : ∀ {a b : List Int}, a.length ≠ b.length → same26 a b = false
  | [], [], h => absurd rfl h
  | x :: r, y :: s, h => by
    simp only [same26]
    rw [same26_len (fun e => h (by simp [e])), Bool.and_false]
  | [], _ :: _, _ => rfl
  | _ :: _, [], _ => rfl
theorem same26_refl : ∀ (a : List Int), same26 a a = true
  | [] => rfl
  | x :: r => by simp [same26, same26_refl r]
theorem same26_eq : ∀ {a b : List Int}, same26 a b = true → a = b
  | [], [], _ => rfl
  | x :: r, y :: s, h => by
    simp only [same26, Bool.and_eq_true] at h
    rw [same26_eq h.2]
    rw [eq_of_beq h.1]
  | [], _ :: _, h => by cases h
  | _ :: _, [], h => by cases h
theorem t26' (n : Nat) (g : Nat → Nat → Int) (o : Nat → Nat → ByteArray) (n' : Nat) (g' : Nat → Nat → Int) (o' : Nat → Nat → ByteArray) (hn : n ≤ 100000) : evV ET26 Try.f26 100 [.one (.ow 0), .one (.ow 1)] ⟨[], l26 n g o n' g' o', 2⟩ = some (boolV (same26 (tabI g n 0) (tabI g' n' 0)), hh0) := by
  rw [t26]
  by_cases h : n = n'
  · subst h
    have e : ((n : Int) != (n : Int)) = false := by simp
    have e1 : Nat.ble n 100000 = true := by rw [Nat.ble_eq]; exact hn
    rw [e, e1, Nat.beq_refl, eqR26_eq]
    cases same26 (tabI g n 0) (tabI g' n 0) <;> rfl
  · have e : ((n : Int) != (n' : Int)) = true := by
      rw [bne_iff_ne]
      omega
    rw [e, same26_len (by rw [tabI_len, tabI_len]; exact h)]
    rfl
def F26 (args : List AV) (l : List (Nat × LB)) : Option (Bool × AV) := match args, l with
  | [.one (.ow 0), .one (.ow 1)], [(0, la), (1, lb)] => (match asI la, asI lb with
    | some (n, g), some (n', g') => some (Nat.ble n 100000, boolV (same26 (tabI g n 0) (tabI g' n' 0)))
    | _, _ => none)
  | _, _ => none
theorem q26_ok : CallQ Try.prog 26 (handQ F26) := by
  refine CallQ.hand (E := ET26) ET26_s pfl ET26_lp has26 fun args l v h => ?_
  unfold F26 at h
  split at h
  · rename_i la lb
    split at h
    · rename_i n g n' g' ha hb
      obtain ⟨o, rfl⟩ := asI_spec ha
      obtain ⟨o', rfl⟩ := asI_spec hb
      simp only [Option.some.injEq, Prod.mk.injEq, Nat.ble_eq] at h
      obtain ⟨h1, rfl⟩ := h
      exact ⟨rfl, 100, hh0, t26' n g o n' g' o' h1⟩
    · cases h
  · cases h
noncomputable def x23 : Code := loopF Try.f23
theorem loops23 : loopsC (bodyC Try.f23) = [x23] := by kernel_rfl
theorem key23 : keyC x23 = 4 := by kernel_rfl
noncomputable def ES23 : Env := E0'.marks (fun i => bif Nat.beq i 4 then some [0, 1, 5] else none) fun _ => none
theorem ES23_s : ES23.Sound := E0'_s.marks
def l23 (n : Nat) (g : Nat → Nat → Int) (o : Nat → Nat → ByteArray) (n' : Nat) (g' : Nat → Nat → Int) (o' : Nat → Nat → ByteArray) : List (Nat × LB) := [(0, ⟨false, 31, .row opSh n g o⟩), (1, ⟨false, 31, .row opSh n' g' o'⟩)]
def S23 (i : Int) (l : List (Nat × LB)) : AS := ⟨.one (.ow 0) :: .one (.ow 1) :: .one .any :: .one .any :: .one .any :: .one (.v (.int .i64 i)) :: anys 20, ⟨[], l, 2⟩⟩
def X23 (l : List (Nat × LB)) : AS := ⟨anys 26, ⟨[], l, 2⟩⟩
def R23 (l : List (Nat × LB)) : AS := ⟨.one .any :: .one .any :: .one .any :: .one .any :: .one (.v (.bool false)) :: anys 21, ⟨[], l, 2⟩⟩
section
variable (n : Nat) (g : Nat → Nat → Int) (o : Nat → Nat → ByteArray) (n' : Nat) (g' : Nat → Nat → Int) (o' : Nat → Nat → ByteArray) (K : Exit → AS → Out)
theorem gcS23 (i : Int) (H : AS → Out) : gc 2 (ES23.lv 4) (S23 i (l23 n g o n' g' o')) H = H (S23 i (l23 n g o n' g' o')) := by kernel_rfl
theorem rnd23 (i : Int) (H : AS → Out) (N : Nat) : ev ES23 2 (N + 30) x23 (S23 i (l23 n g o n' g' o')) (rkG 2 (ES23.lv 4) kpS H K) =
    bif decide (i < (n : Int)) then ixZ 6 n i (ixZ 6 n' i (bif !((g i.toNat 0 == g' i.toNat 0) && ((g i.toNat 1 == g' i.toNat 1) && ((g i.toNat 2 == g' i.toNat 2) && ((g i.toNat 3 == g' i.toNat 3) && ((g i.toNat 4 == g' i.toNat 4) && ((g i.toNat 5 == g' i.toNat 5) && true)))))) then K .ret (R23 (l23 n g o n' g' o')) else H (S23 (IntKind.i64.wrap (i + 1)) (l23 n g o n' g' o')))) else K (.exit 0) (X23 (l23 n g o n' g' o')) := by kernel_rfl
def eqR23 (g g' : Nat → Nat → Int) : Nat → Nat → Bool
  | 0, _ => true
  | c + 1, i => ((g i 0 == g' i 0) && ((g i 1 == g' i 1) && ((g i 2 == g' i 2) && ((g i 3 == g' i 3) && ((g i 4 == g' i 4) && ((g i 5 == g' i 5) && true)))))) && eqR23 g g' c (i + 1)
theorem head23 (hn : n ≤ 100000) (hn' : n = n') : ∀ (c i N : Nat), i + c = n → HeadK ES23 2 kpS x23 (N + c + 30) K (S23 i (l23 n g o n' g' o')) = bif eqR23 g g' c i then K (.exit 0) (X23 (l23 n g o n' g' o')) else K .ret (R23 (l23 n g o n' g' o'))
  | 0, i, N, h => by
    rw [show N + 0 + 30 = (N + 29) + 1 by omega, HeadK_succ (by rw [key23]; rfl), key23]
    refine (rnd23 n g o n' g' o' K i _ N).trans ?_
    rw [decide_eq_false (show ¬ (i : Int) < (n : Int) by omega)]
    simp only [cond_false, eqR23, cond_true]
  | c + 1, i, N, h => by
    rw [show N + (c + 1) + 30 = (N + c + 30) + 1 by omega, HeadK_succ (by rw [key23]; rfl), key23]
    refine (rnd23 n g o n' g' o' K i _ (N + c + 1)).trans ?_
    have e4 : IntKind.i64.wrap ((i : Int) + 1) = ((i + 1 : Nat) : Int) := by rw [IntKind.wrap_i64]; omega
    have e6 : (i : Int).toNat = i := by omega
    have ih := head23 hn hn' c (i + 1) N (by omega)
    rw [ixZ_in (by omega) (by omega) (by decide), ixZ_in (by omega) (by omega) (by decide), e4, e6, decide_eq_true (show (i : Int) < (n : Int) by omega), eqR23]
    generalize HeadK ES23 2 kpS x23 (N + c + 30) K (S23 ((i + 1 : Nat) : Int) (l23 n g o n' g' o')) = H1 at ih ⊢
    rw [ih]
    generalize K .ret (R23 (l23 n g o n' g' o')) = y1
    generalize K (.exit 0) (X23 (l23 n g o n' g' o')) = y2
    generalize ((g i 0 == g' i 0) && ((g i 1 == g' i 1) && ((g i 2 == g' i 2) && ((g i 3 == g' i 3) && ((g i 4 == g' i 4) && ((g i 5 == g' i 5) && true)))))) = b1
    cases b1 <;> cases eqR23 g g' c (i + 1) <;> rfl
end
def d23 : AS := S23 0 (l23 0 (fun _ _ => 0) (fun _ _ => ByteArray.empty) 0 (fun _ _ => 0) (fun _ _ => ByteArray.empty))
def leaf23 (dt : Dt) (K : Exit → AS → Out) : Out := match dt with
  | ⟨[i], [], [], [n, n'], [g, g'], [o, o'], []⟩ => bif decide (i = 0) && Nat.ble n 100000 && Nat.beq n n' then (bif eqR23 g g' n 0 then K (.exit 0) (X23 (l23 n g o n' g' o')) else K .ret (R23 (l23 n g o n' g' o'))) else none
  | _ => none
theorem ref23 (i : Int) (n n' : Nat) (g g' : Nat → Nat → Int) (o o' : Nat → Nat → ByteArray) : refS d23 ⟨[i], [], [], [n, n'], [g, g'], [o, o'], []⟩ = S23 i (l23 n g o n' g' o') := by kernel_rfl
theorem lp23_ok : LoopS Try.prog x23 (lpG 2 d23 leaf23) := by
  refine LoopS.pat (E := ES23) ES23_s pfl (LpC.none fun _ => rfl) (by rw [key23]; rfl) kpS fun dt K out h => ?_
  unfold leaf23 at h
  split at h
  · rename_i i n n' g g' o o'
    cases hc : (decide (i = 0) && Nat.ble n 100000 && Nat.beq n n') with
    | false => simp [hc] at h
    | true =>
      simp only [hc, cond_true] at h
      simp only [Bool.and_eq_true, decide_eq_true_eq, Nat.ble_eq] at hc
      obtain ⟨⟨rfl, h1⟩, h2⟩ := hc
      refine ⟨0 + n + 30, ?_⟩
      rw [ref23, key23, gcS23]
      exact (head23 n g o n' g' o' K h1 (Nat.eq_of_beq_eq_true h2) n 0 0 (by omega)).trans h
  · cases h
noncomputable def ET23 : Env := (E0'.marks (fun i => bif Nat.beq i 4 then some [0, 1, 5] else none) fun _ => none).loops fun i => bif Nat.beq i 4 then some (lpG 2 d23 leaf23) else none
theorem ET23_s : ET23.Sound := E0'_s.marks.loops
theorem ET23_lp : LpF ET23 Try.f23 := LpF.of fun x hx f hf => by
  rw [loops23] at hx
  have hx : x = x23 := by simpa using hx
  subst hx
  have e : ET23.lp (keyC x23) = some (lpG 2 d23 leaf23) := by rw [key23]; rfl
  rw [e] at hf
  injection hf with hf
  subst hf
  exact lp23_ok
theorem has23 : hasFn Try.prog 23 Try.f23 := ⟨by kernel_rfl, by kernel_rfl, by kernel_rfl⟩
theorem t23 (n : Nat) (g : Nat → Nat → Int) (o : Nat → Nat → ByteArray) (n' : Nat) (g' : Nat → Nat → Int) (o' : Nat → Nat → ByteArray) : evV ET23 Try.f23 100 [.one (.ow 0), .one (.ow 1)] ⟨[], l23 n g o n' g' o', 2⟩ =
    bif (n : Int) != (n' : Int) then some (boolV false, hh0) else bif decide ((0 : Int) = 0) && Nat.ble n 100000 && Nat.beq n n' then (bif eqR23 g g' n 0 then some (boolV true, hh0) else some (boolV false, hh0)) else none := by kernel_rfl
/-- The same lists? -/
def same23 (a b : List OpT) : Bool := match a, b with
  | [], [] => true
  | x :: r, y :: s => ((x.k == y.k) && ((x.D == y.D) && ((x.A == y.A) && ((x.B == y.B) && ((x.I == y.I) && ((x.t == y.t) && true)))))) && same23 r s
  | _, _ => false
theorem eqR23_eq (g g' : Nat → Nat → Int) : ∀ c i, eqR23 g g' c i = same23 (tabO g c i) (tabO g' c i)
  | 0, _ => rfl
  | c + 1, i => by
    rw [eqR23, eqR23_eq g g' c (i + 1)]
    rfl
theorem same23_len : ∀ {a b : List OpT}, a.length ≠ b.length → same23 a b = false
  | [], [], h => absurd rfl h
  | x :: r, y :: s, h => by
    simp only [same23]
    rw [same23_len (fun e => h (by simp [e])), Bool.and_false]
  | [], _ :: _, _ => rfl
  | _ :: _, [], _ => rfl
theorem same23_refl : ∀ (a : List OpT), same23 a a = true
  | [] => rfl
  | x :: r => by simp [same23, same23_refl r]
theorem same23_eq : ∀ {a b : List OpT}, same23 a b = true → a = b
  | [], [], _ => rfl
  | x :: r, y :: s, h => by
    simp only [same23, Bool.and_eq_true] at h
    rw [same23_eq h.2]
    obtain ⟨xk, xD, xA, xB, xI, xt⟩ := x
    obtain ⟨yk, yD, yA, yB, yI, yt⟩ := y
    simp only [Bool.and_eq_true, beq_iff_eq, and_true] at h
    obtain ⟨⟨rfl, rfl, rfl, rfl, rfl, rfl⟩, _⟩ := h
    rfl
  | [], _ :: _, h => by cases h
  | _ :: _, [], h => by cases h
theorem t23' (n : Nat) (g : Nat → Nat → Int) (o : Nat → Nat → ByteArray) (n' : Nat) (g' : Nat → Nat → Int) (o' : Nat → Nat → ByteArray) (hn : n ≤ 100000) : evV ET23 Try.f23 100 [.one (.ow 0), .one (.ow 1)] ⟨[], l23 n g o n' g' o', 2⟩ = some (boolV (same23 (tabO g n 0) (tabO g' n' 0)), hh0) := by
  rw [t23]
  by_cases h : n = n'
  · subst h
    have e : ((n : Int) != (n : Int)) = false := by simp
    have e1 : Nat.ble n 100000 = true := by rw [Nat.ble_eq]; exact hn
    rw [e, e1, Nat.beq_refl, eqR23_eq]
    cases same23 (tabO g n 0) (tabO g' n 0) <;> rfl
  · have e : ((n : Int) != (n' : Int)) = true := by
      rw [bne_iff_ne]
      omega
    rw [e, same23_len (by rw [tabO_len, tabO_len]; exact h)]
    rfl
def F23 (args : List AV) (l : List (Nat × LB)) : Option (Bool × AV) := match args, l with
  | [.one (.ow 0), .one (.ow 1)], [(0, la), (1, lb)] => (match asO la, asO lb with
    | some (n, g), some (n', g') => some (Nat.ble n 100000, boolV (same23 (tabO g n 0) (tabO g' n' 0)))
    | _, _ => none)
  | _, _ => none
theorem q23_ok : CallQ Try.prog 23 (handQ F23) := by
  refine CallQ.hand (E := ET23) ET23_s pfl ET23_lp has23 fun args l v h => ?_
  unfold F23 at h
  split at h
  · rename_i la lb
    split at h
    · rename_i n g n' g' ha hb
      obtain ⟨o, rfl⟩ := asO_spec ha
      obtain ⟨o', rfl⟩ := asO_spec hb
      simp only [Option.some.injEq, Prod.mk.injEq, Nat.ble_eq] at h
      obtain ⟨h1, rfl⟩ := h
      exact ⟨rfl, 100, hh0, t23' n g o n' g' o' h1⟩
    · cases h
  · cases h
end Go.Proofs.Ytjpeplidbodjiaa
