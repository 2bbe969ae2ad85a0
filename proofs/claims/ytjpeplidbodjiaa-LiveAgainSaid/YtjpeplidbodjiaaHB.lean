/- live.Dead: its inner loop, summed up; its outer loop. -/
import Derived.Test.YtjpeplidbodjiaaHA
namespace Go.Proofs.Ytjpeplidbodjiaa
set_option maxRecDepth 100000
/-- Is operation i kept, G being what is needed? -/
def keepP (G : Nat → Nat → Bool) (g : Nat → Nat → Int) (i : Nat) : Bool := bif !pureK (g i 0) then true else G i (g i 1).toNat
def dOk (q : Nat → Int) : Bool := !pureK (q 0) || (decide (0 ≤ q 1) && decide (q 1 < 64))
def dOks (g : Nat → Nat → Int) : Nat → Nat → Bool
  | 0, _ => true
  | c + 1, i => dOk (g i) && dOks g c (i + 1)
theorem keep19_eq {n i nK : Nat} {G : Nat → Nat → Bool} {g : Nat → Nat → Int} {A B : Out} (hi : i < n) (hd : dOk (g i) = true) (hk : nK < 1000000) : keep19 n G g (i : Int) nK A B = bif keepP G g i then A else B := by
  unfold keep19 keepP
  have e1 : ((i : Nat) : Int).toNat = i := by omega
  have e2 : Nat.ble (nK + 1) 1048576 = true := by rw [Nat.ble_eq]; omega
  rw [e1, e2, decide_eq_true (show 0 ≤ (i : Int) by omega), decide_eq_true (show (i : Int) < (n : Int) by omega), decide_eq_true (show i < n from hi)]
  unfold dOk at hd
  cases hp : pureK (g i 0) with
  | false => rfl
  | true =>
    simp only [hp, Bool.not_true, Bool.false_or, Bool.and_eq_true, decide_eq_true_eq] at hd
    rw [decide_eq_true hd.1, decide_eq_true (show g i 1 < ((64 : Nat) : Int) from hd.2), decide_eq_true (show (g i 1).toNat < 64 by omega)]
    cases G i (g i 1).toNat <;> rfl
section
variable (pc : Int) (G : Nat → Nat → Bool) (nW : Nat) (f : Nat → Nat → Int) (oW : Nat → Nat → ByteArray) (n : Nat) (g : Nat → Nat → Int) (o : Nat → Nat → ByteArray) (K : Exit → AS → Out)
theorem head19i (hn : n ≤ 1000) : ∀ (c i N : Nat) (r : RowL), i + c = n → r.n ≤ i → dOks g c i = true →
    HeadK EH19 2 kp19i x19i (N + c + 50) K (S19i 1 pc n i n G r (lB nW f oW n g o)) = K (.exit 2) (X19i pc (filtR (keepP G g) (opRow g) c i r) (lB nW f oW n g o))
  | 0, i, N, r, h, _, _ => by
    rw [show N + 0 + 50 = (N + 49) + 1 by omega, HeadK_succ (by rw [key19i]; rfl), key19i]
    refine (rnd19i pc n G r nW f oW n g o K i _ N).trans ?_
    rw [decide_eq_false (show ¬ (i : Int) < (n : Int) by omega)]
    simp only [cond_false, filtR]
  | c + 1, i, N, r, h, hr, hd => by
    rw [show N + (c + 1) + 50 = (N + c + 50) + 1 by omega, HeadK_succ (by rw [key19i]; rfl), key19i]
    refine (rnd19i pc n G r nW f oW n g o K i _ (N + c + 1)).trans ?_
    simp only [dOks, Bool.and_eq_true] at hd
    have e4 : IntKind.i64.wrap ((i : Int) + 1) = ((i + 1 : Nat) : Int) := by rw [IntKind.wrap_i64]; omega
    have e6 : (i : Int).toNat = i := by omega
    rw [keep19_eq (by omega) hd.1 (by omega), e4, e6, decide_eq_true (show (i : Int) < (n : Int) by omega), decide_eq_true (show 0 ≤ (i : Int) by omega), decide_eq_true (show i < n by omega)]
    rw [filtR]
    have ih := fun r hr => head19i hn c (i + 1) N r (by omega) hr hd.2
    have i1 := ih (r.push (opRow g i)) (by simp only [RowL.push]; omega)
    have i2 := ih r (by omega)
    generalize HeadK EH19 2 kp19i x19i (N + c + 50) K (S19i 1 pc n ((i + 1 : Nat) : Int) n G (r.push (opRow g i)) (lB nW f oW n g o)) = H1 at i1 ⊢
    generalize HeadK EH19 2 kp19i x19i (N + c + 50) K (S19i 1 pc n ((i + 1 : Nat) : Int) n G r (lB nW f oW n g o)) = H2 at i2 ⊢
    rw [i1, i2]
    simp only [cond_true, Bool.and_true, show decide (0 < 6) = true from rfl]
    cases keepP G g i <;> simp only [cond_true, cond_false]
theorem head19j (q : RowL) (hn : q.n ≤ 1000) : ∀ (c i N : Nat) (r : RowL), i + c = q.n → r.n ≤ i → dOks q.f c i = true →
    HeadK EH19 2 kp19i x19i (N + c + 50) K (S19j pc q.n i q.n G r q (lB nW f oW n g o)) = K (.exit 2) (X19j pc (filtR (keepP G q.f) (opRow q.f) c i r) q (lB nW f oW n g o))
  | 0, i, N, r, h, _, _ => by
    rw [show N + 0 + 50 = (N + 49) + 1 by omega, HeadK_succ (by rw [key19i]; rfl), key19i]
    refine (rnd19j pc q.n G r nW f oW n g o K i q _ N).trans ?_
    rw [decide_eq_false (show ¬ (i : Int) < (q.n : Int) by omega)]
    simp only [cond_false, filtR]
  | c + 1, i, N, r, h, hr, hd => by
    rw [show N + (c + 1) + 50 = (N + c + 50) + 1 by omega, HeadK_succ (by rw [key19i]; rfl), key19i]
    refine (rnd19j pc q.n G r nW f oW n g o K i q _ (N + c + 1)).trans ?_
    simp only [dOks, Bool.and_eq_true] at hd
    have e4 : IntKind.i64.wrap ((i : Int) + 1) = ((i + 1 : Nat) : Int) := by rw [IntKind.wrap_i64]; omega
    have e6 : (i : Int).toNat = i := by omega
    rw [keep19_eq (by omega) hd.1 (by omega), e4, e6, decide_eq_true (show (i : Int) < (q.n : Int) by omega), decide_eq_true (show 0 ≤ (i : Int) by omega), decide_eq_true (show i < q.n by omega)]
    rw [filtR]
    have ih := fun r hr => head19j q hn c (i + 1) N r (by omega) hr hd.2
    have i1 := ih (r.push (opRow q.f i)) (by simp only [RowL.push]; omega)
    have i2 := ih r (by omega)
    generalize HeadK EH19 2 kp19i x19i (N + c + 50) K (S19j pc q.n ((i + 1 : Nat) : Int) q.n G (r.push (opRow q.f i)) q (lB nW f oW n g o)) = H1 at i1 ⊢
    generalize HeadK EH19 2 kp19i x19i (N + c + 50) K (S19j pc q.n ((i + 1 : Nat) : Int) q.n G r q (lB nW f oW n g o)) = H2 at i2 ⊢
    rw [i1, i2]
    simp only [cond_true, Bool.and_true, show decide (0 < 6) = true from rfl]
    cases keepP G q.f i <;> simp only [cond_true, cond_false]
end
def lB0 : List (Nat × LB) := lB 0 (fun _ _ => 0) (fun _ _ => ByteArray.empty) 0 (fun _ _ => 0) (fun _ _ => ByteArray.empty)
def d19i : AS := S19i 1 0 0 0 0 (fun _ _ => false) nilR lB0
def d19j : AS := S19j 0 0 0 0 (fun _ _ => false) nilR nilR lB0
def leaf19i (dt : Dt) (K : Exit → AS → Out) : Out := match dt with
  | ⟨[nn, i, z, pc], [], [G], [nK, nG, nW, n], [gK, f, g], [oK, oW, o], []⟩ => bif decide (z = 0) && decide (i = 0) && decide (nn = (n : Int)) && Nat.beq nG n && Nat.beq nK 0 && Nat.ble n 1000 && dOks g n 0 then
      K (.exit 2) (X19i pc (filtR (keepP G g) (opRow g) n 0 ⟨nK, gK, oK⟩) (lB nW f oW n g o)) else none
  | _ => none
def leaf19j (dt : Dt) (K : Exit → AS → Out) : Out := match dt with
  | ⟨[nn, i, z, pc], [], [G], [nK, nG, nq, nW, n], [gK, gq, f, g], [oK, oq, oW, o], []⟩ => bif decide (z = 0) && decide (i = 0) && decide (nn = (nq : Int)) && Nat.beq nG nq && Nat.beq nK 0 && Nat.ble nq 1000 && dOks gq nq 0 then
      K (.exit 2) (X19j pc (filtR (keepP G gq) (opRow gq) nq 0 ⟨nK, gK, oK⟩) ⟨nq, gq, oq⟩ (lB nW f oW n g o)) else none
  | _ => none
theorem ref19i (nn i pc : Int) (G : Nat → Nat → Bool) (nK nG nW n : Nat) (gK f g : Nat → Nat → Int) (oK oW o : Nat → Nat → ByteArray) :
    refS d19i ⟨[nn, i, 0, pc], [], [G], [nK, nG, nW, n], [gK, f, g], [oK, oW, o], []⟩ = S19i 1 pc nn i nG G ⟨nK, gK, oK⟩ (lB nW f oW n g o) := by kernel_rfl
theorem ref19j (nn i pc : Int) (G : Nat → Nat → Bool) (nK nG nq nW n : Nat) (gK gq f g : Nat → Nat → Int) (oK oq oW o : Nat → Nat → ByteArray) :
    refS d19j ⟨[nn, i, 0, pc], [], [G], [nK, nG, nq, nW, n], [gK, gq, f, g], [oK, oq, oW, o], []⟩ = S19j pc nn i nG G ⟨nK, gK, oK⟩ ⟨nq, gq, oq⟩ (lB nW f oW n g o) := by kernel_rfl
theorem lp19i_ok : LoopS Try.prog x19i (lpG 2 d19i leaf19i) := by
  refine LoopS.pat (E := EH19) EH19_s pfl (LpC.none fun _ => rfl) (by rw [key19i]; rfl) kp19i fun dt K out h => ?_
  unfold leaf19i at h
  split at h
  · rename_i nn i z pc G nK nG nW n gK f g oK oW o
    cases hc : (decide (z = 0) && decide (i = 0) && decide (nn = (n : Int)) && Nat.beq nG n && Nat.beq nK 0 && Nat.ble n 1000 && dOks g n 0) with
    | false => simp [hc] at h
    | true =>
      simp only [hc, cond_true] at h
      simp only [Bool.and_eq_true, decide_eq_true_eq, Nat.ble_eq] at hc
      obtain ⟨⟨⟨⟨⟨⟨rfl, rfl⟩, rfl⟩, h1⟩, h2⟩, h3⟩, h4⟩ := hc
      have h1 := Nat.eq_of_beq_eq_true h1
      have h2 := Nat.eq_of_beq_eq_true h2
      subst h1 h2
      refine ⟨0 + nG + 50, ?_⟩
      rw [ref19i, key19i, gcS19i]
      exact (head19i pc G nW f oW nG g o K h3 nG 0 0 ⟨0, gK, oK⟩ (by omega) (Nat.le_refl _) h4).trans h
  · cases h
theorem lp19j_ok : LoopS Try.prog x19i (lpG 2 d19j leaf19j) := by
  refine LoopS.pat (E := EH19) EH19_s pfl (LpC.none fun _ => rfl) (by rw [key19i]; rfl) kp19i fun dt K out h => ?_
  unfold leaf19j at h
  split at h
  · rename_i nn i z pc G nK nG nq nW n gK gq f g oK oq oW o
    cases hc : (decide (z = 0) && decide (i = 0) && decide (nn = (nq : Int)) && Nat.beq nG nq && Nat.beq nK 0 && Nat.ble nq 1000 && dOks gq nq 0) with
    | false => simp [hc] at h
    | true =>
      simp only [hc, cond_true] at h
      simp only [Bool.and_eq_true, decide_eq_true_eq, Nat.ble_eq] at hc
      obtain ⟨⟨⟨⟨⟨⟨rfl, rfl⟩, rfl⟩, h1⟩, h2⟩, h3⟩, h4⟩ := hc
      have h1 := Nat.eq_of_beq_eq_true h1
      have h2 := Nat.eq_of_beq_eq_true h2
      subst h1 h2
      refine ⟨0 + nG + 50, ?_⟩
      have e := gcS19j pc nG G ⟨0, gK, oK⟩ nW f oW n g o 0 ⟨nG, gq, oq⟩ (HeadK EH19 2 kp19i x19i (0 + nG + 50) K)
      rw [ref19j, key19i]
      refine e.trans ?_
      exact (head19j pc G nW f oW n g o K ⟨nG, gq, oq⟩ h3 nG 0 0 ⟨0, gK, oK⟩ (by simp) (Nat.le_refl _) h4).trans h
  · cases h
/-! The outer loop. -/
noncomputable def EHD1 : Env := (ED0.marks lv19 fun _ => none).loops fun i => bif Nat.beq i 6 then some (lpOr 2 d19i leaf19i (lpG 2 d19j leaf19j)) else none
theorem EHD1_s : EHD1.Sound := ED0_s.marks.loops
theorem EHD1_c : LpC EHD1 x19i := fun x hx f hf => by
  have e : loopsC x19i = [] := by kernel_rfl
  rw [e] at hx
  cases hx
theorem lp19a_ok : LoopS Try.prog x19i (lpOr 2 d19i leaf19i (lpG 2 d19j leaf19j)) := lp19i_ok.or lp19j_ok
def kp19 : Exit → Option (List Nat)
  | .ret => some [2]
  | .exit _ => some []
  | _ => none
def S19 (pc : Int) (l : List (Nat × LB)) : AS := ⟨.one .any :: .one (.pt 2 0) :: .one (.pt 3 0) :: anys 45, ⟨[(3, 26, .cells z26), (2, 26, .cells [.v (.int .u32 pc), .ow 0, .ow 1])], l, 4⟩⟩
def S19q (pc : Int) (q : RowL) (l : List (Nat × LB)) : AS := ⟨.one .any :: .one (.pt 2 0) :: .one (.pt 3 0) :: anys 45, ⟨[(3, 26, .cells z26), (2, 26, .cells [.v (.int .u32 pc), .ow 0, .ow 4])], (4, ⟨true, 31, q.bb opSh⟩) :: l, 5⟩⟩
def R19 (pc : Int) (l : List (Nat × LB)) : AS := ⟨.one .any :: .one .any :: .one (.pt 2 0) :: anys 45, ⟨[(2, 26, .cells [.v (.int .u32 pc), .ow 0, .ow 1])], l, 3⟩⟩
def R19q (pc : Int) (q : RowL) (l : List (Nat × LB)) : AS := ⟨.one .any :: .one .any :: .one (.pt 2 0) :: anys 45, ⟨[(2, 26, .cells [.v (.int .u32 pc), .ow 0, .ow 3])], (3, ⟨true, 31, q.bb opSh⟩) :: l, 4⟩⟩
/-- What is left in one round. -/
def stepR (ws : List Int) (n : Nat) (g : Nat → Nat → Int) : RowL := filtR (keepP (needsG ws n g) g) (opRow g) n 0 nilR
section
variable (pc : Int) (nW : Nat) (f : Nat → Nat → Int) (oW : Nat → Nat → ByteArray) (n : Nat) (g : Nat → Nat → Int) (o : Nat → Nat → ByteArray) (K : Exit → AS → Out)
theorem gcS19 (H : AS → Out) : gc 2 (EHD1.lv 3) (S19 pc (lB nW f oW n g o)) H = H (S19 pc (lB nW f oW n g o)) := by kernel_rfl
theorem rnd19 (H : AS → Out) (N : Nat) : ev EHD1 2 (N + 50) x19 (S19 pc (lB nW f oW n g o)) (rkG 2 (EHD1.lv 3) kp19 H K) =
    bif okN nW n g then bif decide ((0 : Int) = 0) && decide ((0 : Int) = 0) && decide ((n : Int) = (n : Int)) && Nat.beq n n && Nat.beq 0 0 && Nat.ble n 1000 && dOks g n 0 then
      bif ((stepR (tabW (fun k => f k 0) nW 0) n g).n : Int) == (n : Int) then K .ret (R19 pc (lB nW f oW n g o)) else H (S19q pc (stepR (tabW (fun k => f k 0) nW 0) n g) (lB nW f oW n g o)) else none else none := by kernel_rfl
theorem rnd19q (q : RowL) (H : AS → Out) (N : Nat) : ev EHD1 2 (N + 50) x19 (S19q pc q (lB nW f oW n g o)) (rkG 2 (EHD1.lv 3) kp19 H K) =
    bif okN nW q.n q.f then bif decide ((0 : Int) = 0) && decide ((0 : Int) = 0) && decide ((q.n : Int) = (q.n : Int)) && Nat.beq q.n q.n && Nat.beq 0 0 && Nat.ble q.n 1000 && dOks q.f q.n 0 then
      bif ((stepR (tabW (fun k => f k 0) nW 0) q.n q.f).n : Int) == (q.n : Int) then K .ret (R19q pc q (lB nW f oW n g o)) else H (S19q pc (stepR (tabW (fun k => f k 0) nW 0) q.n q.f) (lB nW f oW n g o)) else none else none := by kernel_rfl
end
end Go.Proofs.Ytjpeplidbodjiaa
