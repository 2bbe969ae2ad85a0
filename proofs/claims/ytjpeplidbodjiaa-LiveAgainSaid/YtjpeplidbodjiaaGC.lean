/- live.needs: its loop. -/
import Derived.Test.YtjpeplidbodjiaaGB
namespace Go.Proofs.Ytjpeplidbodjiaa
set_option maxRecDepth 100000
/-- Has an operation its places in room? -/
def opIn (q : Nat → Int) : Bool := decide (writesK (q 0) (q 1) < 64) && inR (listF (readsK (q 0) (q 1) (q 2) (q 3))) (readsK (q 0) (q 1) (q 2) (q 3)).length 0
def opsIn (g : Nat → Nat → Int) : Nat → Bool
  | 0 => true
  | n + 1 => opIn (g n) && opsIn g n
theorem opsIn_at {g : Nat → Nat → Int} : ∀ {n i : Nat}, opsIn g n = true → i < n → opIn (g i) = true
  | 0, _, _, h => by omega
  | n + 1, i, h, hi => by
    simp only [opsIn, Bool.and_eq_true] at h
    by_cases e : i = n
    · rw [e]; exact h.1
    · exact opsIn_at h.2 (by omega)
theorem reads_len (k D A B : Int) : (readsK k D A B).length ≤ 3 := by
  unfold readsK
  cases (shpK k).a <;> cases (shpK k).b <;> cases (shpK k).d <;> simp
def step1 (q : Nat → Int) (F : Nat → Nat → Bool) : Nat → Nat → Bool :=
  bif (bif (bif decide (writesK (q 0) (q 1) > 0) then q 0 != 23 else false) then q 0 != 24 else false) then updB F (writesK (q 0) (q 1)).toNat 0 false else F
def step2 (q : Nat → Int) (F : Nat → Nat → Bool) : Nat → Nat → Bool := setR (listF (readsK (q 0) (q 1) (q 2) (q 3))) (readsK (q 0) (q 1) (q 2) (q 3)).length 0 F
def step3 (g : Nat → Nat → Int) (i : Nat) (F : Nat → Nat → Bool) : Nat → Nat → Bool := bif !pureK (g i 0) then setC 33 1 F else bif behindG g i then setC 33 1 F else F
def step4 (ws : List Int) (n : Nat) (g : Nat → Nat → Int) (i : Nat) (F : Nat → Nat → Bool) : Nat → Nat → Bool := bif slotG ws n g i then updB F (g (n - 1) 2).toNat 0 true else F
/-- What is needed ahead of operation number i, of what is needed behind it. -/
def needStep (ws : List Int) (n : Nat) (g : Nat → Nat → Int) (i : Nat) (F : Nat → Nat → Bool) : Nat → Nat → Bool := step4 ws n g i (step3 g i (step2 (g i) (step1 (g i) F)))
def needG (ws : List Int) (n : Nat) (g : Nat → Nat → Int) : Nat → (Nat → Nat → Bool) → (Nat → Nat → Bool) → Nat → Nat → Bool
  | 0, _, G => G
  | s + 1, F, G => needG ws n g s (needStep ws n g s F) (updB1 G s fun j => F j 0)
section
variable (pc : Int) (nW : Nat) (f : Nat → Nat → Int) (oW : Nat → Nat → ByteArray) (n : Nat) (g : Nat → Nat → Int) (o : Nat → Nat → ByteArray)
theorem A4_eq {i : Nat} {N : (Nat → Nat → Bool) → Out} {F : Nat → Nat → Bool} (hi : i < n) (hn : n ≤ 100000) (hw : nW ≤ 100000) (hl : 0 ≤ g (n - 1) 2 ∧ g (n - 1) 2 < 64) : A4 nW f n g i N F = N (step4 (tabW (fun k => f k 0) nW 0) n g i F) := by
  unfold A4 step4
  have e1 : Nat.blt i n = true := by rw [Nat.blt_eq]; exact hi
  have e2 : Nat.ble n 100000 = true := by rw [Nat.ble_eq]; exact hn
  have e3 : Nat.ble nW 100000 = true := by rw [Nat.ble_eq]; exact hw
  have e4 : IntKind.i64.wrap ((n : Int) - 1) = ((n - 1 : Nat) : Int) := by rw [IntKind.wrap_i64]; omega
  have e5 : (((n - 1 : Nat)) : Int).toNat = n - 1 := by omega
  rw [e1, e2, e3, e4, e5, ix_in (k := ((n - 1 : Nat) : Int)) (by omega) (by omega) (by decide), ix64_in hl.1 hl.2]
  cases slotG (tabW (fun k => f k 0) nW 0) n g i <;> rfl
theorem A3_eq {i : Nat} {N : (Nat → Nat → Bool) → Out} {F : Nat → Nat → Bool} (hi : i < n) (hn : n ≤ 100000) (hw : nW ≤ 100000) (hl : 0 ≤ g (n - 1) 2 ∧ g (n - 1) 2 < 64) : A3 nW f n g i (g i 0) N F = N (step4 (tabW (fun k => f k 0) nW 0) n g i (step3 g i F)) := by
  unfold A3 step3
  have e1 : Nat.blt i n = true := by rw [Nat.blt_eq]; exact hi
  have e2 : Nat.ble n 100000 = true := by rw [Nat.ble_eq]; exact hn
  rw [e1, e2, A4_eq nW f n g hi hn hw hl, A4_eq nW f n g hi hn hw hl]
  cases pureK (g i 0) <;> cases behindG g i <;> rfl
theorem A2_eq {i : Nat} {N : (Nat → Nat → Bool) → Out} {F : Nat → Nat → Bool} (hi : i < n) (hn : n ≤ 100000) (hw : nW ≤ 100000) (hl : 0 ≤ g (n - 1) 2 ∧ g (n - 1) 2 < 64) (ho : opIn (g i) = true) :
    A2 nW f n g i (g i 0) (readsK (g i 0) (g i 1) (g i 2) (g i 3)) N F = N (step4 (tabW (fun k => f k 0) nW 0) n g i (step3 g i (step2 (g i) F))) := by
  unfold A2 step2
  simp only [opIn, Bool.and_eq_true] at ho
  have e1 : Nat.ble (readsK (g i 0) (g i 1) (g i 2) (g i 3)).length 1000 = true := by rw [Nat.ble_eq]; have := reads_len (g i 0) (g i 1) (g i 2) (g i 3); omega
  rw [e1, ho.2, decide_eq_true (rfl : ((readsK (g i 0) (g i 1) (g i 2) (g i 3)).length : Int) = _), A3_eq nW f n g hi hn hw hl]
  rfl
theorem A1_eq {i : Nat} {N : (Nat → Nat → Bool) → Out} {F : Nat → Nat → Bool} (hi : i < n) (hn : n ≤ 100000) (hw : nW ≤ 100000) (hl : 0 ≤ g (n - 1) 2 ∧ g (n - 1) 2 < 64) (ho : opIn (g i) = true) :
    A1 nW f n g i (g i 0) (g i 1) (g i 2) (g i 3) N F = N (needStep (tabW (fun k => f k 0) nW 0) n g i F) := by
  unfold A1 needStep step1
  rw [A2_eq nW f n g hi hn hw hl ho, A2_eq nW f n g hi hn hw hl ho]
  simp only [opIn, Bool.and_eq_true, decide_eq_true_eq] at ho
  by_cases hp : writesK (g i 0) (g i 1) > 0
  · rw [ix64_in (by omega) ho.1]
    cases (bif (bif decide (writesK (g i 0) (g i 1) > 0) then g i 0 != 23 else false) then g i 0 != 24 else false) <;> rfl
  · rw [decide_eq_false hp]
    rfl
theorem head62a (K : Exit → AS → Out) (hn : n ≤ 100000) (hw : nW ≤ 100000) (hl : 0 ≤ g (n - 1) 2 ∧ g (n - 1) 2 < 64) (ho : opsIn g n = true) : ∀ (s N : Nat) (F G : Nat → Nat → Bool), s ≤ n →
    HeadK EA1 2 kp62a x62a (N + s + 50) K (S62 pc ((s : Int) - 1) 64 F n G (lB nW f oW n g o)) = K (.exit 0) (X62a n (needG (tabW (fun k => f k 0) nW 0) n g s F G) (lB nW f oW n g o))
  | 0, N, F, G, _ => by
    rw [show N + 0 + 50 = (N + 49) + 1 by omega, HeadK_succ (by rw [key62a]; rfl), key62a]
    exact end62a pc n nW f oW n g o F G _ K N
  | s + 1, N, F, G, hs => by
    rw [show N + (s + 1) + 50 = (N + s + 50) + 1 by omega, HeadK_succ (by rw [key62a]; rfl), key62a]
    have e1 : ((s + 1 : Nat) : Int) - 1 = (s : Int) := by omega
    rw [e1]
    refine (rnd62a pc n nW f oW n g o s F G _ K (N + s + 1)).trans ?_
    have e3 : IntKind.i64.wrap ((s : Int) - 1) = (s : Int) - 1 := by rw [IntKind.wrap_i64]; omega
    have e5 : ((s : Nat) : Int).toNat = s := by omega
    have e6 : ∀ x, ixG n (s : Int) x = x := fun x => by
      unfold ixG
      rw [decide_eq_true (show 0 ≤ (s : Int) by omega), decide_eq_true (show (s : Int) < (n : Int) by omega), decide_eq_true (show ((s : Nat) : Int).toNat < n by omega)]
      rfl
    rw [ix_in (k := (s : Int)) (by omega) (by omega) (by decide), e6, e5, e3, A1_eq nW f n g (by omega) hn hw hl (opsIn_at ho (by omega))]
    exact head62a K hn hw hl ho s N (needStep (tabW (fun k => f k 0) nW 0) n g s F) (updB1 G s fun j => F j 0) (by omega)
end
theorem gcS62 (pc i : Int) (nF : Nat) (F : Nat → Nat → Bool) (nl : Nat) (G : Nat → Nat → Bool) (nW : Nat) (f : Nat → Nat → Int) (oW : Nat → Nat → ByteArray) (n : Nat) (g : Nat → Nat → Int) (o : Nat → Nat → ByteArray) (H : AS → Out) :
    gc 2 (EA1.lv 4) (S62 pc i nF F nl G (lB nW f oW n g o)) H = H (S62 pc i nF F nl G (lB nW f oW n g o)) := by kernel_rfl
def d62 : AS := S62 0 0 0 (fun _ _ => false) 0 (fun _ _ => false) (lB 0 (fun _ _ => 0) (fun _ _ => ByteArray.empty) 0 (fun _ _ => 0) (fun _ _ => ByteArray.empty))
def okN (nW n : Nat) (g : Nat → Nat → Int) : Bool := Nat.ble n 100000 && Nat.ble nW 100000 && (decide (0 ≤ g (n - 1) 2) && decide (g (n - 1) 2 < 64)) && opsIn g n
def lp62a (m : Nat) (st : AS) (K : Exit → AS → Out) : Out := bif Nat.beq m 2 && likeS st d62 then (match datS st with
  | ⟨[i, _], [], [F, G], [nF, nl, nW, n], [f, g], [oW, o], []⟩ => bif decide (i = (n : Int) - 1) && Nat.beq nl n && Nat.beq nF 64 && okN nW n g then
      K (.exit 0) (X62a n (needG (tabW (fun k => f k 0) nW 0) n g n F G) (lB nW f oW n g o)) else none
  | _ => none) else none
theorem ref62 (i pc : Int) (F G : Nat → Nat → Bool) (nF nl nW n : Nat) (f g : Nat → Nat → Int) (oW o : Nat → Nat → ByteArray) :
    refS d62 ⟨[i, pc], [], [F, G], [nF, nl, nW, n], [f, g], [oW, o], []⟩ = S62 pc i nF F nl G (lB nW f oW n g o) := by kernel_rfl
theorem EA1_in : LpC EA1 x62a → True := fun _ => trivial
theorem loops62a : loopsC x62a = [x62b, x62c] := by kernel_rfl
theorem EA1_lp {x : Code} (hx : x = x62b ∨ x = x62c) : ∀ f, EA1.lp (keyC x) = some f → LoopS EA1.P x f := by
  intro f hf
  rcases hx with rfl | rfl
  · have e : EA1.lp (keyC x62b) = some lp62b := by rw [key62b]; rfl
    rw [e] at hf
    injection hf with hf
    subst hf
    exact lp62b_ok
  · have e : EA1.lp (keyC x62c) = some lp62c := by rw [key62c]; rfl
    rw [e] at hf
    injection hf with hf
    subst hf
    exact lp62c_ok
theorem EA1_a : EA1.lp (keyC x62a) = none := by rw [key62a]; rfl
theorem lp62a_ok : LoopS Try.prog x62a lp62a := by
  refine LoopS.head (E := EA1) (kp := kp62a) EA1_s pfl (fun x hx f hf => ?_) EA1_a fun m st K out h => ?_
  · rcases List.mem_cons.1 (show x ∈ x62a :: loopsC x62a from hx) with rfl | hx
    · rw [EA1_a] at hf
      cases hf
    · rw [loops62a] at hx
      exact EA1_lp (by simpa using hx) f hf
  · unfold lp62a at h
    cases hl : (Nat.beq m 2 && likeS st d62) with
    | false => simp [hl] at h
    | true =>
      simp only [hl, cond_true] at h
      rw [Bool.and_eq_true] at hl
      have hm := Nat.eq_of_beq_eq_true hl.1
      have hst := likeS_ref hl.2
      split at h
      · rename_i i pc F G nF nl nW n f g oW o hd
        cases hc : (decide (i = (n : Int) - 1) && Nat.beq nl n && Nat.beq nF 64 && okN nW n g) with
        | false => simp [hc] at h
        | true =>
          simp only [hc, cond_true] at h
          simp only [okN, Bool.and_eq_true, decide_eq_true_eq, Nat.ble_eq] at hc
          obtain ⟨⟨⟨rfl, h1⟩, h2⟩, ⟨⟨h3, h4⟩, h5⟩, h6⟩ := hc
          have h1 := Nat.eq_of_beq_eq_true h1
          have h2 := Nat.eq_of_beq_eq_true h2
          subst h1 h2
          rw [hd, ref62] at hst
          subst hst hm
          refine ⟨0 + nl + 50, ?_⟩
          rw [key62a, gcS62]
          exact (head62a pc nW f oW nl g o K h3 h4 h5 h6 nl 0 F G (Nat.le_refl _)).trans h
      · cases h
noncomputable def EA2 : Env := (EZ0.marks lv62 fun _ => none).loops fun i => bif Nat.beq i 12 then some lp62b else bif Nat.beq i 18 then some lp62c else bif Nat.beq i 4 then some lp62a else none
theorem EA2_s : EA2.Sound := EZ0_s.marks.loops
theorem EA2_lp : LpF EA2 Try.f62 := LpF.of fun x hx f hf => by
  rw [loops62] at hx
  simp only [List.mem_cons, List.not_mem_nil, or_false] at hx
  rcases hx with rfl | rfl | rfl
  · have e : EA2.lp (keyC x62a) = some lp62a := by rw [key62a]; rfl
    rw [e] at hf
    injection hf with hf
    subst hf
    exact lp62a_ok
  · have e : EA2.lp (keyC x62b) = some lp62b := by rw [key62b]; rfl
    rw [e] at hf
    injection hf with hf
    subst hf
    exact lp62b_ok
  · have e : EA2.lp (keyC x62c) = some lp62c := by rw [key62c]; rfl
    rw [e] at hf
    injection hf with hf
    subst hf
    exact lp62c_ok
theorem has62 : hasFn Try.prog 62 Try.f62 := ⟨by kernel_rfl, by kernel_rfl, by kernel_rfl⟩
end Go.Proofs.Ytjpeplidbodjiaa
