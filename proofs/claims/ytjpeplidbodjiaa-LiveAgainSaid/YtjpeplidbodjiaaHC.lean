/- live.Dead: its outer loop, summed up. -/
import Derived.Test.YtjpeplidbodjiaaHB
namespace Go.Proofs.Ytjpeplidbodjiaa
set_option maxRecDepth 100000
def opAt (g : Nat → Nat → Int) (i : Nat) : OpT := ⟨g i 0, g i 1, g i 2, g i 3, g i 4, g i 5⟩
theorem tabO_cons (g : Nat → Nat → Int) (c i : Nat) : tabO g (c + 1) i = opAt g i :: tabO g c (i + 1) := rfl
theorem tabO_snoc (g : Nat → Nat → Int) : ∀ c i, tabO g (c + 1) i = tabO g c i ++ [opAt g (i + c)]
  | 0, i => rfl
  | c + 1, i => by
    rw [tabO_cons, tabO_snoc g c (i + 1), tabO_cons, List.cons_append, show i + 1 + c = i + (c + 1) by omega]
theorem tabO_congr {g g' : Nat → Nat → Int} : ∀ {c i : Nat}, (∀ k, i ≤ k → k < i + c → opAt g k = opAt g' k) → tabO g c i = tabO g' c i
  | 0, i, _ => rfl
  | c + 1, i, h => by
    rw [tabO_cons, tabO_cons, h i (Nat.le_refl _) (by omega), tabO_congr fun k h1 h2 => h k (by omega) (by omega)]
/-- A list's operations. -/
def RowL.ops (r : RowL) : List OpT := tabO r.f r.n 0
theorem RowL.ops_len (r : RowL) : r.ops.length = r.n := tabO_len _ _ _
theorem ops_push (r : RowL) (g : Nat → Nat → Int) (i : Nat) : (r.push (opRow g i)).ops = r.ops ++ [opAt g i] := by
  have e : (r.push (opRow g i)).ops = tabO (r.push (opRow g i)).f (r.n + 1) 0 := rfl
  rw [e, tabO_snoc]
  congr 1
  · refine tabO_congr fun k _ h => ?_
    have hk : Nat.blt k r.n = true := by rw [Nat.blt_eq]; omega
    simp only [opAt, RowL.push, hk, cond_true]
  · have hk : Nat.blt (0 + r.n) r.n = false := blt_false (by omega)
    simp only [opAt, RowL.push, hk, cond_false]
    rfl
/-- Of a list those that are kept, by their numbers. -/
def filtT (p : Nat → Bool) : Nat → List OpT → List OpT
  | _, [] => []
  | i, q :: l => bif p i then q :: filtT p (i + 1) l else filtT p (i + 1) l
theorem ops_filtR (p : Nat → Bool) (g : Nat → Nat → Int) : ∀ (c i : Nat) (r : RowL), (filtR p (opRow g) c i r).ops = r.ops ++ filtT p i (tabO g c i)
  | 0, i, r => by simp [filtR, tabO, filtT]
  | c + 1, i, r => by
    rw [filtR, ops_filtR p g c (i + 1), tabO_cons, filtT]
    cases p i with
    | true => rw [cond_true, cond_true, ops_push, List.append_assoc]; rfl
    | false => rfl
theorem ops_stepR (ws : List Int) (n : Nat) (g : Nat → Nat → Int) : (stepR ws n g).ops = filtT (keepP (needsG ws n g) g) 0 (tabO g n 0) := by
  unfold stepR
  rw [ops_filtR]
  rfl
theorem filtT_sub (p : Nat → Bool) : ∀ (l : List OpT) (i : Nat), (filtT p i l).Sublist l
  | [], _ => List.Sublist.slnil
  | q :: l, i => by
    rw [filtT]
    cases p i with
    | true => exact (filtT_sub p l (i + 1)).cons_cons _
    | false => exact (filtT_sub p l (i + 1)).cons _
theorem filtT_last (p : Nat → Bool) : ∀ (l : List OpT) (i : Nat), 0 < l.length → p (i + (l.length - 1)) = true → (filtT p i l).getLast? = l.getLast?
  | [], _, h, _ => by simp at h
  | [q], i, _, h => by
    have h : p i = true := h
    simp [filtT, h]
  | q :: q' :: l, i, _, h => by
    have ih := filtT_last p (q' :: l) (i + 1) (by simp) (by
      have e : i + 1 + ((q' :: l).length - 1) = i + ((q :: q' :: l).length - 1) := by simp; omega
      rw [e]; exact h)
    rw [List.getLast?_cons_cons, ← ih, filtT]
    cases p i with
    | false => rfl
    | true =>
      simp only [cond_true]
      cases hf : filtT p (i + 1) (q' :: l) with
      | nil => rw [hf, List.getLast?_nil] at ih; exact absurd ih.symm (by simp [List.getLast?_cons])
      | cons a b => exact List.getLast?_cons_cons
def opInT (q : OpT) : Bool := decide (writesK q.k q.D < 64) && inR (listF (readsK q.k q.D q.A q.B)) (readsK q.k q.D q.A q.B).length 0
def dOkT (q : OpT) : Bool := !pureK q.k || (decide (0 ≤ q.D) && decide (q.D < 64))
/-- What is asked of a block's operations. -/
def okD (nW : Nat) (os : List OpT) : Bool := Nat.ble os.length 1000 && Nat.ble nW 1000 && (match os.getLast? with
  | some q => decide (0 ≤ q.A) && decide (q.A < 64) && !pureK q.k
  | none => false) && os.all fun q => opInT q && dOkT q
theorem opsIn_all (g : Nat → Nat → Int) : ∀ n, (tabO g n 0).all opInT = opsIn g n
  | 0 => rfl
  | n + 1 => by
    rw [tabO_snoc, List.all_append, opsIn_all g n, opsIn, Bool.and_comm]
    simp only [List.all_cons, List.all_nil, Bool.and_true, Nat.zero_add]
    rfl
theorem dOks_all (g : Nat → Nat → Int) : ∀ c i, (tabO g c i).all dOkT = dOks g c i
  | 0, _ => rfl
  | c + 1, i => by
    rw [tabO_cons, List.all_cons, dOks_all g c (i + 1), dOks]
    rfl
theorem last_tab (g : Nat → Nat → Int) (n : Nat) (h : 0 < n) : (tabO g n 0).getLast? = some (opAt g (n - 1)) := by
  obtain ⟨m, rfl⟩ : ∃ m, n = m + 1 := ⟨n - 1, by omega⟩
  rw [tabO_snoc]
  simp
theorem okD_parts {nW n : Nat} {g : Nat → Nat → Int} (h : okD nW (tabO g n 0) = true) : 0 < n ∧ n ≤ 1000 ∧ nW ≤ 1000 ∧ okN nW n g = true ∧ dOks g n 0 = true ∧ pureK (g (n - 1) 0) = false := by
  unfold okD at h
  rw [tabO_len] at h
  simp only [Bool.and_eq_true, Nat.ble_eq] at h
  obtain ⟨⟨⟨h1, h2⟩, h3⟩, h4⟩ := h
  have hn : 0 < n := by
    rcases Nat.eq_zero_or_pos n with h0 | h0
    · subst h0
      simp [tabO] at h3
    · exact h0
  rw [last_tab g n hn] at h3
  simp only [Bool.and_eq_true, decide_eq_true_eq, Bool.not_eq_true'] at h3
  have h5 : (tabO g n 0).all opInT = true ∧ (tabO g n 0).all dOkT = true := by
    simp only [List.all_eq_true, Bool.and_eq_true] at h4 ⊢
    exact ⟨fun q hq => (h4 q hq).1, fun q hq => (h4 q hq).2⟩
  rw [opsIn_all, dOks_all] at h5
  refine ⟨hn, h1, h2, ?_, h5.2, h3.2⟩
  unfold okN
  have e1 : Nat.ble n 100000 = true := by rw [Nat.ble_eq]; omega
  have e2 : Nat.ble nW 100000 = true := by rw [Nat.ble_eq]; omega
  rw [e1, e2, h5.1]
  have e3 : g (n - 1) 2 = (opAt g (n - 1)).A := rfl
  rw [e3, decide_eq_true h3.1.1, decide_eq_true h3.1.2]
  rfl
theorem keep_last {ws : List Int} {n : Nat} {g : Nat → Nat → Int} (h : pureK (g (n - 1) 0) = false) : keepP (needsG ws n g) g (n - 1) = true := by
  unfold keepP
  rw [h]
  rfl
theorem okD_step {nW n : Nat} {ws : List Int} {g : Nat → Nat → Int} (h : okD nW (tabO g n 0) = true) : okD nW (stepR ws n g).ops = true := by
  obtain ⟨h0, h1, h2, _, _, h5⟩ := okD_parts h
  rw [ops_stepR]
  unfold okD at h ⊢
  simp only [Bool.and_eq_true, Nat.ble_eq] at h ⊢
  have hs := filtT_sub (keepP (needsG ws n g) g) (tabO g n 0) 0
  have hl := hs.length_le
  rw [filtT_last _ _ _ (by rw [tabO_len]; exact h0) (by rw [tabO_len, Nat.zero_add]; exact keep_last h5)]
  refine ⟨⟨⟨by omega, h2⟩, h.1.2⟩, ?_⟩
  have h4 := h.2
  rw [List.all_eq_true] at h4 ⊢
  exact fun q hq => h4 q (hs.subset hq)
/-- What is left when nothing more goes. -/
def deadR (ws : List Int) : Nat → RowL → RowL
  | 0, q => q
  | c + 1, q => bif Nat.beq (stepR ws q.n q.f).n q.n then q else deadR ws c (stepR ws q.n q.f)
theorem stepR_le (ws : List Int) (n : Nat) (g : Nat → Nat → Int) : (stepR ws n g).n ≤ n := by
  have := filtR_le (keepP (needsG ws n g) g) (opRow g) n 0 nilR
  unfold stepR
  have e : nilR.n = 0 := rfl
  omega
theorem beq_cast (a b : Nat) : ((a : Int) == (b : Int)) = Nat.beq a b := by
  by_cases h : a = b
  · subst h
    rw [Nat.beq_refl]
    simp
  · have e : Nat.beq a b = false := by
      cases e : Nat.beq a b with
      | false => rfl
      | true => exact absurd (Nat.eq_of_beq_eq_true e) h
    rw [e]
    have h' : ¬ (a : Int) = (b : Int) := fun e => h (by omega)
    exact beq_eq_false_iff_ne.2 h'
section
variable (pc : Int) (nW : Nat) (f : Nat → Nat → Int) (oW : Nat → Nat → ByteArray) (n : Nat) (g : Nat → Nat → Int) (o : Nat → Nat → ByteArray) (K : Exit → AS → Out)
theorem rnd19q' (q : RowL) (H : AS → Out) (N : Nat) (h : okD nW q.ops = true) : ev EHD1 2 (N + 50) x19 (S19q pc q (lB nW f oW n g o)) (rkG 2 (EHD1.lv 3) kp19 H K) =
    bif Nat.beq (stepR (tabW (fun k => f k 0) nW 0) q.n q.f).n q.n then K .ret (R19q pc q (lB nW f oW n g o)) else H (S19q pc (stepR (tabW (fun k => f k 0) nW 0) q.n q.f) (lB nW f oW n g o)) := by
  obtain ⟨h0, h1, h2, h3, h4, _⟩ := okD_parts h
  refine (rnd19q pc nW f oW n g o K q H N).trans ?_
  have e : Nat.ble q.n 1000 = true := by rw [Nat.ble_eq]; exact h1
  rw [h3, h4, e, decide_eq_true (rfl : ((q.n : Nat) : Int) = (q.n : Int)), Nat.beq_refl, beq_cast]
  rfl
theorem rnd19' (H : AS → Out) (N : Nat) (h : okD nW (tabO g n 0) = true) : ev EHD1 2 (N + 50) x19 (S19 pc (lB nW f oW n g o)) (rkG 2 (EHD1.lv 3) kp19 H K) =
    bif Nat.beq (stepR (tabW (fun k => f k 0) nW 0) n g).n n then K .ret (R19 pc (lB nW f oW n g o)) else H (S19q pc (stepR (tabW (fun k => f k 0) nW 0) n g) (lB nW f oW n g o)) := by
  obtain ⟨h0, h1, h2, h3, h4, _⟩ := okD_parts h
  refine (rnd19 pc nW f oW n g o K H N).trans ?_
  have e : Nat.ble n 1000 = true := by rw [Nat.ble_eq]; exact h1
  rw [h3, h4, e, decide_eq_true (rfl : ((n : Nat) : Int) = (n : Int)), Nat.beq_refl, beq_cast]
  rfl
theorem head19q : ∀ (c N : Nat) (q : RowL), q.n < c → okD nW q.ops = true →
    HeadK EHD1 2 kp19 x19 (N + c + 50) K (S19q pc q (lB nW f oW n g o)) = K .ret (R19q pc (deadR (tabW (fun k => f k 0) nW 0) c q) (lB nW f oW n g o))
  | 0, N, q, h, _ => by omega
  | c + 1, N, q, h, hk => by
    rw [show N + (c + 1) + 50 = (N + c + 50) + 1 by omega, HeadK_succ (by rw [key19]; rfl), key19]
    refine (rnd19q' pc nW f oW n g o K q _ (N + c + 1) hk).trans ?_
    rw [deadR]
    have hle := stepR_le (tabW (fun k => f k 0) nW 0) q.n q.f
    have hst := okD_step (ws := tabW (fun k => f k 0) nW 0) hk
    have ih := head19q c N (stepR (tabW (fun k => f k 0) nW 0) q.n q.f)
    cases hb : Nat.beq (stepR (tabW (fun k => f k 0) nW 0) q.n q.f).n q.n with
    | true => simp only [cond_true]
    | false =>
      have hne := Nat.ne_of_beq_eq_false hb
      simp only [cond_false]
      exact ih (by omega) hst
/-- The whole loop. -/
theorem head19 (N : Nat) (h : okD nW (tabO g n 0) = true) : HeadK EHD1 2 kp19 x19 (N + n + 52) K (S19 pc (lB nW f oW n g o)) =
    bif Nat.beq (stepR (tabW (fun k => f k 0) nW 0) n g).n n then K .ret (R19 pc (lB nW f oW n g o)) else K .ret (R19q pc (deadR (tabW (fun k => f k 0) nW 0) (n + 1) (stepR (tabW (fun k => f k 0) nW 0) n g)) (lB nW f oW n g o)) := by
  rw [show N + n + 52 = (N + (n + 1) + 50) + 1 by omega, HeadK_succ (by rw [key19]; rfl), key19]
  refine (rnd19' pc nW f oW n g o K _ (N + n + 2) h).trans ?_
  have hle := stepR_le (tabW (fun k => f k 0) nW 0) n g
  have := head19q pc nW f oW n g o K (n + 1) N (stepR (tabW (fun k => f k 0) nW 0) n g) (by omega) (okD_step h)
  cases Nat.beq (stepR (tabW (fun k => f k 0) nW 0) n g).n n with
  | true => simp only [cond_true]
  | false =>
    simp only [cond_false]
    exact this
end
end Go.Proofs.Ytjpeplidbodjiaa
