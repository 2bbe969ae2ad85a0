/- Loads and stores, as the evaluator does them, are the machine's. -/
import Derived.Test.YtjpeplidbodjiaaSnd
namespace Go.Proofs.Ytjpeplidbodjiaa
open Go.RowKit
def bsO (β : Bt) (l : List (Nat × TypeId × BB)) : List Bl := l.map fun q => ⟨β.b q.1, q.2.1, cB β q.2.2⟩
def lsO (β : Bt) (l : List (Nat × LB)) : List Ls := (l.filter (·.2.own)).map fun q => ⟨slv (β.l q.1), q.2.e, q.2.bb.sz, q.2.bb.n, lV q.2⟩
theorem flat_slice (g : Nat → List Value) (m : Nat) (hm : ∀ k, (g k).length = m) (n k : Nat) (hk : k < n) : (((List.range n).flatMap g).drop (k * m)).take m = g k := by
  apply List.ext_getElem?
  intro j
  rw [List.getElem?_take, List.getElem?_drop]
  by_cases hj : j < m
  · rw [if_pos hj, flat_get g m hm k j hj n hk]
  · rw [if_neg hj, List.getElem?_eq_none (by rw [hm]; omega)]
theorem flat_single (f : Nat → Value) (n : Nat) : ((List.range n).flatMap fun k => (List.range 1).map fun _ => f k) = (List.range n).map f := by
  induction n with
  | zero => rfl
  | succ n ih => rw [List.range_succ (n := n), List.flatMap_append, ih, List.map_append]; rfl
variable {P : Program} {w : World} {β : Bt}
theorem ld_run {g o0 : Nat} {t : TypeId} {bb : BB} (hc : ∀ i x, (cB β bb)[i]? = some x → w.cell? ⟨g, o0 + i, none⟩ = some x) {k j : Nat} {via : Bool} {v : AV} (h : ldBB P t bb k j via = some v) (hk : via = true → k < bb.n ∧ j < bb.sz) :
    v = .one .any ∨ (Instr.loadAt t (.pointer (some ⟨g, o0 + (if via then k * bb.sz + j else j), none⟩))).run P w = .ok (cA β v) w := by
  have row : ∀ {off : Nat}, isRowT P t = true → 0 < sizeT P t → off + sizeT P t ≤ (cB β bb).length → (Instr.loadAt t (.pointer (some ⟨g, o0 + off, none⟩))).run P w = .ok (.agg (((cB β bb).drop off).take (sizeT P t)).toArray) w := by
    intro off h1 h2 h3
    obtain ⟨d, hu, hd⟩ := isRowT_spec h1
    refine run_loadAt_mid w g (o0 + off) t _ d ?_ hu hd (by rw [sizeT_spec rfl h2]; simp; omega)
    intro j v hj
    rw [List.getElem?_take] at hj
    split at hj
    · rw [List.getElem?_drop] at hj
      have := hc _ _ hj
      rwa [← Nat.add_assoc] at this
    · cases hj
  have one : ∀ {off : Nat} {x : Value}, isOneT P t = true → (cB β bb)[off]? = some x → (Instr.loadAt t (.pointer (some ⟨g, o0 + off, none⟩))).run P w = .ok x w := by
    intro off x h1 h2
    simp only [Instr.loadAt, Instr.sureAddr, Sem.run_bind, Sem.run_pure, Result.andThen_ok]
    exact run_loadVar_one h1 (hc _ _ h2)
  cases bb with
  | cells cs =>
    cases via with
    | true => simp [ldBB] at h
    | false =>
      simp only [ldBB, cond_false] at h
      by_cases h1 : isRowT P t = true
      · simp only [h1, cond_true] at h
        cases h2 : (Nat.blt 0 (sizeT P t) && Nat.ble (j + sizeT P t) cs.length) with
        | false => simp [h2] at h
        | true =>
          simp only [h2, cond_true, Option.some.injEq] at h
          simp only [Bool.and_eq_true, Nat.blt_eq, Nat.ble_eq] at h2
          right
          subst h
          rw [if_neg (by simp), row h1 h2.1 (by simp [cB]; exact h2.2)]
          simp [cA, cA0, cB, List.map_take, List.map_drop]
      · simp only [Bool.not_eq_true] at h1
        cases h2 : isOneT P t with
        | false => simp [h1, h2] at h
        | true =>
          simp only [h1, h2, cond_false, cond_true, Option.some.injEq] at h
          by_cases hj : j < cs.length
          · right
            subst h
            rw [if_neg (by simp)]
            exact one h2 (by simp only [cB, List.getElem?_map, nthC_get cs j hj]; rfl)
          · left
            rw [← h, nthC_any cs j (by omega)]
  | bools m n f =>
    have hl : ∀ k, ((List.range m).map fun j => Value.bool (f k j)).length = m := by simp
    cases via with
    | true =>
      obtain ⟨hkn, hj⟩ := hk rfl
      clear hk
      simp only [BB.n, BB.sz] at hkn hj ⊢
      simp only [ldBB, cond_true] at h
      by_cases h1 : isRowT P t = true
      · simp only [h1, cond_true] at h
        cases h2 : (Nat.blt 0 (sizeT P t) && Nat.beq j 0 && Nat.beq (sizeT P t) m) with
        | false => simp [h2] at h
        | true =>
          simp only [h2, cond_true, Option.some.injEq] at h
          simp only [Bool.and_eq_true, Nat.blt_eq, Nat.beq_eq] at h2
          obtain ⟨⟨h2, h3⟩, h4⟩ := h2
          right
          subst h h3
          have hle : k * m + 0 + sizeT P t ≤ (cB β (.bools m n f)).length := by
            simp only [cB]; rw [flat_len _ m hl n, h4]
            have : (k + 1) * m ≤ n * m := Nat.mul_le_mul_right m hkn
            rw [Nat.succ_mul] at this
            omega
          rw [if_pos trivial, row h1 h2 hle]
          simp only [cB, Nat.add_zero, h4]
          rw [flat_slice _ m hl n k hkn]
          rfl
      · simp only [Bool.not_eq_true] at h1
        cases h2 : isOneT P t with
        | false => simp [h1, h2] at h
        | true =>
          simp only [h1, h2, cond_false, cond_true, Option.some.injEq] at h
          right
          subst h
          rw [if_pos trivial]
          refine one h2 ?_
          simp only [cB]
          rw [flat_get _ m hl k j hj n hkn]
          simp [hj, cA, cA0, cC]
    | false =>
      simp only [ldBB, cond_false] at h
      cases h2 : (Nat.blt 0 (sizeT P t) && Nat.beq m 1 && Nat.beq (sizeT P t) n && isRowT P t && Nat.beq j 0) with
      | false => simp [h2] at h
      | true =>
        simp only [h2, cond_true, Option.some.injEq] at h
        simp only [Bool.and_eq_true, Nat.blt_eq, Nat.beq_eq] at h2
        obtain ⟨⟨⟨⟨h2, h3⟩, h4⟩, h5⟩, h6⟩ := h2
        right
        subst h h3 h6
        have e : cB β (.bools 1 n f) = (List.range n).map fun i => Value.bool (f i 0) := flat_single (fun i => Value.bool (f i 0)) n
        rw [if_neg (by simp), row h5 h2 (by rw [e, h4]; simp)]
        rw [e, h4]
        simp [cA, cA0, List.take_of_length_le]
  | row sh n f o =>
    have hl : ∀ k, (rowV sh f o k).length = sh.length := rowV_len sh f o
    cases via with
    | false => simp [ldBB] at h
    | true =>
      obtain ⟨hkn, hj⟩ := hk rfl
      clear hk
      simp only [BB.n, BB.sz] at hkn hj ⊢
      simp only [ldBB, cond_true] at h
      by_cases h1 : isRowT P t = true
      · simp only [h1, cond_true] at h
        cases h2 : (Nat.blt 0 (sizeT P t) && Nat.beq j 0 && Nat.beq (sizeT P t) sh.length) with
        | false => simp [h2] at h
        | true =>
          simp only [h2, cond_true, Option.some.injEq] at h
          simp only [Bool.and_eq_true, Nat.blt_eq, Nat.beq_eq] at h2
          obtain ⟨⟨h2, h3⟩, h4⟩ := h2
          right
          subst h h3
          have hle : k * sh.length + 0 + sizeT P t ≤ (cB β (.row sh n f o)).length := by
            simp only [cB]; rw [flat_len _ sh.length hl n, h4]
            have : (k + 1) * sh.length ≤ n * sh.length := Nat.mul_le_mul_right _ hkn
            rw [Nat.succ_mul] at this
            omega
          rw [if_pos trivial, row h1 h2 hle]
          simp only [cB, Nat.add_zero, h4]
          rw [flat_slice _ sh.length hl n k hkn]
          simp only [cA, cA0, rowV, shAll_plain f o k β]
      · simp only [Bool.not_eq_true] at h1
        cases h2 : isOneT P t with
        | false => simp [h1, h2] at h
        | true =>
          simp only [h1, h2, cond_false, cond_true, Option.some.injEq] at h
          right
          subst h
          rw [if_pos trivial]
          refine one h2 ?_
          simp only [cB]
          rw [flat_get _ sh.length hl k j hj n hkn, rowV_get β sh f o k j hj]
          rfl
theorem putAt_left (A B : List Value) (off : Nat) (vs : List Value) (h : off + vs.length ≤ A.length) : putAt (A ++ B) off vs = putAt A off vs ++ B := by
  unfold putAt
  rw [List.take_append_of_le_length (by omega), List.drop_append_of_le_length (by omega)]
  simp
theorem putAt_right (A B : List Value) (off : Nat) (vs : List Value) : putAt (A ++ B) (A.length + off) vs = A ++ putAt B off vs := by
  unfold putAt
  rw [List.take_length_add_append, Nat.add_assoc, List.drop_length_add_append]
  simp
theorem putAt_len (A : List Value) (off : Nat) (vs : List Value) (h : off + vs.length ≤ A.length) : (putAt A off vs).length = A.length := by
  unfold putAt; simp; omega
theorem flat_upd (g g' : Nat → List Value) (m : Nat) (hm : ∀ k, (g k).length = m) (k j : Nat) (vs : List Value) (hj : j + vs.length ≤ m) (hne : ∀ i, i ≠ k → g' i = g i) (hk' : g' k = putAt (g k) j vs) :
    ∀ n, k < n → (List.range n).flatMap g' = putAt ((List.range n).flatMap g) (k * m + j) vs := by
  intro n
  induction n with
  | zero => intro h; omega
  | succ n ih =>
    intro h
    rw [List.range_succ, List.flatMap_append, List.flatMap_append]
    have hl := flat_len g m hm n
    by_cases e : k = n
    · subst e
      have hs : ∀ q, q ≤ k → (List.range q).flatMap g' = (List.range q).flatMap g := by
        intro q hq
        induction q with
        | zero => rfl
        | succ q ihq => rw [List.range_succ, List.flatMap_append, List.flatMap_append, ihq (by omega)]; simp [hne q (by omega)]
      rw [hs k (Nat.le_refl _), ← hl, putAt_right]
      simp [hk']
    · have hlt : k < n := by omega
      have hb : k * m + j + vs.length ≤ ((List.range n).flatMap g).length := by
        rw [hl]
        have : (k + 1) * m ≤ n * m := Nat.mul_le_mul_right m hlt
        rw [Nat.succ_mul] at this
        omega
      rw [ih hlt, putAt_left _ _ _ _ hb]
      simp [hne n (Ne.symm e)]
theorem rowV_at (sh : List CK) (f : Nat → Nat → Int) (o : Nat → Nat → ByteArray) (k : Nat) (i : Nat) :
    (rowV sh f o k)[i]? = (sh[i]?).map fun c => match c with | .i kd => Value.int kd (f k i) | .s => Value.string (o k i) := by
  have key : ∀ (sh : List CK) (j i : Nat), ((shAll f o k sh j).map fun c => (plainC c).getD undef)[i]? = (sh[i]?).map fun c => match c with | .i kd => Value.int kd (f k (j + i)) | .s => Value.string (o k (j + i)) := by
    intro sh
    induction sh with
    | nil => intro j i; simp [shAll]
    | cons c r ih =>
      intro j i
      cases i with
      | zero => cases c <;> simp [shAll, plainC]
      | succ i => cases c <;> (simp only [shAll, List.map_cons, List.getElem?_cons_succ]; rw [ih]; simp [Nat.add_assoc, Nat.add_comm 1])
  have := key sh 0 i
  simpa [rowV] using this
theorem putAt_get (A : List Value) (off : Nat) (vs : List Value) (h : off + vs.length ≤ A.length) (i : Nat) :
    (putAt A off vs)[i]? = if off ≤ i ∧ i < off + vs.length then vs[i - off]? else A[i]? := by
  unfold putAt
  have ht : (A.take off).length = off := by simp; omega
  by_cases h1 : i < off
  · rw [if_neg (by omega), List.append_assoc, List.getElem?_append_left (by omega), List.getElem?_take, if_pos h1]
  · by_cases h2 : i < off + vs.length
    · rw [if_pos (by omega), List.append_assoc, List.getElem?_append_right (by omega), List.getElem?_append_left (by omega), ht]
    · rw [if_neg (by omega), List.getElem?_append_right (by simp; omega), List.getElem?_drop]
      congr 1
      simp
      omega
theorem okC_cell (β : Bt) {c : AC} (h : okC c = true) : (cC β c).oneCell' = true := by
  cases c with
  | v x => exact h
  | any => cases h
  | el l id sz k j => cases l <;> rfl
  | _ => rfl
theorem cells_one {x : Value} (h : x.oneCell' = true) : x.cells = #[x] := by cases x <;> first | rfl | cases h
theorem cellsA_spec (β : Bt) {y : AV} {vs : List AC} (h : cellsA y = some vs) (ho : vs.all okC = true) : (cA β y).cells = (vs.map (cC β)).toArray ∧ (vs.map (cC β)).all (·.oneCell') = true := by
  refine ⟨?_, ?_⟩
  · cases y with
    | one c =>
      simp only [cellsA, Option.some.injEq] at h
      subst h
      simp only [List.all_cons, List.all_nil, Bool.and_true] at ho
      simp only [cA, cA0, cells_one (okC_cell β ho)]
      rfl
    | agg cs =>
      simp only [cellsA, Option.some.injEq] at h
      subst h
      rfl
    | arr n f => cases h
    | tup vs => cases h
    | clo f vs => cases h
  · rw [List.all_eq_true] at ho ⊢
    intro x hx
    obtain ⟨c, hc, rfl⟩ := List.mem_map.1 hx
    exact okC_cell β (ho c hc)
theorem updRow_spec (k : Nat) : ∀ (sh : List CK) (vs : List AC) (j : Nat) (f f' : Nat → Nat → Int), updRow f k sh vs j = some f' →
    sh.length = vs.length ∧ (∀ k' j', (k' ≠ k ∨ j' < j ∨ j + sh.length ≤ j') → f' k' j' = f k' j') ∧ ∀ i (c : AC), vs[i]? = some c → ∃ kd x, c = .v (.int kd x) ∧ sh[i]? = some (.i kd) ∧ f' k (j + i) = x := by
  intro sh
  induction sh with
  | nil =>
    intro vs j f f' h
    cases vs with
    | nil => simp [updRow] at h; subst h; exact ⟨rfl, fun _ _ _ => rfl, fun i c hc => by simp at hc⟩
    | cons _ _ => simp [updRow] at h
  | cons c r ih =>
    intro vs j f f' h
    cases c with
    | s => simp [updRow] at h
    | i kd =>
      cases vs with
      | nil => simp [updRow] at h
      | cons y ys =>
        cases y with
        | v x =>
          cases x with
          | int kd' x =>
            simp only [updRow] at h
            by_cases e : kd = kd'
            · subst e
              simp only [decide_true, cond_true] at h
              obtain ⟨h1, h2, h3⟩ := ih ys (j + 1) _ f' h
              refine ⟨by simp [h1], ?_, ?_⟩
              · intro k' j' hk
                rw [h2 k' j' (by simp at hk; omega)]
                unfold updF
                rw [if_neg (by simp at hk; omega)]
              · intro i c hc
                cases i with
                | zero =>
                  simp only [List.getElem?_cons_zero, Option.some.injEq] at hc
                  refine ⟨kd, x, hc.symm, rfl, ?_⟩
                  rw [h2 k (j + 0) (by omega)]
                  simp [updF]
                | succ i =>
                  simp only [List.getElem?_cons_succ] at hc
                  obtain ⟨kd', x', e1, e2, e3⟩ := h3 i c hc
                  exact ⟨kd', x', e1, by simpa using e2, by rw [← e3]; congr 1; omega⟩
            · simp [e] at h
          | _ => simp [updRow] at h
        | _ => simp [updRow] at h
theorem st_run {β : Bt} {P : Program} {t : TypeId} {bb bb' : BB} {k j : Nat} {via : Bool} {y : AV} (h : stBB P t bb k j via y = some bb') (hk : via = true → k < bb.n ∧ j < bb.sz) :
    ∃ vs : List Value, (cA β y).cells = vs.toArray ∧ (P.info? t).map (·.size) = some vs.length ∧ vs.all (·.oneCell') = true ∧ (if via then k * bb.sz + j else j) + vs.length ≤ (cB β bb).length ∧
      cB β bb' = putAt (cB β bb) (if via then k * bb.sz + j else j) vs := by
  have bound : ∀ {m n k : Nat}, k < n → k * m + m ≤ n * m := by
    intro m n k hk
    have : (k + 1) * m ≤ n * m := Nat.mul_le_mul_right m hk
    rwa [Nat.succ_mul] at this
  cases bb with
  | cells cs =>
    cases via with
    | true => simp [stBB] at h
    | false =>
      simp only [stBB, cond_false] at h
      cases hy : cellsA y with
      | none => simp [hy] at h
      | some vs =>
        simp only [hy] at h
        cases h2 : (vs.all okC && Nat.blt 0 (sizeT P t) && Nat.beq vs.length (sizeT P t) && Nat.ble (j + vs.length) cs.length) with
        | false => simp [h2] at h
        | true =>
          simp only [h2, cond_true, Option.some.injEq] at h
          simp only [Bool.and_eq_true, Nat.blt_eq, Nat.beq_eq, Nat.ble_eq] at h2
          obtain ⟨⟨⟨h2, h3⟩, h4⟩, h5⟩ := h2
          obtain ⟨e1, e2⟩ := cellsA_spec β hy h2
          refine ⟨_, e1, by rw [List.length_map, h4]; exact sizeT_spec rfl h3, e2, by simp [cB]; exact h5, ?_⟩
          subst h
          simp [cB, spl, putAt, List.map_take, List.map_drop]
  | bools m n f =>
    have hl : ∀ (f : Nat → Nat → Bool) (k : Nat), ((List.range m).map fun j => Value.bool (f k j)).length = m := by simp
    cases y with
    | one c =>
      cases c with
      | v x =>
        cases x with
        | bool x =>
          simp only [stBB] at h
          cases h2 : (via && Nat.beq (sizeT P t) 1) with
          | false => simp [h2] at h
          | true =>
            simp only [h2, cond_true, Option.some.injEq] at h
            simp only [Bool.and_eq_true, Nat.beq_eq] at h2
            obtain ⟨hv, h3⟩ := h2
            subst hv h
            obtain ⟨hkn, hj⟩ := hk rfl
            clear hk
            simp only [BB.n, BB.sz] at hkn hj ⊢
            have hb := bound (m := m) hkn
            refine ⟨[.bool x], rfl, sizeT_spec (n := 1) h3 (by omega), rfl, ?_, ?_⟩
            · rw [if_pos trivial]; simp only [cB]; rw [flat_len _ m (hl f) n]; simp only [List.length_singleton]; omega
            · rw [if_pos trivial]; simp only [cB]
              refine flat_upd _ _ m (hl f) k j _ (by simp; omega) ?_ ?_ n hkn
              · intro i hi
                apply List.map_congr_left
                intro q _
                simp [updB, hi]
              · apply List.ext_getElem?
                intro i
                rw [putAt_get _ _ _ (by simp; omega)]
                simp only [List.getElem?_map, List.length_singleton]
                by_cases hi : i < m
                · rw [List.getElem?_range hi]
                  by_cases e : i = j
                  · subst e; simp [updB]
                  · rw [if_neg (by omega)]; simp [updB, e]
                · rw [List.getElem?_eq_none (by simp; omega), if_neg (by omega)]; rfl
        | _ => simp [stBB] at h
      | _ => simp [stBB] at h
    | arr m' g =>
      simp only [stBB] at h
      cases via with
      | true =>
        simp only [cond_true] at h
        cases h2 : (Nat.blt 0 (sizeT P t) && Nat.beq m m' && Nat.beq j 0 && Nat.beq (sizeT P t) m) with
        | false => simp [h2] at h
        | true =>
          simp only [h2, cond_true, Option.some.injEq] at h
          simp only [Bool.and_eq_true, Nat.blt_eq, Nat.beq_eq] at h2
          obtain ⟨⟨⟨h2, h3⟩, h4⟩, h5⟩ := h2
          subst h h3 h4
          obtain ⟨hkn, _⟩ := hk rfl
          simp only [BB.n, BB.sz] at hkn ⊢
          have := bound (m := m) hkn
          refine ⟨(List.range m).map fun i => Value.bool (g i), rfl, by rw [List.length_map, List.length_range]; exact sizeT_spec h5 (by omega), by simp [Value.oneCell'], ?_, ?_⟩
          · rw [if_pos trivial]; simp only [cB]; rw [flat_len _ m (hl f) n]; simp; omega
          · rw [if_pos trivial]; simp only [cB]
            refine flat_upd _ _ m (hl f) k 0 _ (by simp) ?_ ?_ n hkn
            · intro i hi
              apply List.map_congr_left
              intro q _
              simp [updB1, hi]
            · simp [putAt, updB1]
      | false =>
        simp only [cond_false] at h
        cases h2 : (Nat.blt 0 (sizeT P t) && Nat.beq m 1 && Nat.beq n m' && Nat.beq j 0 && Nat.beq (sizeT P t) n) with
        | false => simp [h2] at h
        | true =>
          simp only [h2, cond_true, Option.some.injEq] at h
          simp only [Bool.and_eq_true, Nat.blt_eq, Nat.beq_eq] at h2
          obtain ⟨⟨⟨⟨h2, h3⟩, h4⟩, h5⟩, h6⟩ := h2
          subst h h3 h4 h5
          have e : cB β (.bools 1 n f) = (List.range n).map fun i => Value.bool (f i 0) := flat_single (fun i => Value.bool (f i 0)) n
          have e' : cB β (.bools 1 n fun i _ => g i) = (List.range n).map fun i => Value.bool (g i) := flat_single (fun i => Value.bool (g i)) n
          refine ⟨(List.range n).map fun i => Value.bool (g i), rfl, by rw [List.length_map, List.length_range]; exact sizeT_spec h6 (by omega), by simp [Value.oneCell'], by simp [e], ?_⟩
          rw [e, e', if_neg (by simp)]
          simp [putAt]
    | _ => simp [stBB] at h
  | row sh n f o =>
    have hl := rowV_len sh f o
    cases via with
    | false => simp [stBB] at h
    | true =>
      obtain ⟨hkn, hj⟩ := hk rfl
      clear hk
      simp only [BB.n, BB.sz] at hkn hj ⊢
      have hb := bound (m := sh.length) hkn
      rw [if_pos trivial]
      simp only [stBB, cond_true] at h
      cases y with
      | one c =>
        cases c with
        | v x =>
          cases x with
          | int kd x =>
            simp only at h
            cases hs : sh[j]? with
            | none => simp [hs] at h
            | some ck =>
              cases ck with
              | s => simp [hs] at h
              | i kd' =>
                simp only [hs] at h
                cases h2 : (decide (kd = kd') && Nat.beq (sizeT P t) 1) with
                | false => simp [h2] at h
                | true =>
                  simp only [h2, cond_true, Option.some.injEq] at h
                  simp only [Bool.and_eq_true, decide_eq_true_eq, Nat.beq_eq] at h2
                  obtain ⟨e, h3⟩ := h2
                  subst e h
                  refine ⟨[.int kd x], rfl, sizeT_spec (n := 1) h3 (by omega), rfl, ?_, ?_⟩
                  · simp only [cB]; rw [flat_len _ _ hl n]; simp only [List.length_singleton]; omega
                  · simp only [cB]
                    refine flat_upd _ _ sh.length hl k j _ (by simp; omega) ?_ ?_ n hkn
                    · intro i hi
                      apply List.ext_getElem?
                      intro q
                      rw [rowV_at, rowV_at]
                      simp [updF, hi]
                    · apply List.ext_getElem?
                      intro i
                      rw [putAt_get _ _ _ (by rw [hl]; simp; omega), rowV_at, rowV_at]
                      by_cases e : i = j
                      · subst e
                        rw [if_pos (by simp), hs]
                        simp [updF]
                      · rw [if_neg (by simp; omega)]
                        simp [updF, e]
          | _ => simp at h
        | _ => simp at h
      | agg vs =>
        simp only at h
        cases h2 : (Nat.blt 0 (sizeT P t) && Nat.beq j 0 && Nat.beq (sizeT P t) sh.length) with
        | false => simp [h2] at h
        | true =>
          simp only [h2, cond_true] at h
          simp only [Bool.and_eq_true, Nat.blt_eq, Nat.beq_eq] at h2
          obtain ⟨⟨h2, h3⟩, h4⟩ := h2
          subst h3
          cases hu : updRow f k sh vs 0 with
          | none => simp [hu] at h
          | some f' =>
            simp only [hu, Option.some.injEq] at h
            subst h
            obtain ⟨u1, u2, u3⟩ := updRow_spec k sh vs 0 f f' hu
            refine ⟨vs.map (cC β), rfl, by rw [List.length_map, ← u1]; exact sizeT_spec h4 (by omega), ?_, ?_, ?_⟩
            · rw [List.all_eq_true]
              intro x hx
              obtain ⟨c, hc, rfl⟩ := List.mem_map.1 hx
              obtain ⟨i, hi⟩ := List.mem_iff_getElem?.1 hc
              obtain ⟨kd, x, rfl, _⟩ := u3 i c hi
              rfl
            · simp only [cB]; rw [flat_len _ _ hl n]; simp [← u1]; omega
            · simp only [cB]
              refine flat_upd _ _ sh.length hl k 0 _ (by simp [u1]) ?_ ?_ n hkn
              · intro i hi
                apply List.ext_getElem?
                intro q
                rw [rowV_at, rowV_at, u2 i q (.inl hi)]
              · apply List.ext_getElem?
                intro i
                rw [putAt_get _ _ _ (by rw [hl]; simp [u1]), rowV_at, rowV_at]
                simp only [Nat.zero_le, true_and, Nat.zero_add, List.length_map, Nat.sub_zero, List.getElem?_map]
                by_cases hi : i < vs.length
                · rw [if_pos hi]
                  have hc : vs[i]? = some vs[i] := List.getElem?_eq_getElem hi
                  obtain ⟨kd, x, e1, e2, e3⟩ := u3 i _ hc
                  rw [hc, e1, e2]
                  simp at e3
                  simp [cC, e3]
                · rw [if_neg hi, u2 k i (.inr (.inr (by omega)))]
      | _ => simp at h
end Go.Proofs.Ytjpeplidbodjiaa
