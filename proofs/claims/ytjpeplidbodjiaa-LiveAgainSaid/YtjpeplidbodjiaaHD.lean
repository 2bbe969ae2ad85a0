/- live.Dead: what a block that may be gives; the summary. -/
import Derived.Test.YtjpeplidbodjiaaHC
namespace Go.Proofs.Ytjpeplidbodjiaa
set_option maxRecDepth 100000
theorem placeB_range {p : Int} {b : Bool} (h : placeB p b = true) : 0 ≤ p ∧ p < 64 := by
  cases b with
  | true => have := placeB_in h; omega
  | false =>
    unfold placeB at h
    simp only [cond_false] at h
    have := eq_of_beq h
    omega
theorem fieldsK_range {W k D A B I t : Int} (h : fieldsK W k D A B I t = true) : (0 ≤ A ∧ A < 64) ∧ (0 ≤ B ∧ B < 64) ∧ (0 ≤ D ∧ D < 64) ∧ 0 ≤ t ∧ t < W := by
  unfold fieldsK at h
  simp only [Bool.and_eq_true, Bool.not_eq_true', decide_eq_false_iff_not] at h
  obtain ⟨_, h1, h2, h3, h4, h5, _⟩ := h
  exact ⟨placeB_range h3, placeB_range h4, placeB_range h5, by omega, by omega⟩
theorem fields_op {W k D A B I t : Int} (h : fieldsK W k D A B I t = true) : opInT ⟨k, D, A, B, I, t⟩ = true ∧ dOkT ⟨k, D, A, B, I, t⟩ = true := by
  obtain ⟨hA, hB, hD, _⟩ := fieldsK_range h
  have iA : (decide (0 ≤ A) && decide (A < 64)) = true := by rw [decide_eq_true hA.1, decide_eq_true hA.2]; rfl
  have iB : (decide (0 ≤ B) && decide (B < 64)) = true := by rw [decide_eq_true hB.1, decide_eq_true hB.2]; rfl
  have iD : (decide (0 ≤ D) && decide (D < 64)) = true := by rw [decide_eq_true hD.1, decide_eq_true hD.2]; rfl
  constructor
  · unfold opInT
    rw [Bool.and_eq_true]
    constructor
    · apply decide_eq_true
      show writesK k D < 64
      unfold writesK
      cases (shpK k).w with
      | true => exact hD.2
      | false => exact (by decide : (-1 : Int) < 64)
    · show inR (listF (readsK k D A B)) (readsK k D A B).length 0 = true
      unfold readsK
      cases (shpK k).a <;> cases (shpK k).b <;> cases (shpK k).d <;> simp [inR, listF, hA.1, hA.2, hB.1, hB.2, hD.1, hD.2]
  · show (!pureK k || (decide (0 ≤ D) && decide (D < 64))) = true
    rw [iD, Bool.or_true]
theorem chkL_all {W : Int} {n : Nat} : ∀ {os : List OpT} {i : Nat} {t : Int} {F : Nat → Nat → Bool}, chkL W n i os t F = true → i + os.length = n → (∀ q ∈ os, fieldsK W q.k q.D q.A q.B q.I q.t = true) ∧ (∀ q, os.getLast? = some q → q.k ≥ 60) ∧ (∀ q, q ∈ os.dropLast → ¬ q.k ≥ 60)
  | [], i, t, F, _, _ => ⟨fun q hq => (by cases hq), fun q hq => (by simp at hq), fun q hq => (by simp at hq)⟩
  | q :: r, i, t, F, h, hn => by
    simp only [chkL, stepL, Bool.and_eq_true] at h
    obtain ⟨⟨h1, _, h2⟩, h3⟩ := h
    obtain ⟨g1, g2, g3⟩ := chkL_all h3 (by simp at hn; omega)
    have hf : fieldsK W q.k q.D q.A q.B q.I q.t = true := by
      unfold rightK at h1
      rw [Bool.and_eq_true] at h1
      exact h1.1
    refine ⟨fun q' hq => ?_, fun q' hq => ?_, fun q' hq => ?_⟩
    · rcases List.mem_cons.1 hq with rfl | hq
      · exact hf
      · exact g1 q' hq
    · cases r with
      | nil =>
        simp only [List.getLast?_singleton, Option.some.injEq] at hq
        subst hq
        have e : ((i : Int) == (n : Int) - 1) = true := by
          simp only [List.length_cons, List.length_nil] at hn
          rw [beq_iff_eq]
          omega
        rw [e] at h2
        have := eq_of_beq h2
        exact of_decide_eq_true this
      | cons a b =>
        rw [List.getLast?_cons_cons] at hq
        exact g2 q' hq
    · cases r with
      | nil => simp at hq
      | cons a b =>
        rw [List.dropLast_cons_of_ne_nil (by simp)] at hq
        rcases List.mem_cons.1 hq with rfl | hq
        · have e : ((i : Int) == (n : Int) - 1) = false := by
            simp only [List.length_cons] at hn
            rw [beq_eq_false_iff_ne]
            omega
          rw [e] at h2
          have := eq_of_beq h2
          exact of_decide_eq_false this
        · exact g3 q' hq
theorem headL_parts {pc : Int} {ws : List Int} {n : Nat} (h : headL pc ws n = true) : rightL ws = true ∧ 1 ≤ n ∧ n ≤ 120 ∧ pc.tmod 4 = 0 := by
  unfold headL at h
  cases h1 : (pc.tmod 4 != 0) with
  | true => rw [h1] at h; cases h
  | false =>
    rw [h1] at h
    simp only [cond_false] at h
    have e1 : pc.tmod 4 = 0 := by simpa using h1
    cases h2 : rightL ws with
    | false =>
      rw [h2] at h
      exact absurd h (by simp)
    | true =>
      rw [h2] at h
      generalize decide (IntKind.u64.wrap (IntKind.u64.wrap pc + IntKind.u64.wrap (4 * IntKind.u64.wrap (ws.length : Int))) > 4294967296) = b1 at h
      by_cases h3 : (n : Int) < 1
      · rw [decide_eq_true h3] at h
        cases b1 <;> exact absurd h (by simp)
      · rw [decide_eq_false h3] at h
        by_cases h4 : (n : Int) > 120
        · rw [decide_eq_true h4] at h
          cases b1 <;> exact absurd h (by simp)
        · exact ⟨rfl, by omega, by omega, e1⟩
theorem rightL_len {ws : List Int} (h : rightL ws = true) : 1 ≤ ws.length ∧ ws.length ≤ 16 := by
  unfold rightL at h
  by_cases h3 : (ws.length : Int) < 1
  · rw [decide_eq_true h3] at h
    cases h
  · rw [decide_eq_false h3] at h
    by_cases h4 : (ws.length : Int) > 16
    · rw [decide_eq_true h4] at h
      cases h
    · omega
theorem check_okD {pc : Int} {ws : List Int} {os : List OpT} (h : checkL pc ws os = true) : okD ws.length os = true := by
  unfold checkL at h
  rw [Bool.and_eq_true] at h
  obtain ⟨h1, h2, h3, _⟩ := headL_parts h.1
  obtain ⟨g1, g2, _⟩ := chkL_all h.2 (by simp)
  have hw := rightL_len h1
  unfold okD
  simp only [Bool.and_eq_true, Nat.ble_eq]
  refine ⟨⟨⟨by omega, by omega⟩, ?_⟩, ?_⟩
  · cases hl : os.getLast? with
    | none =>
      rw [List.getLast?_eq_none_iff] at hl
      rw [hl] at h2
      simp at h2
    | some q =>
      have hm : q ∈ os := List.mem_of_getLast? hl
      have hr := fieldsK_range (g1 q hm)
      have hk := g2 q hl
      simp only [Bool.and_eq_true, decide_eq_true_eq, Bool.not_eq_true']
      refine ⟨hr.1, ?_⟩
      unfold pureK
      rw [decide_eq_true (show q.k ≥ 1 by omega), decide_eq_false (show ¬ q.k ≤ 30 by omega)]
      rfl
  · rw [List.all_eq_true]
    intro q hq
    rw [Bool.and_eq_true]
    exact fields_op (g1 q hq)
def d19 : AS := S19 0 lB0
def leaf19 (dt : Dt) (K : Exit → AS → Out) : Out := match dt with
  | ⟨[z, pc], [], [], [nW, n], [f, g], [oW, o], []⟩ => bif decide (z = 0) && okD nW (tabO g n 0) then
      (bif Nat.beq (stepR (tabW (fun k => f k 0) nW 0) n g).n n then K .ret (R19 pc (lB nW f oW n g o)) else K .ret (R19q pc (deadR (tabW (fun k => f k 0) nW 0) (n + 1) (stepR (tabW (fun k => f k 0) nW 0) n g)) (lB nW f oW n g o))) else none
  | _ => none
theorem ref19 (pc : Int) (nW n : Nat) (f g : Nat → Nat → Int) (oW o : Nat → Nat → ByteArray) : refS d19 ⟨[0, pc], [], [], [nW, n], [f, g], [oW, o], []⟩ = S19 pc (lB nW f oW n g o) := by kernel_rfl
theorem EHD1_n : EHD1.lp (keyC x19) = none := by rw [key19]; rfl
theorem EHD1_i : EHD1.lp (keyC x19i) = some (lpOr 2 d19i leaf19i (lpG 2 d19j leaf19j)) := by rw [key19i]; rfl
theorem EHD1_lp : LpC EHD1 (.loop x19) := fun x hx f hf => by
  rcases List.mem_cons.1 (show x ∈ x19 :: loopsC x19 from hx) with rfl | hx
  · rw [EHD1_n] at hf
    cases hf
  · rw [loops19o] at hx
    have hx : x = x19i := by simpa using hx
    subst hx
    rw [EHD1_i] at hf
    injection hf with hf
    subst hf
    exact lp19a_ok
theorem lp19_ok : LoopS Try.prog x19 (lpG 2 d19 leaf19) := by
  refine LoopS.pat (E := EHD1) EHD1_s pfl EHD1_lp EHD1_n kp19 fun dt K out h => ?_
  unfold leaf19 at h
  split at h
  · rename_i z pc nW n f g oW o
    cases hc : (decide (z = 0) && okD nW (tabO g n 0)) with
    | false => simp [hc] at h
    | true =>
      simp only [hc, cond_true] at h
      simp only [Bool.and_eq_true, decide_eq_true_eq] at hc
      obtain ⟨rfl, hk⟩ := hc
      refine ⟨0 + n + 52, ?_⟩
      rw [ref19, key19, gcS19]
      exact (head19 pc nW f oW n g o K 0 hk).trans h
  · cases h
noncomputable def EHD2 : Env := (ED0.marks lv19 fun _ => none).loops fun i => bif Nat.beq i 6 then some (lpOr 2 d19i leaf19i (lpG 2 d19j leaf19j)) else bif Nat.beq i 3 then some (lpG 2 d19 leaf19) else none
theorem EHD2_s : EHD2.Sound := ED0_s.marks.loops
theorem EHD2_lp : LpF EHD2 Try.f19 := LpF.of fun x hx f hf => by
  rw [loops19] at hx
  simp only [List.mem_cons, List.not_mem_nil, or_false] at hx
  rcases hx with rfl | rfl
  · have e : EHD2.lp (keyC x19) = some (lpG 2 d19 leaf19) := by rw [key19]; rfl
    rw [e] at hf
    injection hf with hf
    subst hf
    exact lp19_ok
  · have e : EHD2.lp (keyC x19i) = some (lpOr 2 d19i leaf19i (lpG 2 d19j leaf19j)) := by rw [key19i]; rfl
    rw [e] at hf
    injection hf with hf
    subst hf
    exact lp19a_ok
theorem has19 : hasFn Try.prog 19 Try.f19 := ⟨by kernel_rfl, by kernel_rfl, by kernel_rfl⟩
def same19 (pc : Int) : Out := canO false [.agg [.v (.int .u32 pc), .ow 0, .ow 1]] [] 2
def diff19 (pc : Int) (q : RowL) : Out := canO false [.agg [.v (.int .u32 pc), .ow 0, .ow 2]] [encL (2, ⟨true, 31, q.bb opSh⟩)] 3
theorem t19 (pc : Int) (nW : Nat) (f : Nat → Nat → Int) (oW : Nat → Nat → ByteArray) (n : Nat) (g : Nat → Nat → Int) (o : Nat → Nat → ByteArray) : evC EHD2 Try.f19 200 [.agg [.v (.int .u32 pc), .ow 0, .ow 1]] ⟨[], lB nW f oW n g o, 2⟩ (canG 2) =
    bif !checkL pc (tabW (fun k => f k 0) nW 0) (tabO g n 0) then same19 pc else
      bif okD nW (tabO g n 0) then (bif Nat.beq (stepR (tabW (fun k => f k 0) nW 0) n g).n n then same19 pc else diff19 pc (deadR (tabW (fun k => f k 0) nW 0) (n + 1) (stepR (tabW (fun k => f k 0) nW 0) n g))) else none := by kernel_rfl
end Go.Proofs.Ytjpeplidbodjiaa
