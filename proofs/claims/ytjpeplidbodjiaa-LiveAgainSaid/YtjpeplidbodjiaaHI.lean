/- LiveAgain: the law is true of every block. -/
import Derived.Test.YtjpeplidbodjiaaHH
namespace Go.Proofs.Ytjpeplidbodjiaa
set_option maxRecDepth 100000
/-- What follows, D being what is left. -/
def rest3 (pc : Int) (nW : Nat) (f : Nat → Nat → Int) (n : Nat) (g : Nat → Nat → Int) (D : RowL) : Out :=
  bif decide ((0 : Int) = 0) && Nat.beq 0 0 && Nat.ble n 1000 then bif decide ((0 : Int) = 0) && Nat.beq 0 0 && Nat.ble D.n 1000 then
    bif !(checkL pc (tabI f nW 0) (tabO D.f D.n 0) && !stays (tabI f nW 0) D.n D.f) then
      bif Nat.ble D.n 100000 && Nat.ble nW 100000 then bif sameB pc (tabI f nW 0) (tabO D.f D.n 0) pc (tabI f nW 0) (tabO D.f D.n 0) then
        bif Nat.ble (filtR (nonp g) (opRow g) n 0 nilR).n 100000 then
          bif (bif true then same23 (tabO (filtR (nonp g) (opRow g) n 0 nilR).f (filtR (nonp g) (opRow g) n 0 nilR).n 0) (tabO (filtR (nonp D.f) (opRow D.f) D.n 0 nilR).f (filtR (nonp D.f) (opRow D.f) D.n 0 nilR).n 0) else false) then some (boolV (bif true then true else false), hh0) else some (boolV false, hh0)
        else none else some (boolV false, hh0) else none else none else none else none
theorem t3A (pc : Int) (nW : Nat) (f : Nat → Nat → Int) (oW : Nat → Nat → ByteArray) (n : Nat) (g : Nat → Nat → Int) (o : Nat → Nat → ByteArray) : evV (VH5 fun nx => Nat.ble nx 6) Try.f3 300 [.agg [.v (.int .u32 pc), .ow 0, .ow 1]] ⟨[], lB nW f oW n g o, 2⟩ =
    bif (bif decide ((n : Int) > 130) then true else decide ((nW : Int) > 40)) then some (boolV true, hh0) else bif Nat.ble n 1048576 && Nat.ble nW 1048576 then
      bif checkL pc (tabI f nW 0) (tabO g n 0) && !stays (tabI f nW 0) n g then rest3 pc nW f n g (leftR (tabI f nW 0) n g) else none else none := by kernel_rfl
theorem t3B (pc : Int) (nW : Nat) (f : Nat → Nat → Int) (oW : Nat → Nat → ByteArray) (n : Nat) (g : Nat → Nat → Int) (o : Nat → Nat → ByteArray) : evV (VH5 fun _ => false) Try.f3 300 [.agg [.v (.int .u32 pc), .ow 0, .ow 1]] ⟨[], lB nW f oW n g o, 2⟩ =
    bif (bif decide ((n : Int) > 130) then true else decide ((nW : Int) > 40)) then some (boolV true, hh0) else bif Nat.ble n 1048576 && Nat.ble nW 1048576 then
      bif !(checkL pc (tabI f nW 0) (tabO g n 0) && !stays (tabI f nW 0) n g) then rest3 pc nW f n g ⟨n, g, noO⟩ else none else none := by kernel_rfl
def np (q : OpT) : Bool := !pureK q.k
theorem filtT_np (g : Nat → Nat → Int) : ∀ c i, filtT (nonp g) i (tabO g c i) = (tabO g c i).filter np
  | 0, _ => rfl
  | c + 1, i => by
    rw [tabO_cons, filtT, filtT_np g c (i + 1), List.filter_cons]
    have e : np (opAt g i) = nonp g i := rfl
    rw [e]
    cases nonp g i <;> rfl
theorem filtT_keep (G : Nat → Nat → Bool) (g : Nat → Nat → Int) : ∀ c i, (filtT (keepP G g) i (tabO g c i)).filter np = (tabO g c i).filter np
  | 0, _ => rfl
  | c + 1, i => by
    have ih := filtT_keep G g c (i + 1)
    have e : np (opAt g i) = !pureK (g i 0) := rfl
    have e2 : keepP G g i = bif !pureK (g i 0) then true else G i (g i 1).toNat := rfl
    cases hp : pureK (g i 0) with
    | false =>
      rw [hp] at e e2
      rw [tabO_cons, filtT, e2, List.filter_cons_of_pos (by rw [e]; rfl)]
      simp only [Bool.not_false, cond_true]
      rw [List.filter_cons_of_pos (by rw [e]; rfl), ih]
    | true =>
      rw [hp] at e e2
      rw [tabO_cons, filtT, e2, List.filter_cons_of_neg (by rw [e]; simp)]
      simp only [Bool.not_true, cond_false]
      cases G i (g i 1).toNat with
      | false => exact ih
      | true =>
        simp only [cond_true]
        rw [List.filter_cons_of_neg (by rw [e]; simp), ih]
theorem np_step (ws : List Int) (n : Nat) (g : Nat → Nat → Int) : (stepR ws n g).ops.filter np = (tabO g n 0).filter np := by
  rw [ops_stepR, filtT_keep]
theorem np_dead (ws : List Int) : ∀ (c : Nat) (q : RowL), (deadR ws c q).ops.filter np = q.ops.filter np
  | 0, _ => rfl
  | c + 1, q => by
    rw [deadR]
    cases Nat.beq (stepR ws q.n q.f).n q.n with
    | true => rfl
    | false =>
      simp only [cond_false]
      rw [np_dead ws c, np_step]
      rfl
theorem dead_stays (ws : List Int) : ∀ (c : Nat) (q : RowL), q.n < c → stays ws (deadR ws c q).n (deadR ws c q).f = true
  | 0, _, h => by omega
  | c + 1, q, h => by
    rw [deadR]
    cases hb : Nat.beq (stepR ws q.n q.f).n q.n with
    | true => exact hb
    | false =>
      have hle := stepR_le ws q.n q.f
      have hne := Nat.ne_of_beq_eq_false hb
      exact dead_stays ws c _ (by omega)
theorem dead_le (ws : List Int) : ∀ (c : Nat) (q : RowL), (deadR ws c q).n ≤ q.n
  | 0, _ => Nat.le_refl _
  | c + 1, q => by
    rw [deadR]
    cases Nat.beq (stepR ws q.n q.f).n q.n with
    | true => exact Nat.le_refl _
    | false =>
      have hle := stepR_le ws q.n q.f
      have := dead_le ws c (stepR ws q.n q.f)
      simp only [cond_false]
      omega
theorem sameB_refl (pc : Int) (ws : List Int) (os : List OpT) : sameB pc ws os pc ws os = true := by
  unfold sameB
  rw [same60_refl, same23_refl, beq_self_eq_true]
  rfl
theorem rest3_yes {pc : Int} {nW : Nat} {f : Nat → Nat → Int} {n : Nat} {g : Nat → Nat → Int} {D : RowL} (hn : n ≤ 130) (hw : nW ≤ 40) (hD : D.n ≤ n) (hs : (checkL pc (tabI f nW 0) (tabO D.f D.n 0) && !stays (tabI f nW 0) D.n D.f) = false)
    (hf : D.ops.filter np = (tabO g n 0).filter np) : rest3 pc nW f n g D = some (boolV true, hh0) := by
  unfold rest3
  have e1 : Nat.ble n 1000 = true := by rw [Nat.ble_eq]; omega
  have e2 : Nat.ble D.n 1000 = true := by rw [Nat.ble_eq]; omega
  have e3 : Nat.ble D.n 100000 = true := by rw [Nat.ble_eq]; omega
  have e4 : Nat.ble nW 100000 = true := by rw [Nat.ble_eq]; omega
  have hx := filtR_le (nonp g) (opRow g) n 0 nilR
  have e5 : Nat.ble (filtR (nonp g) (opRow g) n 0 nilR).n 100000 = true := by
    rw [Nat.ble_eq]
    have : nilR.n = 0 := rfl
    omega
  have x1 : tabO (filtR (nonp g) (opRow g) n 0 nilR).f (filtR (nonp g) (opRow g) n 0 nilR).n 0 = (tabO g n 0).filter np := by
    have := ops_filtR (nonp g) g n 0 nilR
    rw [filtT_np] at this
    exact this
  have x2 : tabO (filtR (nonp D.f) (opRow D.f) D.n 0 nilR).f (filtR (nonp D.f) (opRow D.f) D.n 0 nilR).n 0 = (tabO D.f D.n 0).filter np := by
    have := ops_filtR (nonp D.f) D.f D.n 0 nilR
    rw [filtT_np] at this
    exact this
  have hf' : (tabO D.f D.n 0).filter np = (tabO g n 0).filter np := hf
  rw [e1, e2, e3, e4, e5, hs, x1, x2, hf', sameB_refl, same23_refl]
  rfl
/-- For every block the law says true. -/
theorem liveAgain_yes (pc : Int) (nW : Nat) (f : Nat → Nat → Int) (oW : Nat → Nat → ByteArray) (n : Nat) (g : Nat → Nat → Int) (o : Nat → Nat → ByteArray) : ∃ v, evV (VH5 v) Try.f3 300 [.agg [.v (.int .u32 pc), .ow 0, .ow 1]] ⟨[], lB nW f oW n g o, 2⟩ = some (boolV true, hh0) := by
  cases hc : (checkL pc (tabI f nW 0) (tabO g n 0) && !stays (tabI f nW 0) n g) with
  | true =>
    refine ⟨_, (t3A pc nW f oW n g o).trans ?_⟩
    by_cases h1 : (n : Int) > 130
    · rw [decide_eq_true h1]
      rfl
    · by_cases h2 : (nW : Int) > 40
      · rw [decide_eq_false h1, decide_eq_true h2]
        rfl
      · have e1 : Nat.ble n 1048576 = true := by rw [Nat.ble_eq]; omega
        have e2 : Nat.ble nW 1048576 = true := by rw [Nat.ble_eq]; omega
        rw [decide_eq_false h1, decide_eq_false h2, e1, e2, hc]
        have hle := stepR_le (tabI f nW 0) n g
        have hs : stays (tabI f nW 0) (leftR (tabI f nW 0) n g).n (leftR (tabI f nW 0) n g).f = true := dead_stays _ _ _ (by omega)
        have hl := dead_le (tabI f nW 0) (n + 1) (stepR (tabI f nW 0) n g)
        refine rest3_yes (by omega) (by omega) (by unfold leftR; omega) (by rw [hs, Bool.not_true, Bool.and_false]) ?_
        unfold leftR
        rw [np_dead, np_step]
  | false =>
    refine ⟨_, (t3B pc nW f oW n g o).trans ?_⟩
    by_cases h1 : (n : Int) > 130
    · rw [decide_eq_true h1]
      rfl
    · by_cases h2 : (nW : Int) > 40
      · rw [decide_eq_false h1, decide_eq_true h2]
        rfl
      · have e1 : Nat.ble n 1048576 = true := by rw [Nat.ble_eq]; omega
        have e2 : Nat.ble nW 1048576 = true := by rw [Nat.ble_eq]; omega
        rw [decide_eq_false h1, decide_eq_false h2, e1, e2, hc]
        exact rest3_yes (D := ⟨n, g, noO⟩) (by omega) (by omega) (Nat.le_refl _) hc rfl
end Go.Proofs.Ytjpeplidbodjiaa
