/- ir.Check, whole. -/
import Derived.Test.YtjpeplidbodjiaaFT
namespace Go.Proofs.Ytjpeplidbodjiaa
set_option maxRecDepth 100000
def headK (pc : Int) (nW : Nat) (f : Nat → Int) (n : Nat) : Bool := bif pc.tmod 4 != 0 then false else
  bif (bif (bif (bif !rightW nW f then true else decide (IntKind.u64.wrap (IntKind.u64.wrap pc + IntKind.u64.wrap (4 * IntKind.u64.wrap (nW : Int))) > 4294967296)) then true else decide ((n : Int) < 1)) then true else decide ((n : Int) > 120)) then false else true
/-- May a block be? -/
def checkB (pc : Int) (nW : Nat) (f : Nat → Int) (n : Nat) (g : Nat → Nat → Int) : Bool := headK pc nW f n && checkR nW n g n 0 0 fun _ _ => false
theorem t39 (pc : Int) (nW : Nat) (f : Nat → Nat → Int) (oW : Nat → Nat → ByteArray) (n : Nat) (g : Nat → Nat → Int) (o : Nat → Nat → ByteArray) : evV ET0 Try.f39 200 [.agg [.v (.int .u32 pc), .ow 0, .ow 1]] ⟨[], lB nW f oW n g o, 2⟩ =
    bif pc.tmod 4 != 0 then some (boolV false, hh0) else
    bif (bif (bif (bif !rightW nW (fun k => f k 0) then true else decide (IntKind.u64.wrap (IntKind.u64.wrap pc + IntKind.u64.wrap (4 * IntKind.u64.wrap (nW : Int))) > 4294967296)) then true else decide ((n : Int) < 1)) then true else decide ((n : Int) > 120)) then some (boolV false, hh0) else
    bif decide ((0 : Int) = 0) && decide ((n : Int) = (n : Int)) && Nat.ble n 1000 && Nat.beq 64 64 then (bif checkR nW n g n 0 0 (fun _ _ => false) then some (boolV true, hh0) else some (boolV false, hh0)) else none := by kernel_rfl
theorem t39' (pc : Int) (nW : Nat) (f : Nat → Nat → Int) (oW : Nat → Nat → ByteArray) (n : Nat) (g : Nat → Nat → Int) (o : Nat → Nat → ByteArray) : evV ET0 Try.f39 200 [.agg [.v (.int .u32 pc), .ow 0, .ow 1]] ⟨[], lB nW f oW n g o, 2⟩ = some (boolV (checkB pc nW (fun k => f k 0) n g), hh0) := by
  rw [t39]
  unfold checkB headK
  cases pc.tmod 4 != 0
  case true => rfl
  generalize decide (IntKind.u64.wrap (IntKind.u64.wrap pc + IntKind.u64.wrap (4 * IntKind.u64.wrap (nW : Int))) > 4294967296) = b1
  cases rightW nW (fun k => f k 0)
  case false => rfl
  cases b1
  case true => rfl
  by_cases h1 : (n : Int) < 1
  · rw [decide_eq_true h1]
    rfl
  · rw [decide_eq_false h1]
    by_cases h2 : (n : Int) > 120
    · rw [decide_eq_true h2]
      rfl
    · rw [decide_eq_false h2, decide_eq_true (rfl : (n : Int) = (n : Int)), show Nat.ble n 1000 = true by rw [Nat.ble_eq]; omega]
      cases checkR (nW : Int) n g n 0 0 fun _ _ => false <;> rfl
theorem t39w (pc : Int) (nW : Nat) (f : Nat → Nat → Int) (oW : Nat → Nat → ByteArray) : evV ET0 Try.f39 200 [.agg [.v (.int .u32 pc), .ow 0, .v (.slice none 0 0)]] ⟨[], [(0, ⟨false, 22, .row [.i .u32] nW f oW⟩)], 1⟩ =
    bif pc.tmod 4 != 0 then some (boolV false, hh0) else
    bif (bif (bif (bif !rightW nW (fun k => f k 0) then true else decide (IntKind.u64.wrap (IntKind.u64.wrap pc + IntKind.u64.wrap (4 * IntKind.u64.wrap (nW : Int))) > 4294967296)) then true else true) then true else false) then some (boolV false, hh0) else none := by kernel_rfl
theorem t39n (pc : Int) : evV ET0 Try.f39 200 [.agg [.v (.int .u32 pc), .v (.slice none 0 0), .v (.slice none 0 0)]] ⟨[], [], 0⟩ = bif pc.tmod 4 != 0 then some (boolV false, hh0) else some (boolV false, hh0) := by kernel_rfl
theorem t39o (pc : Int) (n : Nat) (g : Nat → Nat → Int) (o : Nat → Nat → ByteArray) : evV ET0 Try.f39 200 [.agg [.v (.int .u32 pc), .v (.slice none 0 0), .ow 0]] ⟨[], [(0, ⟨false, 31, .row opSh n g o⟩)], 1⟩ = bif pc.tmod 4 != 0 then some (boolV false, hh0) else some (boolV false, hh0) := by kernel_rfl
section
variable {E : Env} {fn : Func} {fuel : Nat} {h h' : AH} {v : AV}
theorem inlP_two {x : Value} {a b : Nat} {la lb : LB} (hab : a ≠ b) (ha : look a h.l = some la) (hb : look b h.l = some lb) (hs : sure v = true)
    (he : evV E fn fuel [.agg [.v x, .ow 0, .ow 1]] ⟨[], [(0, ⟨false, la.e, la.bb⟩), (1, ⟨false, lb.e, lb.bb⟩)], 2⟩ = some (v, h')) : inlP E fn fuel [.agg [.v x, .ow a, .ow b]] h = some (true, v) := by
  have e0 : ∀ i, Nat.blt i 0 = false := fun i => blt_false (by omega)
  have hba : Nat.beq b a = false := by
    cases e : Nat.beq b a with
    | false => rfl
    | true => exact absurd (Nat.eq_of_beq_eq_true e).symm hab
  have e1 : idF 0 (upto [AV.agg [.v x, .ow a, .ow b]].length) [] 0 [.agg [.v x, .ow a, .ow b]] = [a, b] := by
    simp [idF, upto, memN, idCs, idC, addN, e0, hba]
  unfold inlP inlPO
  rw [e1]
  have e2 : ∀ k : List AV → Out, renF 0 (upto [AV.agg [.v x, .ow a, .ow b]].length) [a, b] 0 [.agg [.v x, .ow a, .ow b]] k = k [.agg [.v x, .ow 0, .ow 1]] := by
    intro k
    simp [renF, upto, memN, renCs, renC, ren1, posN, e0, hba]
  rw [e2]
  simp only [pickL, ha, hb, List.length_cons, List.length_nil]
  rw [he]
  simp [hs]
theorem inlP_fst {x y : Value} {a : Nat} {la : LB} (ha : look a h.l = some la) (hs : sure v = true)
    (he : evV E fn fuel [.agg [.v x, .ow 0, .v y]] ⟨[], [(0, ⟨false, la.e, la.bb⟩)], 1⟩ = some (v, h')) : inlP E fn fuel [.agg [.v x, .ow a, .v y]] h = some (true, v) := by
  have e0 : ∀ i, Nat.blt i 0 = false := fun i => blt_false (by omega)
  have e1 : idF 0 (upto [AV.agg [.v x, .ow a, .v y]].length) [] 0 [.agg [.v x, .ow a, .v y]] = [a] := by
    simp [idF, upto, memN, idCs, idC, addN, e0]
  unfold inlP inlPO
  rw [e1]
  have e2 : ∀ k : List AV → Out, renF 0 (upto [AV.agg [.v x, .ow a, .v y]].length) [a] 0 [.agg [.v x, .ow a, .v y]] k = k [.agg [.v x, .ow 0, .v y]] := by
    intro k
    simp [renF, upto, memN, renCs, renC, ren1, posN, e0]
  rw [e2]
  simp only [pickL, ha, List.length_cons, List.length_nil]
  rw [he]
  simp [hs]
theorem inlP_snd {x y : Value} {a : Nat} {la : LB} (ha : look a h.l = some la) (hs : sure v = true)
    (he : evV E fn fuel [.agg [.v x, .v y, .ow 0]] ⟨[], [(0, ⟨false, la.e, la.bb⟩)], 1⟩ = some (v, h')) : inlP E fn fuel [.agg [.v x, .v y, .ow a]] h = some (true, v) := by
  have e0 : ∀ i, Nat.blt i 0 = false := fun i => blt_false (by omega)
  have e1 : idF 0 (upto [AV.agg [.v x, .v y, .ow a]].length) [] 0 [.agg [.v x, .v y, .ow a]] = [a] := by
    simp [idF, upto, memN, idCs, idC, addN, e0]
  unfold inlP inlPO
  rw [e1]
  have e2 : ∀ k : List AV → Out, renF 0 (upto [AV.agg [.v x, .v y, .ow a]].length) [a] 0 [.agg [.v x, .v y, .ow a]] k = k [.agg [.v x, .v y, .ow 0]] := by
    intro k
    simp [renF, upto, memN, renCs, renC, ren1, posN, e0]
  rw [e2]
  simp only [pickL, ha, List.length_cons, List.length_nil]
  rw [he]
  simp [hs]
end
/-- The operations of a list. -/
def opsOf (v : AV) (h : AH) : Option (Nat × (Nat → Nat → Int)) := match v with
  | .one (.ow id) => (match look id h.l with
    | some ⟨_, e, .row sh n g _⟩ => bif Nat.beq e 31 && eqSh sh opSh then some (n, g) else none
    | _ => none)
  | .one (.v (.slice none 0 0)) => some (0, fun _ _ => 0)
  | _ => none
theorem opsOf_spec {v : AV} {h : AH} {n : Nat} {g : Nat → Nat → Int} (e : opsOf v h = some (n, g)) : (∃ id own o, v = .one (.ow id) ∧ look id h.l = some ⟨own, 31, .row opSh n g o⟩) ∨ (v = .one (.v (.slice none 0 0)) ∧ n = 0 ∧ g = fun _ _ => 0) := by
  unfold opsOf at e
  split at e
  · rename_i id
    split at e
    · rename_i own e' sh n' g' o' hl
      cases hb : (Nat.beq e' 31 && eqSh sh opSh) with
      | false => simp [hb] at e
      | true =>
        simp only [hb, cond_true, Option.some.injEq, Prod.mk.injEq] at e
        rw [Bool.and_eq_true] at hb
        have := Nat.eq_of_beq_eq_true hb.1
        subst this
        have := eqSh_eq' hb.2
        subst this
        obtain ⟨rfl, rfl⟩ := e
        exact .inl ⟨id, own, o', rfl, hl⟩
    · cases e
  · simp only [Option.some.injEq, Prod.mk.injEq] at e
    exact .inr ⟨rfl, e.1.symm, e.2.symm⟩
  · cases e
/-- A list's numbers from i on. -/
def tabW (f : Nat → Int) : Nat → Nat → List Int
  | 0, _ => []
  | r + 1, i => f i :: tabW f r (i + 1)
structure OpT where
  k : Int
  D : Int
  A : Int
  B : Int
  I : Int
  t : Int
def tabO (g : Nat → Nat → Int) : Nat → Nat → List OpT
  | 0, _ => []
  | r + 1, i => ⟨g i 0, g i 1, g i 2, g i 3, g i 4, g i 5⟩ :: tabO g r (i + 1)
theorem tabW_len (f : Nat → Int) : ∀ r i, (tabW f r i).length = r
  | 0, _ => rfl
  | r + 1, i => by simp [tabW, tabW_len f r]
theorem tabO_len (g : Nat → Nat → Int) : ∀ r i, (tabO g r i).length = r
  | 0, _ => rfl
  | r + 1, i => by simp [tabO, tabO_len g r]
def goodL (n : Nat) : Nat → List Int → Bool
  | _, [] => true
  | i, v :: r => fitsW n i v && goodL n (i + 1) r
theorem goodR_eq (n : Nat) (f : Nat → Int) : ∀ r i, goodR n f r i = goodL n i (tabW f r i)
  | 0, _ => rfl
  | r + 1, i => by simp [goodR, tabW, goodL, goodR_eq n f r]
/-- What may be a block's words. -/
def rightL (l : List Int) : Bool := bif decide ((l.length : Int) < 1) then false else bif decide ((l.length : Int) > 16) then false else goodL l.length 0 l
theorem rightW_eq (n : Nat) (f : Nat → Int) : rightW n f = rightL (tabW f n 0) := by
  unfold rightW rightL
  rw [tabW_len, goodR_eq]
def stepL (W : Int) (n i : Nat) (q : OpT) (at' : Int) (F : Nat → Nat → Bool) : Bool :=
  rightK W F q.k q.D q.A q.B q.I q.t && (!decide (q.t < at') && (decide (q.k ≥ 60) == ((i : Int) == (n : Int) - 1)))
def nextL (W : Int) (q : OpT) (F : Nat → Nat → Bool) : Nat → Nat → Bool := fun j _ => afterK W F q.k q.D q.A q.B q.I q.t j
def chkL (W : Int) (n : Nat) : Nat → List OpT → Int → (Nat → Nat → Bool) → Bool
  | _, [], _, _ => true
  | i, q :: r, at', F => stepL W n i q at' F && chkL W n (i + 1) r q.t (nextL W q F)
theorem checkR_eq (W : Int) (n : Nat) (g : Nat → Nat → Int) : ∀ r i at' F, checkR W n g r i at' F = chkL W n i (tabO g r i) at' F
  | 0, _, _, _ => rfl
  | r + 1, i, at', F => by
    simp only [checkR, tabO, chkL]
    rw [checkR_eq W n g r (i + 1) (g i 5) (nextF W (g i) F)]
    rfl
def headL (pc : Int) (ws : List Int) (n : Nat) : Bool := bif pc.tmod 4 != 0 then false else
  bif (bif (bif (bif !rightL ws then true else decide (IntKind.u64.wrap (IntKind.u64.wrap pc + IntKind.u64.wrap (4 * IntKind.u64.wrap (ws.length : Int))) > 4294967296)) then true else decide ((n : Int) < 1)) then true else decide ((n : Int) > 120)) then false else true
/-- May a block be? -/
def checkL (pc : Int) (ws : List Int) (os : List OpT) : Bool := headL pc ws os.length && chkL ws.length os.length 0 os 0 fun _ _ => false
theorem checkB_eq (pc : Int) (nW : Nat) (f : Nat → Int) (n : Nat) (g : Nat → Nat → Int) : checkB pc nW f n g = checkL pc (tabW f nW 0) (tabO g n 0) := by
  unfold checkB checkL headK headL
  rw [rightW_eq, checkR_eq, tabW_len, tabO_len]
def q39 (args : List AV) (h : AH) : Option (Bool × AV) := match args with
  | [.agg [.v (.int .u32 pc), w, q]] => (match wordsOf (.one w) h, opsOf (.one q) h with
    | some (nW, f), some (n, g) => some (true, boolV (checkL pc (tabW (fun k => f k 0) nW 0) (tabO g n 0)))
    | _, _ => none)
  | _ => none
theorem checkB_nil (pc : Int) (nW : Nat) (f : Nat → Int) (g : Nat → Nat → Int) : checkB pc nW f 0 g = false := by
  unfold checkB headK
  cases pc.tmod 4 != 0
  case true => rfl
  generalize decide (IntKind.u64.wrap (IntKind.u64.wrap pc + IntKind.u64.wrap (4 * IntKind.u64.wrap (nW : Int))) > 4294967296) = b1
  cases rightW nW f <;> cases b1 <;> rfl
theorem checkB_nilw (pc : Int) (f : Nat → Int) (n : Nat) (g : Nat → Nat → Int) : checkB pc 0 f n g = false := by
  unfold checkB headK
  cases pc.tmod 4 != 0
  case true => rfl
  rfl
theorem q39_ok : ∀ args h v, q39 args h = some (true, v) → inlP ET0 Try.f39 200 args h = some (true, v) := by
  intro args h v hq
  unfold q39 at hq
  split at hq
  · rename_i pc w q
    split at hq
    · rename_i nW f n g hw ho
      simp only [Option.some.injEq, Prod.mk.injEq, true_and] at hq
      rw [← checkB_eq] at hq
      subst hq
      rcases wordsOf_spec hw with ⟨id, own, o, hw1, hl⟩ | ⟨hw1, rfl, rfl⟩ <;> rcases opsOf_spec ho with ⟨id', own', o', ho1, hl'⟩ | ⟨ho1, rfl, rfl⟩ <;> injection hw1 with hw1 <;> injection ho1 with ho1 <;> subst hw1 ho1
      · refine inlP_two (fun e => ?_) hl hl' rfl (t39' pc nW f o n g o')
        rw [e, hl'] at hl
        injection hl with hl
        injection hl with _ hl _
        cases hl
      · refine inlP_fst (h' := hh0) hl rfl ((t39w pc nW f o).trans ?_)
        rw [checkB_nil]
        cases pc.tmod 4 != 0
        case true => rfl
        generalize decide (IntKind.u64.wrap (IntKind.u64.wrap pc + IntKind.u64.wrap (4 * IntKind.u64.wrap (nW : Int))) > 4294967296) = b1
        cases rightW nW (fun k => f k 0) <;> cases b1 <;> rfl
      · refine inlP_snd (h' := hh0) hl' rfl ((t39o pc n g o').trans ?_)
        rw [checkB_nilw]
        cases pc.tmod 4 != 0 <;> rfl
      · refine inlP_plain (h' := hh0) rfl (fun _ => rfl) rfl ((t39n pc).trans ?_)
        rw [checkB_nil]
        cases pc.tmod 4 != 0 <;> rfl
    · cases hq
  · cases hq
noncomputable def EU0 : Env := ES0.sum 39 q39
theorem EU0_s : EU0.Sound := ES0_s.sumC ((inlP_CallQ ET0_s pfl ET0_lp has39).of q39_ok)
end Go.Proofs.Ytjpeplidbodjiaa
