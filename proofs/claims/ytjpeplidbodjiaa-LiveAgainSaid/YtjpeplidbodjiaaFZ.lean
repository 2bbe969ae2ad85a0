/- live.slot. -/
import Derived.Test.YtjpeplidbodjiaaFY
namespace Go.Proofs.Ytjpeplidbodjiaa
set_option maxRecDepth 100000
theorem t126 (pc i : Int) (nW : Nat) (f : Nat → Nat → Int) (oW : Nat → Nat → ByteArray) (n : Nat) (g : Nat → Nat → Int) (o : Nat → Nat → ByteArray) : evV EY2 Try.f126 100 [.agg [.v (.int .u32 pc), .ow 0, .ow 1], intV i] ⟨[], lB nW f oW n g o, 2⟩ =
    ix n i 0 (bif g i.toNat 5 != IntKind.i64.wrap ((nW : Int) - 1) then some (boolV false, hh0) else
      ix n (IntKind.i64.wrap ((n : Int) - 1)) 0 (bif (bif false then true else g (IntKind.i64.wrap ((n : Int) - 1)).toNat 0 == 60) then some (boolV false, hh0) else
        bif (bif false then true else !jumpsL (tabW (fun k => f k 0) nW 0)) then some (boolV false, hh0) else
          bif (bif !pureK (g i.toNat 0) then true else i == 0) then some (boolV true, hh0) else
            ix n (IntKind.i64.wrap (i - 1)) 5 (some (boolV (bif false then true else g (IntKind.i64.wrap (i - 1)).toNat 5 != g i.toNat 5), hh0)))) := by kernel_rfl
/-- Does an operation of the last word of a block that jumps show what the end asks? -/
def slotG (ws : List Int) (n : Nat) (g : Nat → Nat → Int) (i : Nat) : Bool :=
  bif g i 5 != (ws.length : Int) - 1 then false else bif g (n - 1) 0 == 60 then false else bif !jumpsL ws then false else
  bif !pureK (g i 0) then true else bif Nat.beq i 0 then true else g (i - 1) 5 != g i 5
theorem t126' (pc : Int) (i nW : Nat) (f : Nat → Nat → Int) (oW : Nat → Nat → ByteArray) (n : Nat) (g : Nat → Nat → Int) (o : Nat → Nat → ByteArray) (h : i < n) (hn : n ≤ 100000) (hw : nW ≤ 100000) :
    evV EY2 Try.f126 100 [.agg [.v (.int .u32 pc), .ow 0, .ow 1], intV i] ⟨[], lB nW f oW n g o, 2⟩ = some (boolV (slotG (tabW (fun k => f k 0) nW 0) n g i), hh0) := by
  rw [t126]
  unfold slotG
  have e2 : IntKind.i64.wrap ((n : Int) - 1) = ((n - 1 : Nat) : Int) := by rw [IntKind.wrap_i64]; omega
  have e2' : IntKind.i64.wrap ((nW : Int) - 1) = (nW : Int) - 1 := by rw [IntKind.wrap_i64]; omega
  have e3 : ∀ (j : Nat) (x : Out), j < 6 → ix n (i : Int) j x = x := fun j x hj => ix_in (by omega) (by omega) hj
  have e4 : ∀ (j : Nat) (x : Out), j < 6 → ix n ((n - 1 : Nat) : Int) j x = x := fun j x hj => ix_in (by omega) (by omega) hj
  have e5 : ((i : Nat) : Int).toNat = i := by omega
  have e6 : (((n - 1 : Nat)) : Int).toNat = n - 1 := by omega
  rw [e2, e2', e3 0 _ (by decide), e4 0 _ (by decide), e5, e6, tabW_len]
  generalize (g i 5 != (nW : Int) - 1) = b1
  generalize (g (n - 1) 0 == 60) = b2
  generalize jumpsL (tabW (fun k => f k 0) nW 0) = b3
  cases b1
  case true => rfl
  cases b2
  case true => rfl
  cases b3
  case false => rfl
  cases hp : pureK (g i 0)
  case false => rfl
  by_cases h0 : i = 0
  · subst h0
    rfl
  · have e0 : ((i : Int) == 0) = false := by simpa using h0
    have e1 : Nat.beq i 0 = false := by
      cases e : Nat.beq i 0 with
      | false => rfl
      | true => exact absurd (Nat.eq_of_beq_eq_true e) h0
    have e7 : IntKind.i64.wrap ((i : Int) - 1) = ((i - 1 : Nat) : Int) := by rw [IntKind.wrap_i64]; omega
    have e8 : ∀ (j : Nat) (x : Out), j < 6 → ix n ((i - 1 : Nat) : Int) j x = x := fun j x hj => ix_in (by omega) (by omega) hj
    have e9 : (((i - 1 : Nat)) : Int).toNat = i - 1 := by omega
    rw [e0, e1, e7, e8 5 _ (by decide), e9]
    rfl
section
variable {E : Env} {fn : Func} {fuel : Nat} {h h' : AH} {v : AV}
theorem inlP_twoV {x y : Value} {a b : Nat} {la lb : LB} (hab : a ≠ b) (ha : look a h.l = some la) (hb : look b h.l = some lb) (hs : sure v = true)
    (he : evV E fn fuel [.agg [.v x, .ow 0, .ow 1], .one (.v y)] ⟨[], [(0, ⟨false, la.e, la.bb⟩), (1, ⟨false, lb.e, lb.bb⟩)], 2⟩ = some (v, h')) : inlP E fn fuel [.agg [.v x, .ow a, .ow b], .one (.v y)] h = some (true, v) := by
  have e0 : ∀ i, Nat.blt i 0 = false := fun i => blt_false (by omega)
  have hba : Nat.beq b a = false := by
    cases e : Nat.beq b a with
    | false => rfl
    | true => exact absurd (Nat.eq_of_beq_eq_true e).symm hab
  have e1 : idF 0 (upto [AV.agg [.v x, .ow a, .ow b], .one (.v y)].length) [] 0 [.agg [.v x, .ow a, .ow b], .one (.v y)] = [a, b] := by
    simp [idF, upto, memN, idCs, idC, addN, e0, hba]
  unfold inlP inlPO
  rw [e1]
  have e2 : ∀ k : List AV → Out, renF 0 (upto [AV.agg [.v x, .ow a, .ow b], .one (.v y)].length) [a, b] 0 [.agg [.v x, .ow a, .ow b], .one (.v y)] k = k [.agg [.v x, .ow 0, .ow 1], .one (.v y)] := by
    intro k
    simp only [renF, upto, List.length_cons, List.length_nil, memN, renCs, renC, ren1, posN, e0, forceV_eq]
    simp [hba]
  rw [e2]
  simp only [pickL, ha, hb, List.length_cons, List.length_nil]
  rw [he]
  simp [hs]
end
def q126 (args : List AV) (h : AH) : Option (Bool × AV) := match args with
  | [.agg [.v (.int .u32 _), .ow a, .ow b], .one (.v (.int .i64 (.ofNat i)))] => (match wordsOf (.one (.ow a)) h, opsOf (.one (.ow b)) h with
    | some (nW, f), some (n, g) => some (Nat.blt i n && Nat.ble n 100000 && Nat.ble nW 100000, boolV (slotG (tabW (fun k => f k 0) nW 0) n g i))
    | _, _ => none)
  | _ => none
theorem q126_ok : ∀ args h v, q126 args h = some (true, v) → inlP EY2 Try.f126 100 args h = some (true, v) := by
  intro args h v hq
  unfold q126 at hq
  split at hq
  · rename_i pc a b i
    split at hq
    · rename_i nW f n g hw ho
      simp only [Option.some.injEq, Prod.mk.injEq, Bool.and_eq_true, Nat.blt_eq, Nat.ble_eq] at hq
      obtain ⟨⟨⟨h1, h2⟩, h3⟩, rfl⟩ := hq
      rcases wordsOf_spec hw with ⟨id, own, o, hw1, hl⟩ | ⟨hw1, _⟩
      · rcases opsOf_spec ho with ⟨id', own', o', ho1, hl'⟩ | ⟨ho1, _⟩
        · injection hw1 with hw1
          injection hw1 with hw1
          injection ho1 with ho1
          injection ho1 with ho1
          subst hw1 ho1
          refine inlP_twoV (fun e => ?_) hl hl' rfl (t126' pc i nW f o n g o' h1 h2 h3)
          rw [e, hl'] at hl
          injection hl with hl
          injection hl with _ hl _
          cases hl
        · cases ho1
      · cases hw1
    · cases hq
  · cases hq
noncomputable def EZ0 : Env := EY2.sum 126 q126
theorem EZ0_s : EZ0.Sound := EY2_s.sumC ((inlP_CallQ EY2_s pfl (LpF.none fun _ => rfl) has126).of q126_ok)
end Go.Proofs.Ytjpeplidbodjiaa
