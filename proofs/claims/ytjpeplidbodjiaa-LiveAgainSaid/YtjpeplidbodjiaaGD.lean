/- live.needs, whole. -/
import Derived.Test.YtjpeplidbodjiaaGC
import Derived.Test.YtjpeplidbodjiaaSndD
namespace Go.Proofs.Ytjpeplidbodjiaa
set_option maxRecDepth 100000
/-- What is needed behind each operation. -/
def needsG (ws : List Int) (n : Nat) (g : Nat → Nat → Int) : Nat → Nat → Bool := needG ws n g n (fun _ _ => false) fun _ _ => false
theorem t62 (pc : Int) (nW : Nat) (f : Nat → Nat → Int) (oW : Nat → Nat → ByteArray) (n : Nat) (g : Nat → Nat → Int) (o : Nat → Nat → ByteArray) : evC EA2 Try.f62 200 [.agg [.v (.int .u32 pc), .ow 0, .ow 1]] ⟨[], lB nW f oW n g o, 2⟩ rowG =
    bif decide ((n : Int) = (n : Int)) && (decide (0 ≤ (n : Int)) && decide ((n : Int) ≤ 100000)) then
      bif decide (IntKind.i64.wrap ((n : Int) - 1) = (n : Int) - 1) && Nat.beq (n : Int).toNat n && Nat.beq 64 64 && okN nW n g then some (rowsL n (needsG (tabW (fun k => f k 0) nW 0) n g), hh0) else none else none := by kernel_rfl
theorem t62' (pc : Int) (nW : Nat) (f : Nat → Nat → Int) (oW : Nat → Nat → ByteArray) (n : Nat) (g : Nat → Nat → Int) (o : Nat → Nat → ByteArray) (hk : okN nW n g = true) : evC EA2 Try.f62 200 [.agg [.v (.int .u32 pc), .ow 0, .ow 1]] ⟨[], lB nW f oW n g o, 2⟩ rowG = some (rowsL n (needsG (tabW (fun k => f k 0) nW 0) n g), hh0) := by
  rw [t62, hk]
  simp only [okN, Bool.and_eq_true, Nat.ble_eq] at hk
  have h1 := hk.1.1.1
  have e4 : IntKind.i64.wrap ((n : Int) - 1) = (n : Int) - 1 := by rw [IntKind.wrap_i64]; omega
  have e5 : Nat.beq (n : Int).toNat n = true := by rw [show (n : Int).toNat = n by omega]; exact Nat.beq_refl n
  rw [decide_eq_true (rfl : (n : Int) = (n : Int)), decide_eq_true (show 0 ≤ (n : Int) by omega), decide_eq_true (show (n : Int) ≤ 100000 by omega), decide_eq_true e4, e5]
  rfl
section
variable {E : Env} {fn : Func} {fuel : Nat} {h : AH} {gg : AV → AH → Out}
theorem handC_two {x : Value} {a b : Nat} {la lb : LB} (hab : a ≠ b) (ha : look a h.l = some la) (hb : look b h.l = some lb) :
    handC E fn fuel [a, b] [.agg [.v x, .ow a, .ow b]] h gg = evC E fn fuel [.agg [.v x, .ow 0, .ow 1]] ⟨[], [(0, ⟨false, la.e, la.bb⟩), (1, ⟨false, lb.e, lb.bb⟩)], 2⟩ gg := by
  have e0 : ∀ i, Nat.blt i 0 = false := fun i => blt_false (by omega)
  have hba : Nat.beq b a = false := by
    cases e : Nat.beq b a with
    | false => rfl
    | true => exact absurd (Nat.eq_of_beq_eq_true e).symm hab
  unfold handC
  have e2 : ∀ k : List AV → Out, renF 0 (upto [AV.agg [.v x, .ow a, .ow b]].length) [a, b] 0 [.agg [.v x, .ow a, .ow b]] k = k [.agg [.v x, .ow 0, .ow 1]] := by
    intro k
    simp [renF, upto, memN, renCs, renC, ren1, posN, e0, hba]
  rw [e2]
  simp only [pickL, ha, hb, List.length_cons, List.length_nil]
end
def c62 (args : List AV) (h : AH) : Option (Bool × AV × AH) := match args with
  | [.agg [.v (.int .u32 _), .ow a, .ow b]] => (match wordsOf (.one (.ow a)) h, opsOf (.one (.ow b)) h with
    | some (nW, f), some (n, g) => some (okN nW n g, .one (.ow h.nx), ⟨h.b, (h.nx, ⟨true, 85, .bools 64 n (needsG (tabW (fun k => f k 0) nW 0) n g)⟩) :: h.l, h.nx + 1⟩)
    | _, _ => none)
  | _ => none
theorem c62_ok : CallS Try.prog 62 c62 := by
  refine CallS.rows (E := EA2) EA2_s pfl EA2_lp has62 fun args h v h' hc => ?_
  unfold c62 at hc
  split at hc
  · rename_i pc a b
    split at hc
    · rename_i nW f n g hw ho
      simp only [Option.some.injEq, Prod.mk.injEq] at hc
      obtain ⟨hk, rfl, rfl⟩ := hc
      rcases wordsOf_spec hw with ⟨id, own, oW, hw1, hl⟩ | ⟨hw1, _⟩
      · rcases opsOf_spec ho with ⟨id', own', o', ho1, hl'⟩ | ⟨ho1, _⟩
        · injection hw1 with hw1
          injection hw1 with hw1
          injection ho1 with ho1
          injection ho1 with ho1
          subst hw1 ho1
          refine ⟨200, [a, b], n, needsG (tabW (fun k => f k 0) nW 0) n g, ?_, rfl, rfl⟩
          rw [handC_two (fun e => ?_) hl hl']
          · exact t62' pc nW f oW n g o' hk
          · rw [e, hl'] at hl
            injection hl with hl
            injection hl with _ hl _
            cases hl
        · cases ho1
      · cases hw1
    · cases hc
  · cases hc
theorem c62_keeps (args : List AV) (h : AH) (g : Bool) (v : AV) (h' : AH) (e : c62 args h = some (g, v, h')) : h.b.Sublist h'.b ∧ h.l.Sublist h'.l := by
  unfold c62 at e
  split at e
  · split at e
    · simp only [Option.some.injEq, Prod.mk.injEq] at e
      rw [← e.2.2]
      exact ⟨List.Sublist.refl _, List.sublist_cons_self _ _⟩
    · cases e
  · cases e
noncomputable def ED0 : Env := EZ0.add 62 c62 noQ false true
theorem ED0_s : ED0.Sound := EZ0_s.add c62_ok (noQ_CallQ has62) fun _ => c62_keeps
end Go.Proofs.Ytjpeplidbodjiaa
