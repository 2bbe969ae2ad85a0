/- Sameness of blocks; live.Dead's summary; the document's example of layer 20. -/
import Derived.Test.YtjpeplidbodjiaaHE
import Derived.Test.YtjpeplidbodjiaaFV
namespace Go.Proofs.Ytjpeplidbodjiaa
set_option maxRecDepth 100000
noncomputable def VF1 : Env := E0'.sum 60 (handQ F60)
theorem VF1_s : VF1.Sound := E0'_s.sumC q60_ok
noncomputable def VF2 : Env := VF1.sum 23 (handQ F23)
theorem VF2_s : VF2.Sound := VF1_s.sumC q23_ok
def l22 (nW : Nat) (f : Nat → Nat → Int) (oW : Nat → Nat → ByteArray) (n : Nat) (g : Nat → Nat → Int) (o : Nat → Nat → ByteArray) (nW' : Nat) (f' : Nat → Nat → Int) (oW' : Nat → Nat → ByteArray) (n' : Nat) (g' : Nat → Nat → Int) (o' : Nat → Nat → ByteArray) : List (Nat × LB) := [(0, ⟨false, 22, .row [.i .u32] nW f oW⟩), (1, ⟨false, 31, .row opSh n g o⟩), (2, ⟨false, 22, .row [.i .u32] nW' f' oW'⟩), (3, ⟨false, 31, .row opSh n' g' o'⟩)]
theorem t22 (pc pc' : Int) (nW : Nat) (f : Nat → Nat → Int) (oW : Nat → Nat → ByteArray) (n : Nat) (g : Nat → Nat → Int) (o : Nat → Nat → ByteArray) (nW' : Nat) (f' : Nat → Nat → Int) (oW' : Nat → Nat → ByteArray) (n' : Nat) (g' : Nat → Nat → Int) (o' : Nat → Nat → ByteArray) :
    evV VF2 Try.f22 100 [.agg [.v (.int .u32 pc), .ow 0, .ow 1], .agg [.v (.int .u32 pc'), .ow 2, .ow 3]] ⟨[], l22 nW f oW n g o nW' f' oW' n' g' o', 4⟩ =
    bif pc == pc' then bif Nat.ble nW 100000 then bif (bif true then same60 (tabI f nW 0) (tabI f' nW' 0) else false) then bif Nat.ble n 100000 then some (boolV (bif true then same23 (tabO g n 0) (tabO g' n' 0) else false), hh0) else none
      else some (boolV false, hh0) else none else some (boolV false, hh0) := by kernel_rfl
/-- The same blocks? -/
def sameB (pc : Int) (ws : List Int) (os : List OpT) (pc' : Int) (ws' : List Int) (os' : List OpT) : Bool := pc == pc' && (same60 ws ws' && same23 os os')
def F22 (args : List AV) (l : List (Nat × LB)) : Option (Bool × AV) := match args, l with
  | [.agg [.v (.int .u32 pc), .ow 0, .ow 1], .agg [.v (.int .u32 pc'), .ow 2, .ow 3]], [(0, la), (1, lb), (2, lc), (3, ld)] => (match asW la, asO lb, asW lc, asO ld with
    | some (nW, f), some (n, g), some (nW', f'), some (n', g') => some (Nat.ble n 100000 && Nat.ble nW 100000, boolV (sameB pc (tabI f nW 0) (tabO g n 0) pc' (tabI f' nW' 0) (tabO g' n' 0)))
    | _, _, _, _ => none)
  | _, _ => none
theorem has22 : hasFn Try.prog 22 Try.f22 := ⟨by kernel_rfl, by kernel_rfl, by kernel_rfl⟩
theorem q22_ok : CallQ Try.prog 22 (handQ F22) := by
  refine CallQ.hand (E := VF2) VF2_s pfl (LpF.none fun _ => rfl) has22 fun args l v h => ?_
  unfold F22 at h
  split at h
  · rename_i pc pc' la lb lc ld
    split at h
    · rename_i nW f n g nW' f' n' g' ha hb hc hd
      obtain ⟨oW, rfl⟩ := asW_spec ha
      obtain ⟨o, rfl⟩ := asO_spec hb
      obtain ⟨oW', rfl⟩ := asW_spec hc
      obtain ⟨o', rfl⟩ := asO_spec hd
      simp only [Option.some.injEq, Prod.mk.injEq, Bool.and_eq_true] at h
      obtain ⟨⟨h1, h2⟩, rfl⟩ := h
      refine ⟨rfl, 100, hh0, (t22 pc pc' nW f oW n g o nW' f' oW' n' g' o').trans ?_⟩
      rw [h1, h2]
      unfold sameB
      cases (pc == pc') <;> cases same60 (tabI f nW 0) (tabI f' nW' 0) <;> cases same23 (tabO g n 0) (tabO g' n' 0) <;> rfl
    · cases h
  · cases h
/-- Does a round of live.Dead leave all? -/
def stays (ws : List Int) (n : Nat) (g : Nat → Nat → Int) : Bool := Nat.beq (stepR ws n g).n n
/-- What live.Dead leaves, where it takes something out. -/
def leftR (ws : List Int) (n : Nat) (g : Nat → Nat → Int) : RowL := deadR ws (n + 1) (stepR ws n g)
/-- live.Dead: one way or the other, by how much there is ahead of it. -/
def F19 (v : Nat → Bool) (nx : Nat) (args : List AV) (l : List (Nat × LB)) : Option Give := match args, l with
  | [.agg [.v (.int .u32 pc), .ow 0, .ow 1]], [(0, la), (1, lb)] => (match asW la, asO lb with
    | some (nW, f), some (n, g) => bif v nx then some ⟨checkL pc (tabI f nW 0) (tabO g n 0) && !stays (tabI f nW 0) n g, false, [.agg [.v (.int .u32 pc), .ow 0, .ow 2]], [(2, ⟨true, 31, (leftR (tabI f nW 0) n g).bb opSh⟩)], 3⟩
      else some ⟨!(checkL pc (tabI f nW 0) (tabO g n 0) && !stays (tabI f nW 0) n g), false, [.agg [.v (.int .u32 pc), .ow 0, .ow 1]], [], 2⟩
    | _, _ => none)
  | _, _ => none
theorem c19_ok (v : Nat → Bool) : CallS Try.prog 19 (handC' (F19 v)) := by
  refine CallS.hand (E := EHD2) EHD2_s pfl EHD2_lp has19 fun nx args l r h hok => ?_
  unfold F19 at h
  split at h
  · rename_i pc la lb
    split at h
    · rename_i nW f n g ha hb
      obtain ⟨oW, rfl⟩ := asW_spec ha
      obtain ⟨o, rfl⟩ := asO_spec hb
      refine ⟨200, (t19 pc nW f oW n g o).trans ?_⟩
      have hd : checkL pc (tabI f nW 0) (tabO g n 0) = true → okD nW (tabO g n 0) = true := fun hc => by
        have := check_okD hc
        rw [tabI_len] at this
        exact this
      cases hv : v nx with
      | true =>
        simp only [hv, cond_true, Option.some.injEq] at h
        subst h
        simp only [Bool.and_eq_true, Bool.not_eq_true'] at hok
        obtain ⟨h1, h2⟩ := hok
        have h1' : checkL pc (tabW (fun k => f k 0) nW 0) (tabO g n 0) = true := h1
        have h2' : Nat.beq (stepR (tabW (fun k => f k 0) nW 0) n g).n n = false := h2
        rw [h1', hd h1, h2']
        rfl
      | false =>
        simp only [hv, cond_false, Option.some.injEq] at h
        subst h
        simp only [Bool.not_eq_true', Bool.and_eq_false_iff, Bool.not_eq_false'] at hok
        cases h1 : checkL pc (tabI f nW 0) (tabO g n 0) with
        | false =>
          have h1' : checkL pc (tabW (fun k => f k 0) nW 0) (tabO g n 0) = false := h1
          rw [h1']
          rfl
        | true =>
          have h1' : checkL pc (tabW (fun k => f k 0) nW 0) (tabO g n 0) = true := h1
          have h2' : Nat.beq (stepR (tabW (fun k => f k 0) nW 0) n g).n n = true := by
            rcases hok with h | h
            · rw [h1] at h; cases h
            · exact h
          rw [h1', hd h1, h2']
          rfl
    · cases h
  · cases h
noncomputable def VF3 : Env := EV7.gives 19 (F19 fun _ => true)
theorem VF3_s : VF3.Sound := EV7_s.gives has19 (c19_ok _)
theorem has18 : hasFn Try.prog 18 Try.f18 := ⟨by kernel_rfl, by kernel_rfl, by kernel_rfl⟩
theorem t18 : evV VF3 Try.f18 200 [] ⟨[], [], 0⟩ = some (boolV true, hh0) := by kernel_rfl
end Go.Proofs.Ytjpeplidbodjiaa
