/- LiveAgain (P20.2): for every block the law returns true, and the block reads as it did; no condition. -/
import Derived.Test.YtjpeplidbodjiaaRows
import Derived.Test.YtjpeplidbodjiaaHI
import Derived.Test.YtjpeplidbodjiaaHJ
import Derived.Below
import Derived.Carry
import Derived.ChangeOld
import Derived.WalkKit
import Derived.ProofKit
import Derived.OpenShut
import Derived.ShutString
namespace Go.Proofs.Ytjpeplidbodjiaa.liveAgain
open Go.ChangeShapes Go.WideShapes Go.ChangeAt Go.RowKit
set_option linter.unusedVariables false
theorem own : ownKnob Try.prog.godebug = none := by kernel_rfl
theorem laidOut : laidOutB Try.prog = true := by kernel_rfl

theorem walk (w : World) (pc : Int) (sW sO : Option Addr × Nat × Nat) (nW : Nat) (f : Nat → Nat → Int) (n : Nat) (g : Nat → Nat → Int) (_ : (Lit.int .u32 pc).wf = true) (hW : Ro [] w sW ⟨false, 22, .row [.i .u32] nW f noB⟩) (_ : ∀ i, i < nW → (Lit.int .u32 (f i 0)).wf = true)
    (hO : Ro [] w sO ⟨false, 31, .row opSh n g noB⟩) (_ : ∀ i, i < n → wfRow (g i)) :
    Calls Try.prog 3 #[.agg #[.int .u32 pc, slv sW, slv sO]] w fun e w' => e = .returned (.bool true) ∧ Below w.heap.size w w' := by
  obtain ⟨v, hk⟩ := liveAgain_yes pc nW f noB n g noB
  refine law_plainV (VH5_s v) pfl (VH5_lp v) has3.1 (vals := [.agg #[.int .u32 pc, slv sW, slv sO]]) rfl (begin_lists (ls := [sW, sO]) rfl (fun i q s h1 h2 => ?_) fun β' hb i x y hx hy => ?_) hk
  · match i, h1, h2 with
    | 0, h1, h2 =>
      simp only [lB, List.getElem?_cons_zero, Option.some.injEq] at h1 h2
      subst h1 h2
      exact ⟨rfl, rfl, hW⟩
    | 1, h1, h2 =>
      simp only [lB, List.getElem?_cons_succ, List.getElem?_cons_zero, Option.some.injEq] at h1 h2
      subst h1 h2
      exact ⟨rfl, rfl, hO⟩
    | i + 2, h1, h2 => simp [lB] at h1
  · match i, hx, hy with
    | 0, hx, hy =>
      simp only [List.getElem?_cons_zero, Option.some.injEq] at hx hy
      subst hx hy
      right
      simp only [cA, cA0, List.map_cons, List.map_nil, cC, hb 0 sW rfl, hb 1 sO rfl]
    | i + 1, hx, hy => simp at hx

set_option maxRecDepth 100000 in
theorem lifted (os : Os) (started : os.Started) (H : Type) (enc : TypeId × Value → H) :
    ReturnsInHanded {} Try.checked os 3 .any (Rows.liveAgainSpec.pre6 enc Try.prog Try.f3 Rows.liveAgainRow.domain false) (Rows.liveAgainSpec.post enc Try.prog Try.f3 false true false false) := by
  refine returnsInHanded_of_change (C := Try.checked) own started (by kernel_rfl) Try.func3
    (ChangeSpec.witness6 (enc := enc) (C := Try.checked) false ⟨#[], #[.agg #[.int .u32 0, .slice none 0 0, .slice none 0 0]], []⟩ 8 (by kernel_rfl) (by kernel_rfl) (by kernel_rfl) (by kernel_rfl)) ?_
  intro W base args ds gs before hval0 hW hcnd _
  have hval : ∀ (j : Nat) t v, Try.f3.params[j]? = some t → args[j]? = some v → Value.okWide Try.prog W .any base t v := hval0
  have hW' := hW
  obtain ⟨p, q, hA0, hV, rfl, hfz, hnd⟩ := hW
  have hA : DataW.TrodAll enc Try.prog W 0 (fun _ => true) true Try.f3.params.toList args.toList ds p := hA0
  rw [Try.params3] at hA hval
  obtain ⟨v0, vs0, d0, ds0, p0, q0, hargs, rfl, rfl, h0, r0⟩ := trodAll_cons hA
  obtain ⟨rfl, rfl, rfl⟩ := trodAll_nil r0
  obtain rfl : args = #[v0] := by cases args; simp_all
  obtain ⟨rfl, rfl⟩ := trodVars_none hV
  have k0 := h0
  have lt0 : ∀ x ∈ p0, x.block < W.heap.size := by obtain ⟨m, hm⟩ := k0; exact DataW.trod_lt m _ _ _ hm
  obtain ⟨pc0, sW0, sO0, nW0, f0, n0, g0, e0, wp0, hW0, wW0, hO0, wO0⟩ := open_blk (hval 0 26 v0 rfl rfl) h0
  subst e0
  clear hA0 hval0
  refine (walk W pc0 sW0 sO0 nW0 f0 n0 g0 wp0 hW0 wW0 hO0 wO0).mono fun e W' ⟨he, bel⟩ => ?_
  subst he
  exact ⟨_, rfl, _, _, _, [], _, [], hW', trodAll_mk1 (shut_bool Try.underlying4 _), (trodAll_cons_mk (Below.trod laidOut (by kernel_rfl) (of_decide_eq_true (by kernel_rfl)) k0 bel lt0) trodAll_mk0), rfl, bel.frame _, fun h => by cases h⟩

theorem over : Rows.liveAgainRow.holds Try.pinned (OpenSpec.ofChange Rows.liveAgainSpec) :=
  OpenClaim.holds_of_wide 3 Try.f3 rfl rfl rfl rfl rfl rfl rfl ⟨rfl, rfl, rfl, rfl, rfl⟩ rfl rfl rfl rfl rfl (by kernel_rfl) Try.func3 (by kernel_rfl)
    (of_decide_eq_true (by kernel_rfl)) (by unfold Func.isWrapper; first | (rw [if_pos (by decide +kernel)]; kernel_rfl) | (rw [if_neg (by decide +kernel)]; exact ⟨rfl, rfl⟩))
    (fun os started H enc _ => lifted os started H enc)

theorem proved : Rows.LiveAgainSaid := over
#print axioms proved
end Go.Proofs.Ytjpeplidbodjiaa.liveAgain
