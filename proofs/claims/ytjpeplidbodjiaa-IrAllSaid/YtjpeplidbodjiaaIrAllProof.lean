/- IrAll (P17.2): for every block, every operation and every three numbers of 32 bits the law returns true; no condition. -/
import Derived.Test.YtjpeplidbodjiaaRows
import Derived.Test.YtjpeplidbodjiaaJY
import Derived.Test.YtjpeplidbodjiaaHW
import Derived.Below
import Derived.Carry
import Derived.ChangeOld
import Derived.WalkKit
import Derived.ProofKit
import Derived.OpenShut
import Derived.ShutString
namespace Go.Proofs.Ytjpeplidbodjiaa.irAll
open Go.ChangeShapes Go.WideShapes Go.ChangeAt Go.RowKit
set_option linter.unusedVariables false
theorem own : ownKnob Try.prog.godebug = none := by kernel_rfl
theorem laidOut : laidOutB Try.prog = true := by kernel_rfl

theorem walk (w : World) (pc : Int) (sW sO : Option Addr × Nat × Nat) (nW : Nat) (f : Nat → Nat → Int) (n : Nat) (g : Nat → Nat → Int) (wp : (Lit.int .u32 pc).wf = true) (hW : Ro [] w sW ⟨false, 22, .row [.i .u32] nW f noB⟩) (wW : ∀ i, i < nW → (Lit.int .u32 (f i 0)).wf = true)
    (hO : Ro [] w sO ⟨false, 31, .row opSh n g noB⟩) (_ : ∀ i, i < n → wfRow (g i)) (q : Nat → Int) (_ : wfRow q) (a : Int) (wa : (Lit.int .u32 a).wf = true) (b : Int) (wb : (Lit.int .u32 b).wf = true) (d : Int) (_ : (Lit.int .u32 d).wf = true) :
    Calls Try.prog 10 #[.agg #[.int .u32 pc, slv sW, slv sO], .agg #[.int .i64 (q 0), .int .i64 (q 1), .int .i64 (q 2), .int .i64 (q 3), .int .u32 (q 4), .int .i64 (q 5)], .int .u32 a, .int .u32 b, .int .u32 d] w fun e w' => e = .returned (.bool true) ∧ Below w.heap.size w w' := by
  have bp := bounds_u32 wp
  have ba := bounds_u32 wa
  have bb := bounds_u32 wb
  have hk := irAll_yes pc nW f noB n g noB (q 0) (q 1) (q 2) (q 3) (q 4) (q 5) a b d bp.1 bp.2 (fun i hi => bounds_u32 (wW i hi)) ba.1 ba.2 bb.1 bb.2
  refine law_plainV VQ10_s pfl (LpF.none fun _ => rfl) has10.1 (vals := [.agg #[.int .u32 pc, slv sW, slv sO], .agg #[.int .i64 (q 0), .int .i64 (q 1), .int .i64 (q 2), .int .i64 (q 3), .int .u32 (q 4), .int .i64 (q 5)], .int .u32 a, .int .u32 b, .int .u32 d]) rfl (begin_lists (ls := [sW, sO]) rfl (fun i q s h1 h2 => ?_) fun β' hb i x y hx hy => ?_) hk
  · match i, h1, h2 with
    | 0, h1, h2 =>
      simp only [lB, List.getElem?_cons_zero, Option.some.injEq] at h1 h2
      subst h1 h2
      exact ⟨rfl, rfl, hW⟩
    | 1, h1, h2 =>
      simp only [lB, List.getElem?_cons_succ, List.getElem?_cons_zero, Option.some.injEq] at h1 h2
      subst h1 h2
      exact ⟨rfl, rfl, hO⟩
    | i + 2, h1, h2 => simp [lB] at h1
  · match i, hx, hy with
    | 0, hx, hy =>
      simp only [List.getElem?_cons_zero, Option.some.injEq] at hx hy
      subst hx hy
      right
      simp only [cA, cA0, List.map_cons, List.map_nil, cC, hb 0 sW rfl, hb 1 sO rfl]
    | 1, hx, hy =>
      simp only [List.getElem?_cons_succ, List.getElem?_cons_zero, Option.some.injEq] at hx hy
      subst hx hy
      exact .inr rfl
    | 2, hx, hy =>
      simp only [List.getElem?_cons_succ, List.getElem?_cons_zero, Option.some.injEq] at hx hy
      subst hx hy
      exact .inr rfl
    | 3, hx, hy =>
      simp only [List.getElem?_cons_succ, List.getElem?_cons_zero, Option.some.injEq] at hx hy
      subst hx hy
      exact .inr rfl
    | 4, hx, hy =>
      simp only [List.getElem?_cons_succ, List.getElem?_cons_zero, Option.some.injEq] at hx hy
      subst hx hy
      exact .inr rfl
    | i + 5, hx, hy => simp at hx

set_option maxRecDepth 100000 in
theorem lifted (os : Os) (started : os.Started) (H : Type) (enc : TypeId × Value → H) :
    ReturnsInHanded {} Try.checked os 10 .any (Rows.irAllSpec.pre6 enc Try.prog Try.f10 Rows.irAllRow.domain false) (Rows.irAllSpec.post enc Try.prog Try.f10 false true false false) := by
  refine returnsInHanded_of_change (C := Try.checked) own started (by kernel_rfl) Try.func10
    (ChangeSpec.witness6 (enc := enc) (C := Try.checked) false ⟨#[], #[.agg #[.int .u32 0, .slice none 0 0, .slice none 0 0], .agg #[.int .i64 0, .int .i64 0, .int .i64 0, .int .i64 0, .int .u32 0, .int .i64 0], .int .u32 0, .int .u32 0, .int .u32 0], []⟩ 8 (by kernel_rfl) (by kernel_rfl) (by kernel_rfl) (by kernel_rfl)) ?_
  intro W base args ds gs before hval0 hW hcnd _
  have hval : ∀ (j : Nat) t v, Try.f10.params[j]? = some t → args[j]? = some v → Value.okWide Try.prog W .any base t v := hval0
  have hW' := hW
  obtain ⟨p, q, hA0, hV, rfl, hfz, hnd⟩ := hW
  have hA : DataW.TrodAll enc Try.prog W 0 (fun _ => true) true Try.f10.params.toList args.toList ds p := hA0
  rw [Try.params10] at hA hval
  obtain ⟨v0, vs0, d0, ds0, p0, q0, hargs, rfl, rfl, h0, r0⟩ := trodAll_cons hA
  obtain ⟨v1, vs1, d1, ds1, p1, q1, rfl, rfl, rfl, h1, r1⟩ := trodAll_cons r0
  obtain ⟨v2, vs2, d2, ds2, p2, q2, rfl, rfl, rfl, h2, r2⟩ := trodAll_cons r1
  obtain ⟨v3, vs3, d3, ds3, p3, q3, rfl, rfl, rfl, h3, r3⟩ := trodAll_cons r2
  obtain ⟨v4, vs4, d4, ds4, p4, q4, rfl, rfl, rfl, h4, r4⟩ := trodAll_cons r3
  obtain ⟨rfl, rfl, rfl⟩ := trodAll_nil r4
  obtain rfl : args = #[v0, v1, v2, v3, v4] := by cases args; simp_all
  obtain ⟨rfl, rfl⟩ := trodVars_none hV
  have k0 := h0
  have lt0 : ∀ x ∈ p0, x.block < W.heap.size := by obtain ⟨m, hm⟩ := k0; exact DataW.trod_lt m _ _ _ hm
  obtain ⟨pc0, sW0, sO0, nW0, f0, n0, g0, e0, wp0, hW0, wW0, hO0, wO0⟩ := open_blk (hval 0 26 v0 rfl rfl) h0
  subst e0
  have k1 := h1
  have lt1 : ∀ x ∈ p1, x.block < W.heap.size := by obtain ⟨m, hm⟩ := k1; exact DataW.trod_lt m _ _ _ hm
  obtain ⟨q1, e1, w1⟩ := open_op1 (hval 1 31 v1 rfl rfl) h1
  subst e1
  have k2 := h2
  have lt2 : ∀ x ∈ p2, x.block < W.heap.size := by obtain ⟨m, hm⟩ := k2; exact DataW.trod_lt m _ _ _ hm
  obtain ⟨a2, e2, _, _, w2⟩ := open_int Try.underlying22 (hval 2 22 v2 rfl rfl) h2
  subst e2
  have k3 := h3
  have lt3 : ∀ x ∈ p3, x.block < W.heap.size := by obtain ⟨m, hm⟩ := k3; exact DataW.trod_lt m _ _ _ hm
  obtain ⟨a3, e3, _, _, w3⟩ := open_int Try.underlying22 (hval 3 22 v3 rfl rfl) h3
  subst e3
  have k4 := h4
  have lt4 : ∀ x ∈ p4, x.block < W.heap.size := by obtain ⟨m, hm⟩ := k4; exact DataW.trod_lt m _ _ _ hm
  obtain ⟨a4, e4, _, _, w4⟩ := open_int Try.underlying22 (hval 4 22 v4 rfl rfl) h4
  subst e4
  clear hA0 hval0
  refine (walk W pc0 sW0 sO0 nW0 f0 n0 g0 wp0 hW0 wW0 hO0 wO0 q1 w1 a2 w2 a3 w3 a4 w4).mono fun e W' ⟨he, bel⟩ => ?_
  subst he
  exact ⟨_, rfl, _, _, _, [], _, [], hW', trodAll_mk1 (shut_bool Try.underlying4 _), (trodAll_cons_mk (Below.trod laidOut (by kernel_rfl) (of_decide_eq_true (by kernel_rfl)) k0 bel lt0) (trodAll_cons_mk (Below.trod laidOut (by kernel_rfl) (of_decide_eq_true (by kernel_rfl)) k1 bel lt1) (trodAll_cons_mk (Below.trod laidOut (by kernel_rfl) (of_decide_eq_true (by kernel_rfl)) k2 bel lt2) (trodAll_cons_mk (Below.trod laidOut (by kernel_rfl) (of_decide_eq_true (by kernel_rfl)) k3 bel lt3) (trodAll_cons_mk (Below.trod laidOut (by kernel_rfl) (of_decide_eq_true (by kernel_rfl)) k4 bel lt4) trodAll_mk0))))), rfl, bel.frame _, fun h => by cases h⟩

theorem over : Rows.irAllRow.holds Try.pinned (OpenSpec.ofChange Rows.irAllSpec) :=
  OpenClaim.holds_of_wide 10 Try.f10 rfl rfl rfl rfl rfl rfl rfl ⟨rfl, rfl, rfl, rfl, rfl⟩ rfl rfl rfl rfl rfl (by kernel_rfl) Try.func10 (by kernel_rfl)
    (of_decide_eq_true (by kernel_rfl)) (by unfold Func.isWrapper; first | (rw [if_pos (by decide +kernel)]; kernel_rfl) | (rw [if_neg (by decide +kernel)]; exact ⟨rfl, rfl⟩))
    (fun os started H enc _ => lifted os started H enc)

theorem proved : Rows.IrAllSaid := over
#print axioms proved
end Go.Proofs.Ytjpeplidbodjiaa.irAll
