/- Callees that are lent one block of Bools. -/
import Derived.Test.YtjpeplidbodjiaaSndN
namespace Go.Proofs.Ytjpeplidbodjiaa
open Go.RowKit
variable {L : List Nat} {w0 w w' : World} {β β2 : Bt} {E : Env}
/-- The block that was lent, told. -/
def wG (v : AV) (h : AH) : Out := match look 0 h.b with
  | some (42, .bools 1 64 F) => some (.tup [v, .arr 64 fun i => F i 0], ⟨[], [], 0⟩)
  | _ => none
theorem cB_col (F : Nat → Nat → Bool) : cB β (.bools 1 64 F) = cB β (.bools 1 64 fun i _ => F i 0) := by
  simp only [cB]
  rfl
theorem CallS.lent (hE : E.Sound) (hm : E.P.follows .mixedOrders = true) {f : FuncId} {fn : Func} (hlp : LpF E fn) (hf : hasFn E.P f fn) {c : List AV → AH → Option (Bool × AV × AH)}
    (hc : ∀ args h v h', c args h = some (true, v, h') → ∃ pre id F F' fuel, args = pre ++ [.one (.pt id 0)] ∧ (∀ x ∈ pre, sure x = true) ∧ look id h.b = some (42, .bools 1 64 F) ∧
      evC E fn fuel (pre ++ [.one (.pt 0 0)]) ⟨[(0, 42, .bools 1 64 F)], [], 1⟩ wG = some (.tup [v, .arr 64 F'], ⟨[], [], 0⟩) ∧ sure v = true ∧ h' = ⟨over id (42, .bools 1 64 fun i _ => F' i) h.b, h.l, h.nx⟩) : CallS E.P f c := by
  refine ⟨hf.enter, fun args h v h' he L w0 β w vals hl hb => ?_⟩
  obtain ⟨pre, id, F, F', fuel, rfl, hs, hlk, hev, hsv, rfl⟩ := hc args h v h' he
  obtain ⟨hav, hh⟩ := hb β (Agree.refl _ _)
  obtain ⟨i, hi, hset⟩ := over_set (y := ((42 : TypeId), BB.bools 1 64 fun i _ => F' i)) hlk
  have hpt : ∀ β', Agree h.nx β β' → β'.b id = β.b id := by
    intro β' hβ
    have hlast : (pre ++ [AV.one (.pt id 0)])[pre.length]? = some (.one (.pt id 0)) := by simp
    have hlen : pre.length < vals.length := by rw [hl]; simp
    have h1 := hav pre.length _ _ hlast (List.getElem?_eq_getElem hlen)
    have h2 := (hb β' hβ).1 pre.length _ _ hlast (List.getElem?_eq_getElem hlen)
    have h1 := h1.resolve_left (by simp)
    have h2 := h2.resolve_left (by simp)
    rw [h1] at h2
    simp only [cA, cA0, cC] at h2
    injection h2 with h2
    injection h2 with h2
    injection h2 with h2
    exact h2.symm
  have hbl : ∀ β', (bsO β' h.b)[i]? = some ⟨β'.b id, 42, cB β' (.bools 1 64 F)⟩ := fun β' => by simp [bsO, hi]
  have hheap := hh.own.blk _ (List.mem_of_getElem? (hbl β))
  refine (evC_calls (L := [β.b id]) (w0 := w) (β := ⟨fun _ => β.b id, fun _ => (none, 0, 0)⟩) hE hm hlp hf.1 hev (by rw [hl]; simp) (fun β' hβ => ⟨fun j x y hx hy => ?_, ?_⟩)).mono ?_
  · by_cases hj : j < pre.length
    · rw [List.getElem?_append_left hj] at hx
      obtain ⟨s1, s2⟩ := sure_spec (hs x (List.mem_of_getElem? hx))
      have := hav j x y (by rw [List.getElem?_append_left hj]; exact hx) hy
      right
      rw [this.resolve_left s1, s2 β β']
    · have hj' : j = pre.length := by
        have := (List.getElem?_eq_some_iff.1 hx).1
        simp at this
        omega
      subst hj'
      simp at hx
      subst hx
      have := hav pre.length (.one (.pt id 0)) y (by simp) hy
      right
      rw [this.resolve_left (by simp)]
      have e := (hβ 0 (by simp)).1
      simp only [cA, cA0, cC, e]
  · refine ⟨?_, fun q hq => by cases hq⟩
    have e := (hβ 0 (by simp)).1
    have := (Own.start [β.b id] w).add (g := β.b id) (t := 42) (cs := cB β' (.bools 1 64 F)) hheap (.inr (by simp)) (by simp) (by simp)
    simpa [bsO, lsO, e] using this
  · rintro e w' ⟨y, β2, v', h1, rfl, hag, hle, hall, hg⟩
    obtain ⟨hv, hh1⟩ := hall β2 (Agree.refl _ _)
    have eb : β2.b 0 = β.b id := (hag 0 (by simp)).1
    unfold wG at hg
    split at hg
    · rename_i G hlk1
      simp only [Option.some.injEq, Prod.mk.injEq, AV.tup.injEq, List.cons.injEq, and_true] at hg
      obtain ⟨rfl, hG⟩ := hg
      injection hG with _ hG
      have hb1 : (⟨β2.b 0, 42, cB β2 (.bools 1 64 G)⟩ : Bl) ∈ bsO β2 h1.b := List.mem_map.2 ⟨(0, 42, .bools 1 64 G), look_mem hlk1, rfl⟩
      have hheap' := hh1.own.blk _ hb1
      have hgrown : w.grownBy w' (some (β.b id)) := ⟨hh1.own.os, hh1.own.tape, hh1.own.output, hh1.own.size, fun q hq hne => hh1.own.frame q hq (by simpa using hne)⟩
      obtain ⟨s1, s2⟩ := sure_spec hsv
      refine ⟨y, β, rfl, Agree.refl _ _, Nat.le_refl _, fun β' hβ => ⟨.inr ?_, ?_, fun q hq ho => (hb β' hβ).2.ro q hq ho⟩⟩
      · rw [hv.resolve_left s1, s2 β2 β']
      · have e1 := hpt β' hβ
        have hu := (hb β' hβ).2.own.update (i := i) (cs' := cB β' (.bools 1 64 fun i _ => F' i)) (hbl β') (by simp only [e1]; exact hgrown) (by
          simp only [e1]
          rw [eb] at hheap'
          simp only at hheap'
          rw [hheap', cB_col (β := β2) G]
          subst hG
          rfl)
        have e2 : bsO β' (over id ((42 : TypeId), BB.bools 1 64 fun i _ => F' i) h.b) = (bsO β' h.b).set i ⟨β'.b id, 42, cB β' (.bools 1 64 fun i _ => F' i)⟩ := by
          rw [hset]
          simp [bsO, List.map_set]
        rw [e2]
        exact hu
    · cases hg
end Go.Proofs.Ytjpeplidbodjiaa
