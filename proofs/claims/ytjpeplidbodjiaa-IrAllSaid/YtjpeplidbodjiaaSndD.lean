/- Callees that are handed lists and hand back a new list of rows of Bools. -/
import Derived.Test.YtjpeplidbodjiaaSndB
namespace Go.Proofs.Ytjpeplidbodjiaa
open Go.RowKit
variable {L : List Nat} {w0 w w' : World} {β β2 : Bt} {E : Env}
def rowsL (n : Nat) (G : Nat → Nat → Bool) : AV := .tup ((List.range n).map fun i => .arr 64 (G i))
def rowG (v : AV) (h : AH) : Out := match v with
  | .one (.ow id) => (match look id h.l with
    | some ⟨true, 85, .bools 64 n G⟩ => some (rowsL n G, ⟨[], [], 0⟩)
    | _ => none)
  | _ => none
theorem rowsL_inj {n n' : Nat} {G G' : Nat → Nat → Bool} (h : rowsL n G = rowsL n' G') : n = n' ∧ lV ⟨true, 85, .bools 64 n G⟩ = lV ⟨true, 85, .bools 64 n' G'⟩ := by
  unfold rowsL at h
  injection h with h
  have hn : n = n' := by simpa using congrArg List.length h
  subst hn
  refine ⟨rfl, ?_⟩
  have hg : ∀ i ∈ List.range n, G i = G' i := fun i hi => by
    have := List.map_inj_left.1 h i hi
    injection this
  simp only [lV]
  have : ∀ l : List Nat, (∀ i ∈ l, G i = G' i) → (l.flatMap fun k => (List.range 64).map fun j => Value.bool (G k j)) = l.flatMap fun k => (List.range 64).map fun j => Value.bool (G' k j) := by
    intro l
    induction l with
    | nil => intro _; rfl
    | cons x r ih =>
      intro hl
      simp only [List.flatMap_cons]
      rw [hl x (List.mem_cons_self ..), ih fun i hi => hl i (List.mem_cons_of_mem _ hi)]
  exact this _ hg
/-- What the callee is handed, numbered anew. -/
def handC (E : Env) (fn : Func) (fuel : Nat) (ord : List Nat) (args : List AV) (h : AH) (g : AV → AH → Out) : Out :=
  renF 0 (upto args.length) ord 0 args fun args' => match pickL h ord 0 with
    | some l => evC E fn fuel args' ⟨[], l, ord.length⟩ g
    | none => none
theorem CallS.rows (hE : E.Sound) (hm : E.P.follows .mixedOrders = true) {f : FuncId} {fn : Func} (hlp : LpF E fn) (hf : hasFn E.P f fn) {c : List AV → AH → Option (Bool × AV × AH)}
    (hc : ∀ args h v h', c args h = some (true, v, h') → ∃ fuel ord n G, handC E fn fuel ord args h rowG = some (rowsL n G, ⟨[], [], 0⟩) ∧ v = .one (.ow h.nx) ∧ h' = ⟨h.b, (h.nx, ⟨true, 85, .bools 64 n G⟩) :: h.l, h.nx + 1⟩) : CallS E.P f c := by
  refine ⟨hf.enter, fun args h v h' he L w0 β w vals hl hb => ?_⟩
  obtain ⟨fuel, ord, n, G, hev, rfl, rfl⟩ := hc args h v h' he
  unfold handC at hev
  obtain ⟨args', he1, a2, a3⟩ := renF_spec _ _ _ hev
  cases hp : pickL h ord 0 with
  | none => simp [hp] at he1
  | some l =>
    simp only [hp] at he1
    have hps := pickL_spec hp
    obtain ⟨hav, hh⟩ := hb β (Agree.refl _ _)
    have hh := hh.view
    refine (evC_calls (L := []) (w0 := w) (β := renBt 0 ord β) hE hm hlp hf.1 he1 (by rw [a2]; exact hl) (fun β' hβ => ⟨fun i x y hx hy => ?_, ?_⟩)).mono ?_
    · have hi : i < args.length := by rw [← a2]; exact (List.getElem?_eq_some_iff.1 hx).1
      have := a3 β β' (by simpa using hβ) i y (hav i _ y (getA_of args i hi) hy)
      rw [getA_get hx] at this
      exact this
    · refine ⟨?_, fun q hq hfo => ?_⟩
      · rw [lsO_none fun q hq => (hps q hq).2.1]
        exact Own.start [] w
      · obtain ⟨_, _, i, lb, g3, g4, g5⟩ := hps q hq
        have hmem : (i, (⟨false, lb.e, lb.bb⟩ : LB)) ∈ viewL h.l := by
          have := look_mem g4
          clear g4 hh hav hb hl hp hps he1 he hev
          generalize h.l = hl' at this
          induction hl' with
          | nil => cases this
          | cons x r ih =>
            obtain ⟨j, lb'⟩ := x
            rcases List.mem_cons.1 this with e | e
            · injection e with e1 e2
              subst e1 e2
              exact List.mem_cons_self ..
            · exact List.mem_cons_of_mem _ (ih e)
        have hlt : q.1 < ord.length := by
          have := (List.getElem?_eq_some_iff.1 g3).1
          simpa using this
        have e1 := (hβ q.1 hlt).2
        have e2 : (renBt 0 ord β).l q.1 = β.l i := by
          simp only [renBt, Nat.not_lt_zero, if_false]
          have : ord.getD (q.1 - 0) 0 = i := by
            rw [List.getD_eq_getElem?_getD, g3]
            rfl
          rw [this]
        rw [e1, e2, g5]
        exact hh.ro _ hmem rfl
    · rintro e w' ⟨y, β2, v, h1, rfl, hag, hle, hall, hg⟩
      obtain ⟨hv, hh1⟩ := hall β2 (Agree.refl _ _)
      unfold rowG at hg
      split at hg
      · rename_i id
        split at hg
        · rename_i n' G' hlk
          simp only [Option.some.injEq, Prod.mk.injEq, and_true] at hg
          obtain ⟨rfl, hG⟩ := rowsL_inj hg
          have hy := hv.resolve_left (by simp)
          have ho := own_list hh1 (look_mem hlk) rfl
          refine ⟨y, ⟨β.b, fun i => if i = h.nx then β2.l id else β.l i⟩, rfl, fun i hi => ⟨rfl, if_neg (by omega)⟩, Nat.le_succ _, fun β' hβ => ?_⟩
          have hnew : β'.l h.nx = β2.l id := by rw [(hβ h.nx (Nat.lt_succ_self _)).2]; simp
          have hold : Agree h.nx β β' := fun i hi => by
            have := hβ i (Nat.lt_succ_of_lt hi)
            exact ⟨this.1, by rw [this.2]; exact if_neg (by omega)⟩
          obtain ⟨_, hh0⟩ := hb β' hold
          refine ⟨.inr ?_, ?_, fun q hq hq2 => ?_⟩
          · rw [hy]
            simp only [cA, cA0, cC, hnew]
          · rw [lsO_cons, if_pos rfl, hnew]
            have := hh0.own.got hh1.own.below0 ho
            rw [hG] at this
            exact this
          · rcases List.mem_cons.1 hq with rfl | hq
            · cases hq2
            · exact hh0.ro q hq hq2
        · cases hg
      · cases hg
end Go.Proofs.Ytjpeplidbodjiaa
