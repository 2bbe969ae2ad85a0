/- A function's value alone. -/
import Derived.Test.YtjpeplidbodjiaaSndH
namespace Go.Proofs.Ytjpeplidbodjiaa
open Go.RowKit
variable {L : List Nat} {w0 w w' : World} {β : Bt} {E : Env}
def dropO (o : Out) : Out := match o with
  | some (v, _) => some (v, ⟨[], [], 0⟩)
  | none => none
/-- As evF, but what the call owns at its end is left out. -/
def evV (E : Env) (fn : Func) (fuel : Nat) (args : List AV) (h : AH) : Out := match fn.body with
  | some c => frameK args fn.ntmps fun fr => ev E h.nx fuel c ⟨fr, h⟩ fun e st => dropO (retK E.P h.nx fn.results.toList e st)
  | none => none
theorem dropO_some {o : Out} {v : AV} {h : AH} (e : dropO o = some (v, h)) : ∃ h', o = some (v, h') := by
  cases o with
  | none => cases e
  | some r =>
    obtain ⟨v', h'⟩ := r
    simp only [dropO, Option.some.injEq, Prod.mk.injEq] at e
    obtain ⟨rfl, _⟩ := e
    exact ⟨h', rfl⟩
theorem evV_calls (hE : E.Sound) (hm : E.P.follows .mixedOrders = true) {f : FuncId} {fn : Func} (hlp : LpF E fn) (hf : E.P.funcs[f]? = some fn) {fuel : Nat} {args : List AV} {h h' : AH} {v : AV} (he : evV E fn fuel args h = some (v, h'))
    {vals : List Value} (hl : vals.length = args.length) (hb : Begin L w0 β args h vals w) :
    Calls E.P f vals.toArray w fun e w' => ∃ y β2, e = .returned y ∧ Agree h.nx β β2 ∧ RV β2 v y ∧ ∃ bs ls, Own L w0 bs ls w' := by
  unfold evV at he
  split at he
  · rename_i c hc
    rw [frameK_eq] at he
    refine calls_of_wp hf hc ?_
    refine (ev_wp hE hm (m := h.nx) fuel c _ _ _ β _ w (hlp c hc) (Nat.le_refl _) ⟨?_, rfl, fun β' hβ => ⟨frame_rf hl (hb β' hβ).1 _ _, (hb β' hβ).2⟩, fun _ _ q hq => by cases hq⟩ he fun e β2 st' a' w' h1 h2 h3 h4 => ?_).1
    · simp only [frame_len, Array.size_append, Array.size_replicate, List.size_toArray, hl]
    · obtain ⟨h'', h4⟩ := dropO_some h4
      refine retK_post h3 h4 fun y hle hy => ⟨y, β2, rfl, h1, ?_, _, _, (hy β2 (Agree.refl _ _)).2.own⟩
      exact (hy β2 (Agree.refl _ _)).1
  · cases he
/-- A law over numbers: it is right when its evaluation says so. -/
theorem law_plainV {E : Env} (hE : E.Sound) (hm : E.P.follows .mixedOrders = true) {f : FuncId} {fn : Func} (hlp : LpF E fn) (hf : E.P.funcs[f]? = some fn) {fuel : Nat} {args : List AV} {h : AH} {vals : List Value} (hl : vals.length = args.length)
    {w : World} {β : Bt} (hv : Begin [] w β args h vals w) (he : evV E fn fuel args h = some (.one (.v (.bool true)), ⟨[], [], 0⟩)) :
    Calls E.P f vals.toArray w fun e w' => e = .returned (.bool true) ∧ Below w.heap.size w w' := by
  refine (evV_calls (L := []) (w0 := w) (β := β) hE hm hlp hf he hl hv).mono ?_
  rintro e w' ⟨y, β2, rfl, _, hr, bs, ls, ho⟩
  refine ⟨?_, ho.below0⟩
  rcases hr with hr | hr
  · cases hr
  · rw [hr]; rfl
theorem argsV_vals {β : Bt} : ∀ {args : List AV} {vals : List Value}, args = vals.map (fun v => AV.one (.v v)) → ArgsV β args vals
  | _, vals, rfl => fun i x y hx hy => by
    rw [List.getElem?_map, hy] at hx
    simp only [Option.map_some, Option.some.injEq] at hx
    subst hx
    exact .inr rfl
theorem begin_plain {β : Bt} {args : List AV} {vals : List Value} {w : World} (h : args = vals.map (fun v => AV.one (.v v))) : Begin [] w β args ⟨[], [], 0⟩ vals w := fun β' _ =>
  ⟨argsV_vals h, by
    refine ⟨?_, fun q hq => by cases hq⟩
    simp only [bsO, lsO, List.map_nil, List.filter_nil]
    exact Own.start [] w⟩
end Go.Proofs.Ytjpeplidbodjiaa
