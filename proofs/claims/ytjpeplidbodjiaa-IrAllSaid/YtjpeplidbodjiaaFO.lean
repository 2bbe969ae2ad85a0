/- Where the program comes in: the environment that knows no function yet; a law from its evaluation. -/
import Derived.Test.YtjpeplidbodjiaaProg
import Derived.Test.YtjpeplidbodjiaaSndT
import Derived.KernelRfl
namespace Go.Proofs.Ytjpeplidbodjiaa
open Go.RowKit
set_option maxRecDepth 100000
theorem pfl : Try.prog.follows .mixedOrders = true := by kernel_rfl
noncomputable def E0 : Env := (Env.empty Try.prog).allocs
theorem E0_s : E0.Sound := (Env.empty_sound _).allocs
def valOf (o : Out) : Option AV := match o with
  | some (v, _) => some v
  | none => none
theorem valOf_some {o : Out} {v : AV} (h : valOf o = some v) : ∃ h', o = some (v, h') := by
  cases o with
  | none => cases h
  | some r =>
    obtain ⟨v', h'⟩ := r
    simp only [valOf, Option.some.injEq] at h
    subst h
    exact ⟨h', rfl⟩
theorem inlQ_val {E : Env} {fn : Func} {fuel : Nat} {args : List AV} {h : AH} {v : AV} (h1 : idF 0 (upto args.length) [] 0 args = []) (h2 : ∀ k, renF 0 (upto args.length) [] 0 args k = k args) (hs : sure v = true) (he : valOf (evF E fn fuel args ⟨[], [], 0⟩) = some v) :
    inlQ E fn fuel args h = some (true, v) := by
  cases he' : evF E fn fuel args ⟨[], [], 0⟩ with
  | none => simp [he', valOf] at he
  | some r =>
    obtain ⟨v', h'⟩ := r
    simp only [he', valOf, Option.some.injEq] at he
    subst he
    exact inlQ_nil h1 h2 hs he'
/-- A law over numbers: it is right when its evaluation says so. -/
theorem law_plain {E : Env} (hE : E.Sound) (hm : E.P.follows .mixedOrders = true) {f : FuncId} {fn : Func} (hlp : LpF E fn) (hf : E.P.funcs[f]? = some fn) {fuel : Nat} {args : List AV} {vals : List Value} (hl : vals.length = args.length)
    (hv : ∀ β, ArgsV β args vals) (he : valOf (evF E fn fuel args ⟨[], [], 0⟩) = some (.one (.v (.bool true)))) (w : World) :
    Calls E.P f vals.toArray w fun e w' => e = .returned (.bool true) ∧ Below w.heap.size w w' := by
  obtain ⟨h', he⟩ := valOf_some he
  refine (evF_calls (L := []) (w0 := w) (β := ⟨fun _ => 0, fun _ => (none, 0, 0)⟩) hE hm hlp hf he hl fun β' _ => ⟨hv β', ⟨?_, fun q hq => by cases hq⟩⟩).mono ?_
  · simp only [bsO, lsO, List.map_nil, List.filter_nil]
    exact Own.start [] w
  · rintro e w' ⟨y, β2, rfl, _, _, hall⟩
    obtain ⟨hr, hh⟩ := hall β2 (Agree.refl _ _)
    refine ⟨?_, hh.own.below0⟩
    rcases hr with hr | hr
    · cases hr
    · rw [hr]; rfl
theorem argsV_ints {β : Bt} : ∀ {args : List AV} {vals : List Value}, args = vals.map (fun v => AV.one (.v v)) → ArgsV β args vals
  | _, vals, rfl => fun i x y hx hy => by
    rw [List.getElem?_map, hy] at hx
    simp only [Option.map_some, Option.some.injEq] at hx
    subst hx
    exact .inr rfl
end Go.Proofs.Ytjpeplidbodjiaa
