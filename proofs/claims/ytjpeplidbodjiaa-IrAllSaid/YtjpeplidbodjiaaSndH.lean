/- Summaries in a callee's stead. -/
import Derived.Test.YtjpeplidbodjiaaSndG
namespace Go.Proofs.Ytjpeplidbodjiaa
open Go.RowKit
variable {P : Program} {f : FuncId}
theorem CallQ.of {q q' : List AV → AH → Option (Bool × AV)} (hQ : CallQ P f q') (h : ∀ args h v, q args h = some (true, v) → q' args h = some (true, v)) : CallQ P f q :=
  ⟨hQ.1, fun args ah v hv => hQ.2 args ah v (h args ah v hv)⟩
def liftQ (q : List AV → AH → Option (Bool × AV)) (args : List AV) (h : AH) : Option (Bool × AV × AH) := match q args h with
  | some (g, v) => some (g, v, h)
  | none => none
theorem CallQ.lift {q : List AV → AH → Option (Bool × AV)} (hQ : CallQ P f q) : CallS P f (liftQ q) := by
  refine ⟨hQ.1, fun args h v h' hv L w0 β w vals hl hb => ?_⟩
  unfold liftQ at hv
  cases hq : q args h with
  | none => simp [hq] at hv
  | some r =>
    obtain ⟨g, v'⟩ := r
    simp only [hq, Option.some.injEq, Prod.mk.injEq] at hv
    obtain ⟨rfl, rfl, rfl⟩ := hv
    obtain ⟨⟨y, hy⟩, hc⟩ := hQ.2 args h _ hq
    refine (hc L w0 β w vals hl hb).mono ?_
    rintro e w' ⟨rfl, hbel⟩
    refine ⟨y, β, ?_, Agree.refl _ _, Nat.le_refl _, fun β' hβ => ⟨(hy β').1, ?_⟩⟩
    · rw [(hy β).1.resolve_left (hy β).2]
    · obtain ⟨_, hh⟩ := hb β' hβ
      exact ⟨hh.own.below hbel, hh.ro⟩
/-- A summary that is reckoned as the callee is. -/
def Env.sum (E : Env) (f0 : FuncId) (q : List AV → AH → Option (Bool × AV)) : Env := E.add f0 (liftQ q) q true true
theorem liftQ_keeps {q : List AV → AH → Option (Bool × AV)} (args : List AV) (h : AH) (g : Bool) (v : AV) (h' : AH) (e : liftQ q args h = some (g, v, h')) : h.b.Sublist h'.b ∧ h.l.Sublist h'.l := by
  unfold liftQ at e
  split at e
  · simp only [Option.some.injEq, Prod.mk.injEq] at e
    rw [e.2.2]
    exact ⟨List.Sublist.refl _, List.Sublist.refl _⟩
  · cases e
theorem Env.Sound.sumC {E : Env} (h : E.Sound) {f0 : FuncId} {q : List AV → AH → Option (Bool × AV)} (hq : CallQ E.P f0 q) : (E.sum f0 q).Sound := h.add hq.lift hq fun _ => liftQ_keeps
theorem Env.Sound.sum {E : Env} (h : E.Sound) (hm : E.P.follows .mixedOrders = true) {f0 : FuncId} {fn : Func} {fuel : Nat} (hf : hasFn E.P f0 fn) {q : List AV → AH → Option (Bool × AV)} (hq : ∀ args h v, q args h = some (true, v) → inlQ E fn fuel args h = some (true, v)) (hlp : ∀ i, E.lp i = none := by intro i; rfl) : (E.sum f0 q).Sound :=
  h.sumC ((inlQ_CallQ h hm (LpF.none hlp) hf).of hq)
/-- A function that is reckoned in full at each call. -/
def Env.inl (E : Env) (f0 : FuncId) (fn : Func) (fuel : Nat) : Env := E.add f0 (Ytjpeplidbodjiaa.inl E fn fuel) noQ false
theorem Env.Sound.inl {E : Env} (h : E.Sound) (hm : E.P.follows .mixedOrders = true) {f0 : FuncId} {fn : Func} {fuel : Nat} (hf : hasFn E.P f0 fn) (hlp : ∀ i, E.lp i = none := by intro i; rfl) : (E.inl f0 fn fuel).Sound :=
  h.add (inl_CallS h hm (LpF.none hlp) hf) (noQ_CallQ hf)
/-- .. and leaves all as it was. -/
def Env.inlQ (E : Env) (f0 : FuncId) (fn : Func) (fuel : Nat) : Env := E.sum f0 (Ytjpeplidbodjiaa.inlQ E fn fuel)
theorem Env.Sound.inlQ {E : Env} (h : E.Sound) (hm : E.P.follows .mixedOrders = true) {f0 : FuncId} {fn : Func} {fuel : Nat} (hf : hasFn E.P f0 fn) (hlp : ∀ i, E.lp i = none := by intro i; rfl) : (E.inlQ f0 fn fuel).Sound :=
  h.sum hm hf (fun _ _ _ h => h) hlp
theorem cond_some {α : Type} (c : Bool) (a b : α) : (bif c then some a else some b) = some (bif c then a else b) := by cases c <;> rfl
theorem cond_pair {α β : Type} (c : Bool) (a b : α) (x : β) : (bif c then (a, x) else (b, x)) = (bif c then a else b, x) := by cases c <;> rfl
theorem cond_bool (c x y : Bool) : (bif c then AV.one (.v (.bool x)) else AV.one (.v (.bool y))) = AV.one (.v (.bool (bif c then x else y))) := by cases c <;> rfl
theorem cond_int (c : Bool) (k : IntKind) (x y : Int) : (bif c then AV.one (.v (.int k x)) else AV.one (.v (.int k y))) = AV.one (.v (.int k (bif c then x else y))) := by cases c <;> rfl
theorem renL_nil : ∀ (l : List (Nat × LB)) (k : List (Nat × LB) → Out), renL 0 [] l k = k []
  | [], _ => rfl
  | (i, lb) :: r, k => by
    have h0 : ren1 0 [] i = none := by
      unfold ren1
      have : Nat.blt i 0 = false := blt_false (by omega)
      rw [this]
      rfl
    simp only [renL, h0]
    exact renL_nil r k
/-- A call that is handed numbers alone. -/
theorem inlQ_nil {E : Env} {fn : Func} {fuel : Nat} {args : List AV} {h h' : AH} {v : AV} (h1 : idF 0 (upto args.length) [] 0 args = []) (h2 : ∀ k, renF 0 (upto args.length) [] 0 args k = k args) (hs : sure v = true) (he : evF E fn fuel args ⟨[], [], 0⟩ = some (v, h')) :
    inlQ E fn fuel args h = some (true, v) := by
  unfold inlQ inlO
  rw [h1, h2, renL_nil]
  simp only [List.length_nil]
  rw [he]
  simp [hs]
end Go.Proofs.Ytjpeplidbodjiaa
