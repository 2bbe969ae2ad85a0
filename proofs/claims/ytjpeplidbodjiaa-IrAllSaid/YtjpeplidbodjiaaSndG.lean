/- Environments: which calls are known, and how. -/
import Derived.Test.YtjpeplidbodjiaaSndF
namespace Go.Proofs.Ytjpeplidbodjiaa
open Go.RowKit
variable {L : List Nat} {w0 w w' : World} {β : Bt} {E : Env}
/-- Values that say the same wherever things lie. -/
def sure (v : AV) : Bool := match v with
  | .tup vs => vs.all fun u => match plainA u with
    | some _ => true
    | none => false
  | .arr _ _ => true
  | v => match plainA v with
    | some _ => true
    | none => false
theorem plainA_cA {v : AV} {x : Value} (h : plainA v = some x) (β : Bt) : cA β v = x := plain_spec h (.inr rfl)
theorem plainA_cA0 {v : AV} {x : Value} (h : plainA v = some x) (β : Bt) : cA0 β v = x := by
  cases v with
  | tup vs => simp [plainA] at h
  | _ => exact plainA_cA h β
theorem sure_spec {v : AV} (h : sure v = true) : v ≠ .one .any ∧ ∀ β β', cA β v = cA β' v := by
  cases v with
  | one c =>
    simp only [sure] at h
    cases hp : plainA (.one c) with
    | none => simp [hp] at h
    | some x => exact ⟨fun e => by rw [e] at hp; simp [plainA, plainC] at hp, fun β β' => by rw [plainA_cA hp, plainA_cA hp]⟩
  | agg cs =>
    simp only [sure] at h
    cases hp : plainA (.agg cs) with
    | none => simp [hp] at h
    | some x => exact ⟨fun e => (by cases e), fun β β' => by rw [plainA_cA hp, plainA_cA hp]⟩
  | arr n f => exact ⟨fun e => (by cases e), fun _ _ => rfl⟩
  | tup vs =>
    refine ⟨fun e => (by cases e), fun β β' => ?_⟩
    simp only [cA]
    congr 2
    apply List.map_congr_left
    intro u hu
    simp only [sure, List.all_eq_true] at h
    have := h u hu
    cases hp : plainA u with
    | none => simp [hp] at this
    | some x => rw [plainA_cA0 hp, plainA_cA0 hp]
  | clo f vs => simp [sure, plainA] at h
/-- What a quiet callee sees of what its caller owns: the lists. -/
def viewL : List (Nat × LB) → List (Nat × LB)
  | [] => []
  | (i, lb) :: r => (i, ⟨false, lb.e, lb.bb⟩) :: viewL r
def view (h : AH) : AH := ⟨[], viewL h.l, h.nx⟩
theorem mem_viewL : ∀ {l : List (Nat × LB)} {q : Nat × LB}, q ∈ viewL l → ∃ lb, (q.1, lb) ∈ l ∧ q.2 = ⟨false, lb.e, lb.bb⟩
  | [], _, h => by cases h
  | (i, lb) :: r, q, h => by
    rcases List.mem_cons.1 h with rfl | h
    · exact ⟨lb, List.mem_cons_self .., rfl⟩
    · obtain ⟨lb', h1, h2⟩ := mem_viewL h
      exact ⟨lb', List.mem_cons_of_mem _ h1, h2⟩
theorem lsO_viewL : ∀ (l : List (Nat × LB)), lsO β (viewL l) = []
  | [] => rfl
  | (i, lb) :: r => by
    simp only [viewL]
    rw [lsO_cons, if_neg (by simp), lsO_viewL r]
theorem HR.view {h : AH} (hh : HR L w0 β h w) : HR [] w β (view h) w := by
  refine ⟨?_, fun q hq _ => ?_⟩
  · simp only [Ytjpeplidbodjiaa.view, bsO, List.map_nil, lsO_viewL]
    exact Own.start [] w
  · obtain ⟨lb, h1, h2⟩ := mem_viewL hq
    obtain ⟨e1, e2⟩ := list_len hh h1
    refine ⟨by rw [h2]; exact e1, fun hn => ?_⟩
    rw [h2] at hn
    obtain ⟨b, o, hb⟩ := e2 hn
    refine ⟨b, o, hb, ?_, by simp, fun i x hx => ?_⟩
    · cases ho : lb.own with
      | true =>
        have := (own_list hh h1 ho).lt b (by simp only [slv, hb]; rfl)
        exact this.2
      | false =>
        obtain ⟨b', o', hb', hlt, _⟩ := (hh.ro _ h1 ho).2 hn
        simp only at hb'
        rw [hb] at hb'
        injection hb' with hb'
        injection hb' with hb' _
        subst hb'
        exact Nat.lt_of_lt_of_le hlt hh.own.size
    · have hl : lV q.2 = lV lb := by rw [h2]; rfl
      rw [hl] at hx
      have := cell_list hh h1 i x hx
      rw [hb] at this
      exact this
/-- A known function whose call is reckoned in full. -/
def inl (E : Env) (fn : Func) (fuel : Nat) (args : List AV) (h : AH) : Option (Bool × AV × AH) := match evF E fn fuel args h with
  | some (v, h') => some (true, v, h')
  | none => none
/-- All places of arguments. -/
def upto : Nat → List Nat
  | 0 => []
  | n + 1 => n :: upto n
def inlO (E : Env) (fn : Func) (fuel : Nat) (ord : List Nat) (args : List AV) (h : AH) : Out :=
  renF 0 (upto args.length) ord 0 args fun args' => renL 0 ord (viewL h.l) fun l => evF E fn fuel args' ⟨[], l, ord.length⟩
/-- .. of a callee that leaves all as it was: it is reckoned by itself, what it sees numbered anew. -/
def inlQ (E : Env) (fn : Func) (fuel : Nat) (args : List AV) (h : AH) : Option (Bool × AV) := match inlO E fn fuel (idF 0 (upto args.length) [] 0 args) args h with
  | some (v, _) => bif sure v then some (true, v) else none
  | none => none
def noQ (_ : List AV) (_ : AH) : Option (Bool × AV) := none
def noC (_ : List AV) (_ : AH) : Option (Bool × AV × AH) := none
/-- Has the program this function, with a body? -/
def hasFn (P : Program) (f : FuncId) (fn : Func) : Prop := P.funcs[f]? = some fn ∧ fn.body.isSome = true ∧ (fn.name == "runtime.NumGoroutine") = false
theorem hasFn.enter {P : Program} {f : FuncId} {fn : Func} (h : hasFn P f fn) (vals : Array Value) (w : World) : (callFunc f vals).run P w = .ok (.enter f vals) w := by
  obtain ⟨h1, h2, h3⟩ := h
  cases hb : fn.body with
  | none => simp [hb] at h2
  | some c =>
    have : (program).run P w = .ok P w := rfl
    have h3' : ¬ fn.name = "runtime.NumGoroutine" := by simpa using h3
    simp [callFunc, h1, h3', hb, this]
theorem inl_CallS (hE : E.Sound) (hm : E.P.follows .mixedOrders = true) {f : FuncId} {fn : Func} {fuel : Nat} (hlp : LpF E fn) (hf : hasFn E.P f fn) : CallS E.P f (inl E fn fuel) :=
  ⟨hf.enter, fun args h v h' he _ _ _ _ _ hl hb => by
    unfold inl at he
    cases hev : evF E fn fuel args h with
    | none => simp [hev] at he
    | some r =>
      obtain ⟨v', h''⟩ := r
      simp only [hev, Option.some.injEq, Prod.mk.injEq, true_and] at he
      obtain ⟨rfl, rfl⟩ := he
      exact evF_calls hE hm hlp hf.1 hev hl hb⟩
theorem getA_get {args : List AV} {i : Nat} {x : AV} (h : args[i]? = some x) : getA args i = x := by
  have hi : i < args.length := (List.getElem?_eq_some_iff.1 h).1
  have := getA_of args i hi
  rw [h] at this
  exact (Option.some.inj this).symm
theorem inlQ_CallQ (hE : E.Sound) (hm : E.P.follows .mixedOrders = true) {f : FuncId} {fn : Func} {fuel : Nat} (hlp : LpF E fn) (hf : hasFn E.P f fn) : CallQ E.P f (inlQ E fn fuel) := by
  refine ⟨hf.enter, fun args h v hq => ?_⟩
  unfold inlQ at hq
  generalize idF 0 (upto args.length) [] 0 args = ord at hq
  cases he : inlO E fn fuel ord args h with
  | none => simp [he] at hq
  | some r =>
    obtain ⟨v', h'⟩ := r
    simp only [he] at hq
    cases hs : sure v' with
    | false => simp [hs] at hq
    | true =>
      simp only [hs, cond_true, Option.some.injEq, Prod.mk.injEq, true_and] at hq
      subst hq
      obtain ⟨s1, s2⟩ := sure_spec hs
      unfold inlO at he
      obtain ⟨args', he1, a2, a3⟩ := renF_spec _ _ _ he
      obtain ⟨l, he2, l2, l3⟩ := renL_spec _ _ he1
      refine ⟨⟨cA ⟨fun _ => 0, fun _ => (none, 0, 0)⟩ v', fun β => ⟨.inr (s2 _ _), s1⟩⟩, fun L w0 β w vals hl hb => ?_⟩
      obtain ⟨hav, hh⟩ := hb β (Agree.refl _ _)
      have hh := hh.view
      refine (evF_calls (L := []) (w0 := w) (β := renBt 0 ord β) hE hm hlp hf.1 he2 (by rw [a2]; exact hl) (fun β' hβ => ⟨fun i x y hx hy => ?_, ?_⟩)).mono ?_
      · have hi : i < args.length := by rw [← a2]; exact (List.getElem?_eq_some_iff.1 hx).1
        have := a3 β β' (by simpa using hβ) i y (hav i _ y (getA_of args i hi) hy)
        rw [getA_get hx] at this
        exact this
      · refine ⟨?_, fun q hq hfo => ?_⟩
        · have e : lsO β' l = [] := by
            have := l2 β β' (by simpa using hβ)
            rw [lsO_viewL] at this
            exact List.sublist_nil.1 this
          simp only [bsO, List.map_nil, e]
          exact Own.start [] w
        · obtain ⟨i, g1, g2⟩ := l3 q hq
          rw [g2 β β' (by simpa using hβ)]
          exact hh.ro _ g1 hfo
      · rintro e w' ⟨y, β2, rfl, hag, hle, hall⟩
        obtain ⟨hv, hh'⟩ := hall β2 (Agree.refl _ _)
        refine ⟨?_, hh'.own.below0⟩
        rw [hv.resolve_left s1, s2 β2 β]
def Env.empty (P : Program) : Env := ⟨P, fun _ => none, fun _ => noC, fun _ => noQ, fun _ => false, fun _ => false, fun _ => none, fun _ => none, fun _ => none, fun _ => none, fun _ => none⟩
theorem Env.empty_sound (P : Program) : (Env.empty P).Sound := ⟨fun _ _ _ _ h => (by cases h), fun _ _ h => (by cases h), fun _ _ _ _ h => (by cases h), fun _ _ _ _ _ _ h => (by cases h), fun _ _ h => (by cases h)⟩
/-- One more function. -/
def Env.add (E : Env) (f0 : FuncId) (c : List AV → AH → Option (Bool × AV × AH)) (q : List AV → AH → Option (Bool × AV)) (b : Bool) (kb : Bool := false) : Env :=
  { E with kf := fun f => bif Nat.beq f f0 then kb else E.kf f, ca := fun f => bif Nat.beq f f0 then c else E.ca f, q := fun f => bif Nat.beq f f0 then q else E.q f, qf := fun f => bif Nat.beq f f0 then b else E.qf f, cc := fun f => bif Nat.beq f f0 then none else E.cc f }
theorem Env.Sound.add (h : E.Sound) {f0 : FuncId} {c : List AV → AH → Option (Bool × AV × AH)} {q : List AV → AH → Option (Bool × AV)} {b kb : Bool} (hc : CallS E.P f0 c) (hq : CallQ E.P f0 q)
    (hk : kb = true → ∀ args h g v h', c args h = some (g, v, h') → h.b.Sublist h'.b ∧ h.l.Sublist h'.l := by intro h; cases h) : (E.add f0 c q b kb).Sound := by
  refine ⟨fun f args h' v hv => ?_, h.al, fun f args h' v hv => ?_, fun f args h' g v h'' hf hv => ?_, fun f g hg => ?_⟩
  · simp only [Env.add] at hv ⊢
    cases e : Nat.beq f f0 with
    | true =>
      have := Nat.eq_of_beq_eq_true e
      subst this
      simpa [e] using hq
    | false =>
      simp only [e, cond_false] at hv ⊢
      exact h.qu f args h' v hv
  · simp only [Env.add] at hv ⊢
    cases e : Nat.beq f f0 with
    | true =>
      have := Nat.eq_of_beq_eq_true e
      subst this
      simpa [e] using hc
    | false =>
      simp only [e, cond_false] at hv ⊢
      exact h.ca f args h' v hv
  · simp only [Env.add] at hv hf
    cases e : Nat.beq f f0 with
    | true =>
      simp only [e, cond_true] at hv hf
      exact hk hf args h' g v h'' hv
    | false =>
      simp only [e, cond_false] at hv hf
      exact h.kp f args h' g v h'' hf hv
  · simp only [Env.add] at hg ⊢
    cases e : Nat.beq f f0 with
    | true => simp [e] at hg
    | false =>
      simp only [e, cond_false] at hg ⊢
      exact h.cc f g hg
/-- A function that is reckoned in place at each call, what follows at each of its ends. -/
def Env.cont (E : Env) (f0 : FuncId) (g : List AV → AH → (AV → AH → Out) → Out) : Env :=
  { E with cc := fun f => bif Nat.beq f f0 then some g else E.cc f, kf := fun f => bif Nat.beq f f0 then false else E.kf f, qf := fun f => bif Nat.beq f f0 then false else E.qf f }
theorem Env.Sound.cont (h : E.Sound) {f0 : FuncId} {g : List AV → AH → (AV → AH → Out) → Out} (hg : CcS E.P f0 g) : (E.cont f0 g).Sound := by
  refine ⟨h.qu, h.al, h.ca, fun f args h' g' v h'' hf hv => ?_, fun f g' hc => ?_⟩
  · simp only [Env.cont] at hf hv
    cases e : Nat.beq f f0 with
    | true => simp [e] at hf
    | false =>
      simp only [e, cond_false] at hf
      exact h.kp f args h' g' v h'' hf hv
  · simp only [Env.cont] at hc ⊢
    cases e : Nat.beq f f0 with
    | true =>
      have := Nat.eq_of_beq_eq_true e
      subst this
      simp only [e, cond_true, Option.some.injEq] at hc ⊢
      subst hc
      exact ⟨hg, trivial⟩
    | false =>
      simp only [e, cond_false] at hc ⊢
      exact h.cc f g' hc
theorem noQ_CallQ {P : Program} {f : FuncId} {fn : Func} (hf : hasFn P f fn) : CallQ P f noQ := ⟨hf.enter, fun _ _ _ h => by cases h⟩
theorem noC_CallS {P : Program} {f : FuncId} {fn : Func} (hf : hasFn P f fn) : CallS P f noC := ⟨hf.enter, fun _ _ _ _ h => by cases h⟩
/-- Types whose variables may be made. -/
def allocT (P : Program) (t : TypeId) : Option BB := match zc P t with
  | some z => bif Nat.blt 8 z.length && allF z then some (.bools 1 z.length fun _ _ => false) else some (.cells (z.map .v))
  | none => none
def Env.allocs (E : Env) : Env := { E with al := allocT E.P }
theorem Env.Sound.allocs (h : E.Sound) : E.allocs.Sound := by
  refine ⟨h.qu, fun t bb hb β => ?_, h.ca, h.kp, h.cc⟩
  simp only [Env.allocs] at hb ⊢
  unfold allocT at hb
  cases hz : zc E.P t with
  | none => simp [hz] at hb
  | some z =>
    simp only [hz] at hb
    cases hc : (Nat.blt 8 z.length && allF z) with
    | true =>
      simp only [hc, cond_true, Option.some.injEq] at hb
      subst hb
      rw [Bool.and_eq_true] at hc
      simp only [cB]
      rw [flat_single (fun _ => Value.bool false) z.length]
      congr 1
      apply List.ext_getElem
      · simp
      · intro i h1 h2
        simp only [List.getElem_map]
        exact allF_spec hc.2 _ (List.getElem_mem _)
    | false =>
      simp only [hc, cond_false, Option.some.injEq] at hb
      subst hb
      simp only [cB, List.map_map]
      have hid : (cC β ∘ AC.v) = id := rfl
      rw [hid, List.map_id]
/-- Marks for loops and blocks. -/
def Env.marks (E : Env) (lv bx : Nat → Option (List Nat)) : Env := { E with lv := lv, bx := bx }
theorem Env.Sound.marks (h : E.Sound) {lv bx : Nat → Option (List Nat)} : (E.marks lv bx).Sound := ⟨h.qu, h.al, h.ca, h.kp, h.cc⟩
/-- Calls whose results are told apart. -/
def Env.split (E : Env) (sp : FuncId → Option Nat) : Env := { E with sp := sp }
theorem Env.Sound.split (h : E.Sound) {sp : FuncId → Option Nat} : (E.split sp).Sound := ⟨h.qu, h.al, h.ca, h.kp, h.cc⟩
/-- Loops that are known. -/
def Env.loops (E : Env) (lp : Nat → Option (Nat → AS → (Exit → AS → Out) → Out)) : Env := { E with lp := lp }
theorem Env.Sound.loops (h : E.Sound) {lp : Nat → Option (Nat → AS → (Exit → AS → Out) → Out)} : (E.loops lp).Sound := ⟨h.qu, h.al, h.ca, h.kp, h.cc⟩
theorem LpF.none {fn : Func} (h : ∀ i, E.lp i = none) : LpF E fn := fun _ _ x _ f hf => by rw [h] at hf; cases hf
theorem LpC.none {c : Code} (h : ∀ i, E.lp i = none) : LpC E c := fun x _ f hf => by rw [h] at hf; cases hf
end Go.Proofs.Ytjpeplidbodjiaa
