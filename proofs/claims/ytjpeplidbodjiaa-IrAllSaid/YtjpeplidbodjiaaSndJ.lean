/- Calls that read lists and make new ones, and turn nothing. -/
import Derived.Test.YtjpeplidbodjiaaSndI
namespace Go.Proofs.Ytjpeplidbodjiaa
open Go.RowKit
variable {L : List Nat} {w0 w w' : World} {β β2 : Bt} {E : Env}
/-- What is the callee's own, and new. -/
def newL (m : Nat) : List (Nat × LB) → List (Nat × LB)
  | [] => []
  | (i, lb) :: r => bif Nat.blt i m || !lb.own then newL m r else (i, lb) :: newL m r
def inlM (E : Env) (fn : Func) (fuel : Nat) (args : List AV) (h : AH) : Option (Bool × AV × AH) := match evF E fn fuel args ⟨[], viewL h.l, h.nx⟩ with
  | some (v, ⟨_, l, nx⟩) => some (true, v, ⟨h.b, newL h.nx l ++ h.l, nx⟩)
  | none => none
theorem newL_sub (m : Nat) : ∀ l : List (Nat × LB), (newL m l).Sublist l
  | [] => List.Sublist.slnil
  | (i, lb) :: r => by
    simp only [newL]
    cases (Nat.blt i m || !lb.own) with
    | true => exact (newL_sub m r).cons _
    | false => exact (newL_sub m r).cons_cons _
theorem newL_own (m : Nat) : ∀ l : List (Nat × LB), ∀ q ∈ newL m l, q.2.own = true
  | [], q, h => by cases h
  | (i, lb) :: r, q, h => by
    simp only [newL] at h
    cases hc : (Nat.blt i m || !lb.own) with
    | true => simp only [hc, cond_true] at h; exact newL_own m r q h
    | false =>
      simp only [hc, cond_false] at h
      simp only [Bool.or_eq_false_iff, Bool.not_eq_false'] at hc
      rcases List.mem_cons.1 h with rfl | h
      · exact hc.2
      · exact newL_own m r q h
theorem lsO_append (l l' : List (Nat × LB)) : lsO β (l ++ l') = lsO β l ++ lsO β l' := by
  unfold lsO
  rw [List.filter_append, List.map_append]
theorem Own.gots {bs : List Bl} {ls : List Ls} (h : Own L w0 bs ls w) (hb : Below w.heap.size w w') : ∀ {new : List Ls} {bs' : List Bl}, Own [] w bs' new w' → Own L w0 bs (new ++ ls) w'
  | [], _, _ => h.below hb
  | l :: new, bs', hn => by
    have hrest : Own [] w bs' new w' := hn.dropl _ (List.sublist_cons_self _ _)
    have ih := h.gots hb hrest
    have hl := hn.lst l (List.mem_cons_self ..)
    have hk : ∀ k, l.v.ownBlock = some k → w.heap.size ≤ k := fun k hk => (hl.lt k hk).1
    refine ih.addl l (ownsRow_base hl h.size) (fun b hbm e => ?_) (fun l' hl' k hkk e => ?_)
    · have := hk _ e; have := h.lt hbm; omega
    · rcases List.mem_append.1 hl' with h1 | h1
      · have hp := List.pairwise_cons.1 hn.sepl
        exact hp.1 l' h1 k hkk e
      · have := hk _ hkk; have := (h.row_lt h1 e).2; omega
theorem inlM_CallS (hE : E.Sound) (hm : E.P.follows .mixedOrders = true) {f : FuncId} {fn : Func} {fuel : Nat} (hlp : LpF E fn) (hf : hasFn E.P f fn) : CallS E.P f (inlM E fn fuel) := by
  refine ⟨hf.enter, fun args h v h' he L w0 β w vals hl hb => ?_⟩
  unfold inlM at he
  cases hev : evF E fn fuel args ⟨[], viewL h.l, h.nx⟩ with
  | none => simp [hev] at he
  | some r =>
    obtain ⟨v', b, l, nx⟩ := r
    simp only [hev, Option.some.injEq, Prod.mk.injEq, true_and] at he
    obtain ⟨rfl, rfl⟩ := he
    refine (evF_calls (L := []) (w0 := w) (β := β) hE hm hlp hf.1 hev hl (fun β' hβ => ⟨(hb β' hβ).1, (hb β' hβ).2.view⟩)).mono ?_
    rintro e w' ⟨y, β2, rfl, hag, hle, hall⟩
    refine ⟨y, β2, rfl, hag, hle, fun β' hβ => ?_⟩
    obtain ⟨hv, hh⟩ := hall β' hβ
    have hag' : Agree h.nx β β' := hag.trans hβ hle
    obtain ⟨_, hh0⟩ := hb β' hag'
    refine ⟨hv, ?_, fun q hq ho => ?_⟩
    · rw [lsO_append]
      exact hh0.own.gots hh.own.below0 (hh.own.dropl _ ((newL_sub h.nx l).filter _ |>.map _))
    · rcases List.mem_append.1 hq with h1 | h1
      · rw [newL_own _ _ _ h1] at ho
        cases ho
      · exact hh0.ro q h1 ho
theorem inlM_keeps {fn : Func} {fuel : Nat} (args : List AV) (h : AH) (g : Bool) (v : AV) (h' : AH) (e : inlM E fn fuel args h = some (g, v, h')) : h.b.Sublist h'.b ∧ h.l.Sublist h'.l := by
  unfold inlM at e
  split at e
  · simp only [Option.some.injEq, Prod.mk.injEq] at e
    rw [← e.2.2]
    exact ⟨List.Sublist.refl _, List.sublist_append_right _ _⟩
  · cases e
/-- A function that makes new lists, reckoned in full at each call. -/
def Env.inlM (E : Env) (f0 : FuncId) (fn : Func) (fuel : Nat) : Env := E.add f0 (Ytjpeplidbodjiaa.inlM E fn fuel) noQ false true
theorem Env.Sound.inlM {E : Env} (h : E.Sound) (hm : E.P.follows .mixedOrders = true) {f0 : FuncId} {fn : Func} {fuel : Nat} (hf : hasFn E.P f0 fn) (hlp : ∀ i, E.lp i = none := by intro i; rfl) : (E.inlM f0 fn fuel).Sound :=
  h.add (inlM_CallS h hm (LpF.none hlp) hf) (noQ_CallQ hf) fun _ => inlM_keeps
/-- A callee that leaves all as it was, by its value alone. -/
def inlVO (E : Env) (fn : Func) (fuel : Nat) (ord : List Nat) (args : List AV) (h : AH) : Out :=
  renF 0 (upto args.length) ord 0 args fun args' => renL 0 ord (viewL h.l) fun l => evV E fn fuel args' ⟨[], l, ord.length⟩
def inlV (E : Env) (fn : Func) (fuel : Nat) (args : List AV) (h : AH) : Option (Bool × AV) := match inlVO E fn fuel (idF 0 (upto args.length) [] 0 args) args h with
  | some (v, _) => bif sure v then some (true, v) else none
  | none => none
theorem inlV_CallQ (hE : E.Sound) (hm : E.P.follows .mixedOrders = true) {f : FuncId} {fn : Func} {fuel : Nat} (hlp : LpF E fn) (hf : hasFn E.P f fn) : CallQ E.P f (inlV E fn fuel) := by
  refine ⟨hf.enter, fun args h v hq => ?_⟩
  unfold inlV at hq
  generalize idF 0 (upto args.length) [] 0 args = ord at hq
  cases he : inlVO E fn fuel ord args h with
  | none => simp [he] at hq
  | some r =>
    obtain ⟨v', h'⟩ := r
    simp only [he] at hq
    cases hs : sure v' with
    | false => simp [hs] at hq
    | true =>
      simp only [hs, cond_true, Option.some.injEq, Prod.mk.injEq, true_and] at hq
      subst hq
      obtain ⟨s1, s2⟩ := sure_spec hs
      unfold inlVO at he
      obtain ⟨args', he1, a2, a3⟩ := renF_spec _ _ _ he
      obtain ⟨l, he2, l2, l3⟩ := renL_spec _ _ he1
      refine ⟨⟨cA ⟨fun _ => 0, fun _ => (none, 0, 0)⟩ v', fun β => ⟨.inr (s2 _ _), s1⟩⟩, fun L w0 β w vals hl hb => ?_⟩
      obtain ⟨hav, hh⟩ := hb β (Agree.refl _ _)
      have hh := hh.view
      refine (evV_calls (L := []) (w0 := w) (β := renBt 0 ord β) hE hm hlp hf.1 he2 (by rw [a2]; exact hl) (fun β' hβ => ⟨fun i x y hx hy => ?_, ?_⟩)).mono ?_
      · have hi : i < args.length := by rw [← a2]; exact (List.getElem?_eq_some_iff.1 hx).1
        have := a3 β β' (by simpa using hβ) i y (hav i _ y (getA_of args i hi) hy)
        rw [getA_get hx] at this
        exact this
      · refine ⟨?_, fun q hq hfo => ?_⟩
        · have e : lsO β' l = [] := by
            have := l2 β β' (by simpa using hβ)
            rw [lsO_viewL] at this
            exact List.sublist_nil.1 this
          simp only [bsO, List.map_nil, e]
          exact Own.start [] w
        · obtain ⟨i, g1, g2⟩ := l3 q hq
          rw [g2 β β' (by simpa using hβ)]
          exact hh.ro _ g1 hfo
      · rintro e w' ⟨y, β2, rfl, _, hv, bs, ls, ho⟩
        refine ⟨?_, ho.below0⟩
        rw [hv.resolve_left s1, s2 β2 β]
theorem inlV_val {E : Env} {fn : Func} {fuel : Nat} {args : List AV} {h h' : AH} {v : AV} (h1 : idF 0 (upto args.length) [] 0 args = []) (h2 : ∀ k, renF 0 (upto args.length) [] 0 args k = k args) (hs : sure v = true) (he : evV E fn fuel args ⟨[], [], 0⟩ = some (v, h')) :
    inlV E fn fuel args h = some (true, v) := by
  unfold inlV inlVO
  rw [h1, h2, renL_nil]
  simp only [List.length_nil]
  rw [he]
  simp [hs]
theorem Env.Sound.sumV {E : Env} (h : E.Sound) (hm : E.P.follows .mixedOrders = true) {f0 : FuncId} {fn : Func} {fuel : Nat} (hf : hasFn E.P f0 fn) {q : List AV → AH → Option (Bool × AV)} (hq : ∀ args h v, q args h = some (true, v) → inlV E fn fuel args h = some (true, v)) (hlp : ∀ i, E.lp i = none := by intro i; rfl) : (E.sum f0 q).Sound :=
  h.sumC ((inlV_CallQ h hm (LpF.none hlp) hf).of hq)
/-- The lists that a callee is handed, by their places in its arguments. -/
def pickL (h : AH) : List Nat → Nat → Option (List (Nat × LB))
  | [], _ => some []
  | i :: r, p => match look i h.l, pickL h r (p + 1) with
    | some lb, some l => some ((p, ⟨false, lb.e, lb.bb⟩) :: l)
    | _, _ => none
def inlPO (E : Env) (fn : Func) (fuel : Nat) (ord : List Nat) (args : List AV) (h : AH) : Out :=
  renF 0 (upto args.length) ord 0 args fun args' => match pickL h ord 0 with
    | some l => evV E fn fuel args' ⟨[], l, ord.length⟩
    | none => none
def inlP (E : Env) (fn : Func) (fuel : Nat) (args : List AV) (h : AH) : Option (Bool × AV) := match inlPO E fn fuel (idF 0 (upto args.length) [] 0 args) args h with
  | some (v, _) => bif sure v then some (true, v) else none
  | none => none
theorem pickL_spec {h : AH} : ∀ {ord : List Nat} {p : Nat} {l : List (Nat × LB)}, pickL h ord p = some l → ∀ q ∈ l, p ≤ q.1 ∧ q.2.own = false ∧ ∃ i lb, ord[q.1 - p]? = some i ∧ look i h.l = some lb ∧ q.2 = ⟨false, lb.e, lb.bb⟩
  | [], p, l, e, q, hq => by
    simp only [pickL, Option.some.injEq] at e
    subst e
    cases hq
  | i :: r, p, l, e, q, hq => by
    simp only [pickL] at e
    split at e
    · rename_i lb l' h1 h2
      simp only [Option.some.injEq] at e
      subst e
      rcases List.mem_cons.1 hq with rfl | hq
      · exact ⟨Nat.le_refl _, rfl, i, lb, by simp, h1, rfl⟩
      · obtain ⟨g1, g2, i', lb', g3, g4, g5⟩ := pickL_spec h2 q hq
        refine ⟨by omega, g2, i', lb', ?_, g4, g5⟩
        rw [show q.1 - p = (q.1 - (p + 1)) + 1 by omega, List.getElem?_cons_succ]
        exact g3
    · cases e
theorem lsO_none : ∀ {l : List (Nat × LB)}, (∀ q ∈ l, q.2.own = false) → lsO β l = []
  | [], _ => rfl
  | (i, lb) :: r, h => by
    rw [lsO_cons, if_neg (by rw [h _ (List.mem_cons_self ..)]; simp), lsO_none fun q hq => h q (List.mem_cons_of_mem _ hq)]
theorem inlP_CallQ (hE : E.Sound) (hm : E.P.follows .mixedOrders = true) {f : FuncId} {fn : Func} {fuel : Nat} (hlp : LpF E fn) (hf : hasFn E.P f fn) : CallQ E.P f (inlP E fn fuel) := by
  refine ⟨hf.enter, fun args h v hq => ?_⟩
  unfold inlP at hq
  generalize idF 0 (upto args.length) [] 0 args = ord at hq
  cases he : inlPO E fn fuel ord args h with
  | none => simp [he] at hq
  | some r =>
    obtain ⟨v', h'⟩ := r
    simp only [he] at hq
    cases hs : sure v' with
    | false => simp [hs] at hq
    | true =>
      simp only [hs, cond_true, Option.some.injEq, Prod.mk.injEq, true_and] at hq
      subst hq
      obtain ⟨s1, s2⟩ := sure_spec hs
      unfold inlPO at he
      obtain ⟨args', he1, a2, a3⟩ := renF_spec _ _ _ he
      cases hp : pickL h ord 0 with
      | none => simp [hp] at he1
      | some l =>
        simp only [hp] at he1
        have hps := pickL_spec hp
        refine ⟨⟨cA ⟨fun _ => 0, fun _ => (none, 0, 0)⟩ v', fun β => ⟨.inr (s2 _ _), s1⟩⟩, fun L w0 β w vals hl hb => ?_⟩
        obtain ⟨hav, hh⟩ := hb β (Agree.refl _ _)
        have hh := hh.view
        refine (evV_calls (L := []) (w0 := w) (β := renBt 0 ord β) hE hm hlp hf.1 he1 (by rw [a2]; exact hl) (fun β' hβ => ⟨fun i x y hx hy => ?_, ?_⟩)).mono ?_
        · have hi : i < args.length := by rw [← a2]; exact (List.getElem?_eq_some_iff.1 hx).1
          have := a3 β β' (by simpa using hβ) i y (hav i _ y (getA_of args i hi) hy)
          rw [getA_get hx] at this
          exact this
        · refine ⟨?_, fun q hq hfo => ?_⟩
          · rw [lsO_none fun q hq => (hps q hq).2.1]
            exact Own.start [] w
          · obtain ⟨_, _, i, lb, g3, g4, g5⟩ := hps q hq
            have hmem : (i, (⟨false, lb.e, lb.bb⟩ : LB)) ∈ viewL h.l := by
              have := look_mem g4
              clear g4 hh hav hb hl hp hps he1 he
              generalize h.l = hl' at this
              induction hl' with
              | nil => cases this
              | cons x r ih =>
                obtain ⟨j, lb'⟩ := x
                rcases List.mem_cons.1 this with e | e
                · injection e with e1 e2
                  subst e1 e2
                  exact List.mem_cons_self ..
                · exact List.mem_cons_of_mem _ (ih e)
            have hlt : q.1 < ord.length := by
              have := (List.getElem?_eq_some_iff.1 g3).1
              simpa using this
            have e1 := (hβ q.1 hlt).2
            have e2 : (renBt 0 ord β).l q.1 = β.l i := by
              simp only [renBt, Nat.not_lt_zero, if_false]
              have : ord.getD (q.1 - 0) 0 = i := by
                rw [List.getD_eq_getElem?_getD, g3]
                rfl
              rw [this]
            rw [e1, e2, g5]
            exact hh.ro _ hmem rfl
        · rintro e w' ⟨y, β2, rfl, _, hv, bs, ls, ho⟩
          refine ⟨?_, ho.below0⟩
          rw [hv.resolve_left s1, s2 β2 β]
theorem inlP_plain {E : Env} {fn : Func} {fuel : Nat} {args : List AV} {h h' : AH} {v : AV} (h1 : idF 0 (upto args.length) [] 0 args = []) (h2 : ∀ k, renF 0 (upto args.length) [] 0 args k = k args) (hs : sure v = true) (he : evV E fn fuel args ⟨[], [], 0⟩ = some (v, h')) :
    inlP E fn fuel args h = some (true, v) := by
  unfold inlP inlPO
  rw [h1, h2]
  simp only [pickL, List.length_nil]
  rw [he]
  simp [hs]
theorem beq_self (i : Nat) : Nat.beq i i = true := Nat.beq_refl i
/-- One list is handed in. -/
theorem inlP_one {E : Env} {fn : Func} {fuel : Nat} {id : Nat} {h h' : AH} {lb : LB} {v : AV} (hl : look id h.l = some lb) (hs : sure v = true)
    (he : evV E fn fuel [.one (.ow 0)] ⟨[], [(0, ⟨false, lb.e, lb.bb⟩)], 1⟩ = some (v, h')) : inlP E fn fuel [.one (.ow id)] h = some (true, v) := by
  have e0 : Nat.blt id 0 = false := blt_false (by omega)
  have e1 : idF 0 (upto [AV.one (.ow id)].length) [] 0 [.one (.ow id)] = [id] := by
    simp [idF, upto, memN, idC, addN, e0]
  unfold inlP inlPO
  rw [e1]
  have e2 : ∀ k : List AV → Out, renF 0 (upto [AV.one (.ow id)].length) [id] 0 [.one (.ow id)] k = k [.one (.ow 0)] := by
    intro k
    simp [renF, upto, memN, renC, ren1, posN, e0, forceV]
  rw [e2]
  simp only [pickL, hl, List.length_cons, List.length_nil]
  rw [he]
  simp [hs]
end Go.Proofs.Ytjpeplidbodjiaa
