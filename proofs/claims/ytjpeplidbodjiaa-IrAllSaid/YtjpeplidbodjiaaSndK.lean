/- Regions whose order is drawn, with calls that make something: one order stands for all. -/
import Derived.Test.YtjpeplidbodjiaaSndQ
import Derived.OrdersHeld
namespace Go.Proofs.Ytjpeplidbodjiaa
open Go.RowKit
variable {L : List Nat} {w0 w w' w1 : World} {β β2 : Bt} {E : Env} {st : AS} {a : Act} {o : Oper} {v : AV} {h h' : AH} {sp : SP} {fr : List AV} {Q : Exit → Act → World → Prop} {P : Program} {ops : Array Oper} {S : World → Prop} {D : Nat → Bool} {md : Region.Mode}
/-- Whatever order is picked from here on; S holds behind every operation of which D says so. -/
def wpAnyD (P : Program) (md : Region.Mode) (ops : Array Oper) (Q : Exit → Act → World → Prop) (S : World → Prop) (D : Nat → Bool) : Nat → Bool → Array Bool → Act → World → Prop
  | 0, _, listed, a, w => Region.ready md ops listed = [] ∧ Q .normal a w
  | fuel + 1, c, listed, a, w =>
    (Region.ready md ops listed = [] → Q .normal a w) ∧
    ∀ i ∈ Region.ready md ops listed, wpOp P ops Q i (fun a' w' => ((c && D i) = true → S w → S w') ∧ wpAnyD P md ops Q S D fuel (c && D i) (listed.setIfInBounds i true) a' w') a w
theorem wpAny_of_D : ∀ (fuel : Nat) (c : Bool) (listed : Array Bool) (a : Act) (w : World), wpAnyD P md ops Q S D fuel c listed a w → wpAny P md ops Q fuel listed a w
  | 0, _, _, _, _, h => h
  | fuel + 1, _, _, _, _, h => ⟨h.1, fun i hi => wpOp_mono (fun a' w' h' => wpAny_of_D fuel _ _ a' w' h'.2) (h.2 i hi)⟩
theorem wpAnyD_first {i : Nat} {oi : Oper} {v : Value} (hi : ops[i]? = some oi) (hsel : ∀ (j : Nat) (o : Oper) cs b, ops[j]? = some o → o.op ≠ .select cs b)
    (hQ : ∀ c a w, Q (.panic c) (a.put oi.dst v) w → Q (.panic c) a w) (hDi : D i = true) :
    ∀ (fuel : Nat) (listed : Array Bool) (a : Act) (w : World),
      (∀ j oj, ops[j]? = some oj → j ≠ i → listed.getD j true = false → (∀ e ∈ oj.after, Region.binds md e = true → e.on ≠ i) → oi.apart ops oj = true ∧ D j = true) →
      i ∈ Region.ready md ops listed → YieldsIf P ops S oi v a → S w →
      wpAnyD P md ops Q S D fuel true (listed.setIfInBounds i true) (a.put oi.dst v) w → wpAnyD P md ops Q S D (fuel + 1) true listed a w := by
  intro fuel
  induction fuel with
  | zero =>
    intro listed a w _ hr hy hS H
    refine ⟨fun h => (by rw [h] at hr; cases hr), fun j hj => ?_⟩
    by_cases hji : j = i
    · subst hji; exact hy.wpOp hi hS ⟨fun _ h => h, by rw [hDi]; exact H⟩
    · have := ready_mono hj hji
      rw [H.1] at this
      cases this
  | succ fuel ih =>
    intro listed a w hfree hr hy hS H
    refine ⟨fun h => (by rw [h] at hr; cases hr), fun j hj => ?_⟩
    by_cases hji : j = i
    · subst hji; exact hy.wpOp hi hS ⟨fun _ h => h, by rw [hDi]; exact H⟩
    · have h1 := H.2 j (ready_mono hj hji)
      obtain ⟨hjun, oj, hoj, hall⟩ := mem_ready.1 hj
      have hnot : ∀ e ∈ oj.after, Region.binds md e = true → e.on ≠ i := fun e he hb heq => by
        have h1 := hall e he hb
        have h0 := (mem_ready.1 hr).1
        rw [heq] at h1
        rcases Nat.lt_or_ge i listed.size with h' | h'
        · simp [h'] at h0 h1; rw [h0] at h1; cases h1
        · simp [Array.getElem?_eq_none h'] at h1
      obtain ⟨hap, hD⟩ := hfree j oj hoj hji hjun hnot
      have h2 := wpOp_putIf hoj hap (fun cs b => hsel i oi cs b hi) (fun cs b => hsel j oj cs b hoj) hQ hy h1
      have hfree' : ∀ k ok, ops[k]? = some ok → k ≠ i → (listed.setIfInBounds j true).getD k true = false →
          (∀ e ∈ ok.after, Region.binds md e = true → e.on ≠ i) → oi.apart ops ok = true ∧ D k = true := fun k ok hk hki hun hno => by
        refine hfree k ok hk hki ?_ hno
        by_cases hjk : j = k
        · subst hjk; exact hjun
        · rw [getD_set_ne true hjk] at hun; exact hun
      simp only [hD, Bool.and_true] at h2 ⊢
      refine wpOp_mono (fun a' w' h3 => ⟨h3.2.1, ih (listed.setIfInBounds j true) a' w' hfree' (ready_mono hr (Ne.symm hji)) h3.1 (h3.2.1 trivial hS) ?_⟩) h2
      rw [Array.setIfInBounds_comm _ _ hji]
      exact h3.2.2
/-! What is owned holds the same wherever the things beyond its numbers lie. -/
theorem ltC_spec {nx : Nat} (ha : Agree nx β β2) {c : AC} (h : ltC nx c = true) : cC β2 c = cC β c := by
  cases c with
  | v x => rfl
  | any => rfl
  | pt i o => simp only [ltC, Nat.blt_eq] at h; simp [cC, (ha i h).1]
  | el l i s k j => simp only [ltC, Nat.blt_eq] at h; cases l <;> simp [cC, (ha i h).1, (ha i h).2]
  | ow i => simp only [ltC, Nat.blt_eq] at h; simp [cC, (ha i h).2]
  | sl i s a n c => simp only [ltC, Nat.blt_eq] at h; simp [cC, (ha i h).1]
theorem ltB_spec {nx : Nat} (ha : Agree nx β β2) : ∀ {l : List (Nat × TypeId × BB)}, ltB nx l = true → bsO β2 l = bsO β l
  | [], _ => rfl
  | (i, t, bb) :: r, h => by
    have key : Nat.blt i nx = true → cB β2 bb = cB β bb → ltB nx r = true → bsO β2 ((i, t, bb) :: r) = bsO β ((i, t, bb) :: r) := by
      intro h1 h2 h3
      have := ltB_spec ha h3
      rw [Nat.blt_eq] at h1
      simp only [bsO, List.map_cons] at this ⊢
      rw [this, h2, (ha i h1).1]
    cases bb with
    | cells cs =>
      simp only [ltB, Bool.and_eq_true] at h
      refine key h.1.1 ?_ h.2
      simp only [cB]
      apply List.map_congr_left
      intro c hc
      exact ltC_spec ha (List.all_eq_true.1 h.1.2 c hc)
    | bools m n f => simp only [ltB, Bool.and_eq_true] at h; exact key h.1 rfl h.2
    | row sh n f o => simp only [ltB, Bool.and_eq_true] at h; exact key h.1 rfl h.2
theorem ltL_mem {nx : Nat} : ∀ {l : List (Nat × LB)}, ltL nx l = true → ∀ q ∈ l, q.1 < nx
  | [], _, q, h => by cases h
  | (i, lb) :: r, h, q, hq => by
    simp only [ltL, Bool.and_eq_true, Nat.blt_eq] at h
    rcases List.mem_cons.1 hq with rfl | hq
    · exact h.1
    · exact ltL_mem h.2 q hq
theorem lsO_congr : ∀ {l : List (Nat × LB)}, (∀ q ∈ l, β2.l q.1 = β.l q.1) → lsO β2 l = lsO β l
  | [], _ => rfl
  | (i, lb) :: r, h => by
    rw [lsO_cons, lsO_cons, lsO_congr (fun q hq => h q (List.mem_cons_of_mem _ hq)), h _ (List.mem_cons_self ..)]
theorem HR.agree {h : AH} (hb : ltB h.nx h.b = true) (hl : ltL h.nx h.l = true) (ha : Agree h.nx β β2) (hh : HR L w0 β h w) : HR L w0 β2 h w := by
  have e1 := ltB_spec ha hb
  have e2 : lsO β2 h.l = lsO β h.l := lsO_congr fun q hq => (ha q.1 (ltL_mem hl q hq)).2
  refine ⟨by rw [e1, e2]; exact hh.own, fun q hq ho => ?_⟩
  rw [(ha q.1 (ltL_mem hl q hq)).2]
  exact hh.ro q hq ho
theorem lsO_sub {l l' : List (Nat × LB)} (h : l.Sublist l') : (lsO β l).Sublist (lsO β l') := by
  unfold lsO
  exact (h.filter _).map _
theorem HR.sub {h h' : AH} (hb : h.b.Sublist h'.b) (hl : h.l.Sublist h'.l) (hh : HR L w0 β h' w) : HR L w0 β h w :=
  ⟨(hh.own.dropb _ (hb.map _)).dropl _ (lsO_sub hl), fun q hq ho => hh.ro q (hl.subset hq) ho⟩
/-! One operation. -/
theorem quietNC_quiet {op : Op} (h : quietNC op = true) : quietOp op = true := by
  unfold quietNC at h
  have h : loudOp (fun _ => false) op = false := by simpa using h
  cases op with
  | call c =>
    obtain ⟨callee, args, ats⟩ := c
    cases callee with
    | value f => cases f <;> simp [loudOp] at h
    | builtin b => cases b <;> first | rfl | (simp [loudOp] at h; done)
    | _ => rfl
  | _ => first | rfl | (simp [loudOp] at h; done)
theorem ccOf_quiet {E : Env} {st : AS} {op : Op} (h : quietNC op = true) : ccOf E st op = none := by
  unfold quietNC at h
  cases op with
  | call c =>
    obtain ⟨callee, args, ats⟩ := c
    cases callee with
    | value f => cases f <;> simp [loudOp] at h
    | _ => rfl
  | _ => rfl
/-- A value that a reading operation has in every world of a kind. -/
theorem one_quiet {E : Env} (hf : ∀ β', Agree h.nx β β' → RF β' fr a.tmps) (hS : ∀ w, S w → ∀ β', Agree h.nx β β' → HR L w0 β' h w) (hw : S w1) (hnc : quietNC o.op = true) {next : AS → Out} {out : AV × AH}
    (he : evOne1 E o ⟨fr, h⟩ next = some out) : ∃ y v, (∀ w, S w → (execOp a.eval o).run E.P w = .ok (.value y) w) ∧ (∀ β', Agree h.nx β β' → RV β' v y) ∧ next ⟨putO fr o.dst v, h⟩ = some out := by
  unfold evOne1 at he
  by_cases hp : ∃ c x y, o.op = .pick c x y
  · obtain ⟨c, x, y, hop⟩ := hp
    simp only [hop] at he
    cases hpk : pickA [] ⟨fr, h⟩ c x y with
    | none => simp [hpk] at he
    | some r =>
      obtain ⟨g, v⟩ := r
      simp only [hpk] at he
      cases hg : g with
      | false => simp [hg] at he
      | true =>
        simp only [hg, cond_true, putD_eq] at he
        obtain ⟨b, hc, hv⟩ := pick_spec (st := ⟨fr, h⟩) (sp := []) (hf β (Agree.refl _ _)) (fun q hq => by cases hq) hpk hg
        refine ⟨_, v, fun w _ => run_pick hop hc, fun β' hβ => ?_, he⟩
        obtain ⟨b', hc', hv'⟩ := pick_spec (st := ⟨fr, h⟩) (sp := []) (hf β' hβ) (fun q hq => by cases hq) hpk hg
        rw [hc] at hc'
        injection hc' with e
        subst e
        exact hv'
  · have h' : evOne E ⟨fr, h⟩ o next = some out := by
      cases hop : o.op <;> first | (simpa only [hop] using he) | (exact absurd ⟨_, _, _, hop⟩ hp)
    unfold evOne evVal at h'
    rw [ccOf_quiet hnc] at h'
    simp only at h'
    cases hev : evOp E ⟨fr, h⟩ o with
    | none => simp [hev] at h'
    | some r =>
      obtain ⟨g, v, b, l, nx⟩ := r
      simp only [hev] at h'
      cases hg : g with
      | false => simp [hg] at h'
      | true =>
        simp only [hg, cond_true] at h'
        replace h' := splitV_spec h'
        simp only [putD_eq] at h'
        have run : ∀ β' w, Agree h.nx β β' → S w → ⟨b, l, nx⟩ = h ∧ ∃ y, (execOp a.eval o).run E.P w = .ok (.value y) w ∧ RV β' v y :=
          fun β' w hβ hc => evOp_run (E := E) (st := ⟨fr, h⟩) (hf β' hβ) (hS w hc β' hβ) (quietNC_quiet hnc) hev hg
        obtain ⟨e, y, hr, hv⟩ := run β w1 (Agree.refl _ _) hw
        have same : ∀ w, S w → (execOp a.eval o).run E.P w = .ok (.value y) w := by
          intro w hc
          obtain ⟨_, y', hr', hv'⟩ := run β w (Agree.refl _ _) hc
          by_cases hany : v = .one .any
          · subst hany
            obtain ⟨x, hx | hx⟩ := evOp_any (quietNC_quiet hnc) hev <;>
            · have : ∀ w, (execOp a.eval o).run E.P w = .ok (.value (a.eval x)) w := fun w => by simp only [execOp, hx]; rfl
              rw [this w1] at hr
              rw [this w]
              injection hr with hr
              injection hr with hr
              rw [hr]
          · rw [hr', hv'.resolve_left hany, ← hv.resolve_left hany]
        refine ⟨y, v, same, fun β' hβ => ?_, ?_⟩
        · obtain ⟨_, y', hr', hv'⟩ := run β' w1 hβ hw
          rw [hr] at hr'
          injection hr' with hr'
          injection hr' with hr'
          rw [hr']
          exact hv'
        · rw [← e]
          exact h'
theorem cond_some_inv {α : Type} {b : Bool} {x : Option α} {r : α} (h : (bif b then x else none) = some r) : x = some r := by
  cases b with
  | true => exact h
  | false => cases h
/-- What a kept operation leaves of what is owned. -/
theorem keeps_spec (hE : E.Sound) {g : Bool} (hk : keepsOp E.kf o.op = true) (h : evOp E st o = some (g, v, h')) (hf : RF β st.fr a.tmps) (hh : HR L w0 β st.h w) (hg : g = true) : st.h.b.Sublist h'.b ∧ st.h.l.Sublist h'.l := by
  by_cases hq : quietOp o.op = true
  · obtain ⟨e, _⟩ := evOp_run hf hh hq h hg
    rw [e]
    exact ⟨List.Sublist.refl _, List.Sublist.refl _⟩
  · obtain ⟨fr0, b0, l0, nx0⟩ := st
    unfold evOp at h
    cases hop : o.op with
    | alloc t =>
      simp only [hop] at h
      split at h
      · rename_i bb b l nx _ e2
        injection e2 with e3 e4 e5
        subst e3 e4 e5
        simp only [Option.some.injEq, Prod.mk.injEq] at h
        rw [← h.2.2]
        exact ⟨List.sublist_cons_self _ _, List.Sublist.refl _⟩
      · cases h
    | box t x =>
      simp only [hop] at h
      split at h
      · rename_i cs _
        cases hb : cs.all okC with
        | false => simp [hb] at h
        | true =>
          simp only [hb, cond_true, Option.some.injEq, Prod.mk.injEq] at h
          rw [← h.2.2]
          exact ⟨List.sublist_cons_self _ _, List.Sublist.refl _⟩
      · cases h
    | buildSlice t len ps =>
      simp only [hop, evMore, buildA] at h
      split at h
      · split at h
        · rename_i e2
          injection e2 with e3 e4 e5
          subst e3 e4 e5
          have h := cond_some_inv h
          split at h
          · have h := cond_some_inv h
            simp only [Option.some.injEq, Prod.mk.injEq] at h
            rw [← h.2.2]
            exact ⟨List.Sublist.refl _, List.sublist_cons_self _ _⟩
          · cases h
        · cases h
      · cases h
    | makeSlice t x y =>
      simp only [hop, evMore] at h
      split at h
      · split at h
        · rename_i g' v' h'' hmk
          simp only [Option.some.injEq, Prod.mk.injEq] at h
          obtain ⟨_, _, rfl⟩ := h
          unfold makeA at hmk
          split at hmk
          · rename_i e2
            injection e2 with e3 e4 e5
            subst e3 e4 e5
            split at hmk
            · have h := cond_some_inv hmk
              simp only [Option.some.injEq, Prod.mk.injEq] at h
              rw [← h.2.2]
              exact ⟨List.Sublist.refl _, List.sublist_cons_self _ _⟩
            · cases hmk
          · cases hmk
        · cases h
      · cases h
    | call c =>
      obtain ⟨callee, args, ats⟩ := c
      cases callee with
      | value x =>
        cases x with
        | func f =>
          simp only [hop, keepsOp] at hk
          simp only [hop, calleeF, List.append_nil] at h
          cases hc : E.ca f (args.toList.map (evA ⟨fr0, b0, l0, nx0⟩)) ⟨b0, l0, nx0⟩ with
          | none => simp [hc] at h
          | some r =>
            obtain ⟨g', v', h''⟩ := r
            simp only [hc, Option.some.injEq, Prod.mk.injEq] at h
            obtain ⟨rfl, rfl, rfl⟩ := h
            exact hE.kp f _ _ _ _ _ hk hc
        | _ => simp [hop, keepsOp] at hk
      | builtin b => cases b <;> first | (exact absurd (by rw [hop]; rfl) hq) | (simp [hop, keepsOp] at hk; done)
      | _ => exact absurd (by rw [hop]; rfl) hq
    | _ => first | (exact absurd (by rw [hop]; rfl) hq) | (rw [hop] at hk; cases hk)
theorem run_evP {E : Env} {ops : Array Oper} {h0 : AH} {k : AS → Out} {i : Nat} {q : Bool} {r : List (Nat × Bool)} {st : AS} : evP E ops h0 k ((i, q) :: r) st = match ops[i]? with
    | some o => bif q then evStep1 E.still ops o ⟨st.fr, h0.b, h0.l, st.h.nx⟩ fun st' => evP E ops h0 k r ⟨st'.fr, st.h⟩
      else bif freshS ops h0.nx o st.fr then evStep1 E ops o st fun st' => evP E ops h0 k r st' else none
    | none => none := by
  obtain ⟨fr, b, l, nx⟩ := st
  rfl
theorem RF.lit {fr : List AV} (hf : RF β fr a.tmps) {d : Nat} {b : Bool} (hd : a.tmps.getD d undef = .bool b) : RF β (putA fr d (.one (.v (.bool b)))) a.tmps := by
  intro i
  rw [getA_put]
  split
  · rename_i hj
    rw [hj.1, hd]
    exact .inr rfl
  · exact hf i
/-- One reading operation, its guard told apart. -/
theorem step_quiet {E : Env} (hl : fr.length = a.tmps.size) (hf : ∀ β', Agree h.nx β β' → RF β' fr a.tmps) (hS : ∀ w, S w → ∀ β', Agree h.nx β β' → HR L w0 β' h w) (hw : S w1) (hnc : quietNC o.op = true) {next : AS → Out} {out : AV × AH}
    (he : evStep1 E ops o ⟨fr, h⟩ next = some out) : ∃ y v fr', YieldsIf E.P ops S o y a ∧ fr'.length = a.tmps.size ∧ (∀ β', Agree h.nx β β' → RF β' fr' a.tmps ∧ RV β' v y) ∧ next ⟨putO fr' o.dst v, h⟩ = some out := by
  unfold evStep1 at he
  cases hgd : o.guard with
  | none =>
    simp only [hgd] at he
    obtain ⟨y, v, h1, h2, h3⟩ := one_quiet hf hS hw hnc he
    exact ⟨y, v, fr, .inl ⟨by simp [Region.wanted, hgd], h1⟩, hl, fun β' hβ => ⟨hf β' hβ, h2 β' hβ⟩, h3⟩
  | some jw =>
    obtain ⟨j, wt⟩ := jw
    simp only [hgd] at he
    cases hgs : guardSlot ops j with
    | none => simp [hgs] at he
    | some d =>
      simp only [hgs] at he
      have hwi := wanted_iff (tm := a.tmps) hgd hgs
      have hn : ∀ b, a.tmps.getD d undef = b → b ≠ .bool wt → Region.wanted o (yielded ops a.tmps) = false := fun b hb hne => by
        cases e' : Region.wanted o (yielded ops a.tmps) with
        | false => rfl
        | true => exact absurd (hb.symm.trans (hwi.1 e')) hne
      split at he
      · rename_i b hb
        have hd : a.tmps.getD d undef = .bool b := boolOf hb (hf β (Agree.refl _ _) d)
        have hf' : ∀ β', Agree h.nx β β' → RF β' (putA fr d (.one (.v (.bool b)))) a.tmps := fun β' hβ => (hf β' hβ).lit hd
        have hl' : (putA fr d (.one (.v (.bool b)))).length = a.tmps.size := by rw [putA_len]; exact hl
        have go : b = wt → evOne1 E o ⟨putA fr d (.one (.v (.bool b))), h⟩ next = some out → ∃ y v fr', YieldsIf E.P ops S o y a ∧ fr'.length = a.tmps.size ∧ (∀ β', Agree h.nx β β' → RF β' fr' a.tmps ∧ RV β' v y) ∧ next ⟨putO fr' o.dst v, h⟩ = some out := by
          intro e he
          obtain ⟨y, v, h1, h2, h3⟩ := one_quiet hf' hS hw hnc he
          exact ⟨y, v, _, .inl ⟨hwi.2 (by rw [hd, e]), h1⟩, hl', fun β' hβ => ⟨hf' β' hβ, h2 β' hβ⟩, h3⟩
        have und : b ≠ wt → next ⟨putO (putA fr d (.one (.v (.bool b)))) o.dst (.one (.v undef)), h⟩ = some out → ∃ y v fr', YieldsIf E.P ops S o y a ∧ fr'.length = a.tmps.size ∧ (∀ β', Agree h.nx β β' → RF β' fr' a.tmps ∧ RV β' v y) ∧ next ⟨putO fr' o.dst v, h⟩ = some out := by
          intro e he
          exact ⟨undef, .one (.v undef), _, .inr ⟨hn _ hd (by intro h; injection h with h; exact e h), rfl⟩, hl', fun β' hβ => ⟨hf' β' hβ, RV_undef⟩, he⟩
        cases b with
        | true =>
          simp only [cond_true] at he
          cases wt with
          | true => simp only [cond_true] at he; exact go rfl he
          | false => simp only [cond_false, putD_eq] at he; exact und (by simp) he
        | false =>
          simp only [cond_false] at he
          cases wt with
          | true => simp only [cond_true, putD_eq] at he; exact und (by simp) he
          | false => simp only [cond_false] at he; exact go rfl he
      · rename_i tup hb
        have hd : a.tmps.getD d undef = .tuple tup := by
          have := hf β (Agree.refl _ _) d
          rw [hb] at this
          exact this.resolve_left (by simp)
        simp only [putD_eq] at he
        exact ⟨undef, .one (.v undef), fr, .inr ⟨hn _ hd (by simp), rfl⟩, hl, fun β' hβ => ⟨hf β' hβ, RV_undef⟩, he⟩
      · cases he
theorem ccOf_keeps0 {E : Env} (hE : E.Sound) {st : AS} {op : Op} {g : List AV → AH → (AV → AH → Out) → Out} {args : List AV} (h : ccOf E st op = some (g, args)) : keepsOp E.kf op = false := by
  cases op with
  | call c =>
    obtain ⟨callee, as, ats⟩ := c
    cases callee with
    | value x =>
      cases x with
      | func f =>
        simp only [ccOf, calleeF] at h
        cases hcc : E.cc f with
        | none => simp [hcc] at h
        | some g' => exact (hE.cc _ _ hcc).2
      | _ => rfl
    | _ => simp [ccOf] at h
  | _ => simp [ccOf] at h
theorem ccOf_keeps {E : Env} (hE : E.Sound) {ops : Array Oper} {st : AS} {o : Oper} {g : List AV → AH → (AV → AH → Out) → Out} {args : List AV} (h : ccOf E st o.op = some (g, args)) : keepsO E.kf ops o = false := by
  unfold keepsO
  split
  · rename_i h1 h2
    rw [h1] at h
    simp [ccOf] at h
  · exact ccOf_keeps0 hE h
theorem keepsO_guard {kf : FuncId → Bool} {ops : Array Oper} {o : Oper} {jw : Nat × Bool} (h : o.guard = some jw) : keepsO kf ops o = keepsOp kf o.op := by
  unfold keepsO
  split
  · rename_i h1 h2
    rw [h] at h2
    cases h2
  · rfl
theorem freshS_guard {ops : Array Oper} {nx : Nat} {o : Oper} {fr : List AV} {jw : Nat × Bool} (h : o.guard = some jw) : freshS ops nx o fr = true := by
  unfold freshS
  split
  · rename_i h1 h2
    rw [h] at h2
    cases h2
  · rfl
theorem keepsO_quiet {kf : FuncId → Bool} {ops : Array Oper} {o : Oper} (h : quietNC o.op = true) (hk : keepsOp kf o.op = true) : keepsO kf ops o = true := by
  unfold keepsO
  split
  · rename_i h1 h2
    rw [h1] at h
    cases h
  · exact hk
theorem over_sub {id nx : Nat} {y : TypeId × BB} : ∀ {l l0 : List (Nat × TypeId × BB)}, ltB nx l0 = true → nx ≤ id → l0.Sublist l → l0.Sublist (over id y l)
  | [], l0, _, _, h => h
  | (j, x) :: r, l0, hb, hn, h => by
    simp only [over]
    cases e : Nat.beq id j with
    | true =>
      have hj := Nat.eq_of_beq_eq_true e
      simp only [cond_true]
      cases h with
      | cons _ h => exact h.cons _
      | cons_cons _ h =>
        exfalso
        obtain ⟨t, bb⟩ := x
        cases bb <;> simp only [ltB, Bool.and_eq_true, Nat.blt_eq] at hb <;> omega
    | false =>
      simp only [cond_false]
      cases h with
      | cons _ h => exact (over_sub hb hn h).cons _
      | cons_cons _ h =>
        refine (over_sub ?_ hn h).cons_cons _
        obtain ⟨t, bb⟩ := x
        cases bb <;> simp only [ltB, Bool.and_eq_true] at hb <;> exact hb.2
/-- What was there ahead of the region is there behind an operation that keeps it. -/
theorem keepsO_spec {E : Env} (hE : E.Sound) {ops : Array Oper} {o : Oper} {st : AS} {g : Bool} {v : AV} {h' h0 : AH} (hk : keepsO E.kf ops o = true) (hf : freshS ops h0.nx o st.fr = true) (hev : evOp E st o = some (g, v, h')) (hrf : RF β st.fr a.tmps) (hh : HR L w0 β st.h w) (hg : g = true)
    (hb : ltB h0.nx h0.b = true) (h1 : h0.b.Sublist st.h.b) (h2 : h0.l.Sublist st.h.l) : h0.b.Sublist h'.b ∧ h0.l.Sublist h'.l := by
  unfold keepsO at hk
  split at hk
  · rename_i t t' x hop hgd
    unfold freshS at hf
    simp only [hop, hgd, hk, cond_true] at hf
    split at hf
    · rename_i id off hget
      have hn : h0.nx ≤ id := by rw [Nat.ble_eq] at hf; exact hf
      unfold evOp at hev
      simp only [hop, evA, hget] at hev
      split at hev
      · split at hev
        · simp only [Option.some.injEq, Prod.mk.injEq] at hev
          obtain ⟨_, _, rfl⟩ := hev
          exact ⟨over_sub hb hn h1, h2⟩
        · cases hev
      · cases hev
    · cases hf
  · obtain ⟨g1, g2⟩ := keeps_spec (st := st) hE hk hev hrf hh hg
    exact ⟨h1.trans g1, h2.trans g2⟩
/-- One operation of any sort, its guard told apart. -/
theorem step_loud (hE : E.Sound) {h0 : AH} (R : RelS L w0 β st [] a w) {next : AS → Out} {out : AV × AH} {i : Nat} (hi : ops[i]? = some o) (he : evStep1 E ops o st next = some out) {K : Act → World → Prop}
    (hK : ∀ β2 st' a' w', Agree st.h.nx β β2 → st.h.nx ≤ st'.h.nx → RelS L w0 β2 st' [] a' w' → (keepsO E.kf ops o = true → freshS ops h0.nx o st.fr = true → ltB h0.nx h0.b = true → h0.b.Sublist st.h.b → h0.l.Sublist st.h.l → h0.b.Sublist st'.h.b ∧ h0.l.Sublist st'.h.l) → next st' = some out → K a' w') : wpOp E.P ops Q i K a w := by
  have one : ∀ fr', (fr' = st.fr ∨ o.guard ≠ none) → fr'.length = a.tmps.size → (∀ β', Agree st.h.nx β β' → RF β' fr' a.tmps) → evOne1 E o ⟨fr', st.h⟩ next = some out → o.wp E.P a w K Q := by
    intro fr' hfr' hl' hf' he
    have hfresh : freshS ops h0.nx o st.fr = true → freshS ops h0.nx o fr' = true := fun h => by
      rcases hfr' with e | e
      · rw [e]; exact h
      · cases hgd : o.guard with
        | none => exact absurd hgd e
        | some jw => exact freshS_guard hgd
    have R' : RelS L w0 β ⟨fr', st.h⟩ [] a w := ⟨hl', R.dfr, fun β' hβ => ⟨hf' β' hβ, (R.all β' hβ).2⟩, fun _ _ q hq => by cases hq⟩
    unfold evOne1 at he
    by_cases hp : ∃ c x y, o.op = .pick c x y
    · obtain ⟨c, x, y, hop⟩ := hp
      simp only [hop] at he
      cases hpk : pickA [] ⟨fr', st.h⟩ c x y with
      | none => simp [hpk] at he
      | some r =>
        obtain ⟨g, v⟩ := r
        simp only [hpk] at he
        cases hg : g with
        | false => simp [hg] at he
        | true =>
          simp only [hg, cond_true, putD_eq] at he
          obtain ⟨b, hc, hv⟩ := pick_spec (st := ⟨fr', st.h⟩) (sp := []) (hf' β (Agree.refl _ _)) (fun q hq => by cases hq) hpk hg
          have hrun := run_pick (E := E) (w := w) hop hc
          unfold Oper.wp
          rw [hrun]
          have R2 := R'.step (h' := st.h) (o := o) (v := v) (y := if b = true then a.eval x else a.eval y) (Agree.refl _ _) (Nat.le_refl _) fun β' hβ => ⟨?_, (R.all β' hβ).2⟩
          · exact hK β ⟨putO fr' o.dst v, st.h⟩ _ _ (Agree.refl _ _) (Nat.le_refl _) ⟨R2.len, R2.dfr, R2.all, fun _ _ q hq => by cases hq⟩ (fun _ _ _ g1 g2 => ⟨g1, g2⟩) he
          obtain ⟨b', hc', hv'⟩ := pick_spec (st := ⟨fr', st.h⟩) (sp := []) (hf' β' hβ) (fun q hq => by cases hq) hpk hg
          rw [hc] at hc'
          injection hc' with e
          subst e
          exact hv'
    · have h' : evOne E ⟨fr', st.h⟩ o next = some out := by
        cases hop : o.op <;> first | (simpa only [hop] using he) | (exact absurd ⟨_, _, _, hop⟩ hp)
      unfold evOne evVal at h'
      split at h'
      · rename_i g args hc
        refine ccOf_wp (Q := Q) hE R'.all hc h' fun v h'' hk y w' β2 hag hle hall => ?_
        simp only [putD_eq] at hk
        have R2 := R'.step (o := o) hag hle hall
        exact hK β2 _ _ _ hag hle ⟨R2.len, R2.dfr, R2.all, fun _ _ q hq => by cases hq⟩ (fun hkp => absurd hkp (by rw [ccOf_keeps hE hc]; simp)) hk
      · cases hev : evOp E ⟨fr', st.h⟩ o with
        | none => simp [hev] at h'
        | some r =>
          obtain ⟨g, v, b, l, nx⟩ := r
          simp only [hev] at h'
          cases hg : g with
          | false => simp [hg] at h'
          | true =>
            simp only [hg, cond_true] at h'
            replace h' := splitV_spec h'
            simp only [putD_eq] at h'
            refine evOp_wp (Q := Q) hE R'.all hev hg K fun y w' β2 hag hle hall => ?_
            have R2 := R'.step (o := o) hag hle hall
            exact hK β2 _ _ _ hag hle ⟨R2.len, R2.dfr, R2.all, fun _ _ q hq => by cases hq⟩ (fun hk hfs hb g1 g2 => keepsO_spec (st := ⟨fr', st.h⟩) hE hk (hfresh hfs) hev (hf' β (Agree.refl _ _)) (R.all β (Agree.refl _ _)).2 hg hb g1 g2) h'
  have skip : ∀ fr', fr'.length = a.tmps.size → (∀ β', Agree st.h.nx β β' → RF β' fr' a.tmps) → next ⟨putO fr' o.dst (.one (.v undef)), st.h⟩ = some out → K (a.put o.dst undef) w := by
    intro fr' hl' hf' he
    have R' : RelS L w0 β ⟨fr', st.h⟩ [] a w := ⟨hl', R.dfr, fun β' hβ => ⟨hf' β' hβ, (R.all β' hβ).2⟩, fun _ _ q hq => by cases hq⟩
    have R2 := R'.step (o := o) (h' := st.h) (v := .one (.v undef)) (y := undef) (Agree.refl _ _) (Nat.le_refl _) (fun β' hβ => ⟨RV_undef, (R.all β' hβ).2⟩)
    exact hK β ⟨putO fr' o.dst (.one (.v undef)), st.h⟩ _ _ (Agree.refl _ _) (Nat.le_refl _) ⟨R2.len, R2.dfr, R2.all, fun _ _ q hq => by cases hq⟩ (fun _ _ _ g1 g2 => ⟨g1, g2⟩) he
  have hf := fun β' hβ => (R.all β' hβ).1
  unfold wpOp
  simp only [hi]
  unfold evStep1 at he
  cases hgd : o.guard with
  | none =>
    simp only [hgd] at he
    rw [if_pos (by simp [Region.wanted, hgd])]
    exact .inl (one st.fr (.inl rfl) R.len hf he)
  | some jw =>
    obtain ⟨j, wt⟩ := jw
    simp only [hgd] at he
    cases hgs : guardSlot ops j with
    | none => simp [hgs] at he
    | some d =>
      simp only [hgs] at he
      have hwi := wanted_iff (tm := a.tmps) hgd hgs
      have hn : ∀ b, a.tmps.getD d undef = b → b ≠ .bool wt → Region.wanted o (yielded ops a.tmps) = false := fun b hb hne => by
        cases e' : Region.wanted o (yielded ops a.tmps) with
        | false => rfl
        | true => exact absurd (hb.symm.trans (hwi.1 e')) hne
      split at he
      · rename_i b hb
        have hd : a.tmps.getD d undef = .bool b := boolOf hb (hf β (Agree.refl _ _) d)
        have hf' : ∀ β', Agree st.h.nx β β' → RF β' (putA st.fr d (.one (.v (.bool b)))) a.tmps := fun β' hβ => (hf β' hβ).lit hd
        have hl' : (putA st.fr d (.one (.v (.bool b)))).length = a.tmps.size := by rw [putA_len]; exact R.len
        have go : b = wt → evOne1 E o ⟨putA st.fr d (.one (.v (.bool b))), st.h⟩ next = some out → (if Region.wanted o (yielded ops a.tmps) = true then o.wp E.P a w K Q ∨ (o.asks E.P a w ∧ LetsOut Q) else K (a.put o.dst undef) w) := by
          intro e he
          rw [if_pos (hwi.2 (by rw [hd, e]))]
          exact .inl (one _ (.inr (by rw [hgd]; simp)) hl' hf' he)
        have und : b ≠ wt → next ⟨putO (putA st.fr d (.one (.v (.bool b)))) o.dst (.one (.v undef)), st.h⟩ = some out → (if Region.wanted o (yielded ops a.tmps) = true then o.wp E.P a w K Q ∨ (o.asks E.P a w ∧ LetsOut Q) else K (a.put o.dst undef) w) := by
          intro e he
          rw [if_neg (by rw [hn _ hd (by intro h; injection h with h; exact e h)]; simp)]
          exact skip _ hl' hf' he
        cases b with
        | true =>
          simp only [cond_true] at he
          cases wt with
          | true => simp only [cond_true] at he; exact go rfl he
          | false => simp only [cond_false, putD_eq] at he; exact und (by simp) he
        | false =>
          simp only [cond_false] at he
          cases wt with
          | true => simp only [cond_true, putD_eq] at he; exact und (by simp) he
          | false => simp only [cond_false] at he; exact go rfl he
      · rename_i tup hb
        have hd : a.tmps.getD d undef = .tuple tup := by
          have := hf β (Agree.refl _ _) d
          rw [hb] at this
          exact this.resolve_left (by simp)
        simp only [putD_eq] at he
        rw [if_neg (by rw [hn _ hd (by simp)]; simp)]
        exact skip _ R.len hf he
      · cases he
/-! The order that stands for all. -/
theorem pickH_spec {kf : FuncId → Bool} {listed : Array Bool} : ∀ {rs : List Nat} {j : Nat}, pickH kf ops listed rs = some j → j ∈ rs ∧ ∃ o, ops[j]? = some o ∧ quietNC o.op = true ∧ keepsOp kf o.op = true ∧ Region.free .any ops listed j = true ∧ freeD kf ops listed j = true
  | [], _, h => by simp [pickH] at h
  | i :: r, j, h => by
    simp only [pickH] at h
    cases ho : ops[i]? with
    | none =>
      simp only [ho] at h
      obtain ⟨h1, h2⟩ := pickH_spec h
      exact ⟨List.mem_cons_of_mem _ h1, h2⟩
    | some o =>
      simp only [ho] at h
      cases hc : (quietNC o.op && keepsOp kf o.op && Region.free .any ops listed i && freeD kf ops listed i) with
      | true =>
        simp only [hc, cond_true, Option.some.injEq] at h
        subst h
        simp only [Bool.and_eq_true] at hc
        exact ⟨List.mem_cons_self .., o, ho, hc.1.1.1, hc.1.1.2, hc.1.2, hc.2⟩
      | false =>
        simp only [hc, cond_false] at h
        obtain ⟨h1, h2⟩ := pickH_spec h
        exact ⟨List.mem_cons_of_mem _ h1, h2⟩
theorem freeD_spec {kf : FuncId → Bool} {listed : Array Bool} {i : Nat} (h : freeD kf ops listed i = true) (j : Nat) (oj : Oper) (hj : ops[j]? = some oj) (hne : j ≠ i) (hun : listed.getD j true = false)
    (hno : ∀ e ∈ oj.after, Region.binds .any e = true → e.on ≠ i) : keepsAt kf ops j = true := by
  simp only [freeD, List.all_eq_true, List.mem_range] at h
  have h1 := h j (Array.getElem?_eq_some_iff.1 hj).1
  simp only [hj, Bool.or_eq_true, beq_iff_eq, hne, false_or, hun, Bool.false_eq_true] at h1
  simp only [keepsAt, hj]
  rcases h1 with h1 | h1
  · obtain ⟨e, he, hb⟩ := Array.any_eq_true'.1 h1
    simp only [Bool.and_eq_true, beq_iff_eq] at hb
    exact absurd hb.2 (hno e he hb.1)
  · exact h1
theorem consP_some {x : Nat × Bool} {o : Option (List (Nat × Bool))} {l : List (Nat × Bool)} (h : consP x o = some l) : ∃ r, o = some r ∧ l = x :: r := by
  cases o with
  | none => cases h
  | some r => simp only [consP, Option.some.injEq] at h; exact ⟨r, rfl, h.symm⟩
theorem isAl_spec {o : Oper} (h : isAl o = true) : ∃ t d, o.op = .alloc t ∧ o.guard = none ∧ o.dst = some d := by
  unfold isAl at h
  split at h
  · rename_i t d h1 h2 h3
    exact ⟨t, d, h1, h2, h3⟩
  · cases h
theorem isOne_spec {i : Nat} {l : List Nat} (h : isOne i l = true) : l = [i] := by
  unfold isOne at h
  split at h
  · rw [Nat.eq_of_beq_eq_true h]
  · cases h
theorem ev_alloc {E : Env} {ops : Array Oper} {o : Oper} {st : AS} {next : AS → Out} {t d : Nat} (hop : o.op = .alloc t) (hg : o.guard = none) (hd : o.dst = some d) :
    evStep1 E ops o st next = match E.al t with
      | some bb => next ⟨putA st.fr d (.one (.pt st.h.nx 0)), ⟨(st.h.nx, t, bb) :: st.h.b, st.h.l, st.h.nx + 1⟩⟩
      | none => none := by
  obtain ⟨fr, b, l, nx⟩ := st
  unfold evStep1
  simp only [hg]
  unfold evOne1
  simp only [hop]
  unfold evOne evVal
  simp only [hop, ccOf]
  unfold evOp
  simp only [hop]
  cases E.al t with
  | none => rfl
  | some bb =>
    simp only [cond_true, spOf, splitV, hd, putD, forceV_eq, putS_eq]
theorem al_run (hE : E.Sound) {t : TypeId} {bb : BB} (ha : E.al t = some bb) (hop : o.op = .alloc t) (β : Bt) (a : Act) (w : World) :
    (execOp a.eval o).run E.P w = .ok (.value (.pointer (some ⟨w.heap.size, 0, none⟩))) (w.alloc (.cells (cB β bb).toArray t)) := by
  obtain ⟨z, hzv, hzr⟩ := run_zero (P := E.P) (w := w) (hE.al t bb ha β)
  simp only [execOp, hop, Instr.alloc, Sem.run_bind, hzr, Result.andThen_ok, run_newVar_any, hzv, Sem.run_pure]
theorem Own.swap2 {bs : List Bl} {ls : List Ls} {x y : Bl} (h : Own L w0 (x :: y :: bs) ls w) : Own L w0 (y :: x :: bs) ls w := by
  have hm : ∀ b, b ∈ y :: x :: bs → b ∈ x :: y :: bs := fun b hb => by
    simp only [List.mem_cons] at hb ⊢
    rcases hb with h | h | h
    · exact .inr (.inl h)
    · exact .inl h
    · exact .inr (.inr h)
  refine ⟨h.os, h.tape, h.output, h.size, h.frame, fun b hb => h.blk b (hm b hb), fun b hb => h.out b (hm b hb), h.lst, ?_, h.sepl, fun b hb => h.sep b (hm b hb)⟩
  have := h.nodup
  simp only [List.map_cons, List.nodup_cons, List.mem_cons, not_or] at this ⊢
  exact ⟨⟨fun e => this.1.1 e.symm, this.2.1⟩, this.1.2, this.2.2⟩
/-- Two variables made in the other order. -/
theorem swap_alloc (hE : E.Sound) (R : RelS L w0 β st [] a w) {oi oj : Oper} {ti tj di dj : Nat} {bi bj : BB} (hai : E.al ti = some bi) (haj : E.al tj = some bj) (hoi : oi.dst = some di) (hoj : oj.dst = some dj) (hne : di ≠ dj) :
    ∃ β2, Agree st.h.nx β β2 ∧ RelS L w0 β2 ⟨putA (putA st.fr di (.one (.pt st.h.nx 0))) dj (.one (.pt (st.h.nx + 1) 0)), ⟨(st.h.nx + 1, tj, bj) :: (st.h.nx, ti, bi) :: st.h.b, st.h.l, st.h.nx + 1 + 1⟩⟩ []
      ((a.put (some dj) (.pointer (some ⟨w.heap.size, 0, none⟩))).put (some di) (.pointer (some ⟨(w.alloc (.cells (cB β bj).toArray tj)).heap.size, 0, none⟩)))
      ((w.alloc (.cells (cB β bj).toArray tj)).alloc (.cells (cB β bi).toArray ti)) := by
  have hs : (w.alloc (.cells (cB β bj).toArray tj)).heap.size = w.heap.size + 1 := by simp
  refine ⟨⟨fun i => if i = st.h.nx then w.heap.size + 1 else if i = st.h.nx + 1 then w.heap.size else β.b i, β.l⟩, fun i hi => ⟨?_, rfl⟩, ?_, R.dfr, fun β' hβ => ?_, fun _ _ q hq => by cases hq⟩
  · simp only
    rw [if_neg (by omega), if_neg (by omega)]
  · simp only [putA_len, Act.put, Array.size_setIfInBounds]
    exact R.len
  · have hn0 : β'.b st.h.nx = w.heap.size + 1 := by rw [(hβ st.h.nx (by simp only; omega)).1]; simp
    have hn1 : β'.b (st.h.nx + 1) = w.heap.size := by rw [(hβ (st.h.nx + 1) (by simp only; omega)).1]; simp
    have hold : Agree st.h.nx β β' := fun i hi => by
      obtain ⟨h1, h2⟩ := hβ i (by simp only; omega)
      refine ⟨?_, h2⟩
      rw [h1]
      simp only
      rw [if_neg (by omega), if_neg (by omega)]
    obtain ⟨hf, hh⟩ := R.all β' hold
    refine ⟨fun m => ?_, ?_, hh.ro⟩
    · have hl1 : (a.put (some dj) (.pointer (some ⟨w.heap.size, 0, none⟩))).tmps.size = st.fr.length := by simp only [Act.put, Array.size_setIfInBounds]; exact R.len.symm
      simp only [getA_put, putA_len, Act.put, tm_put, Array.size_setIfInBounds, ← R.len]
      by_cases h1 : m = dj ∧ dj < st.fr.length
      · rw [if_pos h1]
        have hmd : ¬ (m = di ∧ di < st.fr.length) := fun h => hne (h.1.symm.trans h1.1)
        rw [if_neg hmd, if_pos h1]
        right
        simp [cA, cA0, cC, hn1]
      · rw [if_neg h1]
        by_cases h2 : m = di ∧ di < st.fr.length
        · rw [if_pos h2, if_pos h2]
          right
          simp [cA, cA0, cC, hn0, hs]
        · rw [if_neg h2, if_neg h2, if_neg h1]
          exact hf m
    · have hcj : cB β bj = cB β' bj := Option.some.inj ((hE.al tj bj haj β).symm.trans (hE.al tj bj haj β'))
      have hci : cB β bi = cB β' bi := Option.some.inj ((hE.al ti bi hai β).symm.trans (hE.al ti bi hai β'))
      rw [hcj, hci]
      rw [hcj] at hs
      have := ((hh.own.alloc (cB β' bj) tj).alloc (cB β' bi) ti).swap2
      rw [hs] at this
      simpa [bsO, hn0, hn1] using this
theorem evP_wp (hE : E.Sound) {ops : Array Oper} {k : AS → Out} {out : AV × AH} {h0 : AH} {βs : Bt} (hs : Region.noSelect ops = true) (hb : ltB h0.nx h0.b = true) (hl : ltL h0.nx h0.l = true) (hQ : ∀ c a a' w, Q (.panic c) a w → Q (.panic c) a' w) :
    ∀ (f : Nat) (c : Bool) (listed : Array Bool) (seq : List (Nat × Bool)) (st : AS) (β : Bt) (a : Act) (w : World), planP E.kf ops f c listed = some seq → Agree h0.nx βs β → h0.nx ≤ st.h.nx → RelS L w0 β st [] a w →
    (c = true → HR L w0 βs h0 w ∧ h0.b.Sublist st.h.b ∧ h0.l.Sublist st.h.l) → evP E ops h0 k seq st = some out →
    (∀ β2 st' a' w', Agree st.h.nx β β2 → st.h.nx ≤ st'.h.nx → RelS L w0 β2 st' [] a' w' → k st' = some out → Q .normal a' w') →
    wpAnyD E.P .any ops Q (HR L w0 βs h0) (keepsAt E.kf ops) f c listed a w := by
  have fin : ∀ {seq : List (Nat × Bool)} {st : AS} {β : Bt} {a : Act} {w : World}, seq = [] → RelS L w0 β st [] a w → evP E ops h0 k seq st = some out → (∀ β2 st' a' w', Agree st.h.nx β β2 → st.h.nx ≤ st'.h.nx → RelS L w0 β2 st' [] a' w' → k st' = some out → Q .normal a' w') → Q .normal a w := by
    intro seq st β a w e R he hK
    subst e
    exact hK β st a w (Agree.refl _ _) (Nat.le_refl _) R (by simpa [evP] using he)
  intro f
  induction f using Nat.strongRecOn with
  | ind f ihs =>
  cases f with
  | zero =>
    intro c listed seq st β a w hp hag hle R hc he hK
    simp only [planP] at hp
    cases hr : (Region.ready .any ops listed).isEmpty with
    | false => simp [hr] at hp
    | true =>
      simp only [hr, cond_true, Option.some.injEq] at hp
      exact ⟨List.isEmpty_iff.1 hr, fin hp.symm R he hK⟩
  | succ f =>
    have ih := ihs f (Nat.lt_succ_self f)
    intro c listed seq st β a w hp hag hle R hc he hK
    simp only [planP] at hp
    split at hp
    · rename_i hr
      simp only [Option.some.injEq] at hp
      exact ⟨fun _ => fin hp.symm R he hK, fun i hi => (by rw [hr] at hi; cases hi)⟩
    · rename_i i rs hr
      split at hp
      · rename_i j hj
        cases c with
        | false => simp at hj
        | true =>
          simp only [cond_true] at hj
          obtain ⟨hjm, o, ho, hnc, hkp, hfree, hfd⟩ := pickH_spec hj
          obtain ⟨seq', hp', rfl⟩ := consP_some hp
          rw [run_evP] at he
          simp only [ho, cond_true] at he
          obtain ⟨hS, hsb, hsl⟩ := hc rfl
          have hagT : ∀ β', Agree st.h.nx β β' → Agree h0.nx βs β' := fun β' hβ => hag.trans hβ hle
          obtain ⟨y, v, fr', h1, h2, h3, h4⟩ := step_quiet (E := E.still) (L := L) (w0 := w0) (β := β) (S := HR L w0 βs h0) (h := ⟨h0.b, h0.l, st.h.nx⟩) (fr := st.fr) R.len (fun β' hβ => (R.all β' hβ).1)
            (fun w' hw' β' hβ => by
              have := hw'.agree hb hl (hagT β' hβ)
              exact ⟨this.own, this.ro⟩) hS hnc he
          refine wpAnyD_first ho (Region.noSelect_spec hs) (fun c a w h => hQ c _ _ w h) (by simp only [keepsAt, ho]; exact keepsO_quiet hnc hkp) f listed a w (fun j' oj hj' hne hun hno => ⟨Region.free_spec ho hfree j' oj hj' hne hun hno, freeD_spec hfd j' oj hj' hne hun hno⟩) (by rw [hr]; exact hjm) h1 hS ?_
          have R1 : RelS L w0 β ⟨fr', st.h⟩ [] a w := ⟨h2, R.dfr, fun β' hβ => ⟨(h3 β' hβ).1, (R.all β' hβ).2⟩, fun _ _ q hq => by cases hq⟩
          have R2 := R1.step (o := o) (h' := st.h) (v := v) (y := y) (Agree.refl _ _) (Nat.le_refl _) (fun β' hβ => ⟨(h3 β' hβ).2, (R.all β' hβ).2⟩)
          exact ih true _ seq' ⟨putO fr' o.dst v, st.h⟩ β _ w hp' hag hle ⟨R2.len, R2.dfr, R2.all, fun _ _ q hq => by cases hq⟩ (fun _ => ⟨hS, hsb, hsl⟩) h4 hK
      · have first : ∀ seq', planP E.kf ops f (c && keepsAt E.kf ops i) (listed.setIfInBounds i true) = some seq' → evP E ops h0 k ((i, false) :: seq') st = some out → wpOp E.P ops Q i (fun a' w' => ((c && keepsAt E.kf ops i) = true → HR L w0 βs h0 w → HR L w0 βs h0 w') ∧ wpAnyD E.P .any ops Q (HR L w0 βs h0) (keepsAt E.kf ops) f (c && keepsAt E.kf ops i) (listed.setIfInBounds i true) a' w') a w := by
          intro seq' hp' he
          rw [run_evP] at he
          cases ho : ops[i]? with
          | none => simp [ho] at he
          | some o =>
            simp only [ho, cond_false] at he
            cases hfr : freshS ops h0.nx o st.fr with
            | false => simp [hfr] at he
            | true =>
            simp only [hfr, cond_true] at he
            refine step_loud (h0 := h0) hE R ho he fun β2 st' a' w' h1 h2 h3 h4 h5 => ⟨fun hD hS => ?_, ?_⟩
            · rw [Bool.and_eq_true] at hD
              have hk : keepsO E.kf ops o = true := by simpa only [keepsAt, ho] using hD.2
              obtain ⟨_, hsb, hsl⟩ := hc hD.1
              obtain ⟨g1, g2⟩ := h4 hk hfr hb hsb hsl
              have := ((h3.all β2 (Agree.refl _ _)).2.sub (h := ⟨h0.b, h0.l, h0.nx⟩) g1 g2)
              have e : Agree h0.nx β2 βs := fun i hi => by
                have e1 := hag i hi
                have e2 := h1 i (by omega)
                exact ⟨by rw [e2.1, e1.1], by rw [e2.2, e1.2]⟩
              exact this.agree hb hl e
            · refine ih _ _ seq' st' β2 a' w' hp' (hag.trans h1 hle) (Nat.le_trans hle h2) h3 (fun hcc => ?_) h5 fun β3 st'' a'' w'' g1 g2 g3 g4 => hK β3 st'' a'' w'' (h1.trans g1 h2) (Nat.le_trans h2 g2) g3 g4
              rw [Bool.and_eq_true] at hcc
              have hk : keepsO E.kf ops o = true := by simpa only [keepsAt, ho] using hcc.2
              obtain ⟨hS, hsb, hsl⟩ := hc hcc.1
              obtain ⟨hb', hl'⟩ := h4 hk hfr hb hsb hsl
              have := ((h3.all β2 (Agree.refl _ _)).2.sub (h := ⟨h0.b, h0.l, h0.nx⟩) hb' hl')
              have e : Agree h0.nx β2 βs := fun i hi => by
                have e1 := hag i hi
                have e2 := h1 i (by omega)
                exact ⟨by rw [e2.1, e1.1], by rw [e2.2, e1.2]⟩
              exact ⟨this.agree hb hl e, hb', hl'⟩

        split at hp
        · obtain ⟨seq', hp', rfl⟩ := consP_some hp
          refine ⟨fun h0 => (by rw [h0] at hr; cases hr), fun i' hi' => ?_⟩
          rw [hr] at hi'
          have : i' = i := by simpa using hi'
          subst this
          exact first seq' hp' he
        · rename_i j _
          cases h2 : twoA ops listed i j with
          | false => simp [h2] at hp
          | true =>
            simp only [h2, cond_true] at hp
            obtain ⟨seq', hp', rfl⟩ := consP_some hp
            refine ⟨fun h0 => (by rw [h0] at hr; cases hr), fun i' hi' => ?_⟩
            rw [hr] at hi'
            have hij : i' = i ∨ i' = j := by simpa using hi'
            rcases hij with rfl | rfl
            · exact first seq' hp' he
            · unfold twoA at h2
              cases hoi : ops[i]? with
              | none => simp [hoi] at h2
              | some oi =>
                cases hoj : ops[i']? with
                | none => simp [hoi, hoj] at h2
                | some oj =>
                  simp only [hoi, hoj, Bool.and_eq_true, Bool.not_eq_true'] at h2
                  obtain ⟨⟨⟨⟨hi1, hj1⟩, hne⟩, hr1⟩, hr2⟩ := h2
                  obtain ⟨ti, di, hopi, hgi, hdi⟩ := isAl_spec hi1
                  obtain ⟨tj, dj, hopj, hgj, hdj⟩ := isAl_spec hj1
                  have hr1 := isOne_spec hr1
                  have hr2 := isOne_spec hr2
                  have hdd : di ≠ dj := by
                    intro e
                    rw [hdi, hdj, e] at hne
                    simp at hne
                  have hki : keepsAt E.kf ops i = true := by simp [keepsAt, hoi, keepsO, hopi, keepsOp]
                  have hkj : keepsAt E.kf ops i' = true := by simp [keepsAt, hoj, keepsO, hopj, keepsOp]
                  cases f with
                  | zero =>
                    simp only [planP, hr1] at hp'
                    simp at hp'
                  | succ f' =>
                    simp only [planP, hr1, hki, Bool.and_true] at hp'
                    have hpk : (bif c then pickH E.kf ops (listed.setIfInBounds i true) [i'] else none) = none := by
                      cases c with
                      | false => rfl
                      | true => simp [pickH, hoj, hopj, quietNC, loudOp]
                    rw [hpk] at hp'
                    simp only at hp'
                    obtain ⟨seq'', hp'', rfl⟩ := consP_some hp'
                    rw [run_evP] at he
                    simp only [hoi, cond_false, show freshS ops h0.nx oi st.fr = true from by simp [freshS, hopi], cond_true] at he
                    rw [ev_alloc hopi hgi hdi] at he
                    cases hai : E.al ti with
                    | none => simp [hai] at he
                    | some bi =>
                      simp only [hai] at he
                      rw [run_evP] at he
                      have hfj : ∀ fr, freshS ops h0.nx oj fr = true := fun fr => by simp [freshS, hopj]
                      simp only [hoj, cond_false, hfj, cond_true] at he
                      rw [ev_alloc hopj hgj hdj] at he
                      cases haj : E.al tj with
                      | none => simp [haj] at he
                      | some bj =>
                        simp only [haj] at he
                        obtain ⟨β2, hag2, R2⟩ := swap_alloc hE R (oi := oi) (oj := oj) hai haj hdi hdj hdd
                        have hsub : st.h.b.Sublist ((st.h.nx + 1, tj, bj) :: (st.h.nx, ti, bi) :: st.h.b) := (List.sublist_cons_self _ _).trans (List.sublist_cons_self _ _)
                        have hback : ∀ {β3 : Bt} {h3 : AH} {w3 : World}, c = true → HR L w0 β3 h3 w3 → Agree st.h.nx β β3 → st.h.b.Sublist h3.b → st.h.l.Sublist h3.l → HR L w0 βs h0 w3 := fun {β3 h3 w3} hcc hh h1 hsb2 hsl2 => by
                          obtain ⟨_, hsb, hsl⟩ := hc hcc
                          have := hh.sub (h := ⟨h0.b, h0.l, h0.nx⟩) (hsb.trans hsb2) (hsl.trans hsl2)
                          refine HR.agree (h := h0) hb hl (fun i hi => ?_) this
                          have e1 := hag i hi
                          have e2 := h1 i (by omega)
                          exact ⟨by rw [e2.1, e1.1], by rw [e2.2, e1.2]⟩
                        have hw1 : c = true → HR L w0 βs h0 (w.alloc (.cells (cB β bj).toArray tj)) := fun hcc => by
                          obtain ⟨_, hsb, hsl⟩ := hc hcc
                          have hh := (R.all β (Agree.refl _ _)).2
                          have hh1 : HR L w0 β st.h (w.alloc (.cells (cB β bj).toArray tj)) := ⟨(hh.own.alloc (cB β bj) tj).dropb _ (List.sublist_cons_self _ _), hh.ro⟩
                          exact hback hcc hh1 (Agree.refl _ _) (List.Sublist.refl _) (List.Sublist.refl _)
                        unfold wpOp
                        simp only [hoj]
                        rw [if_pos (by simp [Region.wanted, hgj])]
                        left
                        unfold Oper.wp
                        rw [al_run hE haj hopj β]
                        refine ⟨fun hD _ => hw1 (by rw [Bool.and_eq_true] at hD; exact hD.1), ?_⟩
                        refine ⟨fun h0 => (by rw [hr2] at h0; cases h0), fun i'' hi'' => ?_⟩
                        rw [hr2] at hi''
                        have : i'' = i := by simpa using hi''
                        subst this
                        unfold wpOp
                        simp only [hoi]
                        rw [if_pos (by simp [Region.wanted, hgi])]
                        left
                        unfold Oper.wp
                        rw [al_run hE hai hopi β]
                        have hw2 : c = true → HR L w0 βs h0 ((w.alloc (.cells (cB β bj).toArray tj)).alloc (.cells (cB β bi).toArray ti)) := fun hcc =>
                          hback hcc (R2.all β2 (Agree.refl _ _)).2 hag2 hsub (List.Sublist.refl _)
                        refine ⟨fun hD _ => hw2 (by simp only [Bool.and_eq_true] at hD; exact hD.1.1), ?_⟩
                        rw [hdi, hdj, hkj, hki, Bool.and_true, Bool.and_true, Array.setIfInBounds_comm _ _ (by
                          intro e
                          subst e
                          rw [hoi] at hoj
                          injection hoj with hoj
                          subst hoj
                          rw [hdi] at hdj
                          injection hdj with hdj
                          exact hdd hdj)]
                        simp only [hkj, Bool.and_true] at hp''
                        refine ihs f' (by omega) c _ seq'' _ β2 _ _ hp'' (hag.trans hag2 hle) (by simp only; omega) R2 (fun hcc => ?_) he fun β3 st'' a'' w'' g1 g2 g3 g4 => hK β3 st'' a'' w'' (hag2.trans g1 (by simp only; omega)) (by simp only at g2; omega) g3 g4
                        obtain ⟨_, hsb, hsl⟩ := hc hcc
                        exact ⟨hw2 hcc, hsb.trans hsub, hsl⟩
        · cases hp
end Go.Proofs.Ytjpeplidbodjiaa
