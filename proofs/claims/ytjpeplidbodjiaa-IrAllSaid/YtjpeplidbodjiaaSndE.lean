/- Operations that make or turn memory, and calls. -/
import Derived.Test.YtjpeplidbodjiaaSndM
namespace Go.Proofs.Ytjpeplidbodjiaa
open Go.RowKit
/-- What a callee's entry in the environment must be. -/
def CallS (P : Program) (f : FuncId) (ca : List AV → AH → Option (Bool × AV × AH)) : Prop :=
  (∀ (vals : Array Value) (w : World), (callFunc f vals).run P w = .ok (.enter f vals) w) ∧
  ∀ (args : List AV) (h : AH) (v : AV) (h' : AH), ca args h = some (true, v, h') →
    ∀ (L : List Nat) (w0 : World) (β : Bt) (w : World) (vals : List Value), vals.length = args.length → Begin L w0 β args h vals w → Calls P f vals.toArray w (After L w0 β h v h')
/-- .. of a quiet callee. -/
def CallQ (P : Program) (f : FuncId) (q : List AV → AH → Option (Bool × AV)) : Prop :=
  (∀ (vals : Array Value) (w : World), (callFunc f vals).run P w = .ok (.enter f vals) w) ∧
  ∀ (args : List AV) (h : AH) (v : AV), q args h = some (true, v) →
    (∃ y, ∀ β, RV β v y ∧ v ≠ .one .any) ∧
    ∀ (L : List Nat) (w0 : World) (β : Bt) (w : World) (vals : List Value), vals.length = args.length → Begin L w0 β args h vals w →
      Calls P f vals.toArray w fun e w' => e = .returned (cA β v) ∧ Below w.heap.size w w'
/-- .. of a callee that is reckoned in place. -/
def CcS (P : Program) (f : FuncId) (g : List AV → AH → (AV → AH → Out) → Out) : Prop :=
  (∀ (vals : Array Value) (w : World), (callFunc f vals).run P w = .ok (.enter f vals) w) ∧
  ∀ (args : List AV) (h : AH) (k : AV → AH → Out) (out : AV × AH), g args h k = some out →
    ∀ (L : List Nat) (w0 : World) (β : Bt) (w : World) (vals : List Value), vals.length = args.length → Begin L w0 β args h vals w → Calls P f vals.toArray w fun e w' =>
      ∃ y β2 v h', e = .returned y ∧ Agree h.nx β β2 ∧ h.nx ≤ h'.nx ∧ (∀ β', Agree h'.nx β2 β' → RV β' v y ∧ HR L w0 β' h' w') ∧ k v h' = some out
structure Env.Sound (E : Env) : Prop where
  qu : ∀ f args h r, E.q f args h = some r → CallQ E.P f (E.q f)
  al : ∀ t bb, E.al t = some bb → ∀ β, zc E.P t = some (cB β bb)
  ca : ∀ f args h r, E.ca f args h = some r → CallS E.P f (E.ca f)
  kp : ∀ f args h g v h', E.kf f = true → E.ca f args h = some (g, v, h') → h.b.Sublist h'.b ∧ h.l.Sublist h'.l
  cc : ∀ f g, E.cc f = some g → CcS E.P f g ∧ E.kf f = false
theorem over_set {α : Type} {id : Nat} {x y : α} : ∀ {l : List (Nat × α)}, look id l = some x → ∃ i, l[i]? = some (id, x) ∧ over id y l = l.set i (id, y)
  | [], h => by simp [look] at h
  | (j, z) :: r, h => by
    simp only [look] at h
    cases e : Nat.beq id j with
    | true =>
      simp only [e, cond_true, Option.some.injEq] at h
      have := Nat.eq_of_beq_eq_true e
      subst this h
      exact ⟨0, rfl, by simp [over]⟩
    | false =>
      simp only [e, cond_false] at h
      obtain ⟨i, h1, h2⟩ := over_set (y := y) h
      exact ⟨i + 1, by simpa using h1, by simp [over, e, h2]⟩
variable {L : List Nat} {w0 w : World} {β : Bt} {E : Env} {st : AS} {a : Act} {o : Oper} {v : AV} {h' : AH} {Q : Exit → Act → World → Prop}
theorem HR.store {h : AH} (hh : HR L w0 β h w) {id : Nat} {bt : TypeId} {bb bb' : BB} (hl : look id h.b = some (bt, bb)) {off : Nat} {vs : List Value} (hle : off + vs.length ≤ (cB β bb).length) (he : cB β bb' = putAt (cB β bb) off vs) :
    HR L w0 β ⟨over id (bt, bb') h.b, h.l, h.nx⟩ (w.setCells (β.b id) off vs) := by
  obtain ⟨i, h1, h2⟩ := over_set (y := (bt, bb')) hl
  have hi : (bsO β h.b)[i]? = some ⟨β.b id, bt, cB β bb⟩ := by simp [bsO, h1]
  have hm := List.mem_of_getElem? hi
  have := hh.own.update hi (grownBy_setCells (β.b id) vs off w) (heap_setCells _ _ vs off _ w (hh.own.blk _ hm) hle)
  refine ⟨?_, hh.ro⟩
  simp only [h2]
  have e : bsO β (h.b.set i (id, bt, bb')) = (bsO β h.b).set i ⟨β.b id, bt, putAt (cB β bb) off vs⟩ := by
    simp [bsO, List.map_set, he]
  rw [e]
  exact this
theorem run_skip {s : Sem Unit} {P : Program} {w w' : World} (h : s.run P w = .ok () w') : (do s; pure Next.skip : Sem Next).run P w = .ok .skip w' := by
  rw [Sem.run_bind, h]; rfl
theorem st_mach {P : Program} {h : AH} (hh : HR L w0 β h w) {id : Nat} {bt t : TypeId} {bb : BB} (hl : look id h.b = some (bt, bb)) {off : Nat} {y : Value} {vs : List Value} (hy : y.cells = vs.toArray) (hn : (P.info? t).map (·.size) = some vs.length) (h1 : vs.all (·.oneCell') = true)
    (hle : off + vs.length ≤ (cB β bb).length) : (Instr.storeAt t (.pointer (some ⟨β.b id, off, none⟩)) y).run P w = .ok () (w.setCells (β.b id) off vs) :=
  run_storeN hh.own hy hn h1 (b := ⟨β.b id, bt, cB β bb⟩) (List.mem_map.2 ⟨_, look_mem hl, rfl⟩) hle
theorem store_wp {t : TypeId} {x y : Operand} (hop : o.op = .store t x y) (R : ∀ β', Agree st.h.nx β β' → RF β' st.fr a.tmps ∧ HR L w0 β' st.h w) {id : Nat} {bt : TypeId} {bb bb' : BB} (hl : look id st.h.b = some (bt, bb)) {k j : Nat} {via : Bool}
    (hst : stBB E.P t bb k j via (evA st y) = some bb') (hb : via = true → k < bb.n ∧ j < bb.sz) (hx : ∀ β', Agree st.h.nx β β' → a.eval x = .pointer (some ⟨β'.b id, (if via then k * bb.sz + j else j), none⟩))
    {K : Act → World → Prop} (hK : ∀ y w' β2, Agree st.h.nx β β2 → (∀ β', Agree st.h.nx β2 β' → RV β' (.one .any) y ∧ HR L w0 β' ⟨over id (bt, bb') st.h.b, st.h.l, st.h.nx⟩ w') → K (a.put o.dst y) w') : o.wp E.P a w K Q := by
  have hrun : ∀ β', Agree st.h.nx β β' → ∃ vs : List Value, (execOp a.eval o).run E.P w = .ok .skip (w.setCells (β'.b id) (if via then k * bb.sz + j else j) vs) ∧ HR L w0 β' ⟨over id (bt, bb') st.h.b, st.h.l, st.h.nx⟩ (w.setCells (β'.b id) (if via then k * bb.sz + j else j) vs) := by
    intro β' hβ
    obtain ⟨hf, hh⟩ := R β' hβ
    obtain ⟨vs, h1, h2, h3, h4, h5⟩ := st_run (β := β') hst hb
    have hne : evA st y ≠ .one .any := by
      intro e
      rw [e] at hst
      cases bb with
      | cells cs => cases via <;> simp [stBB, cellsA, okC] at hst
      | bools m n f => simp [stBB] at hst
      | row sh n f o => cases via <;> simp [stBB] at hst
    have hy : a.eval y = cA β' (evA st y) := (evA_spec hf y).resolve_left hne
    refine ⟨vs, ?_, hh.store hl h4 h5⟩
    simp only [execOp, hop, hx β' hβ, hy]
    exact run_skip (st_mach hh hl h1 h2 h3 h4)
  obtain ⟨vs, hr, _⟩ := hrun β (Agree.refl _ _)
  unfold Oper.wp
  rw [hr]
  refine hK undef _ β (Agree.refl _ _) fun β' hβ => ⟨.inl rfl, ?_⟩
  obtain ⟨vs', hr', hh'⟩ := hrun β' hβ
  rw [hr] at hr'
  injection hr' with _ e
  rw [e]
  exact hh'
theorem map_args : ∀ (args : List Operand) (i : Nat) (x : AV) (y : Value), (args.map (evA st))[i]? = some x → (args.map a.eval)[i]? = some y → RF β st.fr a.tmps → RV β x y := by
  intro args i x y hx hy hf
  rw [List.getElem?_map] at hx hy
  cases h : args[i]? with
  | none => simp [h] at hx
  | some q =>
    simp only [h, Option.map_some, Option.some.injEq] at hx hy
    subst hx hy
    exact evA_spec hf q
theorem calleeF_spec (hf : RF β st.fr a.tmps) {x : Operand} {f : FuncId} {vs : List AV} (h : calleeF st x = some (f, vs)) : a.eval x = .func (.func f) #[] (vs.map (cA1 β)).toArray ∧ vs.all baseA = true := by
  have key : (match evA st x with
    | .one (.v (.func (.func f) p q)) => bif p.isEmpty && q.isEmpty then some (f, []) else none
    | .clo f vs => bif vs.all baseA then some (f, vs) else none
    | _ => none) = some (f, vs) → a.eval x = .func (.func f) #[] (vs.map (cA1 β)).toArray ∧ vs.all baseA = true := by
    intro h
    split at h
    · rename_i f' p q hx
      cases hc : (p.isEmpty && q.isEmpty) with
      | false => simp [hc] at h
      | true =>
        simp only [hc, cond_true, Option.some.injEq, Prod.mk.injEq] at h
        simp only [Bool.and_eq_true, Array.isEmpty_iff] at hc
        rw [ptr_of hf hx (by simp), hc.1, hc.2, h.1, ← h.2]
        exact ⟨rfl, rfl⟩
    · rename_i f' vs' hx
      cases hb : vs'.all baseA with
      | false => simp [hb] at h
      | true =>
        simp only [hb, cond_true, Option.some.injEq, Prod.mk.injEq] at h
        obtain ⟨rfl, rfl⟩ := h
        have := evA_spec hf x
        rw [hx] at this
        exact ⟨this.resolve_left (by simp), hb⟩
    · cases h
  cases x with
  | func f' =>
    simp only [calleeF, Option.some.injEq, Prod.mk.injEq] at h
    rw [h.1, ← h.2]
    exact ⟨rfl, rfl⟩
  | _ => exact key h
theorem evOp_wp (hE : E.Sound) {g : Bool} (R : Holds L w0 β st a w) (h : evOp E st o = some (g, v, h')) (hg : g = true) (K : Act → World → Prop) (hK : Goes L w0 β st a o v h' K) : o.wp E.P a w K Q := by
  by_cases hq : quietOp o.op = true
  · obtain ⟨hf, hh⟩ := R β (Agree.refl _ _)
    obtain ⟨rfl, y, hr, hv⟩ := evOp_run hf hh hq h hg
    unfold Oper.wp
    rw [hr]
    refine hK y w β (Agree.refl _ _) (Nat.le_refl _) fun β' hβ => ?_
    obtain ⟨hf', hh'⟩ := R β' hβ
    obtain ⟨_, y', hr', hv'⟩ := evOp_run hf' hh' hq h hg
    rw [hr] at hr'
    injection hr' with e
    injection e with e
    subst e
    exact ⟨hv', hh'⟩
  · unfold evOp at h
    cases hop : o.op with
    | alloc t =>
      simp only [hop] at h
      cases ha : E.al t with
      | none => simp [ha] at h
      | some bb =>
        simp only [ha, Option.some.injEq, Prod.mk.injEq] at h
        obtain ⟨_, rfl, rfl⟩ := h
        have hz := hE.al t bb ha
        obtain ⟨z, hzv, hzr⟩ := run_zero (P := E.P) (w := w) (hz β)
        have hr : (execOp a.eval o).run E.P w = .ok (.value (.pointer (some ⟨w.heap.size, 0, none⟩))) (w.alloc (.cells (cB β bb).toArray t)) := by
          simp only [execOp, hop, Instr.alloc, Sem.run_bind, hzr, Result.andThen_ok, run_newVar_any, hzv, Sem.run_pure]
        unfold Oper.wp
        rw [hr]
        refine hK _ _ ⟨fun i => if i = st.h.nx then w.heap.size else β.b i, β.l⟩ (fun i hi => ⟨if_neg (by omega), rfl⟩) (Nat.le_succ _) fun β' hβ => ?_
        have hnew : β'.b st.h.nx = w.heap.size := by rw [(hβ st.h.nx (Nat.lt_succ_self _)).1]; simp
        have hold : Agree st.h.nx β β' := fun i hi => by
          obtain ⟨h1, h2⟩ := hβ i (Nat.lt_succ_of_lt hi)
          exact ⟨h1.trans (if_neg (by omega)), h2⟩
        obtain ⟨_, hh⟩ := R β' hold
        refine ⟨.inr (by simp [cA, cA0, cC, hnew]), ⟨?_, hh.ro⟩⟩
        have hc : cB β bb = cB β' bb := Option.some.inj ((hz β).symm.trans (hz β'))
        have := hh.own.alloc (cB β' bb) t
        rw [hc]
        simpa [bsO, hnew] using this
    | box t x =>
      simp only [hop] at h
      cases hc : cellsA (evA st x) with
      | none => simp [hc] at h
      | some cs =>
        simp only [hc] at h
        cases ho : cs.all okC with
        | false => simp [ho] at h
        | true =>
          simp only [ho, cond_true, Option.some.injEq, Prod.mk.injEq] at h
          obtain ⟨_, rfl, rfl⟩ := h
          have hne : evA st x ≠ .one .any := by
            intro e
            rw [e] at hc
            simp only [cellsA, Option.some.injEq] at hc
            subst hc
            simp [okC] at ho
          have hcells : ∀ β', Agree st.h.nx β β' → (a.eval x).cells = (cs.map (cC β')).toArray := by
            intro β' hβ
            rw [(evA_spec (R β' hβ).1 x).resolve_left hne]
            exact (cellsA_spec β' hc ho).1
          have hr : (execOp a.eval o).run E.P w = .ok (.value (.pointer (some ⟨w.heap.size, 0, none⟩))) (w.alloc (.cells (a.eval x).cells t)) := by
            simp only [execOp, hop, Instr.box, Sem.run_bind, run_newVar_any, Result.andThen_ok, Sem.run_pure]
          unfold Oper.wp
          rw [hr]
          refine hK _ _ ⟨fun i => if i = st.h.nx then w.heap.size else β.b i, β.l⟩ (fun i hi => ⟨if_neg (by omega), rfl⟩) (Nat.le_succ _) fun β' hβ => ?_
          have hnew : β'.b st.h.nx = w.heap.size := by rw [(hβ st.h.nx (Nat.lt_succ_self _)).1]; simp
          have hold : Agree st.h.nx β β' := fun i hi => by
            obtain ⟨h1, h2⟩ := hβ i (Nat.lt_succ_of_lt hi)
            exact ⟨h1.trans (if_neg (by omega)), h2⟩
          obtain ⟨_, hh⟩ := R β' hold
          refine ⟨.inr (by simp [cA, cA0, cC, hnew]), ⟨?_, hh.ro⟩⟩
          have := hh.own.alloc (cs.map (cC β')) t
          rw [hcells β' hold]
          simpa [bsO, hnew, cB] using this
    | store t x y =>
      simp only [hop] at h
      cases hx : evA st x with
      | one c =>
        cases c with
        | pt id off =>
          simp only [hx] at h
          cases hl : look id st.h.b with
          | none => simp [hl] at h
          | some q =>
            obtain ⟨bt, bb⟩ := q
            simp only [hl] at h
            cases hst : stBB E.P t bb 0 off false (evA st y) with
            | none => simp [hst] at h
            | some bb' =>
              simp only [hst, Option.some.injEq, Prod.mk.injEq] at h
              obtain ⟨_, rfl, rfl⟩ := h
              refine store_wp hop R hl hst (by intro h; cases h) (fun β' hβ => ?_) fun y w' β2 h1 h2 => hK y w' β2 h1 (Nat.le_refl _) h2
              rw [ptr_of (R β' hβ).1 hx (by simp)]
              simp [cC]
        | el l id sz k j =>
          cases l with
          | true =>
            simp only [hx] at h
            cases hl : look id st.h.l with
            | none => simp [hl] at h
            | some lb =>
              simp only [hl] at h
              cases hs : (lb.own && Nat.beq sz lb.bb.sz) with
              | false => simp [hs] at h
              | true =>
                simp only [hs, cond_true] at h
                rw [Bool.and_eq_true, Nat.beq_eq] at hs
                obtain ⟨ho, rfl⟩ := hs
                cases hst : stBB E.P t lb.bb k j true (evA st y) with
                | none => simp [hst] at h
                | some bb' =>
                  simp only [hst, Option.some.injEq, Prod.mk.injEq] at h
                  obtain ⟨hgg, rfl, rfl⟩ := h
                  rw [hg, Bool.and_eq_true, decide_eq_true_eq, decide_eq_true_eq] at hgg
                  refine lstore_wp hop R hl ho hst hgg (fun β' hβ => ?_) hK
                  rw [ptr_of (R β' hβ).1 hx (by simp)]
                  simp [cC]
          | false =>
            simp only [hx] at h
            cases hl : look id st.h.b with
            | none => simp [hl] at h
            | some q =>
              obtain ⟨bt, bb⟩ := q
              simp only [hl] at h
              cases hs : Nat.beq sz bb.sz with
              | false => simp [hs] at h
              | true =>
                simp only [hs, cond_true] at h
                have hs := Nat.eq_of_beq_eq_true hs
                subst hs
                cases hst : stBB E.P t bb k j true (evA st y) with
                | none => simp [hst] at h
                | some bb' =>
                  simp only [hst, Option.some.injEq, Prod.mk.injEq] at h
                  obtain ⟨hgg, rfl, rfl⟩ := h
                  rw [hg, Bool.and_eq_true, decide_eq_true_eq, decide_eq_true_eq] at hgg
                  refine store_wp hop R hl hst (fun _ => hgg) (fun β' hβ => ?_) fun y w' β2 h1 h2 => hK y w' β2 h1 (Nat.le_refl _) h2
                  rw [ptr_of (R β' hβ).1 hx (by simp)]
                  simp [cC]
        | _ => simp [hx] at h
      | _ => simp [hx] at h
    | call c =>
      obtain ⟨callee, args, ats⟩ := c
      cases callee with
      | builtin b =>
        cases b with
        | append => simp only [hop] at h; exact evMore_wp R h hg hK
        | _ => simp [hop, quietOp] at hq
      | invoke r m => simp [hop, evMore] at h
      | value x =>
        simp only [hop] at h
        cases hcf' : calleeF st x with
        | none => simp [hcf'] at h
        | some fvs =>
          obtain ⟨f, vs⟩ := fvs
          simp only [hcf'] at h
          cases hc : E.ca f (args.toList.map (evA st) ++ vs) st.h with
          | none => simp [hc] at h
          | some q =>
            obtain ⟨g', v', h''⟩ := q
            simp only [hc, Option.some.injEq, Prod.mk.injEq] at h
            obtain ⟨rfl, rfl, rfl⟩ := h
            obtain ⟨hcf, hcs⟩ := hE.ca _ _ _ _ hc
            rw [hg] at hc
            have hcalls := hcs _ _ _ _ hc
            obtain ⟨hfv, hbase⟩ := calleeF_spec (R β (Agree.refl _ _)).1 hcf'
            have hr : (execOp a.eval o).run E.P w = .ok (.enter f (args.toList.map a.eval ++ vs.map (cA1 β)).toArray) w := by
              have hm : (args.toList.map a.eval ++ vs.map (cA1 β)).toArray = args.map a.eval ++ (vs.map (cA1 β)).toArray := by
                apply Array.ext'
                rw [Array.toList_append, Array.toList_map]
              rw [hm]
              simp only [execOp, hop, resolve, hfv, Deferred.ofValue, Sem.run_bind, Sem.run_pure, Result.andThen_ok, invoke]
              simpa using hcf (args.map a.eval ++ (vs.map (cA1 β)).toArray) w
            unfold Oper.wp
            rw [hr, Oper.upon_enter]
            refine (hcalls L w0 β w (args.toList.map a.eval ++ vs.map (cA1 β)) (by simp) (fun β' hβ => ⟨fun i x y hx hy => ?_, (R β' hβ).2⟩)).mono ?_
            · by_cases hi : i < args.toList.length
              · rw [List.getElem?_append_left (by simpa using hi)] at hx hy
                exact map_args args.toList i x y hx hy (R β' hβ).1
              · rw [List.getElem?_append_right (by simpa using hi)] at hx hy
                have hxl : (args.toList.map (evA st)).length = (args.toList.map a.eval).length := by rw [List.length_map, List.length_map]
                rw [hxl] at hx
                rw [List.getElem?_map, hx] at hy
                simp only [Option.map_some, Option.some.injEq] at hy
                have hxb := List.all_eq_true.1 hbase x (List.mem_of_getElem? hx)
                have e1 := (calleeF_spec (R β' hβ).1 hcf').1
                rw [hfv] at e1
                injection e1 with _ _ e1
                have e2 : vs.map (cA1 β) = vs.map (cA1 β') := by simpa using e1
                have e3 := List.map_inj_left.1 e2 x (List.mem_of_getElem? hx)
                right
                rw [← hy, e3, baseA_cA hxb]
            rintro e w' ⟨y, β2, rfl, hag, hle, hall⟩
            exact hK y w' β2 hag hle hall
    | buildSlice t len ps => simp only [hop] at h; exact evMore_wp R h hg hK
    | makeSlice t x y => simp only [hop] at h; exact evMore_wp R h hg hK
    | slice t x lo hi mx => simp only [hop] at h; exact evMore_wp R h hg hK
    | _ => first | (simp [hop, quietOp] at hq; done) | (simp [hop, evMore] at h; done)
theorem ccOf_wp (hE : E.Sound) {g : List AV → AH → (AV → AH → Out) → Out} {args : List AV} (R : Holds L w0 β st a w) (hc : ccOf E st o.op = some (g, args)) {k : AV → AH → Out} {out : AV × AH} (h : g args st.h k = some out) {K : Act → World → Prop}
    (hk : ∀ v h', k v h' = some out → Goes L w0 β st a o v h' K) : o.wp E.P a w K Q := by
  cases hop : o.op with
  | call c =>
    obtain ⟨callee, as, ats⟩ := c
    cases callee with
    | value x =>
      simp only [hop, ccOf] at hc
      cases hcf' : calleeF st x with
      | none => simp [hcf'] at hc
      | some fvs =>
        obtain ⟨f, vs⟩ := fvs
        simp only [hcf'] at hc
        cases hcc : E.cc f with
        | none => simp [hcc] at hc
        | some g' =>
          simp only [hcc, Option.some.injEq, Prod.mk.injEq] at hc
          obtain ⟨rfl, rfl⟩ := hc
          obtain ⟨⟨hcf, hcs⟩, _⟩ := hE.cc _ _ hcc
          have hcalls := hcs _ _ _ _ h
          obtain ⟨hfv, hbase⟩ := calleeF_spec (R β (Agree.refl _ _)).1 hcf'
          have hr : (execOp a.eval o).run E.P w = .ok (.enter f (as.toList.map a.eval ++ vs.map (cA1 β)).toArray) w := by
            have hm : (as.toList.map a.eval ++ vs.map (cA1 β)).toArray = as.map a.eval ++ (vs.map (cA1 β)).toArray := by
              apply Array.ext'
              rw [Array.toList_append, Array.toList_map]
            rw [hm]
            simp only [execOp, hop, resolve, hfv, Deferred.ofValue, Sem.run_bind, Sem.run_pure, Result.andThen_ok, invoke]
            simpa using hcf (as.map a.eval ++ (vs.map (cA1 β)).toArray) w
          unfold Oper.wp
          rw [hr, Oper.upon_enter]
          refine (hcalls L w0 β w (as.toList.map a.eval ++ vs.map (cA1 β)) (by simp) (fun β' hβ => ⟨fun i x y hx hy => ?_, (R β' hβ).2⟩)).mono ?_
          · by_cases hi : i < as.toList.length
            · rw [List.getElem?_append_left (by simpa using hi)] at hx hy
              exact map_args as.toList i x y hx hy (R β' hβ).1
            · rw [List.getElem?_append_right (by simpa using hi)] at hx hy
              have hxl : (as.toList.map (evA st)).length = (as.toList.map a.eval).length := by rw [List.length_map, List.length_map]
              rw [hxl] at hx
              rw [List.getElem?_map, hx] at hy
              simp only [Option.map_some, Option.some.injEq] at hy
              have hxb := List.all_eq_true.1 hbase x (List.mem_of_getElem? hx)
              have e1 := (calleeF_spec (R β' hβ).1 hcf').1
              rw [hfv] at e1
              injection e1 with _ _ e1
              have e2 : vs.map (cA1 β) = vs.map (cA1 β') := by simpa using e1
              have e3 := List.map_inj_left.1 e2 x (List.mem_of_getElem? hx)
              right
              rw [← hy, e3, baseA_cA hxb]
          rintro e w' ⟨y, β2, v, h', rfl, hag, hle, hall, hkk⟩
          exact hk v h' hkk y w' β2 hag hle hall
    | _ => simp [hop, ccOf] at hc
  | _ => simp [hop, ccOf] at hc
end Go.Proofs.Ytjpeplidbodjiaa
