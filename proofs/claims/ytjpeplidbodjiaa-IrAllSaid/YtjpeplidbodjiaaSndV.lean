/- Lists of operations, with what is reckoned ahead of a guard. -/
import Derived.Test.YtjpeplidbodjiaaSndE
namespace Go.Proofs.Ytjpeplidbodjiaa
open Go.RowKit
theorem forceV_eq (v : AV) (k : AV → Out) : forceV v k = k v := by
  cases v with
  | one c => cases c with
    | v x => cases x <;> rfl
    | _ => rfl
  | _ => rfl
theorem putS_eq : ∀ (fr : List AV) (t : Nat) (v : AV) (k : List AV → Out), putS fr t v k = k (putA fr t v)
  | [], _, _, _ => rfl
  | _ :: _, 0, _, _ => rfl
  | x :: r, n + 1, v, k => by simp only [putS, putA]; rw [putS_eq r n v]
def putO (fr : List AV) (d : Option Tmp) (v : AV) : List AV := match d with
  | some t => putA fr t v
  | none => fr
theorem putD_eq (fr : List AV) (d : Option Tmp) (v : AV) (k : List AV → Out) : putD fr d v k = k (putO fr d v) := by
  cases d with
  | none => rfl
  | some t => simp only [putD, forceV_eq, putS_eq, putO]
theorem putA_len : ∀ (fr : List AV) (t : Nat) (v : AV), (putA fr t v).length = fr.length
  | [], _, _ => rfl
  | _ :: _, 0, _ => rfl
  | _ :: r, n + 1, v => by simp [putA, putA_len r n v]
theorem getA_put : ∀ (fr : List AV) (t j : Nat) (v : AV), getA (putA fr t v) j = if j = t ∧ t < fr.length then v else getA fr j
  | [], _, _, _ => by simp [putA]
  | _ :: _, 0, 0, _ => by simp [putA, getA]
  | _ :: _, 0, j + 1, _ => by simp [putA, getA]
  | _ :: _, t + 1, 0, _ => by simp [putA, getA]
  | x :: r, t + 1, j + 1, v => by simp only [putA, getA, getA_put r t j v, List.length_cons, Nat.add_right_cancel_iff, Nat.add_lt_add_iff_right]
theorem getA_out : ∀ (fr : List AV) (j : Nat), fr.length ≤ j → getA fr j = .one .any
  | [], _, _ => rfl
  | _ :: _, 0, h => by simp at h
  | _ :: r, j + 1, h => by simp only [getA]; exact getA_out r j (by simpa using h)
theorem tm_put (tm : Array Value) (t j : Nat) (y : Value) : (tm.setIfInBounds t y).getD j undef = if j = t ∧ t < tm.size then y else tm.getD j undef := by
  simp only [Array.getD_eq_getD_getElem?, Array.getElem?_setIfInBounds]
  by_cases e : t = j
  · subst e
    by_cases h : t < tm.size
    · simp [h]
    · simp [h]
  · rw [if_neg e, if_neg (fun h => e h.1.symm)]
/-- Values ahead of guards. -/
def SPR (β : Bt) (sp : SP) (tm : Array Value) : Prop := ∀ q ∈ sp, (tm.getD q.2.1 undef = .bool q.2.2.1 → RV β q.2.2.2 (tm.getD q.1 undef)) ∧ (tm.getD q.2.1 undef ≠ .bool q.2.2.1 → tm.getD q.1 undef = undef)
structure RelS (L : List Nat) (w0 : World) (β : Bt) (st : AS) (sp : SP) (a : Act) (w : World) : Prop where
  len : st.fr.length = a.tmps.size
  dfr : a.defers = []
  all : ∀ β', Agree st.h.nx β β' → RF β' st.fr a.tmps ∧ HR L w0 β' st.h w
  sp : ∀ β', Agree st.h.nx β β' → SPR β' sp a.tmps
variable {L : List Nat} {w0 w w' : World} {β β2 : Bt} {E : Env} {st : AS} {a : Act} {o : Oper} {v : AV} {h' : AH} {sp : SP} {Q : Exit → Act → World → Prop}
theorem RF.put {fr : List AV} (hf : RF β fr a.tmps) (hl : fr.length = a.tmps.size) (d : Option Tmp) {y : Value} (hv : RV β v y) : RF β (putO fr d v) (a.put d y).tmps := by
  cases d with
  | none => exact hf
  | some t =>
    intro j
    simp only [putO, Act.put, getA_put, tm_put, hl]
    split
    · exact hv
    · exact hf j
theorem putO_len (fr : List AV) (d : Option Tmp) (v : AV) : (putO fr d v).length = fr.length := by cases d <;> simp [putO, putA_len]
theorem put_size (a : Act) (d : Option Tmp) (y : Value) : (a.put d y).tmps.size = a.tmps.size := by cases d <;> simp [Act.put]
theorem put_dfr (a : Act) (d : Option Tmp) (y : Value) : (a.put d y).defers = a.defers := by cases d <;> rfl
theorem mem_trimS {t : Nat} {q : Nat × Nat × Bool × AV} : ∀ {sp : SP}, q ∈ trimS t sp → q ∈ sp ∧ q.1 ≠ t ∧ q.2.1 ≠ t
  | [], h => by simp [trimS] at h
  | (t', d, w, v) :: r, h => by
    simp only [trimS] at h
    cases e : (Nat.beq t t' || Nat.beq t d) with
    | true =>
      simp only [e, cond_true] at h
      obtain ⟨h1, h2⟩ := mem_trimS h
      exact ⟨List.mem_cons_of_mem _ h1, h2⟩
    | false =>
      simp only [e, cond_false] at h
      rcases List.mem_cons.1 h with rfl | h
      · simp only [Bool.or_eq_false_iff] at e
        exact ⟨List.mem_cons_self .., fun h => by have := Nat.ne_of_beq_eq_false e.1; exact this h.symm, fun h => by have := Nat.ne_of_beq_eq_false e.2; exact this h.symm⟩
      · obtain ⟨h1, h2⟩ := mem_trimS h
        exact ⟨List.mem_cons_of_mem _ h1, h2⟩
theorem SPR.put (hs : SPR β sp a.tmps) (d : Option Tmp) (y : Value) : SPR β (trimD d sp) (a.put d y).tmps := by
  cases d with
  | none => exact hs
  | some t =>
    intro q hq
    obtain ⟨h1, h2, h3⟩ := mem_trimS hq
    simp only [Act.put, tm_put]
    rw [if_neg (fun h => h3 h.1), if_neg (fun h => h2 h.1)]
    exact hs q h1
/-- Behind one operation. -/
theorem RelS.step (R : RelS L w0 β st sp a w) (hag : Agree st.h.nx β β2) (hle : st.h.nx ≤ h'.nx) {y : Value} (hall : ∀ β', Agree h'.nx β2 β' → RV β' v y ∧ HR L w0 β' h' w') :
    RelS L w0 β2 ⟨putO st.fr o.dst v, h'⟩ (trimD o.dst sp) (a.put o.dst y) w' :=
  ⟨by simp only [putO_len, put_size]; exact R.len, by rw [put_dfr]; exact R.dfr,
   fun β' hβ => ⟨(R.all β' (hag.trans hβ hle)).1.put R.len _ (hall β' hβ).1, (hall β' hβ).2⟩,
   fun β' hβ => (R.sp β' (hag.trans hβ hle)).put _ _⟩
theorem findS_mem {t d : Nat} {w : Bool} {v : AV} : ∀ {sp : SP}, findS t sp = some (d, w, v) → (t, d, w, v) ∈ sp
  | [], h => by simp [findS] at h
  | (t', d', w', v') :: r, h => by
    simp only [findS] at h
    cases e : Nat.beq t t' with
    | true =>
      simp only [e, cond_true, Option.some.injEq, Prod.mk.injEq] at h
      have := Nat.eq_of_beq_eq_true e
      obtain ⟨rfl, rfl, rfl⟩ := h
      subst this
      exact List.mem_cons_self ..
    | false =>
      simp only [e, cond_false] at h
      exact List.mem_cons_of_mem _ (findS_mem h)
theorem undef_bool (b : Bool) : undef ≠ .bool b := by unfold undef; exact fun h => by cases h
/-- Tags that hold. -/
theorem tags_hold {tm : Array Value} (hs : SPR β sp tm) : ∀ (n d : Nat) (w : Bool), tm.getD d undef = .bool w → ∀ q ∈ tags sp n d w, tm.getD q.1 undef = .bool q.2
  | 0, d, w, h, q, hq => by
    simp only [tags, List.mem_singleton] at hq
    subst hq
    exact h
  | n + 1, d, w, h, q, hq => by
    simp only [tags] at hq
    rcases List.mem_cons.1 hq with rfl | hq
    · exact h
    · cases hf : findS d sp with
      | none => simp [hf] at hq
      | some r =>
        obtain ⟨d', w', v'⟩ := r
        simp only [hf] at hq
        have := (hs _ (findS_mem hf)).2
        have hd : tm.getD d' undef = .bool w' := by
          by_cases e : tm.getD d' undef = .bool w'
          · exact e
          · have := this e
            simp only at this
            rw [this] at h
            exact absurd h (undef_bool w)
        exact tags_hold hs n d' w' hd q hq
theorem beqB_eq {a b : Bool} (h : beqB a b = true) : a = b := by cases a <;> cases b <;> simp_all [beqB]
theorem hasTag_mem {d : Nat} {w : Bool} : ∀ {A : List (Nat × Bool)}, hasTag d w A = true → (d, w) ∈ A
  | [], h => by simp [hasTag] at h
  | (d', w') :: r, h => by
    simp only [hasTag, Bool.or_eq_true, Bool.and_eq_true] at h
    rcases h with ⟨h1, h2⟩ | h
    · have h1 := Nat.eq_of_beq_eq_true h1
      have h2 := beqB_eq h2
      subst h1 h2
      exact List.mem_cons_self ..
    · exact List.mem_cons_of_mem _ (hasTag_mem h)
theorem layS_spec {tm : Array Value} {A : List (Nat × Bool)} (hA : ∀ q ∈ A, tm.getD q.1 undef = .bool q.2) {fr : List AV} (hf : RF β fr tm) (hl : fr.length = tm.size) : ∀ (sp : SP), SPR β sp tm →
    RF β (layS A sp fr) tm ∧ (layS A sp fr).length = tm.size
  | [], _ => ⟨hf, hl⟩
  | (t, d, w, v) :: r, hs => by
    obtain ⟨h1, h2⟩ := layS_spec hA hf hl r (fun q hq => hs q (List.mem_cons_of_mem _ hq))
    simp only [layS]
    cases hd : hasTag d w A with
    | false => exact ⟨h1, h2⟩
    | true =>
      simp only [cond_true]
      refine ⟨fun j => ?_, by rw [putA_len]; exact h2⟩
      rw [getA_put]
      split
      · rename_i hj
        obtain ⟨rfl, _⟩ := hj
        exact (hs _ (List.mem_cons_self ..)).1 (hA _ (hasTag_mem hd))
      · exact h1 j
theorem asB_spec {v : AV} {b : Bool} {y : Value} (h : asB v = some b) (hr : RV β v y) : y = .bool b := by
  unfold asB at h
  split at h
  · simp only [Option.some.injEq] at h
    subst h
    exact hr.resolve_left (by simp)
  · cases h
theorem boolOf {v : AV} {b : Bool} {y : Value} (h : v = .one (.v (.bool b))) (hr : RV β v y) : y = .bool b := by subst h; exact hr.resolve_left (by simp)
theorem under_spec (hf : RF β st.fr a.tmps) (hs : SPR β sp a.tmps) {c x : Operand} {w b : Bool} (hc : a.eval c = .bool w) (h : asB (underS sp st c w x) = some b) : a.eval x = .bool b := by
  have base : asB (evA st x) = some b → a.eval x = .bool b := fun h => asB_spec h (evA_spec hf x)
  unfold underS at h
  split at h
  · rename_i d t
    cases hfd : findS t sp with
    | none =>
      simp only [hfd] at h
      exact asB_spec h (hf t)
    | some r =>
      obtain ⟨d', w', v⟩ := r
      simp only [hfd] at h
      cases e : (Nat.beq d d' && beqB w w') with
      | false => simp [e, asB] at h
      | true =>
        simp only [e, cond_true] at h
        simp only [Bool.and_eq_true] at e
        have e1 := Nat.eq_of_beq_eq_true e.1
        have e2 := beqB_eq e.2
        subst e1 e2
        exact asB_spec h ((hs _ (findS_mem hfd)).1 hc)
  · exact base h
theorem run_pick {c x y : Operand} (hop : o.op = .pick c x y) {b : Bool} (hc : a.eval c = .bool b) : (execOp a.eval o).run E.P w = .ok (.value (if b then a.eval x else a.eval y)) w := by
  simp only [execOp, hop, hc]
  cases b <;> rfl
theorem pick_spec (hf : RF β st.fr a.tmps) (hs : SPR β sp a.tmps) {c x y : Operand} {g : Bool} (h : pickA sp st c x y = some (g, v)) (hg : g = true) :
    ∃ b : Bool, a.eval c = .bool b ∧ RV β v (if b then a.eval x else a.eval y) := by
  unfold pickA at h
  split at h
  · rename_i b hb
    have hc := boolOf hb (evA_spec hf c)
    refine ⟨b, hc, ?_⟩
    cases h1 : asB (underS sp st c true x) with
    | none =>
      cases h2 : asB (underS sp st c false y) with
      | none => simp [h1, h2] at h
      | some q =>
        simp only [h1, h2, Option.some.injEq, Prod.mk.injEq] at h
        obtain ⟨hb', rfl⟩ := h
        have hbf : b = false := by rw [hg] at hb'; simpa using hb'
        subst hbf
        rw [if_neg (by simp), under_spec hf hs hc h2]
        exact .inr rfl
    | some p =>
      cases h2 : asB (underS sp st c false y) with
      | none =>
        simp only [h1, h2, Option.some.injEq, Prod.mk.injEq] at h
        obtain ⟨hb', rfl⟩ := h
        have hbt : b = true := hb'.trans hg
        subst hbt
        rw [if_pos rfl, under_spec hf hs hc h1]
        exact .inr rfl
      | some q =>
        simp only [h1, h2, Option.some.injEq, Prod.mk.injEq] at h
        obtain ⟨_, rfl⟩ := h
        cases b with
        | true => rw [if_pos rfl, under_spec hf hs hc h1]; exact .inr rfl
        | false => rw [if_neg (by simp), under_spec hf hs hc h2]; exact .inr rfl
  · cases h
theorem pure_g {st : AS} {g : Bool} (hp : pureOp st o.op = true) (h : evOp E st o = some (g, v, h')) : g = true := by
  have rv : ∀ {g v h'}, runV E st o = some (g, v, h') → g = true := by
    intro g v h' h
    unfold runV at h
    cases hr : runP E.P (execOp (plainE st) o) with
    | none => simp [hr] at h
    | some nx => cases nx <;> simp [hr] at h; exact h.1
  have bf : ∀ {b : Bool} {x : Option (Bool × AV × AH)} {g v h'}, (bif b then x else none) = some (g, v, h') → x = some (g, v, h') := by
    intro b x g v h' h
    cases b <;> simp at h
    exact h
  unfold evOp at h
  cases hop : o.op with
  | move x => simp only [hop, Option.some.injEq, Prod.mk.injEq] at h; exact h.1.symm
  | binOp b t x y t' =>
    simp only [hop] at h
    have h := bf h
    rw [hop] at hp
    split at h
    · split at h <;> simp at h; exact h.1
    · split at h <;> simp at h; exact h.1
    · simp [pureOp, stopBin] at hp
    · simp [pureOp, stopBin] at hp
    · simp [pureOp, stopBin] at hp
    · simp [pureOp, stopBin] at hp
    · exact rv h
  | unOp b t x => simp only [hop] at h; exact rv (bf h)
  | convert b t x => simp only [hop] at h; exact rv (bf h)
  | field b t x => simp only [hop] at h; exact rv (bf h)
  | fieldAddr t x i =>
    simp only [hop] at h
    cases hfo : fieldOff E.P t i with
    | none => simp [hfo] at h
    | some q =>
      obtain ⟨off, sz⟩ := q
      simp only [hfo] at h
      cases hz : Nat.beq sz 0 with
      | true => simp [hz] at h
      | false =>
        simp only [hz, cond_false] at h
        split at h <;> simp at h <;> exact h.1
  | nilCheck x =>
    simp only [hop] at h
    split at h <;> simp at h <;> exact h.1
  | load t x =>
    simp only [hop, pureOp] at hp h
    split at hp
    · rename_i id off hx
      simp only [hx] at h
      cases hl : look id st.h.b with
      | none => simp [hl] at h
      | some q =>
        obtain ⟨bt, bb⟩ := q
        simp only [hl] at h
        cases hld : ldBB E.P t bb 0 off false with
        | none => simp [hld] at h
        | some v' =>
          simp only [hld] at h
          cases ha : isAny v' with
          | true => simp [ha] at h
          | false =>
            simp only [ha, cond_false, Option.some.injEq, Prod.mk.injEq] at h
            exact h.1.symm
    · cases hp
  | call c =>
    obtain ⟨callee, args, ats⟩ := c
    cases callee with
    | builtin b =>
      cases b with
      | len =>
        simp only [hop] at h
        split at h
        · split at h
          · split at h <;> simp at h; exact h.1
          · simp only [Option.some.injEq, Prod.mk.injEq] at h; exact h.1.symm
          · simp only [Option.some.injEq, Prod.mk.injEq] at h; exact h.1.symm
          · cases h
        · cases h
      | _ => simp [hop, pureOp] at hp
    | _ => simp [hop, pureOp] at hp
  | _ => simp [hop, pureOp] at hp
theorem pure_quiet {st : AS} (hp : pureOp st o.op = true) : quietOp o.op = true := by
  cases hop : o.op with
  | call c =>
    obtain ⟨callee, args, ats⟩ := c
    cases callee with
    | builtin b => cases b <;> first | rfl | (simp [hop, pureOp] at hp; done)
    | _ => simp [hop, pureOp] at hp
  | _ => first | rfl | (simp [hop, pureOp] at hp; done)
/-- A value reckoned under a guard that holds. -/
theorem spec_run (hf : RF β st.fr a.tmps) (hl : st.fr.length = a.tmps.size) (hs : SPR β sp a.tmps) (hh : HR L w0 β st.h w) {d : Nat} {wt : Bool} (hd : a.tmps.getD d undef = .bool wt) (h : specA E st sp d wt o = some v) :
    ∃ y, (execOp a.eval o).run E.P w = .ok (.value y) w ∧ RV β v y := by
  have hA := tags_hold hs 5 d wt hd
  obtain ⟨hf', hl'⟩ := layS_spec hA hf hl sp hs
  unfold specA at h
  split at h
  · rename_i c x y hop
    split at h
    · rename_i v' hp
      simp only [Option.some.injEq] at h
      subst h
      obtain ⟨b, hc, hv⟩ := pick_spec (st := ⟨_, st.h⟩) hf' hs hp rfl
      exact ⟨_, run_pick hop hc, hv⟩
    · cases h
  · cases hp : pureOp ⟨layS (tags sp 5 d wt) sp st.fr, st.h⟩ o.op with
    | false => simp [hp] at h
    | true =>
      simp only [hp, cond_true] at h
      cases he : evOp E ⟨layS (tags sp 5 d wt) sp st.fr, st.h⟩ o with
      | none => simp [he] at h
      | some r =>
        obtain ⟨g, v', h''⟩ := r
        simp only [he, Option.some.injEq] at h
        subst h
        obtain ⟨_, y, hr, hv⟩ := evOp_run (st := ⟨layS (tags sp 5 d wt) sp st.fr, st.h⟩) hf' hh (pure_quiet hp) he (pure_g hp he)
        exact ⟨y, hr, hv⟩
theorem mem_dropD {d : Nat} {q : Nat × Nat × Bool × AV} : ∀ {sp : SP}, q ∈ dropD d sp → q ∈ sp
  | [], h => by simp [dropD] at h
  | (t, d', w, v) :: r, h => by
    simp only [dropD] at h
    cases e : Nat.beq d d' with
    | true => simp only [e, cond_true] at h; exact List.mem_cons_of_mem _ (mem_dropD h)
    | false =>
      simp only [e, cond_false] at h
      rcases List.mem_cons.1 h with rfl | h
      · exact List.mem_cons_self ..
      · exact List.mem_cons_of_mem _ (mem_dropD h)
theorem settle_spec {tm : Array Value} {d : Nat} {b : Bool} (hd : tm.getD d undef = .bool b) {fr : List AV} (hf : RF β fr tm) (hl : fr.length = tm.size) : ∀ (sp : SP), SPR β sp tm → RF β (settle d b sp fr) tm ∧ (settle d b sp fr).length = tm.size
  | [], _ => ⟨hf, hl⟩
  | (t, d', w, v) :: r, hs => by
    obtain ⟨h1, h2⟩ := settle_spec hd hf hl r (fun q hq => hs q (List.mem_cons_of_mem _ hq))
    have hq := hs _ (List.mem_cons_self ..)
    simp only at hq
    have put : ∀ v, RV β v (tm.getD t undef) → RF β (putA (settle d b r fr) t v) tm ∧ (putA (settle d b r fr) t v).length = tm.size := by
      intro v hv
      refine ⟨fun j => ?_, by rw [putA_len]; exact h2⟩
      rw [getA_put]
      split
      · rename_i hj
        rw [hj.1]
        exact hv
      · exact h1 j
    simp only [settle]
    cases e : Nat.beq d d' with
    | false => exact ⟨h1, h2⟩
    | true =>
      have e := Nat.eq_of_beq_eq_true e
      subst e
      simp only [cond_true]
      cases ew : beqB w b with
      | true =>
        have := beqB_eq ew
        subst this
        exact put v (hq.1 hd)
      | false =>
        refine put _ (.inr ?_)
        rw [hq.2 ?_]
        · rfl
        · rw [hd]
          intro e
          injection e with e
          subst e
          cases b <;> simp [beqB] at ew
theorem wanted_iff {ops : Array Oper} {j d : Nat} {w : Bool} {tm : Array Value} (hg : o.guard = some (j, w)) (hs : guardSlot ops j = some d) : Region.wanted o (yielded ops tm) = true ↔ tm.getD d undef = .bool w := by
  unfold guardSlot at hs
  cases ho : ops[j]? with
  | none => simp [ho] at hs
  | some oj =>
    simp only [ho] at hs
    unfold Region.wanted yielded
    simp only [hg, ho, Option.bind_some, hs]
    rw [Array.getD_eq_getD_getElem?]
    cases ht : tm[d]? with
    | none =>
      simp only [Option.getD_none]
      constructor
      · intro h; simp at h
      · intro h; exact absurd h (undef_bool w)
    | some x =>
      simp only [Option.getD_some]
      cases x <;> simp
theorem wpList_skip {ops : Array Oper} {rest : List Oper} (hn : Region.wanted o (yielded ops a.tmps) = false) (h : wpList E.P ops Q rest (a.put o.dst undef) w) : wpList E.P ops Q (o :: rest) a w :=
  wpList_step fun K hK => by rw [if_neg (by simp [hn])]; exact hK _ _ h
theorem RV_undef : RV β (.one (.v undef)) undef := .inr rfl
theorem evVal_wp (hE : E.Sound) (R : Holds L w0 β st a w) {k : AV → AH → Out} {out : AV × AH} (h : evVal E st o k = some out) {K : Act → World → Prop} (hk : ∀ v h', k v h' = some out → Goes L w0 β st a o v h' K) : o.wp E.P a w K Q := by
  unfold evVal at h
  split at h
  · rename_i g args hc
    exact ccOf_wp hE R hc h hk
  · cases he : evOp E st o with
    | none => simp [he] at h
    | some r =>
      obtain ⟨g, v, b, l, nx⟩ := r
      simp only [he] at h
      cases hg : g with
      | false => simp [hg] at h
      | true =>
        simp only [hg, cond_true] at h
        exact evOp_wp (Q := Q) hE R he hg K (hk v _ (splitV_spec h))
theorem evOps_wp (hE : E.Sound) {ops : Array Oper} {k : AS → Out} {out : AV × AH} : ∀ (l : List Oper) (st : AS) (sp : SP) (β : Bt) (a : Act) (w : World), RelS L w0 β st sp a w → evOps E ops l st sp k = some out →
    (∀ β2 st' a' w', Agree st.h.nx β β2 → st.h.nx ≤ st'.h.nx → RelS L w0 β2 st' [] a' w' → k st' = some out → Q .normal a' w') → wpList E.P ops Q l a w
  | [], st, sp, β, a, w, R, h, hK => by
    refine wpList_nil (hK β st a w (Agree.refl _ _) (Nat.le_refl _) ⟨R.len, R.dfr, R.all, fun _ _ => fun q hq => by cases hq⟩ ?_)
    simpa [evOps] using h
  | o :: rest, st, sp, β, a, w, R, h, hK => by
    -- one operation that is carried out
    have one : ∀ (st : AS) (sp sp' : SP), (∀ q ∈ sp', q ∈ trimD o.dst sp) → RelS L w0 β st sp a w → Region.wanted o (yielded ops a.tmps) = true → evOne E st o (fun st' => evOps E ops rest st' sp' k) = some out →
        (∀ β2 st' a' w', Agree st.h.nx β β2 → st.h.nx ≤ st'.h.nx → RelS L w0 β2 st' [] a' w' → k st' = some out → Q .normal a' w') → wpList E.P ops Q (o :: rest) a w := by
      intro st sp sp' hsub R hwant h hK
      unfold evOne at h
      refine wpList_want hwant fun K hKK => evVal_wp (Q := Q) hE R.all h fun v h' h y w' β2 hag hle hall => hKK _ _ ?_
      simp only [putD_eq] at h
      have R' := R.step (o := o) hag hle hall
      refine evOps_wp hE rest _ sp' β2 _ w' ⟨R'.len, R'.dfr, R'.all, fun β' hβ q hq => R'.sp β' hβ q (hsub q hq)⟩ h fun β3 st' a' w'' h1 h2 h3 h4 => ?_
      exact hK β3 st' a' w'' (hag.trans h1 hle) (Nat.le_trans hle h2) h3 h4
    -- one that is passed over
    have skip : ∀ (st : AS) (sp sp' : SP), (∀ q ∈ sp', q ∈ trimD o.dst sp) → RelS L w0 β st sp a w → Region.wanted o (yielded ops a.tmps) = false → evOps E ops rest ⟨putO st.fr o.dst (.one (.v undef)), st.h⟩ sp' k = some out →
        (∀ β2 st' a' w', Agree st.h.nx β β2 → st.h.nx ≤ st'.h.nx → RelS L w0 β2 st' [] a' w' → k st' = some out → Q .normal a' w') → wpList E.P ops Q (o :: rest) a w := by
      intro st sp sp' hsub R hwant h hK
      refine wpList_skip hwant ?_
      have R' := R.step (o := o) (v := .one (.v undef)) (y := undef) (Agree.refl _ _) (Nat.le_refl _) (fun β' hβ => ⟨RV_undef, (R.all β' hβ).2⟩)
      exact evOps_wp hE rest _ sp' β _ w ⟨R'.len, R'.dfr, R'.all, fun β' hβ q hq => R'.sp β' hβ q (hsub q hq)⟩ h hK
    simp only [evOps] at h
    cases hgd : o.guard with
    | none =>
      simp only [hgd] at h
      have hwant : Region.wanted o (yielded ops a.tmps) = true := by simp [Region.wanted, hgd]
      by_cases hp : ∃ c x y, o.op = .pick c x y
      · obtain ⟨c, x, y, hop⟩ := hp
        simp only [hop] at h
        cases hpk : pickA sp st c x y with
        | none => simp [hpk] at h
        | some r =>
          obtain ⟨g, v⟩ := r
          simp only [hpk] at h
          cases hg : g with
          | false => simp [hg] at h
          | true =>
            simp only [hg, cond_true, putD_eq] at h
            obtain ⟨hf, hh⟩ := R.all β (Agree.refl _ _)
            obtain ⟨b, hc, hv⟩ := pick_spec hf (R.sp β (Agree.refl _ _)) hpk hg
            refine wpList_val hwant (run_pick hop hc) ?_
            refine evOps_wp hE rest _ _ β _ w (R.step (Agree.refl _ _) (Nat.le_refl _) fun β' hβ => ⟨?_, (R.all β' hβ).2⟩) h hK
            obtain ⟨b', hc', hv'⟩ := pick_spec (R.all β' hβ).1 (R.sp β' hβ) hpk hg
            rw [hc] at hc'
            injection hc' with e
            subst e
            exact hv'
      · have h' : evOne E st o (fun st' => evOps E ops rest st' (trimD o.dst sp) k) = some out := by
          cases hop : o.op <;> first | (simpa only [hop] using h) | (exact absurd ⟨_, _, _, hop⟩ hp)
        exact one st sp _ (fun _ h => h) R hwant h' hK
    | some jw =>
      obtain ⟨j, wt⟩ := jw
      simp only [hgd] at h
      cases hgs : guardSlot ops j with
      | none => simp [hgs] at h
      | some d =>
        cases hdst : o.dst with
        | none => simp [hgs, hdst] at h
        | some t =>
          simp only [hgs, hdst] at h
          have hw := wanted_iff (tm := a.tmps) hgd hgs
          obtain ⟨fr0, hh0⟩ := st
          have main : ∀ (r : Nat) (fr : List AV) (sp : SP), RelS L w0 β ⟨fr, hh0⟩ sp a w → evG E o d t wt (fun st' sp' => evOps E ops rest st' sp' k) r ⟨fr, hh0⟩ sp = some out → wpList E.P ops Q (o :: rest) a w := by
            intro r
            induction r with
            | zero => intro fr sp R h; simp [evG] at h
            | succ r ihr =>
              intro fr sp R h
              simp only [evG] at h
              have lit : ∀ (d : Nat) (b : Bool), a.tmps.getD d undef = .bool b → RelS L w0 β ⟨settle d b sp (putA fr d (.one (.v (.bool b)))), hh0⟩ (dropD d sp) a w := by
                intro d b hd
                have hp : ∀ β', Agree hh0.nx β β' → RF β' (putA fr d (.one (.v (.bool b)))) a.tmps := by
                  intro β' hβ i
                  rw [getA_put]
                  split
                  · rename_i hj
                    rw [hj.1, hd]
                    exact .inr rfl
                  · exact (R.all β' hβ).1 i
                refine ⟨(settle_spec hd (hp β (Agree.refl _ _)) (by rw [putA_len]; exact R.len) sp (R.sp β (Agree.refl _ _))).2, R.dfr, fun β' hβ => ⟨(settle_spec hd (hp β' hβ) (by rw [putA_len]; exact R.len) sp (R.sp β' hβ)).1, (R.all β' hβ).2⟩, fun β' hβ q hq => R.sp β' hβ q (mem_dropD hq)⟩
              cases hsp : specA E ⟨fr, hh0⟩ sp d wt o with
              | some v =>
                simp only [hsp] at h
                cases hb : (Nat.beq t d || Nat.ble fr.length t) with
                | true => simp [hb] at h
                | false =>
                  simp only [hb, cond_false, forceV_eq, putS_eq] at h
                  simp only [Bool.or_eq_false_iff] at hb
                  have htd : t ≠ d := Nat.ne_of_beq_eq_false hb.1
                  have htl : t < a.tmps.size := by
                    rw [← R.len]
                    rcases Nat.lt_or_ge t fr.length with h1 | h1
                    · exact h1
                    · have h2 : Nat.ble fr.length t = true := by rw [Nat.ble_eq]; exact h1
                      rw [h2] at hb
                      exact absurd hb.2 (by simp)
                  have rel : ∀ y, (∀ β', Agree hh0.nx β β' → (a.tmps.getD d undef = .bool wt → RV β' v y) ∧ (a.tmps.getD d undef ≠ .bool wt → y = undef)) → RelS L w0 β ⟨putA fr t (.one .any), hh0⟩ ((t, d, wt, v) :: trimS t sp) (a.put (some t) y) w := by
                    intro y hy
                    refine ⟨by simp only [putA_len, put_size]; exact R.len, by rw [put_dfr]; exact R.dfr, fun β' hβ => ⟨(R.all β' hβ).1.put R.len (some t) (.inl rfl), (R.all β' hβ).2⟩, fun β' hβ => ?_⟩
                    intro q hq
                    rcases List.mem_cons.1 hq with rfl | hq
                    · simp only [Act.put, tm_put]
                      rw [if_neg (fun h => htd h.1.symm), if_pos ⟨trivial, htl⟩]
                      exact hy β' hβ
                    · exact (R.sp β' hβ).put (some t) y q hq
                  by_cases hd : a.tmps.getD d undef = .bool wt
                  · obtain ⟨hf, hh⟩ := R.all β (Agree.refl _ _)
                    obtain ⟨y, hr, hv⟩ := spec_run hf R.len (R.sp β (Agree.refl _ _)) hh hd hsp
                    refine wpList_val (hw.2 hd) hr ?_
                    rw [hdst]
                    refine evOps_wp hE rest _ _ β _ w (rel y fun β' hβ => ⟨fun _ => ?_, fun hn => absurd hd hn⟩) h hK
                    obtain ⟨y', hr', hv'⟩ := spec_run (R.all β' hβ).1 R.len (R.sp β' hβ) (R.all β' hβ).2 hd hsp
                    rw [hr] at hr'
                    injection hr' with e
                    injection e with e
                    subst e
                    exact hv'
                  · have hn : Region.wanted o (yielded ops a.tmps) = false := by
                      cases e : Region.wanted o (yielded ops a.tmps) with
                      | false => rfl
                      | true => exact absurd (hw.1 e) hd
                    refine wpList_skip hn ?_
                    rw [hdst]
                    exact evOps_wp hE rest _ _ β _ w (rel undef fun β' hβ => ⟨fun h => absurd h hd, fun _ => rfl⟩) h hK
              | none =>
                simp only [hsp] at h
                cases hfs : findS d sp with
                | some q =>
                  obtain ⟨d', w', v'⟩ := q
                  simp only [hfs] at h
                  split at h
                  · rename_i b hfs' hb
                    have hd : a.tmps.getD d' undef = .bool b := boolOf hb ((R.all β (Agree.refl _ _)).1 d')
                    have R' := lit d' b hd
                    cases b with
                    | true => simp only [cond_true] at h; exact ihr _ _ R' h
                    | false => simp only [cond_false] at h; exact ihr _ _ R' h
                  · cases h
                | none =>
                  simp only [hfs] at h
                  have hfd := fun β' hβ => (R.all β' hβ).1 d
                  have sub : ∀ q ∈ trimS t (dropD d sp), q ∈ trimD o.dst (dropD d sp) := by rw [hdst]; exact fun _ h => h
                  split at h
                  · rename_i _ b hb
                    have hd : a.tmps.getD d undef = .bool b := boolOf hb (hfd β (Agree.refl _ _))
                    have wtrue : b = wt → Region.wanted o (yielded ops a.tmps) = true := fun e => hw.2 (by rw [hd, e])
                    have wfalse : b ≠ wt → Region.wanted o (yielded ops a.tmps) = false := fun e => by
                      cases e' : Region.wanted o (yielded ops a.tmps) with
                      | false => rfl
                      | true => have := hw.1 e'; rw [hd] at this; injection this with this; exact absurd this e
                    have R' := lit d b hd
                    cases b with
                    | true =>
                      simp only [cond_true] at h
                      cases wt with
                      | true =>
                        simp only [cond_true] at h
                        exact one _ _ _ sub R' (wtrue rfl) h hK
                      | false =>
                        simp only [cond_false, putS_eq] at h
                        exact skip _ _ _ sub R' (wfalse (by simp)) (by rw [hdst]; exact h) hK
                    | false =>
                      simp only [cond_false] at h
                      cases wt with
                      | true =>
                        simp only [cond_true, putS_eq] at h
                        exact skip _ _ _ sub R' (wfalse (by simp)) (by rw [hdst]; exact h) hK
                      | false =>
                        simp only [cond_false] at h
                        exact one _ _ _ sub R' (wtrue rfl) h hK
                  · rename_i _ tup hb
                    have hd : a.tmps.getD d undef = .tuple tup := by
                      have := hfd β (Agree.refl _ _)
                      rw [hb] at this
                      exact this.resolve_left (by simp)
                    have hn : Region.wanted o (yielded ops a.tmps) = false := by
                      cases e' : Region.wanted o (yielded ops a.tmps) with
                      | false => rfl
                      | true => have := hw.1 e'; rw [hd] at this; cases this
                    simp only [putS_eq] at h
                    exact skip ⟨fr, hh0⟩ sp _ (by rw [hdst]; exact fun _ h => h) R hn (by rw [hdst]; exact h) hK
                  · cases h
          exact main 4 fr0 sp R h
end Go.Proofs.Ytjpeplidbodjiaa
