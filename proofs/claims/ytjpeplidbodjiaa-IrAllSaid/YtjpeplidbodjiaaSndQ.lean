/- Regions that draw their order. -/
import Derived.Test.YtjpeplidbodjiaaSndV
import Derived.StillTail
namespace Go.Proofs.Ytjpeplidbodjiaa
open Go.RowKit
variable {L : List Nat} {w0 w w' w1 : World} {β β2 : Bt} {E : Env} {st : AS} {a : Act} {o : Oper} {v : AV} {h h' : AH} {sp : SP} {fr : List AV} {Q : Exit → Act → World → Prop}
theorem HR.below (hh : HR L w0 β h w) (hb : Below w.heap.size w w') : HR L w0 β h w' := ⟨hh.own.below hb, hh.ro⟩
theorem HR.draw (hh : HR L w0 β h w) (n : Nat) : HR L w0 β h { w with drawn := n } := ⟨hh.own.draw n, hh.ro⟩
theorem constA_any (x : Value) : isAny (constA x) = false := by cases x <;> rfl
theorem runV_any {g : Bool} (h : runV E st o = some (g, v, h')) : isAny v = false := by
  unfold runV at h
  cases hr : runP E.P (execOp (plainE st) o) with
  | none => simp [hr] at h
  | some nx =>
    cases nx <;> simp [hr] at h
    rw [← h.2.1]
    exact constA_any _
theorem evOp_any {g : Bool} (hq : quietOp o.op = true) (h : evOp E st o = some (g, .one .any, h')) : ∃ x, o.op = .move x ∨ o.op = .assign x := by
  have bf : ∀ {b : Bool} {x : Option (Bool × AV × AH)}, (bif b then x else none) = some (g, .one .any, h') → x = some (g, .one .any, h') := by
    intro b x h
    cases b <;> simp at h
    exact h
  have nv : ∀ {g : Bool} {h'}, runV E st o ≠ some (g, .one .any, h') := by
    intro g h' h
    have := runV_any h
    simp [isAny] at this
  unfold evOp at h
  cases hop : o.op with
  | move x => exact ⟨x, .inl rfl⟩
  | assign x => exact ⟨x, .inr rfl⟩
  | binOp b t x y t' =>
    simp only [hop] at h
    have h := bf h
    split at h
    · split at h <;> simp at h
    · split at h <;> simp at h
    · simp at h
    · simp at h
    · have h := bf h; simp at h
    · have h := bf h; simp at h
    · exact absurd h nv
  | unOp b t x => simp only [hop] at h; exact absurd (bf h) nv
  | convert b t x => simp only [hop] at h; exact absurd (bf h) nv
  | field b t x => simp only [hop] at h; exact absurd (bf h) nv
  | index b t x =>
    simp only [hop] at h
    split at h
    · split at h <;> simp at h
    · split at h
      · split at h
        · have h := bf h
          simp at h
        · cases h
      · cases h
    · exact absurd (bf h) nv
  | build t ps =>
    simp only [hop] at h
    split at h
    · split at h
      · split at h <;> simp at h
      · cases h
    · cases h
  | load t x =>
    simp only [hop] at h
    split at h
    · split at h
      · split at h
        · rename_i v' _
          cases ha : isAny v' with
          | true => simp [ha] at h
          | false =>
            simp only [ha, cond_false, Option.some.injEq, Prod.mk.injEq] at h
            rw [h.2.1] at ha
            simp [isAny] at ha
        · cases h
      · cases h
    · split at h
      · have h := bf h
        split at h
        · rename_i v' _
          cases ha : isAny v' with
          | true => simp [ha] at h
          | false =>
            simp only [ha, cond_false, Option.some.injEq, Prod.mk.injEq] at h
            rw [h.2.1] at ha
            simp [isAny] at ha
        · cases h
      · cases h
    · split at h
      · have h := bf h
        split at h
        · rename_i v' _
          cases ha : isAny v' with
          | true => simp [ha] at h
          | false =>
            simp only [ha, cond_false, Option.some.injEq, Prod.mk.injEq] at h
            rw [h.2.1] at ha
            simp [isAny] at ha
        · cases h
      · cases h
    · cases h
  | fieldAddr t x i =>
    simp only [hop] at h
    split at h
    · rename_i off sz _
      cases hz : Nat.beq sz 0 with
      | true => simp [hz] at h
      | false =>
        simp only [hz, cond_false] at h
        split at h <;> simp at h
    · cases h
  | nilCheck x =>
    simp only [hop] at h
    split at h <;> simp at h
  | extract x i =>
    simp only [hop] at h
    split at h
    · rename_i vs _
      cases h2 : (Nat.blt i vs.length && notTup (getA vs i) && !isAny (getA vs i)) with
      | false => simp [h2] at h
      | true =>
        simp only [h2, cond_true, Option.some.injEq, Prod.mk.injEq] at h
        simp only [Bool.and_eq_true, Bool.not_eq_true'] at h2
        rw [h.2.1] at h2
        simp [isAny] at h2
    · cases h
  | indexAddr t x i =>
    simp only [hop] at h
    split at h
    · split at h
      · have h := bf h
        split at h
        · split at h
          · split at h <;> simp at h
          · have h := bf h; simp at h
          · cases h
        · split at h <;> simp at h
        · have h := bf h; simp at h
        · cases h
      · have h := bf h
        split at h
        · split at h
          · have h := bf h; simp at h
          · cases h
        · have h := bf h
          split at h
          · rename_i g' c' hsl
            simp only [Option.some.injEq, Prod.mk.injEq, AV.one.injEq] at h
            obtain ⟨_, rfl, _⟩ := h
            unfold slAt at hsl
            split at hsl
            · split at hsl <;> simp at hsl
            · simp at hsl
          · cases h
        · cases h
      · cases h
    · cases h
  | call c =>
    obtain ⟨callee, args, ats⟩ := c
    cases callee with
    | builtin b =>
      cases b with
      | len =>
        simp only [hop] at h
        split at h
        · split at h
          · split at h <;> simp at h
          · simp at h
          · simp at h
          · cases h
        · cases h
      | min => simp only [hop] at h; exact absurd (bf h) nv
      | max => simp only [hop] at h; exact absurd (bf h) nv
      | append => simp [hop, quietOp] at hq
      | _ => simp [hop, evMore] at h
    | value f => simp [hop, quietOp] at hq
    | invoke r m => simp [hop, evMore] at h
  | makeFunc fn first caps =>
    cases fn with
    | func f =>
      simp only [hop] at h
      have h := bf h
      simp at h
    | _ => simp [hop, evMore] at h
  | _ => first | (simp [hop, quietOp] at hq; done) | (simp [hop, evMore] at h; done)
/-- The worlds in which just this is owned. -/
def Cls (L : List Nat) (w0 : World) (β : Bt) (h : AH) (w : World) : Prop := ∀ β', Agree h.nx β β' → HR L w0 β' h w
theorem ccOf_still {st : AS} (op : Op) : ccOf E.still st op = none := by
  cases op with
  | call c =>
    obtain ⟨callee, as, ats⟩ := c
    cases callee with
    | value x =>
      simp only [ccOf, Env.still]
      cases calleeF st x with
      | none => rfl
      | some q => rfl
    | _ => rfl
  | _ => rfl
theorem still_quiet (hs : loudOp E.qf o.op = false) : quietOp o.op = true ∨ ∃ f args ats, o.op = .call ⟨.value (.func f), args, ats⟩ := by
  cases hop : o.op with
  | call c =>
    obtain ⟨callee, args, ats⟩ := c
    cases callee with
    | value f =>
      right
      cases f with
      | func f => exact ⟨f, args, ats, rfl⟩
      | _ => simp [hop, loudOp] at hs
    | builtin b =>
      cases b with
      | append => simp [hop, loudOp] at hs
      | _ => exact .inl rfl
    | _ => exact .inl rfl
  | _ => first | exact .inl rfl | (simp [hop, loudOp] at hs; done)
theorem evOp_quiet (hE : E.Sound) {g : Bool} (hs : loudOp E.qf o.op = false) (hf : ∀ β', Agree h.nx β β' → RF β' fr a.tmps) (hw : Cls L w0 β h w1) (he : evOp E.still ⟨fr, h⟩ o = some (g, v, h')) (hg : g = true) :
    h' = h ∧ ∃ y, (∀ w, Cls L w0 β h w → o.quietAt E.P a (Cls L w0 β h) w y) ∧ ∀ β', Agree h.nx β β' → RV β' v y := by
  rcases still_quiet hs with hq | ⟨f, args, ats, hop⟩
  · have run : ∀ β' w, Agree h.nx β β' → Cls L w0 β h w → h' = h ∧ ∃ y, (execOp a.eval o).run E.P w = .ok (.value y) w ∧ RV β' v y :=
      fun β' w hβ hc => evOp_run (E := E.still) (st := ⟨fr, h⟩) (hf β' hβ) (hc β' hβ) hq he hg
    obtain ⟨e, y, hr, hv⟩ := run β w1 (Agree.refl _ _) hw
    have same : ∀ w, Cls L w0 β h w → (execOp a.eval o).run E.P w = .ok (.value y) w := by
      intro w hc
      obtain ⟨_, y', hr', hv'⟩ := run β w (Agree.refl _ _) hc
      by_cases hany : v = .one .any
      · subst hany
        obtain ⟨x, hx | hx⟩ := evOp_any hq he <;>
        · have : ∀ w, (execOp a.eval o).run E.P w = .ok (.value (a.eval x)) w := fun w => by simp only [execOp, hx]; rfl
          rw [this w1] at hr
          rw [this w]
          injection hr with hr
          injection hr with hr
          rw [hr]
      · rw [hr', hv'.resolve_left hany, ← hv.resolve_left hany]
    refine ⟨e, y, fun w hc => ?_, fun β' hβ => ?_⟩
    · unfold Oper.quietAt
      rw [same w hc]
      exact ⟨rfl, rfl⟩
    · obtain ⟨_, y', hr', hv'⟩ := run β' w1 hβ hw
      rw [hr] at hr'
      injection hr' with hr'
      injection hr' with hr'
      rw [hr']
      exact hv'
  · unfold evOp at he
    simp only [hop, calleeF, List.append_nil] at he
    cases hc : E.still.ca f (args.toList.map (evA ⟨fr, h⟩)) h with
    | none => simp [hc] at he
    | some r =>
      obtain ⟨g', v', h''⟩ := r
      simp only [hc, Option.some.injEq, Prod.mk.injEq] at he
      obtain ⟨rfl, rfl, rfl⟩ := he
      subst hg
      simp only [Env.still] at hc
      cases hq : E.q f (args.toList.map (evA ⟨fr, h⟩)) h with
      | none => simp [hq] at hc
      | some v'' =>
        obtain ⟨g'', v''⟩ := v''
        have hc' : g'' = true ∧ v'' = v' ∧ h = h'' := by
          have := hc
          simp only [hq, Option.some.injEq, Prod.mk.injEq] at this
          exact this
        obtain ⟨rfl, rfl, rfl⟩ := hc'
        obtain ⟨hcf, hcs⟩ := hE.qu _ _ _ _ hq
        obtain ⟨⟨y, hy⟩, hcalls⟩ := hcs _ _ _ hq
        refine ⟨rfl, y, fun w hc => ?_, fun β' _ => (hy β').1⟩
        have hr : (execOp a.eval o).run E.P w = .ok (.enter f (args.toList.map a.eval).toArray) w := by
          have hm : (args.toList.map a.eval).toArray = args.map a.eval := by rw [← Array.toList_map, Array.toArray_toList]
          have hfv : a.eval (.func f) = .func (.func f) #[] #[] := rfl
          rw [hm]
          simp only [execOp, hop, resolve, hfv, Deferred.ofValue, Sem.run_bind, Sem.run_pure, Result.andThen_ok, invoke]
          simpa using hcf (args.map a.eval) w
        unfold Oper.quietAt
        rw [hr]
        refine ⟨rfl, (hcalls L w0 β w (args.toList.map a.eval) (by simp) (fun β' hβ => ⟨fun i x y hx hy => map_args (st := ⟨fr, h⟩) args.toList i x y hx hy (hf β' hβ), hc β' hβ⟩)).mono ?_⟩
        rintro e w'' ⟨rfl, hb⟩
        refine ⟨?_, fun β' hβ => (hc β' hβ).below hb⟩
        rw [(hy β).1.resolve_left (hy β).2]
structure RelQ (L : List Nat) (w0 : World) (β : Bt) (h : AH) (fr : List AV) (sp : SP) (a : Act) : Prop where
  len : fr.length = a.tmps.size
  dfr : a.defers = []
  rf : ∀ β', Agree h.nx β β' → RF β' fr a.tmps
  sp : ∀ β', Agree h.nx β β' → SPR β' sp a.tmps
theorem RelQ.step (R : RelQ L w0 β h fr sp a) {y : Value} (hv : ∀ β', Agree h.nx β β' → RV β' v y) : RelQ L w0 β h (putO fr o.dst v) (trimD o.dst sp) (a.put o.dst y) :=
  ⟨by simp only [putO_len, put_size]; exact R.len, by rw [put_dfr]; exact R.dfr, fun β' hβ => (R.rf β' hβ).put R.len _ (hv β' hβ), fun β' hβ => (R.sp β' hβ).put _ _⟩
theorem wpQuiet_want {P : Program} {ops : Array Oper} {C : World → Prop} {K : Act → Prop} {rest : List Oper} (hn : Region.wanted o (yielded ops a.tmps) = true) {y : Value} (h1 : ∀ w, C w → o.quietAt P a C w y) (h2 : wpQuiet P ops C K rest (a.put o.dst y)) : wpQuiet P ops C K (o :: rest) a :=
  wpQuiet_step fun K' hK => by rw [if_pos hn]; exact ⟨y, h1, hK _ h2⟩
theorem wpQuiet_skp {P : Program} {ops : Array Oper} {C : World → Prop} {K : Act → Prop} {rest : List Oper} (hn : Region.wanted o (yielded ops a.tmps) = false) (h2 : wpQuiet P ops C K rest (a.put o.dst undef)) : wpQuiet P ops C K (o :: rest) a :=
  wpQuiet_step fun K' hK => by rw [if_neg (by simp [hn])]; exact hK _ h2
theorem evOps_quiet (hE : E.Sound) {ops : Array Oper} {k : AS → Out} {out : AV × AH} {K : Act → Prop} (hw : Cls L w0 β h w1) : ∀ (l : List Oper) (fr : List AV) (sp : SP) (a : Act), (∀ o ∈ l, loudOp E.qf o.op = false) → RelQ L w0 β h fr sp a → evOps E.still ops l ⟨fr, h⟩ sp k = some out →
    (∀ fr' a', RelQ L w0 β h fr' [] a' → k ⟨fr', h⟩ = some out → K a') → wpQuiet E.P ops (Cls L w0 β h) K l a
  | [], fr, sp, a, _, R, he, hK => wpQuiet_nil (hK fr a ⟨R.len, R.dfr, R.rf, fun _ _ q hq => by cases hq⟩ (by simpa [evOps] using he))
  | o :: rest, fr, sp, a, hl, R, he, hK => by
    have hlo := hl o (List.mem_cons_self ..)
    have hlr := fun o ho => hl o (List.mem_cons_of_mem _ ho)
    have one : ∀ (fr : List AV) (sp sp' : SP), (∀ q ∈ sp', q ∈ trimD o.dst sp) → RelQ L w0 β h fr sp a → Region.wanted o (yielded ops a.tmps) = true → evOne E.still ⟨fr, h⟩ o (fun st' => evOps E.still ops rest st' sp' k) = some out →
        wpQuiet E.P ops (Cls L w0 β h) K (o :: rest) a := by
      intro fr sp sp' hsub R hwant he
      unfold evOne evVal at he
      rw [ccOf_still] at he
      simp only at he
      cases hev : evOp E.still ⟨fr, h⟩ o with
      | none => simp [hev] at he
      | some r =>
        obtain ⟨g, v, b, l, nx⟩ := r
        simp only [hev] at he
        cases hg : g with
        | false => simp [hg] at he
        | true =>
          simp only [hg, cond_true] at he
          replace he := splitV_spec he
          simp only [putD_eq] at he
          obtain ⟨e, y, h1, h2⟩ := evOp_quiet hE hlo R.rf hw hev hg
          rw [e] at he
          refine wpQuiet_want hwant h1 ?_
          have R' := R.step (o := o) h2
          exact evOps_quiet hE hw rest _ sp' _ hlr ⟨R'.len, R'.dfr, R'.rf, fun β' hβ q hq => R'.sp β' hβ q (hsub q hq)⟩ he hK
    have skip : ∀ (fr : List AV) (sp sp' : SP), (∀ q ∈ sp', q ∈ trimD o.dst sp) → RelQ L w0 β h fr sp a → Region.wanted o (yielded ops a.tmps) = false → evOps E.still ops rest ⟨putO fr o.dst (.one (.v undef)), h⟩ sp' k = some out →
        wpQuiet E.P ops (Cls L w0 β h) K (o :: rest) a := by
      intro fr sp sp' hsub R hwant he
      have R' := R.step (o := o) (v := .one (.v undef)) (y := undef) (fun β' _ => RV_undef)
      exact wpQuiet_skp hwant (evOps_quiet hE hw rest _ sp' _ hlr ⟨R'.len, R'.dfr, R'.rf, fun β' hβ q hq => R'.sp β' hβ q (hsub q hq)⟩ he hK)
    have runq : ∀ {y : Value}, (∀ w, Cls L w0 β h w → (execOp a.eval o).run E.P w = .ok (.value y) w) → ∀ w, Cls L w0 β h w → o.quietAt E.P a (Cls L w0 β h) w y := by
      intro y hr w hc
      unfold Oper.quietAt
      rw [hr w hc]
      exact ⟨rfl, rfl⟩
    simp only [evOps] at he
    cases hgd : o.guard with
    | none =>
      simp only [hgd] at he
      have hwant : Region.wanted o (yielded ops a.tmps) = true := by simp [Region.wanted, hgd]
      by_cases hp : ∃ c x y, o.op = .pick c x y
      · obtain ⟨c, x, y, hop⟩ := hp
        simp only [hop] at he
        cases hpk : pickA sp ⟨fr, h⟩ c x y with
        | none => simp [hpk] at he
        | some r =>
          obtain ⟨g, v⟩ := r
          simp only [hpk] at he
          cases hg : g with
          | false => simp [hg] at he
          | true =>
            simp only [hg, cond_true, putD_eq] at he
            obtain ⟨b, hc, hv⟩ := pick_spec (st := ⟨fr, h⟩) (R.rf β (Agree.refl _ _)) (R.sp β (Agree.refl _ _)) hpk hg
            refine wpQuiet_want hwant (runq fun w _ => run_pick hop hc) ?_
            refine evOps_quiet hE hw rest _ _ _ hlr (R.step fun β' hβ => ?_) he hK
            obtain ⟨b', hc', hv'⟩ := pick_spec (st := ⟨fr, h⟩) (R.rf β' hβ) (R.sp β' hβ) hpk hg
            rw [hc] at hc'
            injection hc' with e
            subst e
            exact hv'
      · have h' : evOne E.still ⟨fr, h⟩ o (fun st' => evOps E.still ops rest st' (trimD o.dst sp) k) = some out := by
          cases hop : o.op <;> first | (simpa only [hop] using he) | (exact absurd ⟨_, _, _, hop⟩ hp)
        exact one fr sp _ (fun _ h => h) R hwant h'
    | some jw =>
      obtain ⟨j, wt⟩ := jw
      simp only [hgd] at he
      cases hgs : guardSlot ops j with
      | none => simp [hgs] at he
      | some d =>
        cases hdst : o.dst with
        | none => simp [hgs, hdst] at he
        | some t =>
          simp only [hgs, hdst] at he
          have hwi := wanted_iff (tm := a.tmps) hgd hgs
          have main : ∀ (r : Nat) (fr : List AV) (sp : SP), RelQ L w0 β h fr sp a → evG E.still o d t wt (fun st' sp' => evOps E.still ops rest st' sp' k) r ⟨fr, h⟩ sp = some out → wpQuiet E.P ops (Cls L w0 β h) K (o :: rest) a := by
            intro r
            induction r with
            | zero => intro fr sp R he; simp [evG] at he
            | succ r ihr =>
              intro fr sp R he
              simp only [evG] at he
              have lit : ∀ (d : Nat) (b : Bool), a.tmps.getD d undef = .bool b → RelQ L w0 β h (settle d b sp (putA fr d (.one (.v (.bool b))))) (dropD d sp) a := by
                intro d b hd
                have hp : ∀ β', Agree h.nx β β' → RF β' (putA fr d (.one (.v (.bool b)))) a.tmps := by
                  intro β' hβ i
                  rw [getA_put]
                  split
                  · rename_i hj
                    rw [hj.1, hd]
                    exact .inr rfl
                  · exact R.rf β' hβ i
                refine ⟨(settle_spec hd (hp β (Agree.refl _ _)) (by rw [putA_len]; exact R.len) sp (R.sp β (Agree.refl _ _))).2, R.dfr, fun β' hβ => (settle_spec hd (hp β' hβ) (by rw [putA_len]; exact R.len) sp (R.sp β' hβ)).1, fun β' hβ q hq => R.sp β' hβ q (mem_dropD hq)⟩
              cases hsp : specA E.still ⟨fr, h⟩ sp d wt o with
              | some v =>
                simp only [hsp] at he
                cases hb : (Nat.beq t d || Nat.ble fr.length t) with
                | true => simp [hb] at he
                | false =>
                  simp only [hb, cond_false, forceV_eq, putS_eq] at he
                  simp only [Bool.or_eq_false_iff] at hb
                  have htd : t ≠ d := Nat.ne_of_beq_eq_false hb.1
                  have htl : t < a.tmps.size := by
                    rw [← R.len]
                    rcases Nat.lt_or_ge t fr.length with h1 | h1
                    · exact h1
                    · have h2 : Nat.ble fr.length t = true := by rw [Nat.ble_eq]; exact h1
                      rw [h2] at hb
                      exact absurd hb.2 (by simp)
                  have rel : ∀ y, (∀ β', Agree h.nx β β' → (a.tmps.getD d undef = .bool wt → RV β' v y) ∧ (a.tmps.getD d undef ≠ .bool wt → y = undef)) → RelQ L w0 β h (putA fr t (.one .any)) ((t, d, wt, v) :: trimS t sp) (a.put (some t) y) := by
                    intro y hy
                    refine ⟨by simp only [putA_len, put_size]; exact R.len, by rw [put_dfr]; exact R.dfr, fun β' hβ => (R.rf β' hβ).put R.len (some t) (.inl rfl), fun β' hβ => ?_⟩
                    intro q hq
                    rcases List.mem_cons.1 hq with rfl | hq
                    · simp only [Act.put, tm_put]
                      rw [if_neg (fun h => htd h.1.symm), if_pos ⟨trivial, htl⟩]
                      exact hy β' hβ
                    · exact (R.sp β' hβ).put (some t) y q hq
                  by_cases hd : a.tmps.getD d undef = .bool wt
                  · have run : ∀ β' w, Agree h.nx β β' → Cls L w0 β h w → ∃ y, (execOp a.eval o).run E.P w = .ok (.value y) w ∧ RV β' v y :=
                      fun β' w hβ hc => spec_run (E := E.still) (st := ⟨fr, h⟩) (R.rf β' hβ) R.len (R.sp β' hβ) (hc β' hβ) hd hsp
                    obtain ⟨y, hr, hv⟩ := run β w1 (Agree.refl _ _) hw
                    have same : ∀ w, Cls L w0 β h w → (execOp a.eval o).run E.P w = .ok (.value y) w := by
                      intro w hc
                      obtain ⟨y', hr', hv'⟩ := run β w (Agree.refl _ _) hc
                      by_cases hany : v = .one .any
                      · subst hany
                        -- only a move hands on a value of which nothing is known
                        unfold specA at hsp
                        split at hsp
                        · rename_i c x y0 hop
                          split at hsp
                          · rename_i v' hpk
                            simp only [Option.some.injEq] at hsp
                            subst hsp
                            exfalso
                            unfold pickA at hpk
                            split at hpk
                            · split at hpk <;> simp at hpk
                            · cases hpk
                          · cases hsp
                        · cases hp : pureOp ⟨layS (tags sp 5 d wt) sp fr, h⟩ o.op with
                          | false => simp [hp] at hsp
                          | true =>
                            simp only [hp, cond_true] at hsp
                            cases hev : evOp E.still ⟨layS (tags sp 5 d wt) sp fr, h⟩ o with
                            | none => simp [hev] at hsp
                            | some r =>
                              obtain ⟨g, v', h''⟩ := r
                              simp only [hev, Option.some.injEq] at hsp
                              subst hsp
                              obtain ⟨x, hx | hx⟩ := evOp_any (pure_quiet hp) hev <;>
                              · have : ∀ w, (execOp a.eval o).run E.P w = .ok (.value (a.eval x)) w := fun w => by simp only [execOp, hx]; rfl
                                rw [this w1] at hr
                                rw [this w]
                                injection hr with hr
                                injection hr with hr
                                rw [hr]
                      · rw [hr', hv'.resolve_left hany, ← hv.resolve_left hany]
                    refine wpQuiet_want (hwi.2 hd) (runq same) ?_
                    rw [hdst]
                    refine evOps_quiet hE hw rest _ _ _ hlr (rel y fun β' hβ => ⟨fun _ => ?_, fun hn => absurd hd hn⟩) he hK
                    obtain ⟨y', hr', hv'⟩ := run β' w1 hβ hw
                    rw [hr] at hr'
                    injection hr' with e
                    injection e with e
                    subst e
                    exact hv'
                  · have hn : Region.wanted o (yielded ops a.tmps) = false := by
                      cases e : Region.wanted o (yielded ops a.tmps) with
                      | false => rfl
                      | true => exact absurd (hwi.1 e) hd
                    refine wpQuiet_skp hn ?_
                    rw [hdst]
                    exact evOps_quiet hE hw rest _ _ _ hlr (rel undef fun β' hβ => ⟨fun h => absurd h hd, fun _ => rfl⟩) he hK
              | none =>
                simp only [hsp] at he
                cases hfs : findS d sp with
                | some q =>
                  obtain ⟨d', w', v'⟩ := q
                  simp only [hfs] at he
                  split at he
                  · rename_i b hfs' hb
                    have hd : a.tmps.getD d' undef = .bool b := boolOf hb (R.rf β (Agree.refl _ _) d')
                    have R' := lit d' b hd
                    cases b with
                    | true => simp only [cond_true] at he; exact ihr _ _ R' he
                    | false => simp only [cond_false] at he; exact ihr _ _ R' he
                  · cases he
                | none =>
                  simp only [hfs] at he
                  have hfd := fun β' hβ => (R.rf β' hβ) d
                  have sub : ∀ q ∈ trimS t (dropD d sp), q ∈ trimD o.dst (dropD d sp) := by rw [hdst]; exact fun _ h => h
                  split at he
                  · rename_i _ b hb
                    have hd : a.tmps.getD d undef = .bool b := boolOf hb (hfd β (Agree.refl _ _))
                    have wtrue : b = wt → Region.wanted o (yielded ops a.tmps) = true := fun e => hwi.2 (by rw [hd, e])
                    have wfalse : b ≠ wt → Region.wanted o (yielded ops a.tmps) = false := fun e => by
                      cases e' : Region.wanted o (yielded ops a.tmps) with
                      | false => rfl
                      | true => have := hwi.1 e'; rw [hd] at this; injection this with this; exact absurd this e
                    have R' := lit d b hd
                    cases b with
                    | true =>
                      simp only [cond_true] at he
                      cases wt with
                      | true =>
                        simp only [cond_true] at he
                        exact one _ _ _ sub R' (wtrue rfl) he
                      | false =>
                        simp only [cond_false, putS_eq] at he
                        exact skip _ _ _ sub R' (wfalse (by simp)) (by rw [hdst]; exact he)
                    | false =>
                      simp only [cond_false] at he
                      cases wt with
                      | true =>
                        simp only [cond_true, putS_eq] at he
                        exact skip _ _ _ sub R' (wfalse (by simp)) (by rw [hdst]; exact he)
                      | false =>
                        simp only [cond_false] at he
                        exact one _ _ _ sub R' (wtrue rfl) he
                  · rename_i _ tup hb
                    have hd : a.tmps.getD d undef = .tuple tup := by
                      have := hfd β (Agree.refl _ _)
                      rw [hb] at this
                      exact this.resolve_left (by simp)
                    have hn : Region.wanted o (yielded ops a.tmps) = false := by
                      cases e' : Region.wanted o (yielded ops a.tmps) with
                      | false => rfl
                      | true => have := hwi.1 e'; rw [hd] at this; cases this
                    simp only [putS_eq] at he
                    exact skip fr sp _ (by rw [hdst]; exact fun _ h => h) R hn (by rw [hdst]; exact he)
                  · cases he
          exact main 4 fr sp R he
end Go.Proofs.Ytjpeplidbodjiaa
