/- A function's evaluation is right of its calls. -/
import Derived.Test.YtjpeplidbodjiaaSndW
namespace Go.Proofs.Ytjpeplidbodjiaa
open Go.RowKit
variable {L : List Nat} {w0 w w' : World} {β : Bt} {E : Env}
theorem frameK_eq : ∀ (n : Nat) (args : List AV) (k : List AV → Out), frameK args n k = k (frame args n)
  | 0, _, _ => rfl
  | n + 1, [], k => by simp only [frameK, frame]; rw [frameK_eq n]
  | n + 1, x :: r, k => by simp only [frameK, frame]; rw [frameK_eq n]
theorem frame_len : ∀ (n : Nat) (args : List AV), (frame args n).length = args.length + (n - args.length)
  | 0, _ => by simp [frame]
  | n + 1, [] => by simp [frame, frame_len n]
  | n + 1, x :: r => by simp [frame, frame_len n]; omega
theorem frame_get : ∀ (n : Nat) (args : List AV) (j : Nat), getA (frame args n) j = getA args j
  | 0, _, _ => rfl
  | n + 1, [], 0 => rfl
  | n + 1, [], j + 1 => by simp only [frame, getA]; rw [frame_get n]; rfl
  | n + 1, x :: r, 0 => rfl
  | n + 1, x :: r, j + 1 => by simp only [frame, getA]; exact frame_get n r j
theorem getA_of : ∀ (l : List AV) (j : Nat) (_ : j < l.length), l[j]? = some (getA l j)
  | [], _, h => by simp at h
  | x :: r, 0, _ => rfl
  | x :: r, j + 1, h => by simpa [getA] using getA_of r j (by simpa using h)
theorem frame_rf {args : List AV} {vals : List Value} (hl : vals.length = args.length) (h : ArgsV β args vals) (n m : Nat) : RF β (frame args n) (vals.toArray ++ Array.replicate m undef) := by
  intro j
  rw [frame_get]
  by_cases hj : j < args.length
  · have h1 := getA_of args j hj
    have h2 : vals[j]? = some (vals[j]'(by omega)) := List.getElem?_eq_getElem _
    have := h j _ _ h1 h2
    rw [Array.getD_eq_getD_getElem?, Array.getElem?_append_left (by simp; omega)]
    simp only [List.getElem?_toArray, h2]
    exact this
  · rw [getA_out _ _ (by omega)]
    exact .inl rfl
theorem keepB_sub {α : Type} (m : Nat) : ∀ (l : List (Nat × α)), (keepB m l).Sublist l
  | [] => List.Sublist.slnil
  | (j, x) :: r => by
    simp only [keepB]
    cases Nat.blt j m with
    | true => exact (keepB_sub m r).cons_cons _
    | false => exact (keepB_sub m r).cons _
theorem HR.keep {h : AH} (hh : HR L w0 β h w) (m : Nat) : HR L w0 β (keepH m h) w :=
  ⟨hh.own.dropb _ ((keepB_sub m h.b).map _), hh.ro⟩
theorem cA0_of {v : AV} (h : okR v = true) : cA β v = cA0 β v := by
  cases v with
  | tup vs => simp [okR, notTup] at h
  | _ => rfl
theorem RV.ok {v : AV} {y : Value} (h : okR v = true) (hr : RV β v y) : y = cA0 β v := by
  rcases hr with rfl | hr
  · simp [okR, isAny] at h
  · rw [hr, cA0_of h]
def resV (tm : Array Value) : ResultVar → Sem Value
  | .tmp t => pure (tm.getD t undef)
  | .cell a t => do loadVar t (← asAddr (tm.getD a undef))
theorem results_one {P : Program} {fn : Func} {tm : Array Value} {r : ResultVar} {x : Value} (h : fn.results = #[r]) (hx : (resV tm r).run P w = .ok x w) : (results fn tm).run P w = .ok x w := by
  cases r with
  | tmp t => simp only [resV] at hx; rw [results_tmp h]; exact hx
  | cell a t =>
    simp only [resV, Sem.run_bind] at hx
    simp only [Array.getD_eq_getD_getElem?] at hx
    simp [results, h, hx]
theorem mapM_run {P : Program} {α β : Type} (f : α → Sem β) : ∀ (l : List α) (xs : List β), l.length = xs.length → (∀ (i : Nat) (a : α) (x : β), l[i]? = some a → xs[i]? = some x → (f a).run P w = .ok x w) → (l.mapM f).run P w = .ok xs w
  | [], [], _, _ => by simp
  | [], _ :: _, h, _ => by simp at h
  | _ :: _, [], h, _ => by simp at h
  | a :: l, x :: xs, h, hf => by
    have h0 := hf 0 a x rfl rfl
    have ih := mapM_run f l xs (by simpa using h) fun i a' x' ha hx => hf (i + 1) a' x' (by simpa using ha) (by simpa using hx)
    simp [List.mapM_cons, h0, ih]
theorem results_many {P : Program} {fn : Func} {tm : Array Value} {xs : List Value} (hl : fn.results.toList.length = xs.length) (h1 : xs.length ≠ 1) (hx : ∀ (i : Nat) (r : ResultVar) (x : Value), fn.results.toList[i]? = some r → xs[i]? = some x → (resV tm r).run P w = .ok x w) : (results fn tm).run P w = .ok (.tuple xs.toArray) w := by
  have hm := mapM_run (P := P) (w := w) (resV tm) fn.results.toList xs hl hx
  have e : (fn.results.mapM (resV tm)).run P w = .ok xs.toArray w := by
    rw [Array.mapM_eq_mapM_toList]
    simp [hm]
  have e2 : results fn tm = (do
    let vs ← fn.results.mapM (resV tm)
    pure (if h : vs.size = 1 then vs[0] else .tuple vs)) := by
    unfold results
    congr 1
  rw [e2, Sem.run_bind, e]
  simp [Result.andThen, h1]
theorem resA_run {st : AS} {r : ResultVar} {v : AV} {a : Act} {P : Program} (hall : ∀ β', Agree st.h.nx β β' → RF β' st.fr a.tmps ∧ HR L w0 β' st.h w) (h : resA P st r = some v) : ∃ y, (resV a.tmps r).run P w = .ok y w ∧ ∀ β', Agree st.h.nx β β' → RV β' v y := by
  cases r with
  | tmp t =>
    simp only [resA, Option.some.injEq] at h
    subst h
    exact ⟨_, rfl, fun β' hβ => (hall β' hβ).1 t⟩
  | cell p t =>
    simp only [resA] at h
    split at h
    · rename_i id hp
      split at h
      · rename_i bt bb hlk
        split at h
        · rename_i v' hld
          cases hany : isAny v' with
          | true => simp [hany] at h
          | false =>
            simp only [hany, cond_false, Option.some.injEq] at h
            subst h
            have hload : ∀ β', Agree st.h.nx β β' → (loadVar t ⟨β'.b id, 0, none⟩).run P w = .ok (cA β' v') w := by
              intro β' hβ
              have := (ld_run (P := P) (β := β') (cell_block (hall β' hβ).2 (look_mem hlk)) hld (by intro h; cases h)).resolve_left (isAny_false hany)
              simpa [Instr.loadAt, Instr.sureAddr] using this
            have haddr : ∀ β', Agree st.h.nx β β' → a.tmps.getD p undef = .pointer (some ⟨β'.b id, 0, none⟩) := by
              intro β' hβ
              have := (hall β' hβ).1 p
              rw [hp] at this
              exact this.resolve_left (by simp)
            have hres : ∀ β', Agree st.h.nx β β' → (resV a.tmps (.cell p t)).run P w = .ok (cA β' v') w := by
              intro β' hβ
              simp only [resV, haddr β' hβ, asAddr, Sem.run_bind, Sem.run_pure, Result.andThen_ok]
              exact hload β' hβ
            refine ⟨_, hres β (Agree.refl _ _), fun β' hβ => .inr ?_⟩
            have := hres β' hβ
            rw [hres β (Agree.refl _ _)] at this
            injection this with this
        · cases h
      · cases h
    · cases h
theorem resAs_run {st : AS} {a : Act} {P : Program} (hall : ∀ β', Agree st.h.nx β β' → RF β' st.fr a.tmps ∧ HR L w0 β' st.h w) : ∀ (rs : List ResultVar) (l : List AV), resAs P st rs = some l → ∃ ys : List Value, rs.length = ys.length ∧ (∀ (i : Nat) (r : ResultVar) (x : Value), rs[i]? = some r → ys[i]? = some x → (resV a.tmps r).run P w = .ok x w) ∧ ∀ β', Agree st.h.nx β β' → ys = l.map (cA0 β')
  | [], l, h => by
    simp only [resAs, Option.some.injEq] at h
    subst h
    exact ⟨[], rfl, fun i r x h => by simp at h, fun _ _ => rfl⟩
  | r :: rs, l, h => by
    simp only [resAs] at h
    cases hr : resA P st r with
    | none => simp [hr] at h
    | some v =>
      simp only [hr] at h
      cases hok : okR v with
      | false => simp [hok] at h
      | true =>
        simp only [hok, cond_true] at h
        cases hrs : resAs P st rs with
        | none => simp [hrs] at h
        | some l' =>
          simp only [hrs, Option.some.injEq] at h
          subst h
          obtain ⟨y, h1, h2⟩ := resA_run hall hr
          obtain ⟨ys, g1, g2, g3⟩ := resAs_run hall rs l' hrs
          refine ⟨y :: ys, by simp [g1], fun i r' x hr' hx => ?_, fun β' hβ => ?_⟩
          · cases i with
            | zero =>
              simp only [List.getElem?_cons_zero, Option.some.injEq] at hr' hx
              subst hr' hx
              exact h1
            | succ i => exact g2 i r' x (by simpa using hr') (by simpa using hx)
          · rw [List.map_cons, ← g3 β' hβ, (h2 β' hβ).ok hok]
theorem retK_post {fn : Func} {st : AS} {e : Exit} {m : Nat} {out : AV × AH} {a : Act} {R : Ending → World → Prop} (RS : RelS L w0 β st [] a w) (h : retK E.P m fn.results.toList e st = some out)
    (hR : ∀ y, st.h.nx ≤ out.2.nx → (∀ β', Agree out.2.nx β β' → RV β' out.1 y ∧ HR L w0 β' out.2 w) → R (.returned y) w) : bodyPost E.P fn R e a w := by
  have key : ∀ v y, (∀ β', Agree st.h.nx β β' → RV β' v y) → out = (v, keepH m st.h) → (results fn a.tmps).run E.P w = .ok y w → a.defers = [] ∧ ∃ v, (results fn a.tmps).run E.P w = .ok v w ∧ R (.returned v) w := by
    intro v y hv ho hrun
    refine ⟨RS.dfr, y, hrun, hR y (by subst ho; exact Nat.le_refl _) fun β' hβ => ?_⟩
    subst ho
    exact ⟨hv β' hβ, ((RS.all β' hβ).2.keep m)⟩
  have many : ∀ l, fn.results.toList.length ≠ 1 → resAs E.P st fn.results.toList = some l → out = (.tup l, keepH m st.h) → a.defers = [] ∧ ∃ v, (results fn a.tmps).run E.P w = .ok v w ∧ R (.returned v) w := by
    intro l hne hl ho
    obtain ⟨ys, g1, g2, g3⟩ := resAs_run RS.all _ l hl
    refine key (.tup l) (.tuple ys.toArray) (fun β' hβ => .inr ?_) ho (results_many g1 (by rw [← g1]; exact hne) g2)
    simp only [cA]
    rw [← g3 β' hβ]
  have main : (match fn.results.toList with
    | [r] => (match resA E.P st r with
      | some v => some (v, keepH m st.h)
      | none => none)
    | rs => (match resAs E.P st rs with
      | some l => some (.tup l, keepH m st.h)
      | none => none)) = some out → a.defers = [] ∧ ∃ v, (results fn a.tmps).run E.P w = .ok v w ∧ R (.returned v) w := by
    intro h
    split at h
    · rename_i r hr
      split at h
      · rename_i v hv
        injection h with h
        obtain ⟨y, h1, h2⟩ := resA_run RS.all hv
        have : fn.results = #[r] := by rw [← Array.toArray_toList (xs := fn.results), hr]
        exact key v y h2 h.symm (results_one this h1)
      · cases h
    · rename_i hne
      split at h
      · rename_i l hl
        injection h with h
        refine many l (fun e => ?_) hl h.symm
        obtain ⟨r, hr⟩ := List.length_eq_one_iff.1 e
        exact hne r hr
      · cases h
  unfold retK at h
  cases e with
  | normal => exact main h
  | ret => exact main h
  | _ => simp at h
def LpF (E : Env) (fn : Func) : Prop := ∀ c, fn.body = some c → LpC E c
theorem evF_calls (hE : E.Sound) (hm : E.P.follows .mixedOrders = true) {f : FuncId} {fn : Func} (hlp : LpF E fn) (hf : E.P.funcs[f]? = some fn) {fuel : Nat} {args : List AV} {h h' : AH} {v : AV} (he : evF E fn fuel args h = some (v, h'))
    {vals : List Value} (hl : vals.length = args.length) (hb : Begin L w0 β args h vals w) : Calls E.P f vals.toArray w (After L w0 β h v h') := by
  unfold evF at he
  split at he
  · rename_i c hc
    rw [frameK_eq] at he
    refine calls_of_wp hf hc ?_
    refine (ev_wp hE hm (m := h.nx) fuel c _ _ _ β _ w (hlp c hc) (Nat.le_refl _) ⟨?_, rfl, fun β' hβ => ⟨frame_rf hl (hb β' hβ).1 _ _, (hb β' hβ).2⟩, fun _ _ q hq => by cases hq⟩ he fun e β2 st' a' w' h1 h2 h3 h4 => ?_).1
    · simp only [frame_len, Array.size_append, Array.size_replicate, List.size_toArray, hl]
    · exact retK_post h3 h4 fun y hle hy => ⟨y, β2, rfl, h1, Nat.le_trans h2 hle, hy⟩
  · cases he
end Go.Proofs.Ytjpeplidbodjiaa
