/- The evaluator is right of whole bodies. -/
import Derived.Test.YtjpeplidbodjiaaSndK
namespace Go.Proofs.Ytjpeplidbodjiaa
open Go.RowKit
variable {L : List Nat} {w0 w w' w1 : World} {β β2 : Bt} {E : Env} {st : AS} {a : Act} {o : Oper} {v : AV} {h h' : AH} {sp : SP} {fr : List AV} {Q : Exit → Act → World → Prop}
theorem backB_spec : ∀ (l : List Oper) (i k : Nat) (o : Oper), backB i l = true → l[k]? = some o → (∀ e ∈ o.after, e.on < i + k) ∧ ∀ j wt, o.guard = some (j, wt) → j < i + k
  | [], _, _, _, _, h => by simp at h
  | o :: r, i, 0, o', hb, h => by
    simp only [List.getElem?_cons_zero, Option.some.injEq] at h
    subst h
    simp only [backB, Bool.and_eq_true, List.all_eq_true, Nat.blt_eq] at hb
    refine ⟨fun e he => hb.1.1 e (by simpa using he), fun j wt hg => ?_⟩
    have := hb.1.2
    rw [hg] at this
    simpa using this
  | o :: r, i, k + 1, o', hb, h => by
    simp only [backB, Bool.and_eq_true] at hb
    have := backB_spec r (i + 1) k o' hb.2 (by simpa using h)
    rw [show i + (k + 1) = i + 1 + k by omega]
    exact this
def unl (l : List Bool) : Nat := (l.filter (! ·)).length
theorem unl_set : ∀ (l : List Bool) (i : Nat), l[i]? = some false → unl l = unl (l.set i true) + 1
  | [], _, h => by simp at h
  | b :: r, 0, h => by simp at h; subst h; simp [unl]
  | b :: r, i + 1, h => by
    have := unl_set r i (by simpa using h)
    cases b <;> simp [unl] at this ⊢ <;> omega
theorem unl_zero : ∀ (l : List Bool), unl l = 0 → ∀ i, i < l.length → l[i]? = some true
  | [], _, i, h => by simp at h
  | b :: r, hz, i, h => by
    cases b with
    | false => simp [unl] at hz
    | true =>
      cases i with
      | zero => rfl
      | succ i => simpa using unl_zero r (by simpa [unl] using hz) i (by simpa using h)
theorem unl_some : ∀ (l : List Bool), unl l ≠ 0 → ∃ i : Nat, l[i]? = some false ∧ ∀ j : Nat, j < i → l[j]? = some true
  | [], h => by simp [unl] at h
  | false :: r, _ => ⟨0, rfl, fun j h => by omega⟩
  | true :: r, h => by
    obtain ⟨i, h1, h2⟩ := unl_some r (by simpa [unl] using h)
    refine ⟨i + 1, by simpa using h1, fun j hj => ?_⟩
    cases j with
    | zero => rfl
    | succ j => simpa using h2 j (by omega)
theorem any_of_quiet {P : Program} {ops : Array Oper} {n g : Nat} {C : World → Prop} {Qp : Act → Prop} (hn : n < ops.size) (hb : backB 0 (ops.toList.take n) = true) (hs : Region.sinkB .any ops n = true) (hc : Region.chainB .any ops n = true)
    (hend : ∀ listed a w, C w → HeadInv .any ops n listed → (∀ i, i < n → listed.getD i false = true) → Qp a → wpAny P .any ops Q g listed a w) :
    ∀ (fuel : Nat) (listed' listed : Array Bool) (a : Act) (w : World), C w → listed'.size = n → HeadInv .any ops n listed → (∀ i, i < n → listed.getD i true = listed'.getD i true) → unl listed'.toList = fuel →
      wpAnyQ P .any (ops.toList.take n).toArray C Qp fuel listed' a → wpAny P .any ops Q (fuel + g) listed a w := by
  have hget : ∀ i, i < n → (ops.toList.take n).toArray[i]? = ops[i]? := by
    intro i hi
    simp [hi]
  have gd : ∀ (l : Array Bool) (i : Nat) (b : Bool), i < l.size → l.getD i true = b → l.toList[i]? = some b := by
    intro l i b hi h
    rw [Array.getD_eq_getD_getElem?] at h
    rw [Array.getElem?_toList]
    rw [Array.getElem?_eq_getElem hi] at h ⊢
    simpa using h
  intro fuel
  induction fuel with
  | zero =>
    intro listed' listed a w hw hsz inv hagree hunl hq
    rw [Nat.zero_add]
    refine hend listed a w hw inv (fun i hi => ?_) hq.2
    have h1 := unl_zero listed'.toList hunl i (by simpa [hsz] using hi)
    have h2 : listed.getD i true = true := by
      rw [hagree i hi, Array.getD_eq_getD_getElem?, ← Array.getElem?_toList, h1]
      rfl
    have hi' : i < listed.size := by rw [inv.size]; omega
    rw [Array.getD_eq_getD_getElem?, Array.getElem?_eq_getElem hi'] at h2 ⊢
    simpa using h2
  | succ fuel ih =>
    intro listed' listed a w hw hsz inv hagree hunl hq
    rw [show fuel + 1 + g = (fuel + g) + 1 by omega]
    obtain ⟨i0, hi0, hfirst⟩ := unl_some listed'.toList (by omega)
    have hi0n : i0 < n := by
      have := (List.getElem?_eq_some_iff.1 hi0).1
      simpa [hsz] using this
    have hun0 : listed.getD i0 true = false := by
      rw [hagree i0 hi0n, Array.getD_eq_getD_getElem?, ← Array.getElem?_toList, hi0]
      rfl
    have lt_ready : ∀ i, i ∈ Region.ready .any ops listed → i < n := by
      intro i hi
      rcases Nat.lt_or_ge i n with h | h
      · exact h
      · exact absurd hi (tail_waits hs hc hn inv _ i0 rfl hi0n hun0 i h)
    refine ⟨fun h0 => ?_, fun i hi => ?_⟩
    · exfalso
      have : i0 ∈ Region.ready .any ops listed := by
        refine mem_ready.2 ⟨hun0, ops[i0]'(by omega), Array.getElem?_eq_getElem _, fun e he _ => ?_⟩
        have hon := (backB_spec (ops.toList.take n) 0 i0 (ops[i0]'(by omega)) hb (by simp [hi0n, Array.getElem?_eq_getElem (show i0 < ops.size by omega)])).1 e he
        have h1 := hfirst e.on (by omega)
        have h2 : listed.getD e.on true = true := by
          rw [hagree e.on (by omega), Array.getD_eq_getD_getElem?, ← Array.getElem?_toList, h1]
          rfl
        have hi' : e.on < listed.size := by rw [inv.size]; omega
        rw [Array.getD_eq_getD_getElem?, Array.getElem?_eq_getElem hi'] at h2 ⊢
        simpa using h2
      rw [h0] at this
      cases this
    · have hin := lt_ready i hi
      obtain ⟨hun, oi, hoi, hall⟩ := mem_ready.1 hi
      have hback := backB_spec (ops.toList.take n) 0 i oi hb (by rw [← List.getElem?_toArray, hget i hin]; exact hoi)
      have hi' : i ∈ Region.ready .any (ops.toList.take n).toArray listed' := by
        refine mem_ready.2 ⟨by rw [← hagree i hin]; exact hun, oi, by rw [hget i hin]; exact hoi, fun e he hbd => ?_⟩
        have hon := hback.1 e he
        have h1 := hall e he hbd
        have hl1 : e.on < listed.size := by rw [inv.size]; omega
        have hl2 : e.on < listed'.size := by rw [hsz]; omega
        have h2 := hagree e.on (by omega)
        rw [Array.getD_eq_getD_getElem?, Array.getElem?_eq_getElem hl1] at h1 h2
        rw [Array.getD_eq_getD_getElem?, Array.getElem?_eq_getElem hl2] at h2 ⊢
        simp only [Option.getD_some] at h1 h2 ⊢
        rw [← h2]
        exact h1
      have hstep := hq.2 i hi'
      have hrec := wpOp_of_qOp (K' := wpAny P .any ops Q (fuel + g) (listed.setIfInBounds i true)) (Q' := Q) hw (fun a' w' hw' hK => by
        refine ih (listed'.setIfInBounds i true) (listed.setIfInBounds i true) a' w' hw' (by simp [hsz]) (inv.set hi hin) (fun q hqn => ?_) ?_ hK
        · by_cases e : i = q
          · subst e
            rw [Array.getD_eq_getD_getElem?, Array.getD_eq_getD_getElem?, Array.getElem?_setIfInBounds_self_of_lt (by rw [inv.size]; omega), Array.getElem?_setIfInBounds_self_of_lt (by rw [hsz]; omega)]
          · rw [getD_set_ne true e, getD_set_ne true e]
            exact hagree q hqn
        · have h1 : listed'.toList[i]? = some false := gd listed' i false (by rw [hsz]; exact hin) (by rw [← hagree i hin]; exact hun)
          have := unl_set listed'.toList i h1
          simp only [Array.toList_setIfInBounds]
          omega) hstep
      unfold wpOp at hrec ⊢
      rw [hget i hin] at hrec
      rw [hoi] at hrec ⊢
      have hy : Region.wanted oi (yielded (ops.toList.take n).toArray a.tmps) = Region.wanted oi (yielded ops a.tmps) := by
        unfold Region.wanted
        cases hg : oi.guard with
        | none => rfl
        | some jw =>
          obtain ⟨j, wt⟩ := jw
          have := hback.2 j wt hg
          simp only [yielded]
          rw [hget j (by omega)]
      simp only [hy] at hrec
      exact hrec
theorem headN_le (qf : FuncId → Bool) : ∀ (l : List Oper), headN qf l ≤ l.length ∧ ∀ o ∈ l.take (headN qf l), loudOp qf o.op = false
  | [] => ⟨Nat.le_refl _, fun o h => by simp at h⟩
  | o :: r => by
    simp only [headN]
    cases e : loudOp qf o.op with
    | true => exact ⟨Nat.zero_le _, fun o h => by simp at h⟩
    | false =>
      obtain ⟨h1, h2⟩ := headN_le qf r
      simp only [cond_false]
      refine ⟨by simp; exact h1, fun q hq => ?_⟩
      rw [List.take_succ_cons] at hq
      rcases List.mem_cons.1 hq with rfl | hq
      · exact e
      · exact h2 q hq
def noPanic (Q : Exit → Act → World → Prop) : Exit → Act → World → Prop
  | .panic _, _, _ => False
  | e, a, w => Q e a w
theorem evD_wp (hE : E.Sound) (hm : E.P.follows .mixedOrders = true) {id : Nat} {ops : Array Oper} {k : AS → Out} {out : AV × AH} (R : RelS L w0 β st [] a w) (he : evD E ops st k = some out)
    (hK : ∀ β2 st' a' w', Agree st.h.nx β β2 → st.h.nx ≤ st'.h.nx → RelS L w0 β2 st' [] a' w' → k st' = some out → Q .normal a' w') : (Code.region id ops true).wp E.P Q a w := by
  unfold evD at he
  generalize hnn : headN E.qf ops.toList = n at he
  obtain ⟨hle, hquiet⟩ := headN_le E.qf ops.toList
  rw [hnn] at hle hquiet
  have hle : n ≤ ops.size := by simpa using hle
  cases ht : tailOk ops n with
  | false =>
    simp only [ht, cond_false] at he
    cases hc : (Region.noSelect ops && ltB st.h.nx st.h.b && ltL st.h.nx st.h.l) with
    | false => simp [hc] at he
    | true =>
      simp only [hc, cond_true] at he
      simp only [Bool.and_eq_true] at hc
      cases hp : planP E.kf ops ops.size true (Array.replicate ops.size false) with
      | none => simp [hp] at he
      | some seq =>
        simp only [hp] at he
        have Rd : RelS L w0 β st [] a { w with drawn := w.drawn + 1 } := ⟨R.len, R.dfr, fun β' hβ => ⟨(R.all β' hβ).1, (R.all β' hβ).2.draw _⟩, R.sp⟩
        -- a panic does not come of it: the law is asked of a postcondition that says no to it
        refine Go.wp_mono (Q := noPanic Q) (wp_region_any hm (wpAny_of_D (S := HR L w0 β st.h) (D := keepsAt E.kf ops) _ true _ _ _ (evP_wp (Q := noPanic Q) (βs := β) hE hc.1.1 hc.1.2 hc.2 (fun _ _ _ _ h => False.elim h) _ true _ seq st β a _ hp (Agree.refl _ _) (Nat.le_refl _) Rd (fun _ => ⟨(Rd.all β (Agree.refl _ _)).2, List.Sublist.refl _, List.Sublist.refl _⟩) he hK))) fun e a' w' h => ?_
        cases e <;> first | exact h | exact False.elim h
  | true =>
    simp only [ht, cond_true] at he
    obtain ⟨fr, hh⟩ := st
    have hcls : Cls L w0 β hh { w with drawn := w.drawn + 1 } := fun β' hβ => (R.all β' hβ).2.draw _
    have RQ : RelQ L w0 β hh fr [] a := ⟨R.len, R.dfr, fun β' hβ => (R.all β' hβ).1, R.sp⟩
    have tail : ∀ fr' a', RelQ L w0 β hh fr' [] a' → evOps E ops (ops.toList.drop n) ⟨fr', hh⟩ [] k = some out → ∀ w', Cls L w0 β hh w' → wpList E.P ops Q (ops.toList.drop n) a' w' :=
      fun fr' a' RQ' hev w' hw' => evOps_wp hE _ _ _ β a' w' ⟨RQ'.len, RQ'.dfr, fun β' hβ => ⟨RQ'.rf β' hβ, hw' β' hβ⟩, RQ'.sp⟩ hev hK
    have head := evOps_quiet (K := fun a' => ∀ w', Cls L w0 β hh w' → wpList E.P ops Q (ops.toList.drop n) a' w') hE hcls _ fr [] a hquiet RQ he (fun fr' a' RQ' hev => tail fr' a' RQ' hev)
    unfold tailOk at ht
    cases hsz : Nat.beq n ops.size with
    | true =>
      simp only [hsz, cond_true] at ht
      have hsz := Nat.eq_of_beq_eq_true hsz
      have hall : ops.toList.take n = ops.toList := by rw [hsz, ← Array.length_toList]; exact List.take_length
      have hnil : ops.toList.drop n = [] := by rw [hsz, ← Array.length_toList]; exact List.drop_length
      rw [hall, hnil] at head
      rw [Array.toArray_toList] at head
      refine wp_region_quiet hm ht hcls ?_
      exact head
    | false =>
      simp only [hsz, cond_false, Bool.and_eq_true, Nat.blt_eq] at ht
      obtain ⟨⟨⟨⟨⟨h1, h2⟩, h3⟩, h4⟩, h5⟩, h6⟩ := ht
      refine wp_region_any hm ?_
      have hsplit : n + (ops.size - n) = ops.size := by omega
      simp only [Region.lexB, Bool.and_eq_true] at h1
      have hlex := wpAnyQ_lex (C := Cls L w0 β hh) (md := .any) h1.1 (ops.toList.take n) 0 (Array.replicate n false) a (by simp) (by
        have := h1.2
        have e : (ops.toList.take n).toArray.size = n := by simp; omega
        rw [e] at this
        have e2 : (ops.toList.take n).length = n := by simp; omega
        rw [e2]
        exact this) head
      have e2 : (ops.toList.take n).length = n := by simp; omega
      rw [e2] at hlex
      have inv0 : HeadInv .any ops n (Array.replicate ops.size false) :=
        ⟨by simp, fun j oj _ hl => (by rw [getD_replicate_false] at hl; cases hl), fun t _ ht => getD_in (by simpa using ht) (getD_replicate_false _ _)⟩
      have := any_of_quiet (P := E.P) (Q := Q) (g := ops.size - n) h2 h3 h4 h5 (fun listed a w hw inv hdone hq => ?_) n (Array.replicate n false) (Array.replicate ops.size false) a _ hcls (by simp) inv0 (fun i hi => by
        rw [Array.getD_eq_getD_getElem?, Array.getD_eq_getD_getElem?, Array.getElem?_replicate, Array.getElem?_replicate, if_pos hi, if_pos (by omega)]) (by simp [unl]) hlex
      · rw [hsplit] at this
        exact this
      · have hl : listed = ((List.range ops.size).map (fun i => Nat.blt i n)).toArray := by
          apply Array.ext
          · simp [inv.size]
          · intro i hi1 hi2
            simp only [List.getElem_toArray, List.getElem_map, List.getElem_range]
            have hi1' : i < ops.size := by rw [← inv.size]; exact hi1
            by_cases hin : i < n
            · have := hdone i hin
              rw [Array.getD_eq_getD_getElem?, Array.getElem?_eq_getElem hi1] at this
              rw [show Nat.blt i n = true by rw [Nat.blt_eq]; exact hin]
              simpa using this
            · have := inv.tail i (by omega) hi1'
              rw [Array.getD_eq_getD_getElem?, Array.getElem?_eq_getElem hi1] at this
              have hb : Nat.blt i n = false := by
                cases e : Nat.blt i n with
                | false => rfl
                | true => exact absurd (by rw [Nat.blt_eq] at e; exact e) hin
              rw [hb]
              simpa using this
        have e3 : (ops.toList.drop n).length = ops.size - n := by simp
        have := wpAny_of_seq (P := E.P) (ops := ops) (md := .any) (Q' := Q) (ops.toList.drop n) n listed a w (fun j => by simp) (by rw [e3, hl]; exact h6) (hq w hw)
        rw [e3] at this
        exact this
theorem memN_mem {i : Nat} : ∀ {l : List Nat}, memN i l = true → i ∈ l
  | [], h => by simp [memN] at h
  | j :: r, h => by
    simp only [memN] at h
    cases e : Nat.beq i j with
    | true => rw [Nat.eq_of_beq_eq_true e]; exact List.mem_cons_self ..
    | false => simp only [e, cond_false] at h; exact List.mem_cons_of_mem _ (memN_mem h)
theorem posN_spec {i : Nat} : ∀ {l : List Nat} {p q : Nat}, posN i l p = some q → p ≤ q ∧ q < p + l.length ∧ l[q - p]? = some i
  | [], _, _, h => by simp [posN] at h
  | j :: r, p, q, h => by
    simp only [posN] at h
    cases e : Nat.beq i j with
    | true =>
      simp only [e, cond_true, Option.some.injEq] at h
      subst h
      refine ⟨Nat.le_refl _, by simp, ?_⟩
      simp [Nat.eq_of_beq_eq_true e]
    | false =>
      simp only [e, cond_false] at h
      obtain ⟨h1, h2, h3⟩ := posN_spec h
      refine ⟨by omega, by simp; omega, ?_⟩
      rw [show q - p = (q - (p + 1)) + 1 by omega, List.getElem?_cons_succ]
      exact h3
/-- Where the things lie when they are numbered anew. -/
def renBt (m : Nat) (ord : List Nat) (β : Bt) : Bt := ⟨fun i => if i < m then β.b i else β.b (ord.getD (i - m) 0), fun i => if i < m then β.l i else β.l (ord.getD (i - m) 0)⟩
theorem ren1_spec {m : Nat} {ord : List Nat} {β β' : Bt} (hag : Agree (m + ord.length) (renBt m ord β) β') {i i' : Nat} (h : ren1 m ord i = some i') : β'.b i' = β.b i ∧ β'.l i' = β.l i := by
  unfold ren1 at h
  cases e : Nat.blt i m with
  | true =>
    simp only [e, cond_true, Option.some.injEq] at h
    rw [Nat.blt_eq] at e
    subst h
    obtain ⟨h1, h2⟩ := hag i (by omega)
    rw [h1, h2]
    simp [renBt, e]
  | false =>
    simp only [e, cond_false] at h
    obtain ⟨h1, h2, h3⟩ := posN_spec h
    obtain ⟨g1, g2⟩ := hag i' h2
    rw [g1, g2]
    have hd : ord.getD (i' - m) 0 = i := by simp [List.getD, h3]
    simp only [renBt, if_neg (show ¬ i' < m by omega), hd]
    exact ⟨trivial, trivial⟩
theorem renC_spec {m : Nat} {ord : List Nat} {β β' : Bt} (hag : Agree (m + ord.length) (renBt m ord β) β') (c : AC) : renC m ord c = .any ∨ cC β' (renC m ord c) = cC β c := by
  cases c with
  | v x => exact .inr rfl
  | any => exact .inl rfl
  | pt i o =>
    simp only [renC]
    cases h : ren1 m ord i with
    | none => exact .inl rfl
    | some i' => right; simp [cC, (ren1_spec hag h).1]
  | el l i s k j =>
    simp only [renC]
    cases h : ren1 m ord i with
    | none => exact .inl rfl
    | some i' => right; cases l <;> simp [cC, (ren1_spec hag h).1, (ren1_spec hag h).2]
  | ow i =>
    simp only [renC]
    cases h : ren1 m ord i with
    | none => exact .inl rfl
    | some i' => right; simp [cC, (ren1_spec hag h).2]
  | sl i s a n c =>
    simp only [renC]
    cases h : ren1 m ord i with
    | none => exact .inl rfl
    | some i' => right; simp [cC, (ren1_spec hag h).1]
theorem renCs_spec {m : Nat} {ord : List Nat} {out : AV × AH} : ∀ (cs : List AC) (k : List AC → Out), renCs m ord cs k = some out → ∃ cs', k cs' = some out ∧ ∀ β β', Agree (m + ord.length) (renBt m ord β) β' → cs'.map (cC β') = cs.map (cC β)
  | [], k, h => ⟨[], h, fun _ _ _ => rfl⟩
  | c :: r, k, h => by
    simp only [renCs] at h
    have key : ∀ d, renC m ord c = d → d ≠ .any → (renCs m ord r fun l => k (d :: l)) = some out → ∃ cs', k cs' = some out ∧ ∀ β β', Agree (m + ord.length) (renBt m ord β) β' → cs'.map (cC β') = (c :: r).map (cC β) := by
      intro d hd hne h
      obtain ⟨cs', h1, h2⟩ := renCs_spec r _ h
      refine ⟨d :: cs', h1, fun β β' hag => ?_⟩
      have := (renC_spec hag c).resolve_left (by rw [hd]; exact hne)
      rw [hd] at this
      simp only [List.map_cons, this, h2 β β' hag]
    split at h
    · cases h
    all_goals (rename_i hd; exact key _ hd (by simp) h)
theorem renA1_spec {m : Nat} {ord : List Nat} {out : AV × AH} (v : AV) (k : AV → Out) (h : renA1 m ord v k = some out) : ∃ v', k v' = some out ∧ ∀ β β', Agree (m + ord.length) (renBt m ord β) β' → cA1 β' v' = cA1 β v := by
  unfold renA1 at h
  split at h
  · rename_i c
    split at h
    · cases h
    · rename_i c' hc
      rw [forceV_eq] at h
      refine ⟨_, h, fun β β' hag => ?_⟩
      rcases renC_spec hag c with e | e
      · exact absurd e hc
      · exact e
  · rename_i cs
    obtain ⟨cs', h1, h2⟩ := renCs_spec _ _ h
    exact ⟨_, h1, fun β β' hag => by simp only [cA1, h2 β β' hag]⟩
  · exact ⟨_, h, fun _ _ _ => rfl⟩
  · cases h
theorem renVs_spec {m : Nat} {ord : List Nat} {out : AV × AH} : ∀ (vs : List AV) (k : List AV → Out), renVs m ord vs k = some out → ∃ vs', k vs' = some out ∧ ∀ β β', Agree (m + ord.length) (renBt m ord β) β' → vs'.map (cA1 β') = vs.map (cA1 β)
  | [], k, h => ⟨[], h, fun _ _ _ => rfl⟩
  | v :: r, k, h => by
    simp only [renVs] at h
    obtain ⟨v', h1, h2⟩ := renA1_spec v _ h
    obtain ⟨vs', h3, h4⟩ := renVs_spec r _ h1
    exact ⟨_, h3, fun β β' hag => by rw [List.map_cons, List.map_cons, h2 β β' hag, h4 β β' hag]⟩
theorem renF_spec {m : Nat} {keep ord : List Nat} {out : AV × AH} : ∀ (fr : List AV) (i : Nat) (k : List AV → Out), renF m keep ord i fr k = some out → ∃ fr', k fr' = some out ∧ fr'.length = fr.length ∧ ∀ β β', Agree (m + ord.length) (renBt m ord β) β' → ∀ j y, RV β (getA fr j) y → RV β' (getA fr' j) y
  | [], i, k, h => ⟨[], h, rfl, fun _ _ _ _ _ hv => .inl rfl⟩
  | v :: r, i, k, h => by
    have key : ∀ d, (∀ β β', Agree (m + ord.length) (renBt m ord β) β' → ∀ y, RV β v y → RV β' d y) → (renF m keep ord (i + 1) r fun l => k (d :: l)) = some out → ∃ fr', k fr' = some out ∧ fr'.length = (v :: r).length ∧ ∀ β β', Agree (m + ord.length) (renBt m ord β) β' → ∀ j y, RV β (getA (v :: r) j) y → RV β' (getA fr' j) y := by
      intro d hd h
      obtain ⟨fr', h1, h2, h3⟩ := renF_spec r _ _ h
      refine ⟨d :: fr', h1, by simp [h2], fun β β' hag j y hv => ?_⟩
      cases j with
      | zero => exact hd β β' hag y hv
      | succ j => exact h3 β β' hag j y hv
    simp only [renF] at h
    cases hk : memN i keep with
    | false =>
      simp only [hk, cond_false] at h
      exact key _ (fun _ _ _ _ _ => .inl rfl) h
    | true =>
      simp only [hk, cond_true] at h
      split at h
      · rename_i c
        rw [forceV_eq] at h
        refine key _ (fun β β' hag y hv => ?_) h
        rcases renC_spec hag c with e | e
        · rw [e]; exact .inl rfl
        · rcases hv with hv | hv
          · injection hv with hv
            subst hv
            exact .inl rfl
          · right
            rw [hv]
            exact e.symm
      · rename_i cs
        obtain ⟨cs', h1, h2⟩ := renCs_spec _ _ h
        refine key _ (fun β β' hag y hv => ?_) h1
        right
        rw [hv.resolve_left (by simp)]
        simp only [cA, cA0, h2 β β' hag]
      · refine key _ (fun β β' hag y hv => ?_) h
        right
        rw [hv.resolve_left (by simp)]
        rfl
      · rename_i f vs
        obtain ⟨vs', h1, h2⟩ := renVs_spec _ _ h
        refine key _ (fun β β' hag y hv => ?_) h1
        right
        rw [hv.resolve_left (by simp)]
        simp only [cA, cA0, h2 β β' hag]
      · exact key _ (fun _ _ _ _ _ => .inl rfl) h
theorem renB_spec {m : Nat} {ord : List Nat} {out : AV × AH} : ∀ (b : List (Nat × TypeId × BB)) (k : List (Nat × TypeId × BB) → Out), renB m ord b k = some out → ∃ b', k b' = some out ∧ ∀ β β', Agree (m + ord.length) (renBt m ord β) β' → (bsO β' b').Sublist (bsO β b)
  | [], k, h => ⟨[], h, fun _ _ _ => List.Sublist.refl _⟩
  | (i, t, bb) :: r, k, h => by
    simp only [renB] at h
    cases hr : ren1 m ord i with
    | none =>
      simp only [hr] at h
      obtain ⟨b', h1, h2⟩ := renB_spec r _ h
      exact ⟨b', h1, fun β β' hag => (h2 β β' hag).cons _⟩
    | some i' =>
      simp only [hr] at h
      have key : ∀ bb', (∀ β β', Agree (m + ord.length) (renBt m ord β) β' → cB β' bb' = cB β bb) → (renB m ord r fun l => k ((i', t, bb') :: l)) = some out → ∃ b', k b' = some out ∧ ∀ β β', Agree (m + ord.length) (renBt m ord β) β' → (bsO β' b').Sublist (bsO β ((i, t, bb) :: r)) := by
        intro bb' hbb h
        obtain ⟨b', h1, h2⟩ := renB_spec r _ h
        refine ⟨_, h1, fun β β' hag => ?_⟩
        have := h2 β β' hag
        simp only [bsO, List.map_cons] at this ⊢
        rw [(ren1_spec hag hr).1, hbb β β' hag]
        exact this.cons_cons _
      split at h
      · obtain ⟨cs', h1, h2⟩ := renCs_spec _ _ h
        exact key (.cells cs') (fun β β' hag => h2 β β' hag) h1
      · exact key _ (fun _ _ _ => rfl) h
      · exact key _ (fun _ _ _ => rfl) h
theorem renL_spec {m : Nat} {ord : List Nat} {out : AV × AH} : ∀ (b : List (Nat × LB)) (k : List (Nat × LB) → Out), renL m ord b k = some out → ∃ b', k b' = some out ∧ (∀ β β', Agree (m + ord.length) (renBt m ord β) β' → (lsO β' b').Sublist (lsO β b)) ∧
      ∀ q ∈ b', ∃ i, (i, q.2) ∈ b ∧ ∀ β β', Agree (m + ord.length) (renBt m ord β) β' → β'.l q.1 = β.l i
  | [], k, h => ⟨[], h, fun _ _ _ => List.Sublist.refl _, fun _ h => by cases h⟩
  | (i, lb) :: r, k, h => by
    simp only [renL] at h
    cases hr : ren1 m ord i with
    | none =>
      simp only [hr] at h
      obtain ⟨b', h1, h2, h3⟩ := renL_spec r _ h
      refine ⟨b', h1, fun β β' hag => ?_, fun q hq => ?_⟩
      · rw [lsO_cons]
        split
        · exact (h2 β β' hag).cons _
        · exact h2 β β' hag
      · obtain ⟨i0, g1, g2⟩ := h3 q hq
        exact ⟨i0, List.mem_cons_of_mem _ g1, g2⟩
    | some i' =>
      simp only [hr] at h
      obtain ⟨b', h1, h2, h3⟩ := renL_spec r _ h
      refine ⟨_, h1, fun β β' hag => ?_, fun q hq => ?_⟩
      · rw [lsO_cons, lsO_cons]
        split
        · rw [(ren1_spec hag hr).2]
          exact (h2 β β' hag).cons_cons _
        · exact h2 β β' hag
      · rcases List.mem_cons.1 hq with rfl | hq
        · exact ⟨i, List.mem_cons_self .., fun β β' hag => (ren1_spec hag hr).2⟩
        · obtain ⟨i0, g1, g2⟩ := h3 q hq
          exact ⟨i0, List.mem_cons_of_mem _ g1, g2⟩
theorem nilB_spec {i : Nat} {e : TypeId} {bb : BB} (h : nilB i = some (e, bb)) : bb.n = 0 ∧ lV ⟨true, e, bb⟩ = [] := by
  unfold nilB at h
  split at h
  · simp only [Option.some.injEq, Prod.mk.injEq] at h
    rw [← h.1, ← h.2]
    exact ⟨rfl, rfl⟩
  · simp only [Option.some.injEq, Prod.mk.injEq] at h
    rw [← h.1, ← h.2]
    exact ⟨rfl, rfl⟩
  · simp only [Option.some.injEq, Prod.mk.injEq] at h
    rw [← h.1, ← h.2]
    exact ⟨rfl, rfl⟩
  · cases h
def withL (β : Bt) (n : Nat) (s : Option Addr × Nat × Nat) : Bt := ⟨β.b, fun i => if i = n then s else β.l i⟩
theorem withL_agree (β : Bt) (n : Nat) (s : Option Addr × Nat × Nat) : Agree n β (withL β n s) := fun i hi => ⟨rfl, if_neg (by omega)⟩
theorem HR.nilList {h : AH} {e : TypeId} {bb : BB} (hh : HR L w0 β h w) (hb : bb.n = 0 ∧ lV ⟨true, e, bb⟩ = []) (hn : β.l h.nx = (none, 0, 0)) : HR L w0 β ⟨h.b, (h.nx, ⟨true, e, bb⟩) :: h.l, h.nx + 1⟩ w := by
  refine ⟨?_, fun q hq ho => ?_⟩
  · rw [lsO_cons, if_pos rfl, hn]
    have := hh.own.nil e bb.sz
    have e1 : lsOf (none, 0, 0) ⟨true, e, bb⟩ = ⟨.slice none 0 0, e, bb.sz, 0, []⟩ := by
      simp only [lsOf, hb.1, hb.2]
      rfl
    rw [e1]
    exact this
  · rcases List.mem_cons.1 hq with rfl | hq
    · cases ho
    · exact hh.ro q hq ho
theorem nil1_spec {i : Nat} {k : AS → Out} {out : AV × AH} (R : RelS L w0 β st [] a w) (h : nil1 i st k = some out) :
    ∃ st' β', k st' = some out ∧ Agree st.h.nx β β' ∧ st.h.nx ≤ st'.h.nx ∧ RelS L w0 β' st' [] a w := by
  have same : k st = some out → ∃ st' β', k st' = some out ∧ Agree st.h.nx β β' ∧ st.h.nx ≤ st'.h.nx ∧ RelS L w0 β' st' [] a w := fun h => ⟨st, β, h, Agree.refl _ _, Nat.le_refl _, R⟩
  unfold nil1 at h
  split at h
  · rename_i fr b l nx e bb hnil hj
    split at h
    · rename_i hg
      rw [putS_eq] at h
      have hb := nilB_spec hnil
      refine ⟨_, withL β nx (none, 0, 0), h, withL_agree β nx _, Nat.le_succ _, ⟨by simp only [putA_len]; exact R.len, R.dfr, fun β' hβ => ?_, fun _ _ q hq => by cases hq⟩⟩
      have hnew : β'.l nx = (none, 0, 0) := by rw [(hβ nx (Nat.lt_succ_self _)).2]; simp [withL]
      have hold : Agree nx β β' := fun i hi => by
        have := hβ i (Nat.lt_succ_of_lt hi)
        exact ⟨this.1, by rw [this.2]; exact if_neg (by omega)⟩
      obtain ⟨hf, hh⟩ := R.all β' hold
      refine ⟨fun j => ?_, HR.nilList (h := ⟨b, l, nx⟩) hh hb hnew⟩
      simp only [getA_put]
      split
      · rename_i hj
        have := hf (i % 1000)
        rw [hg] at this
        rw [hj.1, this.resolve_left (by simp)]
        right
        simp only [cA, cA0, cC, hnew]
        rfl
      · exact hf j
    · exact same h
  · rename_i fr b l nx e bb j hnil hj
    split at h
    · rename_i id hg
      split at h
      · rename_i t cs hlk
        split at h
        · rename_i hcs
          have hb := nilB_spec hnil
          refine ⟨_, withL β nx (none, 0, 0), h, withL_agree β nx _, Nat.le_succ _, ⟨R.len, R.dfr, fun β' hβ => ?_, fun _ _ q hq => by cases hq⟩⟩
          have hnew : β'.l nx = (none, 0, 0) := by rw [(hβ nx (Nat.lt_succ_self _)).2]; simp [withL]
          have hold : Agree nx β β' := fun i hi => by
            have := hβ i (Nat.lt_succ_of_lt hi)
            exact ⟨this.1, by rw [this.2]; exact if_neg (by omega)⟩
          obtain ⟨hf, hh⟩ := R.all β' hold
          refine ⟨hf, ?_⟩
          have hx := HR.nilList (h := ⟨b, l, nx⟩) hh hb hnew
          refine ⟨?_, hx.ro⟩
          have e1 : bsO β' (over id (t, BB.cells (spl cs j [.ow nx])) b) = bsO β' b := by
            obtain ⟨p, hp, hset⟩ := over_set (y := ((t : TypeId), BB.cells (spl cs j [.ow nx]))) hlk
            rw [hset]
            simp only [bsO, List.map_set]
            have e2 : cB β' (.cells (spl cs j [.ow nx])) = cB β' (.cells cs) := by
              simp only [cB]
              have hjl : j < cs.length := by
                rcases Nat.lt_or_ge j cs.length with h | h
                · exact h
                · rw [nthC_any cs j h] at hcs
                  cases hcs
              have hget := nthC_get cs j hjl
              rw [hcs] at hget
              have e3 : cC β' (.ow nx) = cC β' (.v (.slice none 0 0)) := by simp only [cC, hnew]; rfl
              unfold spl
              simp only [List.map_append, List.map_cons, List.map_nil, e3, List.length_cons, List.length_nil, List.map_take, List.map_drop]
              have hg2 : (cs.map (cC β'))[j]? = some (cC β' (.v (.slice none 0 0))) := by rw [List.getElem?_map, hget]; rfl
              generalize cs.map (cC β') = A at hg2
              generalize cC β' (.v (.slice none 0 0)) = x at hg2
              obtain ⟨hlt, hx⟩ := List.getElem?_eq_some_iff.1 hg2
              rw [← hx]
              simp
            rw [e2]
            apply List.ext_getElem?
            intro q
            rw [List.getElem?_set]
            split
            · rename_i hpq
              subst hpq
              have : p < (b.map fun q => (⟨β'.b q.1, q.2.1, cB β' q.2.2⟩ : Bl)).length := by
                rw [List.length_map]
                exact (List.getElem?_eq_some_iff.1 hp).1
              rw [if_pos this, List.getElem?_map, hp]
              rfl
            · rfl
          have := hx.own
          simp only at this ⊢
          rw [e1]
          exact this
        · exact same h
      · exact same h
    · exact same h
  · exact same h
theorem nilG_spec : ∀ {keep : List Nat} {st : AS} {β : Bt} {k : AS → Out} {out : AV × AH}, RelS L w0 β st [] a w → nilG keep st k = some out →
    ∃ st' β', k st' = some out ∧ Agree st.h.nx β β' ∧ st.h.nx ≤ st'.h.nx ∧ RelS L w0 β' st' [] a w
  | [], st, β, k, out, R, h => ⟨st, β, h, Agree.refl _ _, Nat.le_refl _, R⟩
  | i :: r, st, β, k, out, R, h => by
    simp only [nilG] at h
    cases hi : Nat.blt i 1000 with
    | true =>
      simp only [hi, cond_true] at h
      exact nilG_spec R h
    | false =>
      simp only [hi, cond_false] at h
      obtain ⟨st1, β1, h1, g1, l1, R1⟩ := nil1_spec R h
      obtain ⟨st2, β2, h2, g2, l2, R2⟩ := nilG_spec R1 h1
      exact ⟨st2, β2, h2, g1.trans g2 l1, Nat.le_trans l1 l2, R2⟩
theorem gc_spec {m : Nat} {kp : Option (List Nat)} {k : AS → Out} {out : AV × AH} (hm : m ≤ st.h.nx) (R : RelS L w0 β st [] a w) (h : gc m kp st k = some out) :
    ∃ st' β', k st' = some out ∧ Agree m β β' ∧ m ≤ st'.h.nx ∧ RelS L w0 β' st' [] a w := by
  unfold gc at h
  split at h
  · exact ⟨st, β, h, Agree.refl _ _, hm, R⟩
  · rename_i keep
    obtain ⟨st1, β1, h, ag1, le1, R1⟩ := nilG_spec R h
    have hm1 := Nat.le_trans hm le1
    have : ∃ st' β', k st' = some out ∧ Agree m β1 β' ∧ m ≤ st'.h.nx ∧ RelS L w0 β' st' [] a w := ?_
    · obtain ⟨st', β', h1, h2, h3, h4⟩ := this
      exact ⟨st', β', h1, (ag1.mono hm).trans h2 (Nat.le_refl _), h3, h4⟩
    clear ag1 le1 R hm
    revert h R1 hm1
    generalize st1 = st, β1 = β
    intro h R hm
    generalize idB m (idB m (idB m (idF m keep [] 0 st.fr) st.h.b) st.h.b) st.h.b = ord at h
    unfold gcO at h
    obtain ⟨fr, h1, f2, f3⟩ := renF_spec _ _ _ h
    obtain ⟨b, h2, b2⟩ := renB_spec _ _ h1
    obtain ⟨l, h3, l2, l3⟩ := renL_spec _ _ h2
    refine ⟨_, renBt m ord β, h3, fun i hi => by simp [renBt, hi], Nat.le_add_right _ _, ⟨by simp only [f2]; exact R.len, R.dfr, fun β' hβ => ⟨fun j => f3 β β' hβ j _ ((R.all β (Agree.refl _ _)).1 j), ?_⟩, fun _ _ q hq => by cases hq⟩⟩
    have hh := (R.all β (Agree.refl _ _)).2
    refine ⟨(hh.own.dropb _ (b2 β β' hβ)).dropl _ (l2 β β' hβ), fun q hq hf => ?_⟩
    obtain ⟨i, g1, g2⟩ := l3 q hq
    rw [g2 β β' hβ]
    exact hh.ro _ g1 hf
def setF (c : Operand) (b : Bool) (fr : List AV) : List AV := match c with
  | .tmp t => putA fr t (.one (.v (.bool b)))
  | _ => fr
/-- All loops of a code: their rounds. -/
def loopsC : Code → List Code
  | .seq x y => loopsC x ++ loopsC y
  | .cond _ x y => loopsC x ++ loopsC y
  | .block _ x => loopsC x
  | .loop x => x :: loopsC x
  | _ => []
/-- What is said of a loop holds. -/
def LoopS (P : Program) (x : Code) (f : Nat → AS → (Exit → AS → Out) → Out) : Prop :=
  ∀ (m : Nat) (st : AS) (k : Exit → AS → Out) (out : AV × AH), f m st k = some out → ∀ (L : List Nat) (w0 : World) (Q : Exit → Act → World → Prop) (β : Bt) (a : Act) (w : World), m ≤ st.h.nx → RelS L w0 β st [] a w →
    (∀ e β2 st' a' w', Agree m β β2 → m ≤ st'.h.nx → RelS L w0 β2 st' [] a' w' → k e st' = some out → Q e a' w') → (Code.loop x).wp P Q a w
def LpC (E : Env) (c : Code) : Prop := ∀ x ∈ loopsC c, ∀ f, E.lp (keyC x) = some f → LoopS E.P x f
theorem ev_wp (hE : E.Sound) (hm : E.P.follows .mixedOrders = true) {out : AV × AH} {m : Nat} : ∀ (n : Nat) (c : Code) (st : AS) (k : Exit → AS → Out) (Q : Exit → Act → World → Prop) (β : Bt) (a : Act) (w : World), LpC E c → m ≤ st.h.nx → RelS L w0 β st [] a w → ev E m n c st k = some out →
    (∀ e β2 st' a' w', Agree m β β2 → m ≤ st'.h.nx → RelS L w0 β2 st' [] a' w' → k e st' = some out → Q e a' w') → c.wp E.P Q a w ∧ ∀ x, c = .loop x → E.lp (keyC x) = none → Code.rounds E.P x Q n a w
  | 0, c, st, k, Q, β, a, w, hl, hmx, R, h, hK => by simp [ev] at h
  | n + 1, c, st, k, Q, β, a, w, hl, hmx, R, h, hK => by
    have here : ∀ e, k e st = some out → Q e a w := fun e he => hK e β st a w (Agree.refl _ _) hmx R he
    have noloop : (∀ x, c ≠ .loop x) → c.wp E.P Q a w → c.wp E.P Q a w ∧ ∀ x, c = .loop x → E.lp (keyC x) = none → Code.rounds E.P x Q (n + 1) a w := fun h1 h2 => ⟨h2, fun x hx => absurd hx (h1 x)⟩
    cases c with
    | skip => simp only [ev] at h; exact noloop (by intro x h; cases h) (wp_skip (here _ h))
    | label l => simp only [ev] at h; exact noloop (by intro x h; cases h) (wp_label (here _ h))
    | ret => simp only [ev] at h; exact noloop (by intro x h; cases h) (wp_ret (here _ h))
    | exit id => simp only [ev] at h; exact noloop (by intro x h; cases h) (wp_exit (here _ h))
    | region id ops draw =>
      simp only [ev] at h
      refine noloop (by intro x h; cases h) ?_
      cases draw with
      | false => exact wp_region_list (evOps_wp hE _ st [] β a w R h fun β2 st' a' w' h1 h2 h3 h4 => hK .normal β2 st' a' w' (h1.mono hmx) (Nat.le_trans hmx h2) h3 h4)
      | true => exact evD_wp hE hm R h fun β2 st' a' w' h1 h2 h3 h4 => hK .normal β2 st' a' w' (h1.mono hmx) (Nat.le_trans hmx h2) h3 h4
    | seq x y =>
      simp only [ev] at h
      refine noloop (by intro x h; cases h) (wp_seq ?_)
      refine (ev_wp hE hm n x st _ _ β a w (fun x hx => hl x (List.mem_append_left _ hx)) hmx R h fun e β2 st' a' w' h1 h2 h3 h4 => ?_).1
      cases e with
      | normal => exact (ev_wp hE hm n y st' k Q β2 a' w' (fun x hx => hl x (List.mem_append_right _ hx)) h2 h3 h4 fun e β3 st'' a'' w'' g1 g2 g3 g4 => hK e β3 st'' a'' w'' (h1.trans g1 (Nat.le_refl _)) g2 g3 g4).1
      | _ => exact hK _ β2 st' a' w' h1 h2 h3 h4
    | cond c x y =>
      simp only [ev] at h
      refine noloop (by intro x h; cases h) ?_
      split at h
      · rename_i b hb
        have hc := boolOf hb (evA_spec (R.all β (Agree.refl _ _)).1 c)
        have R' : ∀ b', a.eval c = .bool b' → RelS L w0 β ⟨setF c b' st.fr, st.h⟩ [] a w := by
          intro b' hc
          cases c with
          | tmp t =>
            refine ⟨by simp only [setF, putA_len]; exact R.len, R.dfr, fun β' hβ => ⟨fun j => ?_, (R.all β' hβ).2⟩, R.sp⟩
            simp only [setF, getA_put]
            split
            · rename_i hj
              rw [hj.1]
              exact .inr hc
            · exact (R.all β' hβ).1 j
          | _ => exact R
        have hset : ∀ b' (kk : List AV → Out), setO st c b' kk = kk (setF c b' st.fr) := by
          intro b' kk
          cases c <;> simp [setO, putS_eq, setF]
        refine wp_cond hc ?_
        cases b with
        | true =>
          simp only [cond_true, hset] at h
          rw [if_pos rfl]
          exact (ev_wp hE hm n x ⟨setF c true st.fr, st.h⟩ k Q β a w (fun x hx => hl x (List.mem_append_left _ hx)) hmx (R' true hc) h hK).1
        | false =>
          simp only [cond_false, hset] at h
          rw [if_neg (by simp)]
          exact (ev_wp hE hm n y ⟨setF c false st.fr, st.h⟩ k Q β a w (fun x hx => hl x (List.mem_append_right _ hx)) hmx (R' false hc) h hK).1
      · cases h
    | block id x =>
      simp only [ev] at h
      refine noloop (by intro x h; cases h) (wp_block ?_)
      refine (ev_wp hE hm n x st _ _ β a w hl hmx R h fun e β2 st' a' w' h1 h2 h3 h4 => ?_).1
      cases e with
      | exit id' =>
        simp only [Exit.inBlock]
        simp only at h4
        cases e : Nat.beq id' id with
        | true =>
          rw [if_pos (Nat.eq_of_beq_eq_true e)]
          simp only [e, cond_true] at h4
          obtain ⟨st2, β3, g1, g2, g3, g4⟩ := gc_spec h2 h3 h4
          exact hK .normal β3 st2 a' w' (h1.trans g2 (Nat.le_refl _)) g3 g4 g1
        | false =>
          rw [if_neg (Nat.ne_of_beq_eq_false e)]
          simp only [e, cond_false] at h4
          exact hK _ β2 st' a' w' h1 h2 h3 h4
      | _ => exact hK _ β2 st' a' w' h1 h2 h3 h4
    | loop x =>
      simp only [ev] at h
      cases hlp : E.lp (keyC x) with
      | some f =>
        simp only [hlp] at h
        obtain ⟨st2, β0, g1, g2, g3, g4⟩ := gc_spec hmx R h
        refine ⟨hl x (List.mem_cons_self ..) f hlp m st2 k out g1 L w0 Q β0 a w g3 g4 fun e β2 st' a' w' h1 h2 h3 h4 => ?_, fun y hy hn => ?_⟩
        · exact hK e β2 st' a' w' (g2.trans h1 (Nat.le_refl _)) h2 h3 h4
        · injection hy with hy
          subst hy
          rw [hlp] at hn
          cases hn
      | none =>
        simp only [hlp] at h
        obtain ⟨st2, β0, g1, g2, g3, g4⟩ := gc_spec hmx R h
        have hr : Code.rounds E.P x Q (n + 1) a w := by
          rw [rounds_succ]
          refine (ev_wp hE hm n x st2 _ _ β0 a w (fun y hy => hl y (List.mem_cons_of_mem _ hy)) g3 g4 g1 fun e β2 st' a' w' h1 h2 h3 h4 => ?_).1
          have h1 := g2.trans h1 (Nat.le_refl _)
          cases e with
          | normal => exact (ev_wp hE hm n (.loop x) st' k Q β2 a' w' hl h2 h3 h4 fun e β3 st'' a'' w'' g1 g2 g3 g4 => hK e β3 st'' a'' w'' (h1.trans g1 (Nat.le_refl _)) g2 g3 g4).2 x rfl hlp
          | _ => exact hK _ β2 st' a' w' h1 h2 h3 h4
        exact ⟨wp_loop_rounds (n + 1) hr, fun y hy _ => by injection hy with hy; subst hy; exact hr⟩
    | rangeFunc f ps as b => simp [ev] at h
    | scope b => simp [ev] at h
    | goto l => simp [ev] at h
    | refuse why => simp [ev] at h
theorem LoopS.of (hE : E.Sound) (hm : E.P.follows .mixedOrders = true) {x : Code} (hl : LpC E (.loop x)) {f : Nat → AS → (Exit → AS → Out) → Out} (kp : Exit → Option (List Nat))
    (h : ∀ (m : Nat) (st : AS) (k : Exit → AS → Out) (out : AV × AH), f m st k = some out → ∃ n, ev E m n (.loop x) st (fun e st' => gc m (kp e) st' (k e)) = some out) : LoopS E.P x f := by
  intro m st k out hf L w0 Q β a w hmx R hK
  obtain ⟨n, hn⟩ := h m st k out hf
  refine (ev_wp hE hm n (.loop x) st _ Q β a w hl hmx R hn fun e β2 st' a' w' h1 h2 h3 h4 => ?_).1
  obtain ⟨st2, β3, g1, g2, g3, g4⟩ := gc_spec h2 h3 h4
  exact hK e β3 st2 a' w' (h1.trans g2 (Nat.le_refl _)) g3 g4 g1
end Go.Proofs.Ytjpeplidbodjiaa
