/- The relation between the evaluator's state and the machine's; each operation. -/
import Derived.Test.YtjpeplidbodjiaaSndL
namespace Go.Proofs.Ytjpeplidbodjiaa
open Go.RowKit
def Ro (L : List Nat) (w0 : World) (s : Option Addr × Nat × Nat) (lb : LB) : Prop :=
  s.2.1 = lb.bb.n ∧ (0 < lb.bb.n → ∃ b o, s.1 = some ⟨b, o, none⟩ ∧ b < w0.heap.size ∧ b ∉ L ∧ ∀ i x, (lV lb)[i]? = some x → w0.cell? ⟨b, o + i, none⟩ = some x)
structure HR (L : List Nat) (w0 : World) (β : Bt) (h : AH) (w : World) : Prop where
  own : Own L w0 (bsO β h.b) (lsO β h.l) w
  ro : ∀ q ∈ h.l, q.2.own = false → Ro L w0 (β.l q.1) q.2
def Agree (nx : Nat) (β β' : Bt) : Prop := ∀ i, i < nx → β'.b i = β.b i ∧ β'.l i = β.l i
theorem Agree.refl (nx : Nat) (β : Bt) : Agree nx β β := fun _ _ => ⟨rfl, rfl⟩
theorem Agree.trans {nx nx' : Nat} {β β' β'' : Bt} (h : Agree nx β β') (h' : Agree nx' β' β'') (hle : nx ≤ nx') : Agree nx β β'' :=
  fun i hi => ⟨(h' i (Nat.lt_of_lt_of_le hi hle)).1.trans (h i hi).1, (h' i (Nat.lt_of_lt_of_le hi hle)).2.trans (h i hi).2⟩
theorem Agree.mono {nx nx' : Nat} {β β' : Bt} (h : Agree nx' β β') (hle : nx ≤ nx') : Agree nx β β' := fun i hi => h i (Nat.lt_of_lt_of_le hi hle)
theorem look_mem {α : Type} {id : Nat} {x : α} : ∀ {l : List (Nat × α)}, look id l = some x → (id, x) ∈ l
  | [], h => by simp [look] at h
  | (j, y) :: r, h => by
    simp only [look] at h
    cases e : Nat.beq id j with
    | true =>
      simp only [e, cond_true, Option.some.injEq] at h
      have := Nat.eq_of_beq_eq_true e
      subst this h
      exact List.mem_cons_self ..
    | false =>
      simp only [e, cond_false] at h
      exact List.mem_cons_of_mem _ (look_mem h)
theorem evA_spec {β : Bt} {st : AS} {a : Act} (hf : RF β st.fr a.tmps) (x : Operand) : RV β (evA st x) (a.eval x) := by
  cases x with
  | tmp t => exact hf t
  | const v =>
    right
    cases v <;> first
      | rfl
      | (simp only [evA, constA, cA, cA0, Act.eval, List.map_map]
         rename_i cs
         congr 1
         have : (cC β ∘ AC.v) = id := rfl
         simp [this])
  | global g => exact .inl rfl
  | func f => exact .inr rfl
theorem plainL_spec (β : Bt) : ∀ {cs : List AC} {xs : List Value}, plainL cs = some xs → cs.map (cC β) = xs
  | [], xs, h => by simp [plainL] at h; simp [h]
  | c :: r, xs, h => by
    simp only [plainL] at h
    cases hc : plainC c with
    | none => simp [hc] at h
    | some x =>
      cases hr : plainL r with
      | none => simp [hc, hr] at h
      | some ys =>
        simp only [hc, hr, Option.some.injEq] at h
        subst h
        have hx : cC β c = x := by
          cases c <;> simp [plainC] at hc
          simp [cC, hc]
        simp [hx, plainL_spec β hr]
theorem plain_spec {β : Bt} {v : AV} {x y : Value} (h : plainA v = some x) (hr : RV β v y) : y = x := by
  have hne : v ≠ .one .any := by intro e; subst e; simp [plainA, plainC] at h
  have hy : y = cA β v := hr.resolve_left hne
  rw [hy]
  cases v with
  | one c =>
    cases c <;> simp [plainA, plainC] at h
    simp [cA, cA0, cC, h]
  | agg cs =>
    simp only [plainA] at h
    cases hc : plainL cs with
    | none => simp [hc] at h
    | some xs =>
      simp only [hc, Option.some.injEq] at h
      rw [← h, ← plainL_spec β hc]
      rfl
  | arr n f => simp [plainA] at h
  | tup vs => simp [plainA] at h
  | clo f vs => simp [plainA] at h
theorem plainE_spec {β : Bt} {st : AS} {a : Act} (hf : RF β st.fr a.tmps) {x : Operand} (h : isPlain st x = true) : a.eval x = plainE st x := by
  unfold isPlain at h
  unfold plainE
  cases hp : plainA (evA st x) with
  | none => simp [hp] at h
  | some y => exact plain_spec hp (evA_spec hf x)
theorem runP_run {α : Type} {P : Program} {w : World} : ∀ {s : Sem α} {r : α}, runP P s = some r → s.run P w = .ok r w
  | .pure a, r, h => by simp [runP] at h; simp [Sem.run, h]
  | .program k, r, h => by simp only [runP] at h; simp only [Sem.run]; exact runP_run h
  | .mark m k, r, h => by simp only [runP] at h; simp only [Sem.run]; exact runP_run h
  | .load .., r, h => by simp [runP] at h
  | .store .., r, h => by simp [runP] at h
  | .new .., r, h => by simp [runP] at h
  | .shape .., r, h => by simp [runP] at h
  | .freeze .., r, h => by simp [runP] at h
  | .frozen .., r, h => by simp [runP] at h
  | .getObj .., r, h => by simp [runP] at h
  | .setObj .., r, h => by simp [runP] at h
  | .choose .., r, h => by simp [runP] at h
  | .sys .., r, h => by simp [runP] at h
  | .halt .., r, h => by simp [runP] at h
theorem constA_spec (β : Bt) (v : Value) : RV β (constA v) v := by
  right
  cases v <;> first
    | rfl
    | (simp only [constA, cA, cA0, List.map_map]
       rename_i cs
       congr 1
       have : (cC β ∘ AC.v) = id := rfl
       simp [this])
/-- Operations that leave all as it is. -/
def quietOp : Op → Bool
  | .alloc _ | .box .. | .store .. | .call { callee := .value _, .. } | .call { callee := .builtin .append, .. } | .buildSlice .. | .makeSlice .. | .slice .. => false
  | _ => true
theorem cell_block {L : List Nat} {w0 w : World} {β : Bt} {h : AH} (hh : HR L w0 β h w) {id : Nat} {t : TypeId} {bb : BB} (hm : (id, t, bb) ∈ h.b) (i : Nat) (x : Value) (hx : (cB β bb)[i]? = some x) : w.cell? ⟨β.b id, 0 + i, none⟩ = some x := by
  have := hh.own.cell (b := ⟨β.b id, t, cB β bb⟩) (List.mem_map.2 ⟨_, hm, rfl⟩) i
  rw [Nat.zero_add, this, hx]
theorem cell_list {L : List Nat} {w0 w : World} {β : Bt} {h : AH} (hh : HR L w0 β h w) {id : Nat} {lb : LB} (hm : (id, lb) ∈ h.l) (i : Nat) (x : Value) (hx : (lV lb)[i]? = some x) : w.cell? ⟨sB (β.l id).1, sO (β.l id).1 + i, none⟩ = some x := by
  have hn : 0 < lb.bb.n := by
    rcases Nat.eq_zero_or_pos lb.bb.n with h0 | h0
    · exfalso
      unfold lV at hx
      cases hb : lb.bb <;> simp [hb, BB.n] at h0 hx <;> simp [h0] at hx
    · exact h0
  cases ho : lb.own with
  | true =>
    have hl := hh.own.lst ⟨slv (β.l id), lb.e, lb.bb.sz, lb.bb.n, lV lb⟩ (List.mem_map.2 ⟨(id, lb), List.mem_filter.2 ⟨hm, ho⟩, rfl⟩)
    rcases hl.2 with ⟨hv, hz⟩ | ⟨g, cap, cur, hv, _⟩
    · simp only at hz; omega
    · have hb : (slv (β.l id)).ownBlock = some g := by simp only at hv; rw [hv]; rfl
      have := hl.cells hb i x hx
      have hs : (β.l id).1 = some ⟨g, 0, none⟩ := by
        simp only [slv] at hv
        injection hv
      rw [hs]
      simpa [sB, sO, Addr.add_mid] using this
  | false =>
    obtain ⟨_, hr⟩ := hh.ro _ hm ho
    obtain ⟨b, o, hs, hlt, hL, hc⟩ := hr hn
    rw [hs]
    have := hc i x hx
    show w.cell? ⟨b, o + i, none⟩ = some x
    rw [World.cell?_of_block (w := w0) (hh.own.frame b hlt hL)]
    exact this
theorem list_len {L : List Nat} {w0 w : World} {β : Bt} {h : AH} (hh : HR L w0 β h w) {id : Nat} {lb : LB} (hm : (id, lb) ∈ h.l) : (β.l id).2.1 = lb.bb.n ∧ (0 < lb.bb.n → ∃ b o, (β.l id).1 = some ⟨b, o, none⟩) := by
  cases ho : lb.own with
  | true =>
    have hl := hh.own.lst ⟨slv (β.l id), lb.e, lb.bb.sz, lb.bb.n, lV lb⟩ (List.mem_map.2 ⟨(id, lb), List.mem_filter.2 ⟨hm, ho⟩, rfl⟩)
    rcases hl.2 with ⟨hv, hz⟩ | ⟨g, cap, cur, hv, _⟩
    · simp only at hz hv
      unfold slv at hv
      injection hv with h1 h2 h3
      exact ⟨by rw [h2, hz], fun h => by omega⟩
    · simp only at hv
      unfold slv at hv
      injection hv with h1 h2 h3
      exact ⟨h2, fun _ => ⟨_, _, h1⟩⟩
  | false =>
    obtain ⟨h1, hr⟩ := hh.ro _ hm ho
    exact ⟨h1, fun hn => by obtain ⟨b, o, hs, _⟩ := hr hn; exact ⟨b, o, hs⟩⟩
end Go.Proofs.Ytjpeplidbodjiaa
