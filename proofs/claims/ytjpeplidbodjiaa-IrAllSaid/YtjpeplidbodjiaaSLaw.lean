/- One law an operation, over what a call owns (the text before this one). No program in sight. -/
import Derived.Test.YtjpeplidbodjiaaSL
namespace Go.Proofs.Ytjpeplidbodjiaa
open Go.RowKit
variable {P : Program} {ops : Array Oper} {Q : Exit → Act → World → Prop} {a : Act} {rest : List Oper} {o : Oper} {L : List Nat} {w0 w w' : World} {bs : List Bl} {ls : List Ls}
theorem wpList_want (hwant : Region.wanted o (yielded ops a.tmps) = true) (h : ∀ K : Act → World → Prop, (∀ a w, wpList P ops Q rest a w → K a w) → o.wp P a w K Q) : wpList P ops Q (o :: rest) a w :=
  wpList_step fun K hK => by rw [if_pos hwant]; exact h K hK
theorem wpList_val {v : Value} (hwant : Region.wanted o (yielded ops a.tmps) = true) (hr : (execOp a.eval o).run P w = .ok (.value v) w') (h : wpList P ops Q rest (a.put o.dst v) w') : wpList P ops Q (o :: rest) a w :=
  wpList_want hwant fun K hK => by unfold Oper.wp; rw [hr]; exact hK _ _ h
theorem wpList_skp (hwant : Region.wanted o (yielded ops a.tmps) = true) (hr : (execOp a.eval o).run P w = .ok .skip w') (h : wpList P ops Q rest (a.put o.dst undef) w') : wpList P ops Q (o :: rest) a w :=
  wpList_want hwant fun K hK => by unfold Oper.wp; rw [hr]; exact hK _ _ h
/-- The cells of a new variable of type t. -/
def zc (P : Program) (t : TypeId) : Option (List Value) := ((P.info? t).bind (·.zero)).map (·.cells.toList)
theorem run_zero {t : TypeId} {z : List Value} (hz : zc P t = some z) : ∃ v, v.cells = z.toArray ∧ (zeroValue t).run P w = .ok v w := by
  unfold zc at hz
  cases hi : P.info? t with
  | none => simp [hi] at hz
  | some i =>
    cases hzz : i.zero with
    | none => simp [hi, hzz] at hz
    | some v =>
      simp only [hi, hzz, Option.bind_some, Option.map_some, Option.some.injEq] at hz
      exact ⟨v, by rw [← hz], by simp [zeroValue, typeInfo, hi, hzz]⟩
theorem run_newVar_any (t : TypeId) (v : Value) (w : World) : (newVar t v).run P w = .ok ⟨w.heap.size, 0, none⟩ (w.alloc (.cells v.cells t)) := by
  simp [newVar, newRow, newObj]
  rfl
theorem law_alloc (hw : Own L w0 bs ls w) (hwant : Region.wanted o (yielded ops a.tmps) = true) (t : TypeId) (ho : o.op = .alloc t) (z : List Value) (hz : zc P t = some z)
    (h : ∀ g w', Own L w0 (⟨g, t, z⟩ :: bs) ls w' → wpList P ops Q rest (a.put o.dst (.pointer (some ⟨g, 0, none⟩))) w') : wpList P ops Q (o :: rest) a w := by
  obtain ⟨v, hv, hr⟩ := run_zero (P := P) (w := w) hz
  refine wpList_val hwant (v := .pointer (some ⟨w.heap.size, 0, none⟩)) (w' := w.alloc (.cells z.toArray t)) ?_ (h _ _ (hw.alloc z t))
  simp only [execOp, ho, Instr.alloc, Sem.run_bind, hr, Result.andThen_ok, run_newVar_any, hv, Sem.run_pure]
theorem law_box (hw : Own L w0 bs ls w) (hwant : Region.wanted o (yielded ops a.tmps) = true) (t : TypeId) (x : Operand) (ho : o.op = .box t x) (v : Value) (hx : a.eval x = v) (cs : List Value) (hc : v.cells = cs.toArray)
    (h : ∀ g w', Own L w0 (⟨g, t, cs⟩ :: bs) ls w' → wpList P ops Q rest (a.put o.dst (.pointer (some ⟨g, 0, none⟩))) w') : wpList P ops Q (o :: rest) a w := by
  refine wpList_val hwant (v := .pointer (some ⟨w.heap.size, 0, none⟩)) (w' := w.alloc (.cells cs.toArray t)) ?_ (h _ _ (hw.alloc cs t))
  simp only [execOp, ho, Instr.box, Sem.run_bind, hx, run_newVar_any, hc, Result.andThen_ok, Sem.run_pure]
theorem Own.cell (hw : Own L w0 bs ls w) {b : Bl} (hb : b ∈ bs) (j : Nat) : w.cell? ⟨b.g, j, none⟩ = b.cs[j]? := by
  rw [cell_of_row w b.g j _ _ _ (hw.blk b hb)]
  simp
def one? (d : Option TypeDesc) : Bool := match d with | some (.struct _) | some (.array _ _) | none => false | _ => true
theorem run_loadVar_one {t : TypeId} (hd : one? (P.underlying t) = true) {ad : Addr} {v : Value} (hc : w.cell? ad = some v) : (loadVar t ad).run P w = .ok v w := by
  cases hu : P.underlying t with
  | none => simp [hu, one?] at hd
  | some d =>
    have hagg : (isAgg t).run P w = .ok false w := by
      unfold isAgg
      rw [Sem.run_bind, run_underlying hu w]
      cases d <;> simp_all [one?]
    simp [loadVar, Sem.run_bind, hagg, load, Sem.run, hc]
theorem run_load1 (hw : Own L w0 bs ls w) {t : TypeId} (hd : one? (P.underlying t) = true) {b : Bl} (hb : b ∈ bs) {off : Nat} {v : Value} (hv : b.cs[off]? = some v) :
    (Instr.loadAt t (.pointer (some ⟨b.g, off, none⟩))).run P w = .ok v w := by
  simp only [Instr.loadAt, Instr.sureAddr, Sem.run_bind, Sem.run_pure, Result.andThen_ok]
  exact run_loadVar_one hd (by rw [hw.cell hb, hv])
theorem law_load1 (hw : Own L w0 bs ls w) (hwant : Region.wanted o (yielded ops a.tmps) = true) (t : TypeId) (x : Operand) (ho : o.op = .load t x) (g off : Nat) (hx : a.eval x = .pointer (some ⟨g, off, none⟩))
    (hd : one? (P.underlying t) = true) (i : Nat) (b : Bl) (hi : bs[i]? = some b) (hg : b.g = g) (v : Value) (hv : b.cs[off]? = some v)
    (h : wpList P ops Q rest (a.put o.dst v) w) : wpList P ops Q (o :: rest) a w := by
  subst hg
  refine wpList_val hwant (v := v) (w' := w) ?_ h
  simp only [execOp, ho, hx, Sem.run_bind, run_load1 hw hd (List.mem_of_getElem? hi) hv, Result.andThen_ok, Sem.run_pure]
theorem run_loadN (hw : Own L w0 bs ls w) {t : TypeId} (d : TypeDesc) (hu : P.underlying t = some d) (hd : d.isRow = true) (n : Nat) (hn : (P.info? t).map (·.size) = some n) {b : Bl} (hb : b ∈ bs) {off : Nat}
    (hv : off + n ≤ b.cs.length) : (Instr.loadAt t (.pointer (some ⟨b.g, off, none⟩))).run P w = .ok (.agg ((b.cs.drop off).take n).toArray) w := by
  refine run_loadAt_mid w b.g off t _ d ?_ hu hd (by rw [hn]; simp; omega)
  intro j v hj
  rw [hw.cell hb]
  rw [List.getElem?_take] at hj
  split at hj
  · rw [List.getElem?_drop] at hj; exact hj
  · cases hj
theorem law_loadN (hw : Own L w0 bs ls w) (hwant : Region.wanted o (yielded ops a.tmps) = true) (t : TypeId) (x : Operand) (ho : o.op = .load t x) (g off : Nat) (hx : a.eval x = .pointer (some ⟨g, off, none⟩))
    (d : TypeDesc) (hu : P.underlying t = some d) (hd : d.isRow = true) (n : Nat) (hn : (P.info? t).map (·.size) = some n) (i : Nat) (b : Bl) (hi : bs[i]? = some b) (hg : b.g = g) (hv : off + n ≤ b.cs.length)
    (h : wpList P ops Q rest (a.put o.dst (.agg ((b.cs.drop off).take n).toArray)) w) : wpList P ops Q (o :: rest) a w := by
  subst hg
  refine wpList_val hwant (w' := w) ?_ h
  simp only [execOp, ho, hx, Sem.run_bind, run_loadN hw d hu hd n hn (List.mem_of_getElem? hi) hv, Result.andThen_ok, Sem.run_pure]
/-- Stored cells: the block with them. -/
def putAt (cs : List Value) (off : Nat) (vs : List Value) : List Value := cs.take off ++ vs ++ cs.drop (off + vs.length)
theorem heap_setCells (g t : Nat) : ∀ (vs : List Value) (off : Nat) (cs : List Value) (w : World), w.heap[g]? = some (.cells cs.toArray t (0, 0)) → off + vs.length ≤ cs.length →
    (w.setCells g off vs).heap[g]? = some (.cells (putAt cs off vs).toArray t (0, 0))
  | [], off, cs, w, h, _ => by simpa [World.setCells, putAt] using h
  | v :: vs, off, cs, w, h, hl => by
    rw [World.setCells]
    have h1 := heap_setCell_same w g off _ t v h
    simp only [List.setIfInBounds_toArray] at h1
    rw [heap_setCells g t vs (off + 1) (cs.set off v) _ h1 (by simp at hl ⊢; omega)]
    have e : putAt (cs.set off v) (off + 1) vs = putAt cs off (v :: vs) := by
      unfold putAt
      simp only [List.length_cons] at hl ⊢
      have h1 : (cs.set off v).take (off + 1) = cs.take off ++ [v] := by
        rw [List.take_succ_eq_append_getElem (by simp; omega)]
        simp only [List.getElem_set_self, List.take_set, List.append_cancel_right_eq]
        exact List.set_eq_of_length_le (by simp; omega)
      rw [h1, List.drop_set, if_pos (by omega)]
      simp [Nat.add_assoc, Nat.add_comm 1]
    rw [e]
theorem grownBy_setCells (g : Nat) : ∀ (vs : List Value) (off : Nat) (w : World), w.grownBy (w.setCells g off vs) (some g)
  | [], _, w => World.grownBy.refl w _
  | v :: vs, off, w => by
    rw [World.setCells]
    have h := grownBy_setCells g vs (off + 1) (w.setCell ⟨g, off, none⟩ v)
    exact ⟨h.os, h.tape, h.output, by simpa [World.setCell] using h.size, fun k hk hne => (h.block k (by simpa [World.setCell] using hk) hne).trans (Below.heap_setCell w _ v k (by intro e; exact hne (by rw [e])))⟩
theorem run_storeN (hw : Own L w0 bs ls w) {t : TypeId} {v : Value} {vs : List Value} (hvs : v.cells = vs.toArray) (hn : (P.info? t).map (·.size) = some vs.length) (h1 : vs.all (·.oneCell') = true) {b : Bl} (hb : b ∈ bs) {off : Nat}
    (hl : off + vs.length ≤ b.cs.length) : (Instr.storeAt t (.pointer (some ⟨b.g, off, none⟩)) v).run P w = .ok () (w.setCells b.g off vs) := by
  have hblk := hw.blk b hb
  have hone : ∀ u ∈ vs, u.oneCell' = true := List.all_eq_true.1 h1
  have := run_storeCells_cells (P := P) b.g off vs 0 w (fun j hj => by rw [hw.cell hb]; rw [List.getElem?_eq_getElem (by omega)]; rfl) (fun j hj => by simp [World.frozen?, hblk]) hone
  cases hq : P.info? t with
  | none => simp [hq] at hn
  | some i =>
    have hs : vs.length = i.size := by simp [hq] at hn; omega
    simp only [Nat.add_zero] at this
    simp [Instr.storeAt, Instr.sureAddr, storeVar, sizeOf, typeInfo, hq, hvs, hs, this]
theorem law_store (hw : Own L w0 bs ls w) (hwant : Region.wanted o (yielded ops a.tmps) = true) (t : TypeId) (x y : Operand) (ho : o.op = .store t x y) (g off : Nat) (hx : a.eval x = .pointer (some ⟨g, off, none⟩))
    (v : Value) (hy : a.eval y = v) (vs : List Value) (hvs : v.cells = vs.toArray) (hn : (P.info? t).map (·.size) = some vs.length) (h1 : vs.all (·.oneCell') = true)
    (i : Nat) (b : Bl) (hi : bs[i]? = some b) (hg : b.g = g) (hl : off + vs.length ≤ b.cs.length)
    (h : ∀ w', Own L w0 (bs.set i ⟨b.g, b.t, putAt b.cs off vs⟩) ls w' → wpList P ops Q rest (a.put o.dst undef) w') : wpList P ops Q (o :: rest) a w := by
  subst hg
  have hb := List.mem_of_getElem? hi
  refine wpList_skp hwant (w' := w.setCells b.g off vs) ?_ (h _ (hw.update hi (grownBy_setCells _ _ _ _) (heap_setCells _ _ _ _ _ _ (hw.blk b hb) hl)))
  simp only [execOp, ho, hx, hy, Sem.run_bind, run_storeN hw hvs hn h1 hb hl, Result.andThen_ok, Sem.run_pure]
end Go.Proofs.Ytjpeplidbodjiaa
