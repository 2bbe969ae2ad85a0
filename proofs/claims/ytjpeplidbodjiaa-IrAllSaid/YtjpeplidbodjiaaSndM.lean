/- Lists that are made, put together, cut, turned: what is owned behind it. -/
import Derived.Test.YtjpeplidbodjiaaSndP
import Derived.Great.BuildSlice
import Derived.OwnWalk
namespace Go.Proofs.Ytjpeplidbodjiaa
open Go.RowKit
variable {L : List Nat} {w0 w w' : World} {β : Bt} {E : Env} {st : AS} {a : Act} {o : Oper} {v : AV} {h' : AH} {P : Program}
def lsOf (s : Option Addr × Nat × Nat) (lb : LB) : Ls := ⟨slv s, lb.e, lb.bb.sz, lb.bb.n, lV lb⟩
theorem lsO_cons (j : Nat) (x : LB) (l : List (Nat × LB)) : lsO β ((j, x) :: l) = if x.own = true then lsOf (β.l j) x :: lsO β l else lsO β l := by
  simp only [lsO, List.filter_cons]
  split <;> simp [lsOf]
theorem swap_ls : ∀ {l : List (Nat × LB)} {id : Nat} {lb : LB}, look id l = some lb → lb.own = true →
    ∃ i, (lsO β l)[i]? = some (lsOf (β.l id) lb) ∧ ∀ nx (y : LB), y.own = true → lsO β (swap id nx y l) = (lsO β l).set i (lsOf (β.l nx) y)
  | [], _, _, h, _ => by simp [look] at h
  | (j, x) :: r, id, lb, h, ho => by
    simp only [look] at h
    cases e : Nat.beq id j with
    | true =>
      simp only [e, cond_true, Option.some.injEq] at h
      have := Nat.eq_of_beq_eq_true e
      subst this h
      refine ⟨0, by rw [lsO_cons, if_pos ho]; rfl, fun nx y hy => ?_⟩
      simp only [swap, e, cond_true]
      rw [lsO_cons, lsO_cons, if_pos ho, if_pos hy]
      rfl
    | false =>
      simp only [e, cond_false] at h
      obtain ⟨i, h1, h2⟩ := swap_ls h ho
      cases hx : x.own with
      | true =>
        refine ⟨i + 1, by rw [lsO_cons, if_pos hx]; simpa using h1, fun nx y hy => ?_⟩
        simp only [swap, e, cond_false]
        rw [lsO_cons, lsO_cons, if_pos hx, if_pos hx, h2 nx y hy]
        rfl
      | false =>
        refine ⟨i, by rw [lsO_cons, if_neg (by simp [hx])]; exact h1, fun nx y hy => ?_⟩
        simp only [swap, e, cond_false]
        rw [lsO_cons, lsO_cons, if_neg (by simp [hx]), if_neg (by simp [hx]), h2 nx y hy]
theorem mem_swap {id nx : Nat} {y : LB} : ∀ {l : List (Nat × LB)} {q : Nat × LB}, q ∈ swap id nx y l → q = (nx, y) ∨ q ∈ l
  | [], _, h => by simp [swap] at h
  | (j, x) :: r, q, h => by
    simp only [swap] at h
    cases e : Nat.beq id j with
    | true =>
      simp only [e, cond_true, List.mem_cons] at h
      rcases h with h | h
      · exact .inl h
      · exact .inr (List.mem_cons_of_mem _ h)
    | false =>
      simp only [e, cond_false, List.mem_cons] at h
      rcases h with h | h
      · exact .inr (by rw [h]; exact List.mem_cons_self ..)
      · rcases mem_swap h with h | h
        · exact .inl h
        · exact .inr (List.mem_cons_of_mem _ h)
theorem over_swap {id : Nat} {y : LB} : ∀ (l : List (Nat × LB)), over id y l = swap id id y l
  | [] => rfl
  | (j, x) :: r => by
    simp only [over, swap]
    cases e : Nat.beq id j with
    | true =>
      have := Nat.eq_of_beq_eq_true e
      subst this
      rfl
    | false => simp [over_swap r]
theorem below_grown {w w' : World} (hg : w.grownBy w' none) : Below w.heap.size w w' := ⟨hg.os, hg.tape, hg.output, hg.size, fun k hk => hg.block k hk (by simp)⟩
theorem HR.newl {h : AH} {lb : LB} {nx nx' : Nat} (hh : HR L w0 β h w) (ho : lb.own = true) (hg : w.grownBy w' none) (hr : w'.ownsRow w.heap.size lb.e lb.bb.sz (slv (β.l nx)) lb.bb.n (lV lb)) : HR L w0 β ⟨h.b, (nx, lb) :: h.l, nx'⟩ w' := by
  refine ⟨?_, fun q hq hf => ?_⟩
  · simp only
    rw [lsO_cons, if_pos ho]
    exact hh.own.got (below_grown hg) hr
  · rcases List.mem_cons.1 hq with rfl | hq
    · simp [ho] at hf
    · exact hh.ro q hq hf
theorem HR.swapl {h : AH} {id nx nx' : Nat} {lb lb' : LB} (hh : HR L w0 β h w) (hl : look id h.l = some lb) (ho : lb.own = true) (ho' : lb'.own = true) (he : lb'.e = lb.e) (hs : lb'.bb.sz = lb.bb.sz)
    (hg : w.grownBy w' (slv (β.l id)).ownBlock) (hr : w'.ownsRow w0.heap.size lb.e lb.bb.sz (slv (β.l nx)) lb'.bb.n (lV lb')) (hv : (slv (β.l nx)).ownBlock = (slv (β.l id)).ownBlock ∨ (slv (β.l nx)).ownBlock = some w.heap.size) :
    HR L w0 β ⟨h.b, swap id nx lb' h.l, nx'⟩ w' := by
  obtain ⟨i, h1, h2⟩ := swap_ls (β := β) hl ho
  refine ⟨?_, fun q hq hf => ?_⟩
  · simp only
    rw [h2 nx lb' ho']
    have := hh.own.append h1 hg hr hv
    simpa [lsOf, he, hs] using this
  · rcases mem_swap hq with rfl | hq
    · simp [ho'] at hf
    · exact hh.ro q hq hf
theorem ownsRow_slv {base : Nat} {e : TypeId} {sz n : Nat} {v : Value} {xs : List Value} (h : w.ownsRow base e sz v n xs) : ∃ s, v = slv s := by
  rcases h.2 with ⟨rfl, _⟩ | ⟨g, cap, cur, rfl, _⟩
  · exact ⟨(none, 0, 0), rfl⟩
  · exact ⟨(_, _, _), rfl⟩
theorem shAll_congr {f f' : Nat → Nat → Int} {o o' : Nat → Nat → ByteArray} {k k' : Nat} (hf : ∀ j, f k j = f' k' j) (ho : ∀ j, o k j = o' k' j) : ∀ (sh : List CK) (j : Nat), shAll f o k sh j = shAll f' o' k' sh j
  | [], _ => rfl
  | .i _ :: r, j => by simp only [shAll, hf, shAll_congr hf ho r]
  | .s :: r, j => by simp only [shAll, ho, shAll_congr hf ho r]
theorem flat_cat (g g1 g2 : Nat → List Value) (n n' : Nat) (h1 : ∀ k, k < n → g k = g1 k) (h2 : ∀ k, k < n' → g (n + k) = g2 k) : (List.range (n + n')).flatMap g = (List.range n).flatMap g1 ++ (List.range n').flatMap g2 := by
  rw [List.range_add, List.flatMap_append, List.flatMap_map]
  congr 1
  · rw [List.flatMap_def, List.flatMap_def, List.map_congr_left fun k hk => h1 k (List.mem_range.1 hk)]
  · rw [List.flatMap_def, List.flatMap_def, List.map_congr_left fun k hk => h2 k (List.mem_range.1 hk)]
theorem eqSh_spec : ∀ {a b : List CK}, eqSh a b = true → a = b
  | [], [], _ => rfl
  | [], _ :: _, h => by simp [eqSh] at h
  | _ :: _, [], h => by simp [eqSh] at h
  | a :: r, b :: s, h => by
    simp only [eqSh, Bool.and_eq_true] at h
    have hk : a = b := by cases a <;> cases b <;> simp_all [eqK]
    rw [hk, eqSh_spec h.2]
theorem blt_false {k n : Nat} (h : ¬ k < n) : Nat.blt k n = false := by
  cases e : Nat.blt k n with
  | false => rfl
  | true => exact absurd (by rw [Nat.blt_eq] at e; exact e) h
theorem blt_true {k n : Nat} (h : k < n) : Nat.blt k n = true := by rw [Nat.blt_eq]; exact h
theorem catB_spec {x y z : BB} (h : catB x y = some z) : z.sz = x.sz ∧ z.sz = y.sz ∧ z.n = x.n + y.n ∧ ∀ o1 o2 o3 e1 e2 e3, lV ⟨o3, e3, z⟩ = lV ⟨o1, e1, x⟩ ++ lV ⟨o2, e2, y⟩ := by
  cases x with
  | cells cs => simp [catB] at h
  | bools m n f =>
    cases y with
    | bools m' n' f' =>
      simp only [catB] at h
      cases e : Nat.beq m m' with
      | false => simp [e] at h
      | true =>
        have em := Nat.eq_of_beq_eq_true e
        subst em
        simp only [e, cond_true, Option.some.injEq] at h
        subst h
        refine ⟨rfl, rfl, rfl, fun o1 o2 o3 e1 e2 e3 => ?_⟩
        refine flat_cat _ _ _ n n' (fun k hk => ?_) fun k _ => ?_
        · simp [blt_true hk]
        · have hb : Nat.blt (n + k) n = false := blt_false (by omega)
          simp [hb]
    | _ => simp [catB] at h
  | row sh n f o =>
    cases y with
    | row sh' n' f' o' =>
      simp only [catB] at h
      cases e : eqSh sh sh' with
      | false => simp [e] at h
      | true =>
        have em := eqSh_spec e
        subst em
        simp only [e, cond_true, Option.some.injEq] at h
        subst h
        refine ⟨rfl, rfl, rfl, fun o1 o2 o3 e1 e2 e3 => ?_⟩
        refine flat_cat _ _ _ n n' (fun k hk => ?_) fun k _ => ?_
        · simp only [rowV]
          rw [shAll_congr (f' := f) (o' := o) (k' := k)] <;> simp [blt_true hk]
        · simp only [rowV]
          rw [shAll_congr (f' := f') (o' := o') (k' := k)] <;> (have hb : Nat.blt (n + k) n = false := blt_false (by omega); simp [hb])
    | _ => simp [catB] at h
theorem emptyB_spec {e : TypeId} {bb : BB} (h : emptyB P e = some bb) : bb.n = 0 ∧ ∀ o e', lV ⟨o, e', bb⟩ = [] := by
  unfold emptyB at h
  cases hz : zc P e with
  | none => simp [hz] at h
  | some z =>
    simp only [hz, shOfV] at h
    split at h
    · simp only [Option.some.injEq] at h
      subst h
      exact ⟨rfl, fun _ _ => rfl⟩
    · split at h
      · simp only [Option.some.injEq] at h
        subst h
        exact ⟨rfl, fun _ _ => rfl⟩
      · cases h
theorem goodE_spec {e : TypeId} {bb : BB} (h : goodE P e bb = true) : ∃ i z, P.info? e = some i ∧ i.zero = some z ∧ i.size = bb.sz ∧ z.cells.size = bb.sz ∧ 0 < bb.sz ∧ i.bytes ≤ 1048576 ∧ zc P e = some z.cells.toList ∧ sizeT P e = bb.sz := by
  unfold goodE at h
  cases hz : zc P e with
  | none => simp [hz] at h
  | some z =>
    simp only [hz, Bool.and_eq_true, Nat.blt_eq, Nat.beq_eq, Nat.ble_eq] at h
    obtain ⟨⟨⟨h1, h2⟩, h3⟩, h4⟩ := h
    have hz' := hz
    unfold zc at hz
    cases hi : P.info? e with
    | none => simp [hi] at hz
    | some i =>
      cases hzz : i.zero with
      | none => simp [hi, hzz] at hz
      | some v =>
        simp only [hi, hzz, Option.bind_some, Option.map_some, Option.some.injEq] at hz
        have hs : sizeT P e = i.size := by simp [sizeT, hi]
        have hb : bytesT P e = i.bytes := by simp [bytesT, hi]
        refine ⟨i, v, rfl, hzz, by omega, ?_, by omega, by omega, by rw [hz], by omega⟩
        rw [← Array.length_toList, hz]
        omega
theorem lV_one (lb : LB) : ∀ u ∈ lV lb, u.oneCell' = true := by
  intro u hu
  unfold lV at hu
  cases hb : lb.bb with
  | cells cs => simp [hb] at hu
  | bools m n f =>
    simp only [hb, List.mem_flatMap, List.mem_map] at hu
    obtain ⟨_, _, _, _, rfl⟩ := hu
    rfl
  | row sh n f o =>
    simp only [hb, List.mem_flatMap] at hu
    obtain ⟨k, _, hu⟩ := hu
    obtain ⟨i, hi⟩ := List.mem_iff_getElem?.1 hu
    rw [rowV_at] at hi
    cases hc : sh[i]? with
    | none => simp [hc] at hi
    | some c => cases c <;> (simp [hc] at hi; subst hi; rfl)
theorem lV_len (lb : LB) : (lV lb).length = lb.bb.n * lb.bb.sz := by
  unfold lV
  cases hb : lb.bb with
  | cells cs => simp [BB.n]
  | bools m n f => exact flat_len _ m (by simp) n
  | row sh n f o => exact flat_len _ sh.length (rowV_len sh f o) n
theorem run_append_none {t ty e : TypeId} {i : TypeInfo} (ht : P.underlying t = some (.slice e)) (hi : P.info? e = some i) (B : Option Addr) (n cap c : Nat) (h : n ≤ cap) :
    (Builtin.append_ #[t, t] ty #[.slice B n cap, .slice none 0 c]).run P w = .ok (.slice B n cap) w := by
  cases B <;> simp [Builtin.append_, run_underlying ht, sizeOf, typeInfo, hi, Builtin.lenOf, Builtin.firstCells, h, storeCells]
theorem run_app {base : Nat} {t ty e : TypeId} {i : TypeInfo} {z : Value} {size : Nat} (ht : P.underlying t = some (.slice e)) (hi : P.info? e = some i) (hz : i.zero = some z) (hsize : i.size = size) (hby : i.bytes ≤ 1048576) (hzs : z.cells.size = size) (hsz : 0 < size)
    {v : Value} {n : Nat} {xs : List Value} (hown : w.ownsRow base e size v n xs) {s : Option Addr × Nat × Nat} {news : List Value} (hl : news.length = s.2.1 * size) (hc : ∀ ad, s.1 = some ad → ∀ j u, news[j]? = some u → w.cell? (ad.add j) = some u) (hnone : s.1 = none → s.2.1 = 0) (h1 : ∀ u ∈ news, u.oneCell' = true)
    (hle : n + s.2.1 ≤ 1048576) (hbase : base ≤ w.heap.size) :
    ∃ v' w', (Builtin.append_ #[t, t] ty #[v, slv s]).run P w = .ok v' w' ∧ w'.ownsRow base e size v' (n + s.2.1) (xs ++ news) ∧ w.grownBy w' v.ownBlock ∧ (v'.ownBlock = v.ownBlock ∨ v'.ownBlock = some w.heap.size) := by
  obtain ⟨A, m, c⟩ := s
  simp only at hl hc hnone hle
  cases A with
  | none =>
    have hm := hnone rfl
    subst hm
    have hn : news = [] := List.eq_nil_of_length_eq_zero (by simpa using hl)
    subst hn
    have key : ∀ B cap, v = .slice B n cap → n ≤ cap → (Builtin.append_ #[t, t] ty #[v, slv (none, 0, c)]).run P w = .ok v w := by
      rintro B cap rfl hcap
      exact run_append_none ht hi B n cap c hcap
    refine ⟨v, w, ?_, by simpa using hown, World.grownBy.refl w _, .inl rfl⟩
    rcases hown.2 with ⟨rfl, rfl⟩ | ⟨g, cap, cur, rfl, _, _, hcap, _⟩
    · exact key none 0 rfl (Nat.le_refl _)
    · exact key _ cap rfl hcap
  | some ad =>
    have hb : (n + m) * i.bytes ≤ 140737488355328 := by
      have := Nat.mul_le_mul hle hby
      omega
    obtain ⟨v', w', h1, h2, h3, _, h5⟩ := run_append_own_at (P := P) w base t ty e i z size i.bytes ht hi hz hsize rfl hzs hsz v n xs hown ad m c news hl (hc ad rfl) h1 (by simp [maxLen]; omega) hb hbase
    exact ⟨v', w', h1, h2, h3, h5⟩
theorem list_cells {h : AH} (hh : HR L w0 β h w) {id : Nat} {lb : LB} (hm : (id, lb) ∈ h.l) : (lV lb).length = (β.l id).2.1 * lb.bb.sz ∧ (∀ ad, (β.l id).1 = some ad → ∀ j u, (lV lb)[j]? = some u → w.cell? (ad.add j) = some u) ∧ ((β.l id).1 = none → (β.l id).2.1 = 0) := by
  obtain ⟨h1, h2⟩ := list_len hh hm
  refine ⟨by rw [lV_len, h1], fun ad had j u hu => ?_, fun hn => ?_⟩
  · have hc := cell_list hh hm j u hu
    have hpos : 0 < lb.bb.n := by
      rcases Nat.eq_zero_or_pos lb.bb.n with h0 | h0
      · have := lV_len lb
        rw [h0, Nat.zero_mul] at this
        rw [List.eq_nil_of_length_eq_zero this] at hu
        simp at hu
      · exact h0
    obtain ⟨b, o, hbo⟩ := h2 hpos
    rw [had] at hbo hc
    injection hbo with hbo
    subst hbo
    simpa [sB, sO, Addr.add_mid] using hc
  · rw [h1]
    rcases Nat.eq_zero_or_pos lb.bb.n with h0 | h0
    · exact h0
    · obtain ⟨b, o, hbo⟩ := h2 h0
      rw [hn] at hbo
      cases hbo
theorem own_list {h : AH} (hh : HR L w0 β h w) {id : Nat} {lb : LB} (hm : (id, lb) ∈ h.l) (ho : lb.own = true) : w.ownsRow w0.heap.size lb.e lb.bb.sz (slv (β.l id)) lb.bb.n (lV lb) :=
  hh.own.lst ⟨slv (β.l id), lb.e, lb.bb.sz, lb.bb.n, lV lb⟩ (List.mem_map.2 ⟨(id, lb), List.mem_filter.2 ⟨hm, ho⟩, rfl⟩)
variable {Q : Exit → Act → World → Prop} {K : Act → World → Prop}
def ArgsV (β : Bt) (args : List AV) (vals : List Value) : Prop := ∀ (i : Nat) (x : AV) (y : Value), args[i]? = some x → vals[i]? = some y → RV β x y
/-- What is known of a world where a call with these arguments begins. -/
def Begin (L : List Nat) (w0 : World) (β : Bt) (args : List AV) (h : AH) (vals : List Value) (w : World) : Prop :=
  ∀ β', Agree h.nx β β' → ArgsV β' args vals ∧ HR L w0 β' h w
def After (L : List Nat) (w0 : World) (β : Bt) (h : AH) (v : AV) (h' : AH) (e : Ending) (w' : World) : Prop :=
  ∃ y β2, e = .returned y ∧ Agree h.nx β β2 ∧ h.nx ≤ h'.nx ∧ ∀ β', Agree h'.nx β2 β' → RV β' v y ∧ HR L w0 β' h' w'
def Goes (L : List Nat) (w0 : World) (β : Bt) (st : AS) (a : Act) (o : Oper) (v : AV) (h' : AH) (K : Act → World → Prop) : Prop :=
  ∀ y w' β2, Agree st.h.nx β β2 → st.h.nx ≤ h'.nx → (∀ β', Agree h'.nx β2 β' → RV β' v y ∧ HR L w0 β' h' w') → K (a.put o.dst y) w'
def Holds (L : List Nat) (w0 : World) (β : Bt) (st : AS) (a : Act) (w : World) : Prop := ∀ β', Agree st.h.nx β β' → RF β' st.fr a.tmps ∧ HR L w0 β' st.h w
theorem newl_wp {lb : LB} {y : Value} (R : Holds L w0 β st a w) (ho : lb.own = true) (hr : (execOp a.eval o).run E.P w = .ok (.value y) w') (hg : w.grownBy w' none) (hown : w'.ownsRow w.heap.size lb.e lb.bb.sz y lb.bb.n (lV lb))
    (hK : Goes L w0 β st a o (.one (.ow st.h.nx)) ⟨st.h.b, (st.h.nx, lb) :: st.h.l, st.h.nx + 1⟩ K) : o.wp E.P a w K Q := by
  obtain ⟨s, rfl⟩ := ownsRow_slv hown
  unfold Oper.wp
  rw [hr]
  refine hK _ _ ⟨β.b, fun i => if i = st.h.nx then s else β.l i⟩ (fun i hi => ⟨rfl, if_neg (by omega)⟩) (Nat.le_succ _) fun β' hβ => ?_
  have hnew : β'.l st.h.nx = s := by rw [(hβ st.h.nx (Nat.lt_succ_self _)).2]; simp
  have hold : Agree st.h.nx β β' := fun i hi => by
    obtain ⟨h1, h2⟩ := hβ i (Nat.lt_succ_of_lt hi)
    exact ⟨h1, h2.trans (if_neg (by omega))⟩
  refine ⟨.inr (by simp [cA, cA0, cC, hnew]), (R β' hold).2.newl ho hg (by rw [hnew]; exact hown)⟩
theorem swapl_wp {id : Nat} {lb lb' : LB} (R : Holds L w0 β st a w) (hl : look id st.h.l = some lb) (ho : lb.own = true) (ho' : lb'.own = true) (he : lb'.e = lb.e) (hs : lb'.bb.sz = lb.bb.sz)
    (hrun : ∀ β', Agree st.h.nx β β' → ∃ y w', (execOp a.eval o).run E.P w = .ok (.value y) w' ∧ w.grownBy w' (slv (β'.l id)).ownBlock ∧ w'.ownsRow w0.heap.size lb.e lb.bb.sz y lb'.bb.n (lV lb') ∧ (y.ownBlock = (slv (β'.l id)).ownBlock ∨ y.ownBlock = some w.heap.size))
    (hK : Goes L w0 β st a o (.one (.ow st.h.nx)) ⟨st.h.b, swap id st.h.nx lb' st.h.l, st.h.nx + 1⟩ K) : o.wp E.P a w K Q := by
  obtain ⟨y, w', hr, hg, hown, hb⟩ := hrun β (Agree.refl _ _)
  obtain ⟨s, rfl⟩ := ownsRow_slv hown
  unfold Oper.wp
  rw [hr]
  refine hK _ _ ⟨β.b, fun i => if i = st.h.nx then s else β.l i⟩ (fun i hi => ⟨rfl, if_neg (by omega)⟩) (Nat.le_succ _) fun β' hβ => ?_
  have hnew : β'.l st.h.nx = s := by rw [(hβ st.h.nx (Nat.lt_succ_self _)).2]; simp
  have hold : Agree st.h.nx β β' := fun i hi => by
    obtain ⟨h1, h2⟩ := hβ i (Nat.lt_succ_of_lt hi)
    exact ⟨h1, h2.trans (if_neg (by omega))⟩
  obtain ⟨y', w'', hr', hg', hown', hb'⟩ := hrun β' hold
  rw [hr] at hr'
  injection hr' with e1 e2
  injection e1 with e1
  subst e1 e2
  exact ⟨.inr (by simp [cA, cA0, cC, hnew]), (R β' hold).2.swapl hl ho ho' he hs hg' (by rw [hnew]; exact hown') (by rw [hnew]; exact hb')⟩
theorem slv_nil (s : Option Addr × Nat × Nat) : slv s = Value.slice s.1 s.2.1 s.2.2 := rfl
theorem run_call_append {x y : Operand} {t : TypeId} (hop : o.op = .call ⟨.builtin .append, #[x, y], #[t, t]⟩) {v' : Value} (h : (Builtin.append_ #[t, t] o.type #[a.eval x, a.eval y]).run P w = .ok v' w') : (execOp a.eval o).run P w = .ok (.value v') w' := by
  simp only [execOp, hop, resolve, invoke, builtin, Sem.run_bind, Sem.run_pure, Result.andThen_ok, List.map_toArray, List.map_cons, List.map_nil, h]
theorem appA_wp {t : TypeId} {x y : Operand} {e : TypeId} {g : Bool} (hop : o.op = .call ⟨.builtin .append, #[x, y], #[t, t]⟩) (ht : E.P.underlying t = some (.slice e)) (R : Holds L w0 β st a w)
    (h : appA E e st.h (evA st x) (evA st y) = some (g, v, h')) (hgt : g = true) (hK : Goes L w0 β st a o v h' K) : o.wp E.P a w K Q := by
  have ev : ∀ {x : Operand} {c : AC}, evA st x = .one c → c ≠ .any → ∀ β', Agree st.h.nx β β' → a.eval x = cC β' c := fun hx hne β' hβ => ptr_of (R β' hβ).1 hx hne
  have hsz0 : ∀ β', Agree st.h.nx β β' → w0.heap.size ≤ w.heap.size := fun β' hβ => (R β' hβ).2.own.size
  unfold appA at h
  split at h
  · rename_i idy hy
    cases hly : look idy st.h.l with
    | none => simp [hly] at h
    | some ly =>
      simp only [hly] at h
      split at h
      · rename_i hx
        cases heb : emptyB E.P e with
        | none => simp [heb] at h
        | some eb =>
          simp only [heb] at h
          cases hcb : catB eb ly.bb with
          | none => simp [hcb] at h
          | some bb =>
            simp only [hcb] at h
            cases hge : goodE E.P e bb with
            | false => simp [hge] at h
            | true =>
              simp only [hge, cond_true, Option.some.injEq, Prod.mk.injEq] at h
              obtain ⟨h1, rfl, rfl⟩ := h
              rw [hgt, Nat.ble_eq] at h1
              obtain ⟨i, z, hi, hz, hsize, hzs, hpos, hby, _, _⟩ := goodE_spec hge
              obtain ⟨c1, c2, c3, c4⟩ := catB_spec hcb
              obtain ⟨e1, e2⟩ := emptyB_spec heb
              obtain ⟨hhf, hh⟩ := R β (Agree.refl _ _)
              obtain ⟨l1, l2, l3⟩ := list_cells hh (look_mem hly)
              have l4 := (list_len hh (look_mem hly)).1
              obtain ⟨v', w', r1, r2, r3, r4⟩ := run_app (P := E.P) (ty := o.type) (w := w) (base := w.heap.size) ht hi hz hsize hby hzs hpos (World.ownsRow_nil w _ e bb.sz) (s := β.l idy) (news := lV ly) (by rw [c2]; exact l1) l2 l3 (lV_one ly) (by rw [l4]; omega) (Nat.le_refl _)
              refine newl_wp (lb := ⟨true, e, bb⟩) (y := v') R rfl (run_call_append hop ?_) r3 ?_ hK
              · rw [ev hx (by simp) β (Agree.refl _ _), ev hy (by simp) β (Agree.refl _ _)]
                exact r1
              · simp only
                rw [c3, e1, ← l4, c4 true ly.own true e ly.e e, e2, List.nil_append]
                simpa using r2
      · rename_i idx hx
        cases hlx : look idx st.h.l with
        | none => simp [hlx] at h
        | some lx =>
          simp only [hlx] at h
          cases hoe : (lx.own && Nat.beq lx.e e) with
          | false => simp [hoe] at h
          | true =>
            simp only [hoe, cond_true] at h
            rw [Bool.and_eq_true, Nat.beq_eq] at hoe
            obtain ⟨ho, he⟩ := hoe
            cases hcb : catB lx.bb ly.bb with
            | none => simp [hcb] at h
            | some bb =>
              simp only [hcb] at h
              cases hge : goodE E.P e bb with
              | false => simp [hge] at h
              | true =>
                simp only [hge, cond_true, Option.some.injEq, Prod.mk.injEq] at h
                obtain ⟨h1, rfl, rfl⟩ := h
                rw [hgt, Nat.ble_eq] at h1
                obtain ⟨i, z, hi, hz, hsize, hzs, hpos, hby, _, _⟩ := goodE_spec hge
                obtain ⟨c1, c2, c3, c4⟩ := catB_spec hcb
                refine swapl_wp (lb' := ⟨true, e, bb⟩) R hlx ho rfl he.symm c1 (fun β' hβ => ?_) hK
                obtain ⟨hhf, hh⟩ := R β' hβ
                obtain ⟨l1, l2, l3⟩ := list_cells hh (look_mem hly)
                have l4 := (list_len hh (look_mem hly)).1
                have hox := own_list hh (look_mem hlx) ho
                rw [he, ← c1] at hox
                obtain ⟨v', w', r1, r2, r3, r4⟩ := run_app (P := E.P) (ty := o.type) (w := w) (base := w0.heap.size) ht hi hz hsize hby hzs hpos hox (s := β'.l idy) (news := lV ly) (by rw [c2]; exact l1) l2 l3 (lV_one ly) (by rw [l4]; omega) hh.own.size
                refine ⟨v', w', run_call_append hop ?_, r3, ?_, r4⟩
                · rw [ev hx (by simp) β' hβ, ev hy (by simp) β' hβ]
                  exact r1
                · simp only
                  rw [c3, ← l4, c4 lx.own ly.own true lx.e ly.e e, he, ← c1]
                  exact r2
      · cases h
  · rename_i hy
    split at h
    · rename_i hx
      unfold Oper.wp
      cases hi : E.P.info? e with
      | none =>
        have h00 : Nat.blt 0 0 = false := rfl
        simp [sizeT, hi, h00] at h
      | some i =>
        cases hpz : Nat.blt 0 (sizeT E.P e) with
        | false => simp [hpz] at h
        | true =>
        simp only [hpz, cond_true, Option.some.injEq, Prod.mk.injEq] at h
        obtain ⟨_, rfl, rfl⟩ := h
        rw [run_call_append hop (v' := .slice none 0 0) (w' := w) (by
          rw [ev hx (by simp) β (Agree.refl _ _), ev hy (by simp) β (Agree.refl _ _)]
          exact run_append_none ht hi none 0 0 0 (Nat.le_refl _))]
        exact hK _ _ β (Agree.refl _ _) (Nat.le_refl _) fun β' hβ => ⟨.inr rfl, (R β' hβ).2⟩
    · cases h
  · cases h
theorem range_cells (z : Array Value) (n : Nat) (_hz : 0 < z.size) : (Array.range (n * z.size)).map (z[· % z.size]!) = ((List.range n).flatMap fun _ => z.toList).toArray := by
  apply Array.ext'
  simp only [Array.toList_map, Array.toList_range]
  apply List.ext_getElem?
  intro i
  have hl := flat_len (fun _ => z.toList) z.size (by simp) n
  by_cases hi : i < n * z.size
  · have hk : i / z.size < n := (Nat.div_lt_iff_lt_mul _hz).2 hi
    have hj : i % z.size < z.size := Nat.mod_lt _ _hz
    have := flat_get (fun _ => z.toList) z.size (by simp) (i / z.size) (i % z.size) hj n hk
    rw [Nat.div_add_mod' i z.size] at this
    rw [this]
    simp [hi, hj]
  · rw [List.getElem?_eq_none (by simp; omega), List.getElem?_eq_none (by rw [hl]; omega)]
theorem okC1_spec {c : CK} {d : AC} (h : okC1 c d = true) : ∃ kd x, c = .i kd ∧ d = .v (.int kd x) := by
  unfold okC1 at h
  split at h
  · rw [decide_eq_true_eq] at h
    subst h
    exact ⟨_, _, rfl, rfl⟩
  · cases h
theorem okRow_spec (f : Nat → Nat → Int) (o : Nat → Nat → ByteArray) (k : Nat) : ∀ (sh : List CK) (cs : List AC) (j : Nat), okRow sh cs = true → (∀ i, i < sh.length → f k (j + i) = intAt cs i) → shAll f o k sh j = cs
  | [], cs, _, h, _ => by simp only [okRow, List.isEmpty_iff] at h; rw [h]; rfl
  | _ :: _, [], _, h, _ => by simp [okRow] at h
  | c :: r, d :: cs, j, h, hf => by
    simp only [okRow, Bool.and_eq_true] at h
    obtain ⟨kd, x, rfl, rfl⟩ := okC1_spec h.1
    simp only [shAll]
    rw [okRow_spec f o k r cs (j + 1) h.2 fun i hi => by
      have := hf (i + 1) (by simpa using hi)
      rw [show j + 1 + i = j + (i + 1) by omega, this]
      simp [intAt, nthC]]
    have := hf 0 (by simp)
    simp only [Nat.add_zero, intAt, nthC] at this
    rw [this]
theorem nthC_drop : ∀ (cs : List AC) (n i : Nat), nthC (cs.drop n) i = nthC cs (n + i)
  | cs, 0, i => by simp
  | [], n + 1, i => by simp [nthC]
  | _ :: r, n + 1, i => by rw [List.drop_succ_cons, nthC_drop r n i, show n + 1 + i = (n + i) + 1 by omega]; rfl
theorem nthC_take : ∀ (cs : List AC) (n i : Nat), i < n → nthC (cs.take n) i = nthC cs i
  | _, 0, i, h => by omega
  | [], n + 1, i, h => by simp
  | _ :: r, n + 1, 0, h => by simp [nthC]
  | _ :: r, n + 1, i + 1, h => by simp only [List.take_succ_cons, nthC]; exact nthC_take r n i (by omega)
theorem okRows_spec (sh : List CK) : ∀ (n : Nat) (cs : List AC) (f : Nat → Nat → Int), okRows sh sh.length n cs = true → (∀ k j, k < n → j < sh.length → f k j = intAt cs (k * sh.length + j)) → (List.range n).flatMap (fun k => rowV sh f (fun _ _ => ByteArray.empty) k) = cs.map fun c => (plainC c).getD undef
  | 0, [], f, _, _ => rfl
  | 0, _ :: _, f, h, _ => by simp [okRows] at h
  | n + 1, cs, f, h, hf => by
    simp only [okRows, Bool.and_eq_true] at h
    have h0 := okRow_spec f (fun _ _ => ByteArray.empty) 0 sh _ 0 h.1 fun i hi => by
      rw [Nat.zero_add, hf 0 i (by omega) hi]
      simp only [intAt, Nat.zero_mul, Nat.zero_add, nthC_take cs _ i hi]
    have ih := okRows_spec sh n (cs.drop sh.length) (fun k => f (k + 1)) h.2 fun k j hk hj => by
      rw [hf (k + 1) j (by omega) hj]
      simp only [intAt, nthC_drop]
      rw [show (k + 1) * sh.length + j = sh.length + (k * sh.length + j) by rw [Nat.succ_mul]; omega]
    rw [Nat.add_comm n 1, List.range_add, List.flatMap_append, List.flatMap_map]
    have e1 : (List.range 1).flatMap (fun k => rowV sh f (fun _ _ => ByteArray.empty) k) = (cs.take sh.length).map fun c => (plainC c).getD undef := by
      simp only [List.range_one, List.flatMap_cons, List.flatMap_nil, List.append_nil, rowV, h0]
    have e2 : (List.range n).flatMap (fun k => rowV sh f (fun _ _ => ByteArray.empty) (1 + k)) = (cs.drop sh.length).map fun c => (plainC c).getD undef := by
      rw [← ih]
      congr 1
      funext k
      simp only [rowV]
      rw [shAll_congr (f' := fun k => f (k + 1)) (o' := fun _ _ => ByteArray.empty) (k' := k) (fun j => by rw [Nat.add_comm]) (fun _ => rfl)]
    rw [e1, e2, ← List.map_append, List.take_append_drop]
theorem shOfV_row {z : List Value} {sh : List CK} {f : Nat → Nat → Int} {o : Nat → Nat → ByteArray} {n : Nat} (h : shOfV z = some (.row sh n f o)) : sh.length = z.length ∧ n = 0 := by
  have hk : ∀ (z : List Value) (sh : List CK), kindsV z = some sh → sh.length = z.length := by
    intro z
    induction z with
    | nil => intro sh h; simp [kindsV] at h; simp [← h]
    | cons x r ih =>
      intro sh h
      cases x <;> simp only [kindsV] at h <;> first | cases h | (
        cases hr : kindsV r with
        | none => simp [hr] at h
        | some l =>
          simp only [hr, Option.some.injEq] at h
          subst h
          simp [ih l hr])
  unfold shOfV at h
  split at h
  · simp at h
  · split at h
    · rename_i hk'
      simp only [Option.some.injEq, BB.row.injEq] at h
      obtain ⟨rfl, rfl, _⟩ := h
      exact ⟨hk _ _ hk', rfl⟩
    · cases h
theorem okRow_plain (β : Bt) : ∀ (sh : List CK) (cs : List AC), okRow sh cs = true → cs.map (fun c => (plainC c).getD undef) = cs.map (cC β)
  | [], cs, h => by simp only [okRow, List.isEmpty_iff] at h; rw [h]; rfl
  | _ :: _, [], h => by simp [okRow] at h
  | c :: r, d :: cs, h => by
    simp only [okRow, Bool.and_eq_true] at h
    obtain ⟨kd, x, rfl, rfl⟩ := okC1_spec h.1
    simp only [List.map_cons, okRow_plain β r cs h.2]
    rfl
theorem okRows_plain (β : Bt) (sh : List CK) (sz : Nat) : ∀ (n : Nat) (cs : List AC), okRows sh sz n cs = true → cs.map (fun c => (plainC c).getD undef) = cs.map (cC β)
  | 0, [], _ => rfl
  | 0, _ :: _, h => by simp [okRows] at h
  | n + 1, cs, h => by
    simp only [okRows, Bool.and_eq_true] at h
    have h1 := okRow_plain β sh _ h.1
    have h2 := okRows_plain β sh sz n _ h.2
    rw [← List.take_append_drop sz cs, List.map_append, List.map_append, h1, h2]
theorem buildA_wp {t : TypeId} {len : Nat} {ps : Array (Nat × Operand)} {g : Bool} (hop : o.op = .buildSlice t len ps) (R : Holds L w0 β st a w) (h : buildA E st t len ps.toList = some (g, v, h')) (hK : Goes L w0 β st a o v h' K) : o.wp E.P a w K Q := by
  unfold buildA at h
  cases hu : E.P.underlying t with
  | none => simp [hu] at h
  | some d =>
    cases d with
    | slice e =>
      simp only [hu] at h
      cases hz : zc E.P e with
      | none => simp [hz] at h
      | some z =>
        cases heb : emptyB E.P e with
        | none => simp [hz, heb] at h
        | some eb =>
          cases eb with
          | row sh n0 f0 o0 =>
            simp only [hz, heb] at h
            cases hc : (goodE E.P e (.row sh 0 (fun _ _ => 0) o0) && Nat.blt 0 len && Nat.ble (len * sizeT E.P e) 1000 && Nat.beq z.length (sizeT E.P e)) with
            | false => simp [hc] at h
            | true =>
              simp only [hc, cond_true] at h
              simp only [Bool.and_eq_true, Nat.blt_eq, Nat.ble_eq, Nat.beq_eq] at hc
              obtain ⟨⟨⟨hge, hlen⟩, hsm⟩, hzl⟩ := hc
              cases hfl : fillC (fun i => some (i * sizeT E.P e, sizeT E.P e)) ((List.range len).flatMap fun _ => z.map .v) (partsA st ps.toList) with
              | none => simp [hfl] at h
              | some cs =>
                simp only [hfl] at h
                cases hok : okRows sh (sizeT E.P e) len cs with
                | false => simp [hok] at h
                | true =>
                  simp only [hok, cond_true, Option.some.injEq, Prod.mk.injEq] at h
                  obtain ⟨_, rfl, rfl⟩ := h
                  obtain ⟨i, zv, hi, hzv, hsize, hzs, hpos, hby, hzc, hst⟩ := goodE_spec hge
                  simp only [BB.sz] at hsize hzs hpos hst
                  obtain ⟨hf, hh⟩ := R β (Agree.refl _ _)
                  have hzz : z = zv.cells.toList := Option.some.inj (hz.symm.trans hzc)
                  have hfs := fill_spec β _ _ _ _ _ (parts_spec hf ps.toList) hfl
                  have hid : (cC β ∘ AC.v) = id := rfl
                  have hcells : ((List.range len).flatMap fun _ => z.map AC.v).map (cC β) = (List.range len).flatMap fun _ => z := by
                    rw [List.map_flatMap]
                    congr 1
                    funext k
                    rw [List.map_map, hid, List.map_id]
                  rw [hcells] at hfs
                  have hrange := range_cells zv.cells len (by omega)
                  rw [hzs] at hrange
                  rw [hst] at hfs hok hsm
                  have hmul : 0 < len * sh.length := Nat.mul_pos hlen hpos
                  have hrun := run_buildSlice (P := E.P) w t e len (ps.map fun p => (p.1, a.eval p.2)) (cs.map (cC β)).toArray i zv hu hi hzv (by rw [hsize]; omega) (by rw [hsize]; omega) (by
                    rw [hsize, hzs, hrange, ← hzz, Array.toList_map]
                    exact hfs)
                  have hrow := okRows_spec sh len cs (bif Nat.beq len 1 then fun _ j => intAt cs j else fun k j => intAt cs (k * sh.length + j)) hok fun k j hk hj => by
                    cases e1 : Nat.beq len 1 with
                    | true =>
                      have := Nat.eq_of_beq_eq_true e1
                      subst this
                      have : k = 0 := by omega
                      subst this
                      simp
                    | false => rfl
                  rw [okRows_plain β sh _ len cs hok] at hrow
                  have hl := lV_len ⟨true, e, .row sh len (bif Nat.beq len 1 then fun _ j => intAt cs j else fun k j => intAt cs (k * sh.length + j)) fun _ _ => ByteArray.empty⟩
                  simp only [lV, BB.n, BB.sz] at hl
                  rw [hrow] at hl
                  refine newl_wp (lb := ⟨true, e, .row sh len (bif Nat.beq len 1 then fun _ j => intAt cs j else fun k j => intAt cs (k * sizeT E.P e + j)) fun _ _ => ByteArray.empty⟩) (y := .slice (some ⟨w.heap.size, 0, none⟩) len len) (w' := w.alloc (.cells (cs.map (cC β)).toArray e)) R rfl ?_ (World.grownBy_alloc w _ none) ?_ hK
                  · simp only [execOp, hop, Sem.run_bind]
                    rw [hrun]
                    rfl
                  · rw [hst]
                    simp only [lV, BB.n, BB.sz]
                    rw [hrow]
                    have hlm : len ≤ len * sh.length := Nat.le_mul_of_pos_right _ hpos
                    refine ⟨hl, .inr ⟨w.heap.size, len, _, rfl, Nat.le_refl _, heap_alloc_new w _, Nat.le_refl _, by simp [maxLen]; omega, by simpa using hl, ?_⟩⟩
                    rw [← hl]
                    exact List.take_length
          | _ => simp [hz, heb] at h
    | _ => simp [hu] at h
theorem allF_spec : ∀ {z : List Value}, allF z = true → ∀ x ∈ z, x = .bool false
  | [], _, x, hx => by cases hx
  | y :: r, h, x, hx => by
    unfold allF at h
    split at h
    · rename_i heq; cases heq
    · rename_i r' heq
      injection heq with e1 e2
      subst e1 e2
      rcases List.mem_cons.1 hx with rfl | hx
      · rfl
      · exact allF_spec h x hx
    · cases h
theorem makeA_wp {t : TypeId} {x y : Operand} {n : Int} {g : Bool} (hop : o.op = .makeSlice t x y) (R : Holds L w0 β st a w) (hx : evA st x = .one (.v (.int .i64 n))) (hy : evA st y = .one (.v (.int .i64 n))) (h : makeA E t st.h (evA st x) = some (g, v, h')) (hgt : g = true) (hK : Goes L w0 β st a o v h' K) : o.wp E.P a w K Q := by
  unfold makeA at h
  rw [hx] at h
  cases hu : E.P.underlying t with
  | none => simp [hu] at h
  | some d =>
    cases d with
    | slice e =>
      simp only [hu] at h
      cases hz : zc E.P e with
      | none => simp [hz] at h
      | some z =>
        simp only [hz] at h
        cases hc : (goodE E.P e (.bools z.length 0 fun _ _ => false) && allF z) with
        | false => simp [hc] at h
        | true =>
          simp only [hc, cond_true, Option.some.injEq, Prod.mk.injEq] at h
          obtain ⟨h1, rfl, rfl⟩ := h
          rw [Bool.and_eq_true] at hc
          rw [hgt, Bool.and_eq_true, decide_eq_true_eq, decide_eq_true_eq] at h1
          obtain ⟨i, zv, hi, hzv, hsize, hzs, hpos, hby, hzc, hst⟩ := goodE_spec hc.1
          simp only [BB.sz] at hsize hzs hpos hst
          have hzz : z = zv.cells.toList := Option.some.inj (hz.symm.trans hzc)
          have hn : n = (n.toNat : Int) := by omega
          have hx' : a.eval x = .int .i64 (n.toNat : Int) := by rw [ptr_of (R β (Agree.refl _ _)).1 hx (by simp)]; simp only [cC]; rw [← hn]
          have hy' : a.eval y = .int .i64 (n.toNat : Int) := by rw [ptr_of (R β (Agree.refl _ _)).1 hy (by simp)]; simp only [cC]; rw [← hn]
          have hb : i.bytes * n.toNat ≤ 281474976710656 := by
            have := Nat.mul_le_mul hby (show n.toNat ≤ 100000 by omega)
            omega
          obtain ⟨w', hrun, r1, r2⟩ := run_make_full (P := E.P) w w.heap.size t e i zv z.length hu hi hzv hsize .i64 .i64 n.toNat hb (by simp [maxLen]; omega) (Nat.le_refl _)
          refine newl_wp (lb := ⟨true, e, .bools z.length n.toNat fun _ _ => false⟩) R rfl (y := .slice (some ⟨w.heap.size, 0, none⟩) n.toNat n.toNat) ?_ r2 ?_ hK
          · simp only [execOp, hop, hx', hy', Sem.run_bind, hrun]
            rfl
          · simp only [BB.sz, BB.n]
            have hm : (madeCells zv.cells (n.toNat * z.length)).toList = lV ⟨true, e, .bools z.length n.toNat fun _ _ => false⟩ := by
              unfold madeCells
              rw [← hzs, range_cells zv.cells _ (by omega)]
              simp only [lV]
              congr 1
              funext k
              apply List.ext_getElem
              · simp [hzs]
              · intro j h1 h2
                simp only [List.getElem_map]
                exact allF_spec hc.2 _ (by rw [hzz]; exact List.getElem_mem _)
            rw [← hm]
            exact r1
    | _ => simp [hu] at h
theorem flat_take (g : Nat → List Value) (m : Nat) (hm : ∀ k, (g k).length = m) (n n' : Nat) (h : n ≤ n') : (List.range n).flatMap g = ((List.range n').flatMap g).take (n * m) := by
  have := flat_cat g g (fun k => g (n + k)) n (n' - n) (fun _ _ => rfl) (fun _ _ => rfl)
  rw [show n + (n' - n) = n' by omega] at this
  rw [this, ← flat_len g m hm n, List.take_left']
  rfl
theorem trunc_spec {lb : LB} {n : Nat} (hn : n ≤ lb.bb.n) (o : Bool) (e : TypeId) : (truncB n lb.bb).sz = lb.bb.sz ∧ (lb.bb.sz ≠ 0 → (truncB n lb.bb).n = n) ∧ lV ⟨o, e, truncB n lb.bb⟩ = (lV lb).take (n * lb.bb.sz) := by
  unfold lV
  cases hb : lb.bb with
  | cells cs => simp [truncB, BB.sz]
  | bools m n' f =>
    rw [hb] at hn
    exact ⟨rfl, fun _ => rfl, flat_take _ m (by simp) n n' hn⟩
  | row sh n' f o' =>
    rw [hb] at hn
    exact ⟨rfl, fun _ => rfl, flat_take _ sh.length (rowV_len sh f o') n n' hn⟩
theorem run_first {t e : TypeId} {A : Option Addr} {len cap n : Nat} {kd : IntKind} (hu : P.underlying t = some (.slice e)) (hs : 0 < sizeT P e) (hA : ∀ ad, A = some ad → ad.add 0 = ad) (hn : n ≤ cap) :
    (Instr.sliceAt t (.slice A len cap) none (some (.int kd (n : Int))) none).run P w = .ok (.slice A n cap) w := by
  have hi : ∃ i, P.info? e = some i := by
    unfold sizeT at hs
    cases h : P.info? e with
    | none => simp [h] at hs
    | some i => exact ⟨i, rfl⟩
  obtain ⟨i, hi⟩ := hi
  have hm : A.map (·.add 0) = A := by
    cases A with
    | none => rfl
    | some ad => simp [hA ad rfl]
  simp [Instr.sliceAt, Instr.slice, run_underlying hu, Instr.sliceBounds, run_sliceBound, hn, sizeOf, typeInfo, hi, hm]
theorem firstA_wp {t : TypeId} {x y : Operand} {g : Bool} (hop : o.op = .slice t x none (some y) none) (R : Holds L w0 β st a w) (h : firstA E t st.h (evA st x) (evA st y) = some (g, v, h')) (hgt : g = true) (hK : Goes L w0 β st a o v h' K) : o.wp E.P a w K Q := by
  unfold firstA at h
  cases hu : E.P.underlying t with
  | none => simp [hu] at h
  | some d =>
    cases d with
    | slice e =>
      rw [hu] at h
      split at h
      · rename_i e' id n b l nx he hx hy hst
        injection he with he
        injection he with he
        subst he
        cases hl : look id l with
        | none => simp [hl] at h
        | some lb =>
          simp only [hl] at h
          cases hc : (lb.own && Nat.beq lb.e e && goodE E.P e lb.bb) with
          | false => simp [hc] at h
          | true =>
            simp only [hc, cond_true, Option.some.injEq, Prod.mk.injEq] at h
            obtain ⟨h1, rfl, rfl⟩ := h
            simp only [Bool.and_eq_true, Nat.beq_eq] at hc
            obtain ⟨⟨ho, he⟩, hge⟩ := hc
            rw [hgt, Bool.and_eq_true, decide_eq_true_eq, decide_eq_true_eq] at h1
            obtain ⟨i, z, hi, hz, hsize, hzs, hpos, hby, _, hst'⟩ := goodE_spec hge
            have hl' : look id st.h.l = some lb := by rw [hst]; exact hl
            have hnn : n.toNat ≤ lb.bb.n := by omega
            obtain ⟨t1, t2, t3⟩ := trunc_spec hnn true e
            have e1 : b = st.h.b := by rw [hst]
            have e2 : l = st.h.l := by rw [hst]
            have e3 : nx = st.h.nx := by rw [hst]
            subst e1 e2 e3
            refine swapl_wp (lb' := ⟨true, e, truncB n.toNat lb.bb⟩) R hl' ho rfl he.symm t1 (fun β' hβ => ?_) hK
            obtain ⟨hf, hh⟩ := R β' hβ
            have hox := own_list hh (look_mem hl') ho
            have hx' := ptr_of hf hx (by simp)
            have hy' : a.eval y = .int .i64 (n.toNat : Int) := by
              rw [ptr_of hf hy (by simp)]
              simp only [cC]
              rw [Int.toNat_of_nonneg h1.1]
            have fin : ∀ A cap, slv (β'.l id) = .slice A lb.bb.n cap → n.toNat ≤ cap → (∀ ad, A = some ad → ad.add 0 = ad) → (execOp a.eval o).run E.P w = .ok (.value (.slice A n.toNat cap)) w := by
              intro A cap hs hcap hA
              simp only [execOp, hop, hx', hy', cC, hs, Sem.run_bind, Option.map_none, Option.map_some]
              rw [run_first hu (by rw [hst']; exact hpos) hA hcap]
              rfl
            have hlen : ((lV lb).take (n.toNat * lb.bb.sz)).length = n.toNat * lb.bb.sz := by
              rw [List.length_take, hox.1]
              have := Nat.mul_le_mul_right lb.bb.sz hnn
              omega
            rcases hox.2 with ⟨hv, h0⟩ | ⟨g', cap, cur, hv, q1, q2, q3, q4, q5, q6⟩
            · refine ⟨.slice none n.toNat 0, w, fin none 0 (by rw [hv, h0]) (by omega) (fun _ h => by cases h), World.grownBy.refl w _, ?_, .inl (by rw [hv]; rfl)⟩
              have hz0 : n.toNat = 0 := by omega
              refine ⟨by simp only; rw [t3, t2 (by omega)]; exact hlen, .inl ⟨by rw [hz0], by simp only; rw [t2 (by omega), hz0]⟩⟩
            · refine ⟨.slice (some ⟨g', 0, none⟩) n.toNat cap, w, fin _ cap hv (by omega) (fun ad h => by injection h with h; subst h; rfl), World.grownBy.refl w _, ?_, .inl (by rw [hv]; rfl)⟩
              refine ⟨by simp only; rw [t3, t2 (by omega)]; exact hlen, .inr ⟨g', cap, cur, by simp only; rw [t2 (by omega)], q1, q2, by simp only; rw [t2 (by omega)]; omega, q4, q5, ?_⟩⟩
              simp only
              rw [t3, t2 (by omega), ← q6, List.take_take]
              congr 1
              have := Nat.mul_le_mul_right lb.bb.sz hnn
              omega
      · cases h
    | _ => simp [hu] at h
theorem bif_some {α : Type} {c : Bool} {x y : α} (h : (bif c then some x else none) = some y) : x = y := by
  cases c with
  | true => exact Option.some.inj h
  | false => cases h
theorem stBB_dims {P : Program} {t : TypeId} {bb bb' : BB} {k j : Nat} {y : AV} (h : stBB P t bb k j true y = some bb') : bb'.sz = bb.sz ∧ bb'.n = bb.n ∧ (∀ cs, bb ≠ .cells cs) ∧ ∀ cs, bb' ≠ .cells cs := by
  have fb : ∀ m n f f', BB.bools m n f = bb → BB.bools m n f' = bb' → bb'.sz = bb.sz ∧ bb'.n = bb.n ∧ (∀ cs, bb ≠ .cells cs) ∧ ∀ cs, bb' ≠ .cells cs := by
    rintro m n f f' rfl rfl
    exact ⟨rfl, rfl, fun _ h => (by cases h), fun _ h => (by cases h)⟩
  have fr : ∀ sh n f o f', BB.row sh n f o = bb → BB.row sh n f' o = bb' → bb'.sz = bb.sz ∧ bb'.n = bb.n ∧ (∀ cs, bb ≠ .cells cs) ∧ ∀ cs, bb' ≠ .cells cs := by
    rintro sh n f o f' rfl rfl
    exact ⟨rfl, rfl, fun _ h => (by cases h), fun _ h => (by cases h)⟩
  unfold stBB at h
  split at h
  · simp at h
  · split at h
    · exact fb _ _ _ _ rfl (bif_some h)
    · simp only [cond_true] at h
      exact fb _ _ _ _ rfl (bif_some h)
    · cases h
  · simp only [cond_true] at h
    split at h
    · split at h
      · exact fr _ _ _ _ _ rfl (bif_some h)
      · cases h
    · split at h
      · exact fr _ _ _ _ _ rfl (bif_some h)
      · exfalso
        revert h
        cases (Nat.blt 0 (sizeT P t) && Nat.beq j 0 && Nat.beq (sizeT P t) _) <;> (intro h; cases h)
    · cases h
theorem putAt_take (A : List Value) (off : Nat) (vs : List Value) (m : Nat) (h : off + vs.length ≤ m) (hm : m ≤ A.length) : (putAt A off vs).take m = putAt (A.take m) off vs := by
  apply List.ext_getElem?
  intro i
  rw [putAt_get _ _ _ (by simp; omega), List.getElem?_take, List.getElem?_take]
  by_cases hi : i < m
  · rw [if_pos hi, if_pos hi, putAt_get _ _ _ (by omega)]
  · rw [if_neg hi, if_neg hi, if_neg (by omega)]
theorem lstore_wp {t : TypeId} {x y : Operand} (hop : o.op = .store t x y) (R : Holds L w0 β st a w) {id : Nat} {lb : LB} {bb' : BB} (hl : look id st.h.l = some lb) (ho : lb.own = true) {k j : Nat}
    (hst : stBB E.P t lb.bb k j true (evA st y) = some bb') (hb : k < lb.bb.n ∧ j < lb.bb.sz) (hx : ∀ β', Agree st.h.nx β β' → a.eval x = .pointer (some ⟨sB (β'.l id).1, sO (β'.l id).1 + k * lb.bb.sz + j, none⟩))
    (hK : Goes L w0 β st a o (.one .any) ⟨st.h.b, over id ⟨true, lb.e, bb'⟩ st.h.l, st.h.nx⟩ K) : o.wp E.P a w K Q := by
  obtain ⟨d1, d2, d3, d4⟩ := stBB_dims hst
  have hne : evA st y ≠ .one .any := by
    intro e
    rw [e] at hst
    cases hbb : lb.bb with
    | cells cs => exact d3 cs hbb
    | bools m n f => simp [hbb, stBB] at hst
    | row sh n f o => simp [hbb, stBB] at hst
  have hrun : ∀ β', Agree st.h.nx β β' → ∃ w', (execOp a.eval o).run E.P w = .ok .skip w' ∧ HR L w0 β' ⟨st.h.b, over id ⟨true, lb.e, bb'⟩ st.h.l, st.h.nx⟩ w' := by
    intro β' hβ
    obtain ⟨hf, hh⟩ := R β' hβ
    obtain ⟨vs, h1, h2, h3, h4, h5⟩ := st_run (β := β') hst (fun _ => hb)
    rw [if_pos rfl] at h4 h5
    have hy : a.eval y = cA β' (evA st y) := (evA_spec hf y).resolve_left hne
    have hox := own_list hh (look_mem hl) ho
    have e1 : lV lb = cB β' lb.bb := lV_cB β' lb d3
    have e2 : lV ⟨true, lb.e, bb'⟩ = cB β' bb' := lV_cB β' _ d4
    have hpos : 0 < lb.bb.n := by omega
    rcases hox.2 with ⟨hv, h0⟩ | ⟨g, cap, cur, hv, q1, q2, q3, q4, q5, q6⟩
    · omega
    · have hs : (β'.l id).1 = some ⟨g, 0, none⟩ := by
        unfold slv at hv
        injection hv
      have hlen : (lV lb).length = lb.bb.n * lb.bb.sz := lV_len lb
      have hcl : lb.bb.n * lb.bb.sz ≤ cur.size := by rw [q5]; exact Nat.mul_le_mul_right _ q3
      have hoff : k * lb.bb.sz + j + vs.length ≤ lb.bb.n * lb.bb.sz := by rw [← hlen, e1]; exact h4
      have hblk : w.heap[g]? = some (.cells cur.toList.toArray lb.e (0, 0)) := by rw [Array.toArray_toList]; exact q2
      have hown : Own [g] w [⟨g, lb.e, cur.toList⟩] [] w := (Own.start [g] w).add hblk (.inr (List.mem_singleton.2 rfl)) (fun _ h => by cases h) (fun _ h => by cases h)
      have hr := run_storeN (P := E.P) hown h1 h2 h3 (b := ⟨g, lb.e, cur.toList⟩) (List.mem_singleton.2 rfl) (off := k * lb.bb.sz + j) (by simp; omega)
      have hheap := heap_setCells g lb.e vs (k * lb.bb.sz + j) cur.toList w hblk (by simp; omega)
      have hgr := grownBy_setCells g vs (k * lb.bb.sz + j) w
      refine ⟨w.setCells g (k * lb.bb.sz + j) vs, ?_, ?_⟩
      · simp only [execOp, hop, hx β' hβ, hy, hs, sB, sO, Nat.zero_add]
        rw [Sem.run_bind, hr]
        rfl
      · rw [over_swap]
        refine hh.swapl hl ho rfl rfl d1 (by rw [hv]; exact hgr) ?_ (.inl rfl)
        refine ⟨by rw [lV_len]; simp only; rw [d1], .inr ⟨g, cap, (putAt cur.toList (k * lb.bb.sz + j) vs).toArray, by simp only; rw [d2]; exact hv, q1, hheap, by simp only; rw [d2]; exact q3, q4, ?_, ?_⟩⟩
        · rw [List.size_toArray, putAt_len _ _ _ (by simp; omega)]
          simpa using q5
        · simp only
          rw [d2, putAt_take _ _ _ _ hoff (by simp; omega), q6, e2, h5, e1]
  obtain ⟨w', hr, _⟩ := hrun β (Agree.refl _ _)
  unfold Oper.wp
  rw [hr]
  refine hK undef _ β (Agree.refl _ _) (Nat.le_refl _) fun β' hβ => ⟨.inl rfl, ?_⟩
  obtain ⟨w'', hr', hh'⟩ := hrun β' hβ
  rw [hr] at hr'
  injection hr' with _ e
  rw [e]
  exact hh'
theorem run_from {t e : TypeId} {len l : Nat} {ad : Addr} {kd : IntKind} (hu : P.underlying t = some (.array len e)) (hs : 0 < sizeT P e) (hl : l < len) :
    (Instr.sliceAt t (.pointer (some ad)) (some (.int kd (l : Int))) none none).run P w = .ok (.slice (some (ad.add (l * sizeT P e))) (len - l) (len - l)) w := by
  have hi : ∃ i, P.info? e = some i := by
    unfold sizeT at hs
    cases h : P.info? e with
    | none => simp [h] at hs
    | some i => exact ⟨i, rfl⟩
  obtain ⟨i, hi⟩ := hi
  have hz : sizeT P e = i.size := by simp [sizeT, hi]
  have h1 : l ≤ len := by omega
  have h2 : ¬ len = l := by omega
  simp [Instr.sliceAt, run_underlying hu, Instr.sureAddr, Instr.sliceBounds, run_sliceBound, h1, sizeOf, typeInfo, hi, h2, hz]
theorem fromA_wp {t : TypeId} {x y : Operand} {g : Bool} (hop : o.op = .slice t x (some y) none none) (R : Holds L w0 β st a w) (h : fromA E t st.h (evA st x) (evA st y) = some (g, v, h')) (hK : Goes L w0 β st a o v h' K) : o.wp E.P a w K Q := by
  unfold fromA at h
  split at h
  · rename_i len e id l hu hx hy
    cases hc : (Nat.blt 0 (sizeT E.P e) && Nat.blt l len) with
    | false => simp [hc] at h
    | true =>
      simp only [hc, cond_true, Option.some.injEq, Prod.mk.injEq] at h
      obtain ⟨_, rfl, rfl⟩ := h
      simp only [Bool.and_eq_true, Nat.blt_eq] at hc
      have hrun : ∀ β', Agree st.h.nx β β' → (execOp a.eval o).run E.P w = .ok (.value (cC β' (.sl id (sizeT E.P e) l (len - l) (len - l)))) w := by
        intro β' hβ
        have hx' := ptr_of (R β' hβ).1 hx (by simp)
        have hy' : a.eval y = .int .i64 (l : Int) := ptr_of (R β' hβ).1 hy (by simp)
        simp only [execOp, hop, hx', hy', Sem.run_bind, Option.map_none, Option.map_some, cC]
        rw [run_from hu hc.1 hc.2]
        simp [Addr.add, Result.andThen]
        try omega
      unfold Oper.wp
      rw [hrun β (Agree.refl _ _)]
      refine hK _ _ β (Agree.refl _ _) (Nat.le_refl _) fun β' hβ => ⟨.inr ?_, (R β' hβ).2⟩
      have := hrun β' hβ
      rw [hrun β (Agree.refl _ _)] at this
      injection this with this
      injection this
  · cases h
theorem evMore_wp {g : Bool} (R : Holds L w0 β st a w) (h : evMore E st o = some (g, v, h')) (hgt : g = true) (hK : Goes L w0 β st a o v h' K) : o.wp E.P a w K Q := by
  unfold evMore at h
  split at h
  · rename_i args ats hop
    split at h
    · rename_i x y t t' hargs hats
      cases hc : (Nat.beq t t' && Nat.beq t o.type) with
      | false => simp [hc] at h
      | true =>
        simp only [hc, cond_true] at h
        simp only [Bool.and_eq_true, Nat.beq_eq] at hc
        obtain ⟨rfl, _⟩ := hc
        split at h
        · rename_i e hu
          have e1 : args = #[x, y] := by rw [← Array.toArray_toList (xs := args), hargs]
          have e2 : ats = #[t, t] := by rw [← Array.toArray_toList (xs := ats), hats]
          subst e1 e2
          exact appA_wp hop hu R h hgt hK
        · cases h
    · cases h
  · rename_i t len ps hop
    exact buildA_wp hop R h hK
  · rename_i t x y hop
    split at h
    · rename_i m n hy hx
      split at h
      · rename_i g' v' h'' hmk
        simp only [Option.some.injEq, Prod.mk.injEq] at h
        obtain ⟨rfl, rfl, rfl⟩ := h
        rw [Bool.and_eq_true, decide_eq_true_eq] at hgt
        obtain ⟨hd, hg'⟩ := hgt
        subst hd
        exact makeA_wp hop R hx hy hmk hg' hK
      · cases h
    · cases h
  · rename_i t x y hop
    exact firstA_wp hop R h hgt hK
  · rename_i t x y hop
    exact fromA_wp hop R h hK
  · cases h
end Go.Proofs.Ytjpeplidbodjiaa
