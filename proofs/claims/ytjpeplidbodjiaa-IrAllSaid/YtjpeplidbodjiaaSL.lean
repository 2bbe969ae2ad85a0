/- What a call owns while it runs: its own (or lent) blocks known whole, its own lists, and that nothing else has turned; one law an operation. No program in sight. -/
import Derived.WalkKit
import Derived.WalkSpells
import Derived.WalkLawsBesides
import Derived.Deep.QuietTactic
import Derived.Deep.MidRow
import Derived.Maps.AppendAt
import Derived.BigQuiet
namespace Go.Proofs.Ytjpeplidbodjiaa
open Go.RowKit
structure Bl where
  g : Nat
  t : TypeId
  cs : List Value
structure Ls where
  v : Value
  e : TypeId
  sz : Nat
  n : Nat
  xs : List Value
/-- The world w, seen from a call that began in w0, to which the blocks L were lent: its blocks bs, its lists ls; all other old memory is as it was. -/
structure Own (L : List Nat) (w0 : World) (bs : List Bl) (ls : List Ls) (w : World) : Prop where
  os : w.os = w0.os
  tape : w.tape = w0.tape
  output : w.output = w0.output
  size : w0.heap.size ≤ w.heap.size
  frame : ∀ k, k < w0.heap.size → k ∉ L → w.heap[k]? = w0.heap[k]?
  blk : ∀ b ∈ bs, w.heap[b.g]? = some (.cells b.cs.toArray b.t (0, 0))
  out : ∀ b ∈ bs, w0.heap.size ≤ b.g ∨ b.g ∈ L
  lst : ∀ l ∈ ls, w.ownsRow w0.heap.size l.e l.sz l.v l.n l.xs
  nodup : (bs.map (·.g)).Nodup
  sepl : ls.Pairwise fun l l' => ∀ k, l.v.ownBlock = some k → l'.v.ownBlock ≠ some k
  sep : ∀ b ∈ bs, ∀ l ∈ ls, l.v.ownBlock ≠ some b.g
variable {L : List Nat} {w0 w w' : World} {bs : List Bl} {ls : List Ls}
theorem Own.start (L : List Nat) (w : World) : Own L w [] [] w :=
  ⟨rfl, rfl, rfl, Nat.le_refl _, fun _ _ _ => rfl, fun _ h => (by cases h), fun _ h => (by cases h), fun _ h => (by cases h), List.nodup_nil, List.Pairwise.nil, fun _ h => (by cases h)⟩
theorem Own.lt (h : Own L w0 bs ls w) {b : Bl} (hb : b ∈ bs) : b.g < w.heap.size := (Array.getElem?_eq_some_iff.1 (h.blk b hb)).1
theorem Own.grow (h : Own L w0 bs ls w) (hg : w.grownBy w' none) : Own L w0 bs ls w' :=
  ⟨hg.os.trans h.os, hg.tape.trans h.tape, hg.output.trans h.output, Nat.le_trans h.size hg.size,
   fun k hk hL => (hg.block k (Nat.lt_of_lt_of_le hk h.size) (by simp)).trans (h.frame k hk hL),
   fun b hb => (hg.block b.g (h.lt hb) (by simp)).trans (h.blk b hb), h.out,
   fun l hl => (h.lst l hl).kept hg (by cases hv : l.v.ownBlock <;> simp), h.nodup, h.sepl, h.sep⟩
theorem Own.below (h : Own L w0 bs ls w) (hb : Below w.heap.size w w') : Own L w0 bs ls w' :=
  h.grow ⟨hb.os, hb.tape, hb.output, hb.size, fun k hk _ => hb.block k hk⟩
theorem Own.draw (h : Own L w0 bs ls w) (n : Nat) : Own L w0 bs ls { w with drawn := n } :=
  ⟨h.os, h.tape, h.output, h.size, h.frame, h.blk, h.out, h.lst, h.nodup, h.sepl, h.sep⟩
theorem Own.below0 (h : Own [] w0 bs ls w) : Below w0.heap.size w0 w :=
  ⟨h.os, h.tape, h.output, h.size, fun k hk => h.frame k hk (by simp)⟩
theorem Own.row_lt (h : Own L w0 bs ls w) {l : Ls} (hl : l ∈ ls) {k : Nat} (hk : l.v.ownBlock = some k) : w0.heap.size ≤ k ∧ k < w.heap.size := (h.lst l hl).lt k hk
theorem Own.alloc (h : Own L w0 bs ls w) (cs : List Value) (t : TypeId) : Own L w0 (⟨w.heap.size, t, cs⟩ :: bs) ls (w.alloc (.cells cs.toArray t)) := by
  have hg := World.grownBy_alloc w (.cells cs.toArray t) none
  have h' := h.grow hg
  refine ⟨h'.os, h'.tape, h'.output, h'.size, h'.frame, ?_, ?_, h'.lst, ?_, h'.sepl, ?_⟩
  · intro b hb
    rcases List.mem_cons.1 hb with rfl | hb
    · exact heap_alloc_new w _
    · exact h'.blk b hb
  · intro b hb
    rcases List.mem_cons.1 hb with rfl | hb
    · exact .inl h.size
    · exact h.out b hb
  · simp only [List.map_cons, List.nodup_cons]
    refine ⟨?_, h.nodup⟩
    simp only [List.mem_map, not_exists, not_and]
    intro b hb e
    have := h.lt hb
    omega
  · intro b hb l hl
    rcases List.mem_cons.1 hb with rfl | hb
    · intro e
      have := (h.row_lt hl e).2
      simp at this
    · exact h.sep b hb l hl
theorem Own.add (h : Own L w0 bs ls w) {g : Nat} {t : TypeId} {cs : List Value} (hg : w.heap[g]? = some (.cells cs.toArray t (0, 0))) (ho : w0.heap.size ≤ g ∨ g ∈ L)
    (hf : ∀ b ∈ bs, b.g ≠ g) (hl : ∀ l ∈ ls, l.v.ownBlock ≠ some g) : Own L w0 (⟨g, t, cs⟩ :: bs) ls w :=
  ⟨h.os, h.tape, h.output, h.size, h.frame,
   fun b hb => by rcases List.mem_cons.1 hb with rfl | hb <;> first | exact hg | exact h.blk b hb,
   fun b hb => by rcases List.mem_cons.1 hb with rfl | hb <;> first | exact ho | exact h.out b hb, h.lst,
   by
     simp only [List.map_cons, List.nodup_cons, List.mem_map, not_exists, not_and]
     exact ⟨fun b hb e => hf b hb e, h.nodup⟩,
   h.sepl, fun b hb => by rcases List.mem_cons.1 hb with rfl | hb <;> first | exact hl | exact h.sep b hb⟩
theorem map_set_same (bs : List Bl) (i : Nat) (b b' : Bl) (hi : bs[i]? = some b) (hg : b'.g = b.g) : (bs.set i b').map (·.g) = bs.map (·.g) := by
  apply List.ext_getElem?
  intro j
  rw [List.getElem?_map, List.getElem?_map, List.getElem?_set]
  by_cases e : i = j
  · subst e
    have : i < bs.length := (List.getElem?_eq_some_iff.1 hi).1
    rw [if_pos rfl, if_pos this, hi]
    simp [hg]
  · rw [if_neg e]
theorem mem_of_mem_set {α : Type} {l : List α} {i : Nat} {b x : α} (h : x ∈ l.set i b) : x = b ∨ ∃ j, j ≠ i ∧ l[j]? = some x := by
  obtain ⟨j, hj⟩ := List.mem_iff_getElem?.1 h
  rw [List.getElem?_set] at hj
  by_cases e : i = j
  · rw [if_pos e] at hj
    split at hj
    · left; exact (Option.some.inj hj).symm
    · cases hj
  · rw [if_neg e] at hj
    exact .inr ⟨j, fun h => e h.symm, hj⟩
theorem Own.update (h : Own L w0 bs ls w) {i : Nat} {b : Bl} {cs' : List Value} (hi : bs[i]? = some b) (hg : w.grownBy w' (some b.g))
    (hb' : w'.heap[b.g]? = some (.cells cs'.toArray b.t (0, 0))) : Own L w0 (bs.set i ⟨b.g, b.t, cs'⟩) ls w' := by
  have hmem : b ∈ bs := List.mem_of_getElem? hi
  have hmap := map_set_same bs i b ⟨b.g, b.t, cs'⟩ hi rfl
  have hother : ∀ x ∈ bs.set i ⟨b.g, b.t, cs'⟩, x = ⟨b.g, b.t, cs'⟩ ∨ (x ∈ bs ∧ x.g ≠ b.g) := by
    intro x hx
    rcases mem_of_mem_set hx with e | ⟨j, hj, hx⟩
    · exact .inl e
    · refine .inr ⟨List.mem_of_getElem? hx, fun e => hj ?_⟩
      have h1 : (bs.map (·.g))[j]? = some x.g := by rw [List.getElem?_map, hx]; rfl
      have h2 : (bs.map (·.g))[i]? = some x.g := by rw [List.getElem?_map, hi]; simp [e]
      obtain ⟨j1, e1⟩ := List.getElem?_eq_some_iff.1 h1
      obtain ⟨j2, e2⟩ := List.getElem?_eq_some_iff.1 h2
      have hp := List.pairwise_iff_getElem.1 h.nodup
      rcases Nat.lt_trichotomy j i with hlt | he | hlt
      · exact absurd (e1.trans e2.symm) (hp j i j1 j2 hlt)
      · exact he
      · exact absurd (e2.trans e1.symm) (hp i j j2 j1 hlt)
  refine ⟨hg.os.trans h.os, hg.tape.trans h.tape, hg.output.trans h.output, Nat.le_trans h.size hg.size, ?_, ?_, ?_, ?_, by rw [hmap]; exact h.nodup, h.sepl, ?_⟩
  · intro k hk hL
    refine (hg.block k (Nat.lt_of_lt_of_le hk h.size) ?_).trans (h.frame k hk hL)
    intro e
    have e : k = b.g := Option.some.inj e
    rcases h.out b hmem with ho | ho
    · omega
    · exact hL (e ▸ ho)
  · intro x hx
    rcases hother x hx with rfl | ⟨hx, hne⟩
    · exact hb'
    · exact (hg.block x.g (h.lt hx) (by simpa using hne)).trans (h.blk x hx)
  · intro x hx
    rcases hother x hx with rfl | ⟨hx, _⟩
    · exact h.out b hmem
    · exact h.out x hx
  · intro l hl
    exact (h.lst l hl).kept hg (.inr (h.sep b hmem l hl))
  · intro x hx l hl
    rcases hother x hx with rfl | ⟨hx, _⟩
    · exact h.sep b hmem l hl
    · exact h.sep x hx l hl
theorem Own.dropb (h : Own L w0 bs ls w) (bs' : List Bl) (hs : bs'.Sublist bs) : Own L w0 bs' ls w :=
  ⟨h.os, h.tape, h.output, h.size, h.frame, fun b hb => h.blk b (hs.subset hb), fun b hb => h.out b (hs.subset hb), h.lst, (hs.map _).nodup h.nodup, h.sepl, fun b hb => h.sep b (hs.subset hb)⟩
theorem Own.dropl (h : Own L w0 bs ls w) (ls' : List Ls) (hs : ls'.Sublist ls) : Own L w0 bs ls' w :=
  ⟨h.os, h.tape, h.output, h.size, h.frame, h.blk, h.out, fun l hl => h.lst l (hs.subset hl), h.nodup, h.sepl.sublist hs, fun b hb l hl => h.sep b hb l (hs.subset hl)⟩
theorem ownsRow_base {w : World} {base base' : Nat} {e : TypeId} {sz n : Nat} {v : Value} {xs : List Value} (h : w.ownsRow base e sz v n xs) (hb : base' ≤ base) : w.ownsRow base' e sz v n xs := by
  refine ⟨h.1, ?_⟩
  rcases h.2 with h2 | ⟨g, cap, cur, hv, hg, r⟩
  · exact .inl h2
  · exact .inr ⟨g, cap, cur, hv, Nat.le_trans hb hg, r⟩
theorem Own.addl (h : Own L w0 bs ls w) (l : Ls) (hl : w.ownsRow w0.heap.size l.e l.sz l.v l.n l.xs) (hb : ∀ b ∈ bs, l.v.ownBlock ≠ some b.g) (hs : ∀ l' ∈ ls, ∀ k, l.v.ownBlock = some k → l'.v.ownBlock ≠ some k) : Own L w0 bs (l :: ls) w :=
  ⟨h.os, h.tape, h.output, h.size, h.frame, h.blk, h.out, fun x hx => by rcases List.mem_cons.1 hx with rfl | hx <;> first | exact hl | exact h.lst x hx, h.nodup,
   List.Pairwise.cons hs h.sepl, fun b hbm x hx => by rcases List.mem_cons.1 hx with rfl | hx <;> first | exact hb b hbm | exact h.sep b hbm x hx⟩
/-- A new list, empty and nil. -/
theorem Own.nil (h : Own L w0 bs ls w) (e : TypeId) (sz : Nat) : Own L w0 bs (⟨.slice none 0 0, e, sz, 0, []⟩ :: ls) w :=
  h.addl _ (World.ownsRow_nil w _ e sz) (by simp [Value.ownBlock]) (by simp [Value.ownBlock])
/-- A call hands back a list of its own, in new memory. -/
theorem Own.got (h : Own L w0 bs ls w) (hb : Below w.heap.size w w') {v : Value} {e : TypeId} {sz n : Nat} {xs : List Value} (hl : w'.ownsRow w.heap.size e sz v n xs) :
    Own L w0 bs (⟨v, e, sz, n, xs⟩ :: ls) w' := by
  have hk : ∀ k, v.ownBlock = some k → w.heap.size ≤ k := fun k hk => (hl.lt k hk).1
  refine (h.below hb).addl _ (ownsRow_base hl h.size) (fun b hbm e => ?_) (fun l' hl' k hkk e => ?_)
  · have := hk _ e; have := h.lt hbm; omega
  · have := hk _ hkk; have := (h.row_lt hl' e).2; omega
/-- An append to the list number i. -/
theorem Own.append (h : Own L w0 bs ls w) {i : Nat} {l : Ls} (hi : ls[i]? = some l) {v' : Value} {n' : Nat} {xs' : List Value} (hg : w.grownBy w' l.v.ownBlock)
    (ho : w'.ownsRow w0.heap.size l.e l.sz v' n' xs') (hv : v'.ownBlock = l.v.ownBlock ∨ v'.ownBlock = some w.heap.size) : Own L w0 bs (ls.set i ⟨v', l.e, l.sz, n', xs'⟩) w' := by
  have hmem : l ∈ ls := List.mem_of_getElem? hi
  have hrow : ∀ k, l.v.ownBlock = some k → w0.heap.size ≤ k := fun k hk => (h.row_lt hmem hk).1
  have hpair : ∀ (j k : Nat) (x y : Ls), j ≠ k → ls[j]? = some x → ls[k]? = some y → ∀ b, x.v.ownBlock = some b → y.v.ownBlock ≠ some b := by
    intro j k x y hne hx hy b hb hb'
    obtain ⟨j1, e1⟩ := List.getElem?_eq_some_iff.1 hx
    obtain ⟨k1, e2⟩ := List.getElem?_eq_some_iff.1 hy
    have hp := List.pairwise_iff_getElem.1 h.sepl
    rcases Nat.lt_or_gt_of_ne hne with hlt | hlt
    · exact hp j k j1 k1 hlt b (by rw [e1]; exact hb) (by rw [e2]; exact hb')
    · exact hp k j k1 j1 hlt b (by rw [e2]; exact hb') (by rw [e1]; exact hb)
  have hother : ∀ x ∈ ls.set i ⟨v', l.e, l.sz, n', xs'⟩, x = ⟨v', l.e, l.sz, n', xs'⟩ ∨ (x ∈ ls ∧ ∀ k, l.v.ownBlock = some k → x.v.ownBlock ≠ some k) := by
    intro x hx
    rcases mem_of_mem_set hx with e | ⟨j, hj, hx⟩
    · exact .inl e
    · exact .inr ⟨List.mem_of_getElem? hx, fun k hk => hpair i j l x (Ne.symm hj) hi hx k hk⟩
  have hnew : ∀ x, x ∈ ls → (∀ k, l.v.ownBlock = some k → x.v.ownBlock ≠ some k) → ∀ k, v'.ownBlock = some k → x.v.ownBlock ≠ some k := by
    intro x hx hxl k hk hxk
    rcases hv with hv | hv
    · exact hxl k (hv ▸ hk) hxk
    · rw [hv] at hk
      have e : w.heap.size = k := Option.some.inj hk
      have := (h.row_lt hx hxk).2
      omega
  refine ⟨hg.os.trans h.os, hg.tape.trans h.tape, hg.output.trans h.output, Nat.le_trans h.size hg.size, ?_, ?_, h.out, ?_, h.nodup, ?_, ?_⟩
  · intro k hk hL
    refine (hg.block k (Nat.lt_of_lt_of_le hk h.size) ?_).trans (h.frame k hk hL)
    intro e
    have := hrow k e.symm
    omega
  · intro b hb
    refine (hg.block b.g (h.lt hb) ?_).trans (h.blk b hb)
    intro e
    exact h.sep b hb l hmem e.symm
  · intro x hx
    rcases hother x hx with rfl | ⟨hx, hxl⟩
    · exact ho
    · refine (h.lst x hx).kept hg ?_
      cases hl : l.v.ownBlock with
      | none => cases hxv : x.v.ownBlock <;> simp
      | some k => exact .inr (hxl k hl)
  · rw [List.pairwise_iff_getElem]
    intro j k hj hk hjk b hb hb'
    have hjm := List.getElem_mem hj
    have hkm := List.getElem_mem hk
    have gj : (ls.set i ⟨v', l.e, l.sz, n', xs'⟩)[j]? = some _ := List.getElem?_eq_getElem hj
    have gk : (ls.set i ⟨v', l.e, l.sz, n', xs'⟩)[k]? = some _ := List.getElem?_eq_getElem hk
    rw [List.getElem?_set] at gj gk
    have hjlen : j < ls.length := by simpa using hj
    have hklen : k < ls.length := by simpa using hk
    by_cases ej : i = j
    · subst ej
      rw [if_pos rfl, if_pos hjlen] at gj
      rw [if_neg (by omega)] at gk
      have ge := Option.some.inj gj
      rw [← ge] at hb
      exact hnew _ (List.mem_of_getElem? gk) (fun q hq => hpair i k l _ (by omega) hi gk q hq) b hb hb'
    · rw [if_neg ej] at gj
      by_cases ek : i = k
      · subst ek
        rw [if_pos rfl, if_pos hklen] at gk
        have ge := Option.some.inj gk
        rw [← ge] at hb'
        exact hnew _ (List.mem_of_getElem? gj) (fun q hq => hpair i j l _ (by omega) hi gj q hq) b hb' hb
      · rw [if_neg ek] at gk
        exact hpair j k _ _ (by omega) gj gk b hb hb'
  · intro b hb x hx
    rcases hother x hx with rfl | ⟨hx, _⟩
    · intro e
      rcases hv with hv | hv
      · exact h.sep b hb l hmem (hv ▸ e)
      · have e' : v'.ownBlock = some b.g := e
        rw [hv] at e'
        have := Option.some.inj e'
        have := h.lt hb
        omega
    · exact h.sep b hb x hx
end Go.Proofs.Ytjpeplidbodjiaa
