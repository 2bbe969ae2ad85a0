/- Arguments that come in: lists of numbers, lists of operations, blocks, an operation. -/
import Derived.Test.YtjpeplidbodjiaaHY
import Derived.Lib.SmallJoins
import Derived.Deep.Fields
import Derived.Deep.Slices
import Derived.ChangeSame
/- Arguments that come in: lists of numbers, lists of operations, blocks. -/
namespace Go.Proofs.Ytjpeplidbodjiaa
open Go.ChangeShapes Go.WideShapes Go.RowKit Go.Deep Go.Joins
set_option maxRecDepth 100000
section
variable {H : Type} {enc : TypeId × Value → H} {P : Program} {w : World} {base : Nat} {spare : Nat → Bool} {held : Bool}
theorem open_slice_fields {t e : TypeId} {fs : Array Field} {fuel : Nat} {cs : List Value} {x : DataW H × List MemPlace} (ht : P.underlying t = some (.slice e)) (he : P.underlying e = some (.struct fs))
    (hone : oneCellFields P fs = true) (hC : P.cellsOf e = fs.size) (h : DataW.trod enc P w base spare held fuel t cs = some x) :
    (cs = [.slice none 0 0] ∧ x = (.nil, [])) ∨
    ∃ (a : Addr) (len cap m : Nat) (D : Nat → DataW H) (Pl : Nat → List MemPlace), cs = [.slice (some a) len cap] ∧ base ≤ a.block ∧ len ≤ cap ∧ cap ≤ maxLen ∧ m = (if spare a.block then cap else len) ∧
      x = (.slice ((List.range len).map D) ((List.range (m - len)).map fun j => D (len + j)), MemPlace.row a (m * fs.size) ++ (List.range m).flatMap Pl) ∧
      ∀ i, i < m → ∃ (ys : List (DataW H × List MemPlace)) (n : Nat), D i = .agg (ys.map (·.1)) ∧ Pl i = ys.flatMap (·.2) ∧ ys.length = fs.size ∧
        ∀ (j : Nat) (f : Field), fs[j]? = some f → ∃ (v : Value) (y : DataW H × List MemPlace), w.cell? (a.add (i * fs.size + j)) = some v ∧ ys[j]? = some y ∧ DataW.trod enc P w base spare held n f.type [v] = some y := by
  rcases open_slice ht h with h0 | ⟨a, len, cap, m, n, D, Pl, hcs, hb, hl, hm, hmm, hx, hi⟩
  · exact .inl h0
  · refine .inr ⟨a, len, cap, m, D, Pl, hcs, hb, hl, hm, hmm, by rw [hC] at hx; exact hx, fun i him => ?_⟩
    obtain ⟨cs', hc, ht'⟩ := hi i him
    rw [hC] at hc
    obtain ⟨ys, n', hn', hy, hlen, hyl, hf⟩ := DataW.trod_struct he ht'
    obtain ⟨_, hcl, hat⟩ := World.cells?_some hc
    simp only [Prod.mk.injEq] at hy
    refine ⟨ys, n', hy.1, hy.2, hyl, fun j f hj => ?_⟩
    obtain ⟨ho, hk⟩ := hone_of hone j f hj
    have hjl : j < fs.size := (Array.getElem?_eq_some_iff.1 hj).1
    have hcell := hat j hjl
    have hv : cs'[j]? = some (cs'[j]'(by omega)) := List.getElem?_eq_getElem (by omega)
    have h1 := hf j f hj
    rw [ho, hk] at h1
    have hone' : (cs'.drop j).take 1 = [cs'[j]'(by omega)] := by
      rw [List.drop_eq_getElem_cons (by omega)]
      rfl
    rw [hone'] at h1
    have hys : ys[j]? = some (ys[j]'(by omega)) := List.getElem?_eq_getElem (by omega)
    refine ⟨_, _, ?_, hys, h1.trans hys⟩
    rw [← Go.Deep.add_add, hcell, hv]
end
def noB : Nat → Nat → ByteArray := fun _ _ => ByteArray.empty
/-- A list of rows, cell by cell. -/
theorem Ro.of_cells {w : World} {s : Option Addr × Nat × Nat} {e : TypeId} {sh : List CK} {n : Nat} {f : Nat → Nat → Int} {β : Bt} (hz : 0 < sh.length) (hn : s.2.1 = n)
    (h : 0 < n → ∃ b off, s.1 = some ⟨b, off, none⟩ ∧ ∀ k, k < n → ∀ j, j < sh.length → w.cell? ⟨b, off + (k * sh.length + j), none⟩ = some (cC β (shAt f noB k sh 0 j))) : Ro [] w s ⟨false, e, .row sh n f noB⟩ := by
  refine ⟨hn, fun h0 => ?_⟩
  obtain ⟨b, off, hs, hc⟩ := h h0
  have h0' : 0 < n := h0
  refine ⟨b, off, hs, ?_, by simp, fun i x hx => ?_⟩
  · have := hc 0 h0' 0 hz
    unfold World.cell? at this
    rcases Nat.lt_or_ge b w.heap.size with h | h
    · exact h
    · simp only at this
      rw [Array.getElem?_eq_none h] at this
      cases this
  · have hlen := flat_len (fun k => rowV sh f noB k) sh.length (fun k => rowV_len sh f noB k) n
    have hi : i < n * sh.length := by
      rw [← hlen]
      exact (List.getElem?_eq_some_iff.1 hx).1
    have hk : i / sh.length < n := Nat.div_lt_of_lt_mul (by rw [Nat.mul_comm]; exact hi)
    have hj : i % sh.length < sh.length := Nat.mod_lt _ hz
    have hi2 : i = i / sh.length * sh.length + i % sh.length := by rw [Nat.mul_comm]; exact (Nat.div_add_mod i sh.length).symm
    have g1 := flat_get (fun k => rowV sh f noB k) sh.length (fun k => rowV_len sh f noB k) (i / sh.length) (i % sh.length) hj n hk
    have g2 := rowV_get β sh f noB (i / sh.length) (i % sh.length) hj
    rw [← hi2] at g1
    have hx' : ((List.range n).flatMap fun k => rowV sh f noB k)[i]? = some x := hx
    rw [g1, g2] at hx'
    have := hc _ hk _ hj
    rw [← hi2, Option.some.inj hx'] at this
    exact this
theorem addr_none {w : World} {a : Addr} {v : Value} (h : w.cell? (a.add 0) = some v) : a = ⟨a.block, a.off, none⟩ := by
  obtain ⟨b, o, s⟩ := a
  have e : (⟨b, o, s⟩ : Addr).add 0 = ⟨b, o, s⟩ := by simp [Addr.add]
  rw [e] at h
  unfold World.cell? at h
  cases s with
  | none => rfl
  | some x =>
    simp only [Option.isSome_some, if_true] at h
    split at h <;> cases h
section
variable {H : Type} {enc : TypeId × Value → H} {P : Program} {w : World} {spare : Nat → Bool} {held : Bool}
/-- A list of numbers that comes in. -/
theorem open_nums {t e : TypeId} {k : IntKind} {fuel : Nat} {v : Value} {x : DataW H × List MemPlace} (ht : P.underlying t = some (.slice e)) (he : P.underlying e = some (.int k)) (hc : P.cellsOf e = 1)
    (h : DataW.trod enc P w 0 spare held fuel t [v] = some x) : ∃ s n f, v = slv s ∧ Ro [] w s ⟨false, e, .row [.i k] n f noB⟩ ∧ ∀ i, i < n → (Lit.int k (f i 0)).wf = true := by
  rcases open_ints ht he hc h with ⟨hcs, _⟩ | ⟨a, len, cap, zs, hcs, _, hl, hm, hz, _, hcell, hwz⟩
  · injection hcs with hcs
    exact ⟨(none, 0, 0), 0, fun _ _ => 0, hcs, Ro.of_cells (β := ⟨fun _ => 0, fun _ => (none, 0, 0)⟩) (by simp) rfl (fun h => by omega), fun i hi => by omega⟩
  · injection hcs with hcs
    have hlz : len ≤ zs.length := by rw [hz]; split <;> omega
    refine ⟨(some a, len, cap), len, fun i _ => zs.getD i 0, hcs, ?_, fun i hi => ?_⟩
    · refine Ro.of_cells (β := ⟨fun _ => 0, fun _ => (none, 0, 0)⟩) (by simp) rfl fun h0 => ?_
      have hn := addr_none (hcell 0 (by omega))
      refine ⟨a.block, a.off, by rw [← hn], fun k hk j hj => ?_⟩
      have hj0 : j = 0 := by simpa using hj
      subst hj0
      have := hcell k (by omega)
      rw [hn, Addr.add_mid] at this
      simpa [shAt, cC] using this
    · have hi' : i < zs.length := by omega
      simp only [List.getD_eq_getElem?_getD, List.getElem?_eq_getElem hi', Option.getD_some]
      exact hwz _ (List.getElem_mem _)
/-- What is said of an operation's numbers. -/
def wfRow (g : Nat → Int) : Prop := (Lit.int .i64 (g 0)).wf = true ∧ (Lit.int .i64 (g 1)).wf = true ∧ (Lit.int .i64 (g 2)).wf = true ∧ (Lit.int .i64 (g 3)).wf = true ∧ (Lit.int .u32 (g 4)).wf = true ∧ (Lit.int .i64 (g 5)).wf = true
end
section
variable {H : Type} {enc : TypeId × Value → H} {w : World} {spare : Nat → Bool} {held : Bool}
/-- A list of operations that comes in. -/
theorem open_ops {fuel : Nat} {v : Value} {x : DataW H × List MemPlace} (h : DataW.trod enc Try.prog w 0 spare held fuel 24 [v] = some x) :
    ∃ s n g, v = slv s ∧ Ro [] w s ⟨false, 31, .row opSh n g noB⟩ ∧ ∀ i, i < n → wfRow (g i) := by
  rcases open_slice_fields Try.underlying24 Try.underlying31 (by kernel_rfl) (by kernel_rfl) h with ⟨hcs, _⟩ | ⟨a, len, cap, m, D, Pl, hcs, _, hl, hm, hmm, _, hel⟩
  · injection hcs with hcs
    exact ⟨(none, 0, 0), 0, fun _ _ => 0, hcs, Ro.of_cells (β := ⟨fun _ => 0, fun _ => (none, 0, 0)⟩) (by decide) rfl (fun h => by omega), fun i hi => by omega⟩
  · injection hcs with hcs
    have hlm : len ≤ m := by rw [hmm]; split <;> omega
    have key : ∀ i, ∃ q : Nat → Int, i < len → wfRow q ∧ ∀ j, j < 6 → w.cell? (a.add (i * 6 + j)) = some (cC ⟨fun _ => 0, fun _ => (none, 0, 0)⟩ (shAt (fun _ => q) noB 0 opSh 0 j)) := by
      intro i
      by_cases hi : i < len
      · obtain ⟨ys, n, _, _, _, hf⟩ := hel i (by omega)
        obtain ⟨v0, y0, c0, _, t0⟩ := hf 0 _ rfl
        obtain ⟨v1, y1, c1, _, t1⟩ := hf 1 _ rfl
        obtain ⟨v2, y2, c2, _, t2⟩ := hf 2 _ rfl
        obtain ⟨v3, y3, c3, _, t3⟩ := hf 3 _ rfl
        obtain ⟨v4, y4, c4, _, t4⟩ := hf 4 _ rfl
        obtain ⟨v5, y5, c5, _, t5⟩ := hf 5 _ rfl
        obtain ⟨x0, e0, _, w0⟩ := DataW.trod_int Try.underlying3 t0
        obtain ⟨x1, e1, _, w1⟩ := DataW.trod_int Try.underlying3 t1
        obtain ⟨x2, e2, _, w2⟩ := DataW.trod_int Try.underlying3 t2
        obtain ⟨x3, e3, _, w3⟩ := DataW.trod_int Try.underlying3 t3
        obtain ⟨x4, e4, _, w4⟩ := DataW.trod_int Try.underlying22 t4
        obtain ⟨x5, e5, _, w5⟩ := DataW.trod_int Try.underlying3 t5
        injection e0 with e0
        injection e1 with e1
        injection e2 with e2
        injection e3 with e3
        injection e4 with e4
        injection e5 with e5
        subst e0 e1 e2 e3 e4 e5
        refine ⟨fun j => match j with | 0 => x0 | 1 => x1 | 2 => x2 | 3 => x3 | 4 => x4 | _ => x5, fun _ => ⟨⟨w0, w1, w2, w3, w4, w5⟩, fun j hj => ?_⟩⟩
        match j, hj with
        | 0, _ => exact c0
        | 1, _ => exact c1
        | 2, _ => exact c2
        | 3, _ => exact c3
        | 4, _ => exact c4
        | 5, _ => exact c5
      · exact ⟨fun _ => 0, fun h => absurd h hi⟩
    obtain ⟨g, hg⟩ := Classical.axiomOfChoice key
    refine ⟨(some a, len, cap), len, g, hcs, ?_, fun i hi => (hg i hi).1⟩
    refine Ro.of_cells (β := ⟨fun _ => 0, fun _ => (none, 0, 0)⟩) (by decide) rfl fun h0 => ?_
    have hn := addr_none ((hg 0 h0).2 0 (by decide))
    refine ⟨a.block, a.off, by rw [← hn], fun k hk j hj => ?_⟩
    have hj6 : j < 6 := hj
    have := (hg k hk).2 j hj6
    rw [hn, Addr.add_mid] at this
    have e : shAt g noB k opSh 0 j = shAt (fun _ => g k) noB 0 opSh 0 j := by
      match j, hj6 with
      | 0, _ => rfl
      | 1, _ => rfl
      | 2, _ => rfl
      | 3, _ => rfl
      | 4, _ => rfl
      | 5, _ => rfl
    rw [e]
    exact this
/-- A block that comes in. -/
theorem open_blk {base : Nat} {v : Value} {d : DataW H} {p : List MemPlace} (hv : Value.okWide Try.prog w .any base 26 v) (h : DataW.Trod enc Try.prog w 0 spare held 26 v d p) :
    ∃ pc sW sO nW f n g, v = .agg #[.int .u32 pc, slv sW, slv sO] ∧ (Lit.int .u32 pc).wf = true ∧ Ro [] w sW ⟨false, 22, .row [.i .u32] nW f noB⟩ ∧ (∀ i, i < nW → (Lit.int .u32 (f i 0)).wf = true) ∧ Ro [] w sO ⟨false, 31, .row opSh n g noB⟩ ∧ ∀ i, i < n → wfRow (g i) := by
  obtain ⟨v0, v1, v2, y0, y1, y2, n, rfl, _, _, t0, t1, t2⟩ := open_agg3 Try.underlying26 (by kernel_rfl) (by kernel_rfl) hv h
  obtain ⟨pc, e0, _, w0⟩ := DataW.trod_int Try.underlying22 t0
  obtain ⟨sW, nW, f, rfl, hW, wW⟩ := open_nums Try.underlying23 Try.underlying22 (by kernel_rfl) t1
  obtain ⟨sO, nO, g, rfl, hO, wO⟩ := open_ops t2
  injection e0 with e0
  subst e0
  exact ⟨pc, sW, sO, nW, f, nO, g, rfl, w0, hW, wW, hO, wO⟩
end
/-- A call with these lists begins. -/
theorem begin_lists {w : World} {args : List AV} {vals : List Value} {ls : List (Option Addr × Nat × Nat)} {l : List (Nat × LB)} (hl : l.length = ls.length) (hr : ∀ (i : Nat) (q : Nat × LB) (s : Option Addr × Nat × Nat), l[i]? = some q → ls[i]? = some s → q.1 = i ∧ q.2.own = false ∧ Ro [] w s q.2)
    (ha : ∀ β' : Bt, (∀ (i : Nat) (s : Option Addr × Nat × Nat), ls[i]? = some s → β'.l i = s) → ArgsV β' args vals) : Begin [] w ⟨fun _ => 0, fun i => ls.getD i (none, 0, 0)⟩ args ⟨[], l, l.length⟩ vals w := by
  intro β' hβ
  have hb : ∀ (i : Nat) (s : Option Addr × Nat × Nat), ls[i]? = some s → β'.l i = s := fun i s hs => by
    have hi : i < l.length := by rw [hl]; exact (List.getElem?_eq_some_iff.1 hs).1
    rw [(hβ i hi).2]
    simp [List.getD_eq_getElem?_getD, hs]
  refine ⟨ha β' hb, ?_, fun q hq _ => ?_⟩
  · have e : lsO β' l = [] := lsO_none fun q hq => by
      obtain ⟨i, hi⟩ := List.mem_iff_getElem?.1 hq
      have hil : i < ls.length := by rw [← hl]; exact (List.getElem?_eq_some_iff.1 hi).1
      exact (hr i q _ hi (List.getElem?_eq_getElem hil)).2.1
    simp only [bsO, List.map_nil, e]
    exact Own.start [] w
  · obtain ⟨i, hi⟩ := List.mem_iff_getElem?.1 hq
    have hil : i < ls.length := by rw [← hl]; exact (List.getElem?_eq_some_iff.1 hi).1
    obtain ⟨h1, _, h2⟩ := hr i q _ hi (List.getElem?_eq_getElem hil)
    rw [h1, hb i _ (List.getElem?_eq_getElem hil)]
    exact h2
end Go.Proofs.Ytjpeplidbodjiaa
/- An operation that comes in as an argument. -/
namespace Go.Proofs.Ytjpeplidbodjiaa
open Go.ChangeShapes Go.WideShapes Go.RowKit Go.Deep Go.Joins
set_option maxRecDepth 100000
theorem array6 {α : Type} {cs : Array α} (h : cs.size = 6) : ∃ c0 c1 c2 c3 c4 c5, cs = #[c0, c1, c2, c3, c4, c5] := by
  obtain ⟨l⟩ := cs
  match l, h with
  | [c0, c1, c2, c3, c4, c5], _ => exact ⟨c0, c1, c2, c3, c4, c5, rfl⟩
section
variable {H : Type} {enc : TypeId × Value → H} {w : World} {spare : Nat → Bool} {held : Bool}
theorem open_op1 {base : Nat} {v : Value} {d : DataW H} {p : List MemPlace} (hv : Value.okWide Try.prog w .any base 31 v) (h : DataW.Trod enc Try.prog w 0 spare held 31 v d p) :
    ∃ q : Nat → Int, v = .agg #[.int .i64 (q 0), .int .i64 (q 1), .int .i64 (q 2), .int .i64 (q 3), .int .u32 (q 4), .int .i64 (q 5)] ∧ wfRow q := by
  obtain ⟨cs, rfl, hsz⟩ := okWide_struct Try.underlying31 hv
  obtain ⟨c0, c1, c2, c3, c4, c5, rfl⟩ := array6 (hsz.trans (by kernel_rfl))
  obtain ⟨fuel, hf⟩ := h
  have hu := Try.underlying31
  obtain ⟨fs, hfs, hone⟩ : ∃ fs, Try.prog.underlying 31 = some (.struct fs) ∧ (oneCellFields Try.prog fs = true ∧ fs.size = 6 ∧ (fs[0]?.map (·.type)) = some 3 ∧ (fs[1]?.map (·.type)) = some 3 ∧ (fs[2]?.map (·.type)) = some 3 ∧ (fs[3]?.map (·.type)) = some 3 ∧ (fs[4]?.map (·.type)) = some 22 ∧ (fs[5]?.map (·.type)) = some 3) := ⟨_, hu, by kernel_rfl, rfl, rfl, rfl, rfl, rfl, rfl, rfl⟩
  obtain ⟨hone, hsz6, g0, g1, g2, g3, g4, g5⟩ := hone
  obtain ⟨ys, n, _, _, _, hlen, hf⟩ := DataW.trod_struct hfs hf
  rw [hsz6] at hlen
  match ys, hlen with
  | [y0, y1, y2, y3, y4, y5], _ =>
    obtain ⟨F0, m0, t0⟩ := Option.map_eq_some_iff.1 g0
    obtain ⟨o0, k0⟩ := hone_of hone 0 F0 m0
    have h0 := hf 0 F0 m0
    rw [o0, k0, t0] at h0
    obtain ⟨x0, e0, _, w0⟩ := DataW.trod_int (cs := [c0]) Try.underlying3 h0
    obtain ⟨F1, m1, t1⟩ := Option.map_eq_some_iff.1 g1
    obtain ⟨o1, k1⟩ := hone_of hone 1 F1 m1
    have h1 := hf 1 F1 m1
    rw [o1, k1, t1] at h1
    obtain ⟨x1, e1, _, w1⟩ := DataW.trod_int (cs := [c1]) Try.underlying3 h1
    obtain ⟨F2, m2, t2⟩ := Option.map_eq_some_iff.1 g2
    obtain ⟨o2, k2⟩ := hone_of hone 2 F2 m2
    have h2 := hf 2 F2 m2
    rw [o2, k2, t2] at h2
    obtain ⟨x2, e2, _, w2⟩ := DataW.trod_int (cs := [c2]) Try.underlying3 h2
    obtain ⟨F3, m3, t3⟩ := Option.map_eq_some_iff.1 g3
    obtain ⟨o3, k3⟩ := hone_of hone 3 F3 m3
    have h3 := hf 3 F3 m3
    rw [o3, k3, t3] at h3
    obtain ⟨x3, e3, _, w3⟩ := DataW.trod_int (cs := [c3]) Try.underlying3 h3
    obtain ⟨F4, m4, t4⟩ := Option.map_eq_some_iff.1 g4
    obtain ⟨o4, k4⟩ := hone_of hone 4 F4 m4
    have h4 := hf 4 F4 m4
    rw [o4, k4, t4] at h4
    obtain ⟨x4, e4, _, w4⟩ := DataW.trod_int (cs := [c4]) Try.underlying22 h4
    obtain ⟨F5, m5, t5⟩ := Option.map_eq_some_iff.1 g5
    obtain ⟨o5, k5⟩ := hone_of hone 5 F5 m5
    have h5 := hf 5 F5 m5
    rw [o5, k5, t5] at h5
    obtain ⟨x5, e5, _, w5⟩ := DataW.trod_int (cs := [c5]) Try.underlying3 h5
    injection e0 with e0
    injection e1 with e1
    injection e2 with e2
    injection e3 with e3
    injection e4 with e4
    injection e5 with e5
    subst e0 e1 e2 e3 e4 e5
    exact ⟨fun j => match j with | 0 => x0 | 1 => x1 | 2 => x2 | 3 => x3 | 4 => x4 | _ => x5, rfl, w0, w1, w2, w3, w4, w5⟩
end
end Go.Proofs.Ytjpeplidbodjiaa
