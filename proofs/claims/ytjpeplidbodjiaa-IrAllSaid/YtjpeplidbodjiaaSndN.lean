/- Callees that hand back a new list of numbers. -/
import Derived.Test.YtjpeplidbodjiaaSndU
namespace Go.Proofs.Ytjpeplidbodjiaa
open Go.RowKit
variable {L : List Nat} {w0 w w' : World} {β β2 : Bt} {E : Env}
/-- A function's body, and what is made of its result. -/
def evC (E : Env) (fn : Func) (fuel : Nat) (args : List AV) (h : AH) (g : AV → AH → Out) : Out := match fn.body with
  | some c => frameK args fn.ntmps fun fr => ev E h.nx fuel c ⟨fr, h⟩ fun e st => match retK E.P h.nx fn.results.toList e st with
    | some (v, h') => g v h'
    | none => none
  | none => none
theorem evC_calls (hE : E.Sound) (hm : E.P.follows .mixedOrders = true) {f : FuncId} {fn : Func} (hlp : LpF E fn) (hf : E.P.funcs[f]? = some fn) {fuel : Nat} {args : List AV} {h : AH} {g : AV → AH → Out} {out : AV × AH} (he : evC E fn fuel args h g = some out)
    {vals : List Value} (hl : vals.length = args.length) (hb : Begin L w0 β args h vals w) :
    Calls E.P f vals.toArray w fun e w' => ∃ y β2 v h', e = .returned y ∧ Agree h.nx β β2 ∧ h.nx ≤ h'.nx ∧ (∀ β', Agree h'.nx β2 β' → RV β' v y ∧ HR L w0 β' h' w') ∧ g v h' = some out := by
  unfold evC at he
  split at he
  · rename_i c hc
    rw [frameK_eq] at he
    refine calls_of_wp hf hc ?_
    refine (ev_wp hE hm (m := h.nx) fuel c _ _ _ β _ w (hlp c hc) (Nat.le_refl _) ⟨?_, rfl, fun β' hβ => ⟨frame_rf hl (hb β' hβ).1 _ _, (hb β' hβ).2⟩, fun _ _ q hq => by cases hq⟩ he fun e β2 st' a' w' h1 h2 h3 h4 => ?_).1
    · simp only [frame_len, Array.size_append, Array.size_replicate, List.size_toArray, hl]
    · split at h4
      · rename_i v' h' hr
        exact retK_post h3 hr fun y hle hy => ⟨y, β2, v', h', rfl, h1, Nat.le_trans h2 hle, hy, h4⟩
      · cases h4
  · cases he
theorem evC_CcS (hE : E.Sound) (hm : E.P.follows .mixedOrders = true) {f : FuncId} {fn : Func} {fuel : Nat} (hlp : LpF E fn) (hf : hasFn E.P f fn) : CcS E.P f (evC E fn fuel) :=
  ⟨hf.enter, fun args h k out he L w0 β w vals hl hb => evC_calls hE hm hlp hf.1 he hl hb⟩
/-- A function that is reckoned in place at each call. -/
def Env.inC (E : Env) (f0 : FuncId) (fn : Func) (fuel : Nat) : Env := E.cont f0 (evC E fn fuel)
theorem Env.Sound.inC {E : Env} (h : E.Sound) (hm : E.P.follows .mixedOrders = true) {f0 : FuncId} {fn : Func} {fuel : Nat} (hf : hasFn E.P f0 fn) (hlp : ∀ i, E.lp i = none := by intro i; rfl) : (E.inC f0 fn fuel).Sound :=
  h.cont (evC_CcS h hm (LpF.none hlp) hf)
/-- A list of numbers, told. -/
def listG (v : AV) (h : AH) : Out := match v with
  | .one (.ow id) => (match look id h.l with
    | some ⟨true, 3, .row [.i .i64] n f _⟩ => some (.tup ((List.range n).map fun j => .one (.v (.int .i64 (f j 0)))), ⟨[], [], 0⟩)
    | _ => none)
  | .one (.v (.slice none 0 0)) => some (.tup [], ⟨[], [], 0⟩)
  | _ => none
def rowL (l : List Int) : BB := .row [.i .i64] l.length (fun j _ => l.getD j 0) fun _ _ => ByteArray.empty
def tupL (l : List Int) : AV := .tup (l.map fun x => .one (.v (.int .i64 x)))
theorem mapInt_inj : ∀ {l s : List Int}, (l.map fun x => AV.one (.v (.int .i64 x))) = (s.map fun x => AV.one (.v (.int .i64 x))) → l = s
  | [], [], _ => rfl
  | x :: r, y :: s, h => by
    simp only [List.map_cons, List.cons.injEq] at h
    obtain ⟨h1, h2⟩ := h
    injection h1 with h1
    injection h1 with h1
    injection h1 with _ h1
    rw [h1, mapInt_inj h2]
  | [], _ :: _, h => by simp at h
  | _ :: _, [], h => by simp at h
theorem lV_rowL (l : List Int) : lV ⟨true, 3, rowL l⟩ = l.map fun x => Value.int .i64 x := by
  simp only [lV, rowL, rowV, shAll, List.map_cons, List.map_nil, plainC, Option.getD_some]
  induction l with
  | nil => rfl
  | cons x r ih =>
    simp only [List.length_cons, List.range_succ_eq_map, List.flatMap_cons, List.getD_cons_zero, List.flatMap_map, List.getD_cons_succ, List.map_cons]
    rw [ih]
    rfl
theorem lV_row (n : Nat) (f : Nat → Nat → Int) (o : Nat → Nat → ByteArray) : lV ⟨true, 3, .row [.i .i64] n f o⟩ = (List.range n).map fun j => Value.int .i64 (f j 0) := by
  simp only [lV, rowV, shAll, List.map_cons, List.map_nil, plainC, Option.getD_some]
  induction List.range n with
  | nil => rfl
  | cons x r ih => simp only [List.flatMap_cons, List.map_cons, ih]; rfl
theorem listG_spec {v : AV} {h : AH} {l : List Int} {w0 w' : World} {L : List Nat} (hg : listG v h = some (tupL l, ⟨[], [], 0⟩)) (hh : HR L w0 β h w') {y : Value} (hv : RV β v y) :
    ∃ s, y = slv s ∧ w'.ownsRow w0.heap.size 3 1 (slv s) l.length (l.map fun x => Value.int .i64 x) := by
  unfold listG at hg
  split at hg
  · rename_i id
    split at hg
    · rename_i n f o hl
      simp only [Option.some.injEq, Prod.mk.injEq, tupL, AV.tup.injEq] at hg
      have e : (List.range n).map (fun j => f j 0) = l := mapInt_inj (by rw [List.map_map]; exact hg.1)
      have hy := hv.resolve_left (by simp)
      refine ⟨β.l id, hy, ?_⟩
      have ho := own_list hh (look_mem hl) rfl
      rw [lV_row] at ho
      have hn : n = l.length := by rw [← e]; simp
      have hx : (List.range n).map (fun j => Value.int .i64 (f j 0)) = l.map fun x => Value.int .i64 x := by
        rw [← e, List.map_map]
        rfl
      rw [hx] at ho
      simpa [BB.n, BB.sz, hn] using ho
    · cases hg
  · simp only [Option.some.injEq, Prod.mk.injEq, tupL, AV.tup.injEq] at hg
    have e : l = [] := by
      have := hg.1
      cases l with
      | nil => rfl
      | cons x r => simp at this
    subst e
    exact ⟨(none, 0, 0), hv.resolve_left (by simp), World.ownsRow_nil w' _ 3 1⟩
  · cases hg
/-- A callee that is handed plain values and hands back a new list of numbers. -/
theorem CallS.ints (hE : E.Sound) (hm : E.P.follows .mixedOrders = true) {f : FuncId} {fn : Func} (hlp : LpF E fn) (hf : hasFn E.P f fn) {c : List AV → AH → Option (Bool × AV × AH)}
    (hc : ∀ args h v h', c args h = some (true, v, h') → (∀ x ∈ args, sure x = true) ∧ ∃ fuel l, evC E fn fuel args ⟨[], [], 0⟩ listG = some (tupL l, ⟨[], [], 0⟩) ∧ v = .one (.ow h.nx) ∧ h' = ⟨h.b, (h.nx, ⟨true, 3, rowL l⟩) :: h.l, h.nx + 1⟩) : CallS E.P f c := by
  refine ⟨hf.enter, fun args h v h' he L w0 β w vals hl hb => ?_⟩
  obtain ⟨hs, fuel, l, hev, rfl, rfl⟩ := hc args h v h' he
  refine (evC_calls (L := []) (w0 := w) (β := β) hE hm hlp hf.1 hev hl (fun β' _ => ⟨fun i x y hx hy => ?_, ?_⟩)).mono ?_
  · obtain ⟨s1, s2⟩ := sure_spec (hs x (List.mem_of_getElem? hx))
    have := (hb β (Agree.refl _ _)).1 i x y hx hy
    right
    rw [this.resolve_left s1, s2 β β']
  · refine ⟨?_, fun q hq => by cases hq⟩
    simp only [bsO, lsO, List.map_nil, List.filter_nil]
    exact Own.start [] w
  · rintro e w' ⟨y, β2, v, h1, rfl, hag, hle, hall, hg⟩
    obtain ⟨hv, hh⟩ := hall β2 (Agree.refl _ _)
    obtain ⟨s, rfl, ho⟩ := listG_spec hg hh hv
    refine ⟨slv s, ⟨β.b, fun i => if i = h.nx then s else β.l i⟩, rfl, fun i hi => ⟨rfl, if_neg (by omega)⟩, Nat.le_succ _, fun β' hβ => ?_⟩
    have hnew : β'.l h.nx = s := by rw [(hβ h.nx (Nat.lt_succ_self _)).2]; simp
    have hold : Agree h.nx β β' := fun i hi => by
      have := hβ i (Nat.lt_succ_of_lt hi)
      exact ⟨this.1, by rw [this.2]; exact if_neg (by omega)⟩
    obtain ⟨_, hh0⟩ := hb β' hold
    refine ⟨.inr ?_, ?_, fun q hq hq2 => ?_⟩
    · simp only [cA, cA0, cC, hnew]
    · rw [lsO_cons, if_pos rfl, hnew]
      have := hh0.own.got hh.own.below0 ho
      rw [← lV_rowL] at this
      exact this
    · rcases List.mem_cons.1 hq with rfl | hq
      · cases hq2
      · exact hh0.ro q hq hq2
end Go.Proofs.Ytjpeplidbodjiaa
