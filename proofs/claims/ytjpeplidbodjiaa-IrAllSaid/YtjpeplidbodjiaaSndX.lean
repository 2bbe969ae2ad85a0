/- Loops by a pattern; callees that are handed lists, numbered anew, and give new ones. -/
import Derived.Test.YtjpeplidbodjiaaSndD
namespace Go.Proofs.Ytjpeplidbodjiaa
open Go.RowKit
variable {L : List Nat} {w0 w w' : World} {β β2 : Bt} {E : Env}
/-- A loop by a pattern of its head. -/
def lpG (m0 : Nat) (d : AS) (leaf : Dt → (Exit → AS → Out) → Out) (m : Nat) (st : AS) (K : Exit → AS → Out) : Out :=
  bif Nat.beq m m0 && likeS st d then leaf (datS st) K else none
theorem LoopS.pat (hE : E.Sound) (hm : E.P.follows .mixedOrders = true) {x : Code} (hl : LpC E (.loop x)) (h : E.lp (keyC x) = none) (kp : Exit → Option (List Nat)) {m0 : Nat} {d : AS} {leaf : Dt → (Exit → AS → Out) → Out}
    (hf : ∀ (dt : Dt) (K : Exit → AS → Out) (out : AV × AH), leaf dt K = some out → ∃ n, gc m0 (E.lv (keyC x)) (refS d dt) (HeadK E m0 kp x n K) = some out) : LoopS E.P x (lpG m0 d leaf) := by
  refine LoopS.head hE hm hl h (kp := kp) fun m st K out ho => ?_
  unfold lpG at ho
  cases hc : (Nat.beq m m0 && likeS st d) with
  | false => simp [hc] at ho
  | true =>
    simp only [hc, cond_true] at ho
    rw [Bool.and_eq_true] at hc
    have e := Nat.eq_of_beq_eq_true hc.1
    subst e
    rw [likeS_ref hc.2]
    exact hf _ K out ho
/-- One pattern, or else another rule. -/
def lpOr (m0 : Nat) (d : AS) (leaf : Dt → (Exit → AS → Out) → Out) (g : Nat → AS → (Exit → AS → Out) → Out) (m : Nat) (st : AS) (K : Exit → AS → Out) : Out :=
  bif Nat.beq m m0 && likeS st d then leaf (datS st) K else g m st K
theorem LoopS.or {P : Program} {x : Code} {m0 : Nat} {d : AS} {leaf : Dt → (Exit → AS → Out) → Out} {g : Nat → AS → (Exit → AS → Out) → Out} (h1 : LoopS P x (lpG m0 d leaf)) (h2 : LoopS P x g) : LoopS P x (lpOr m0 d leaf g) := by
  intro m st K out ho
  unfold lpOr at ho
  cases hc : (Nat.beq m m0 && likeS st d) with
  | false =>
    simp only [hc, cond_false] at ho
    exact h2 m st K out ho
  | true =>
    simp only [hc, cond_true] at ho
    exact h1 m st K out (by unfold lpG; rw [hc]; exact ho)
/-- Values renumbered: a callee's arguments; each list that occurs gets a number of its own. -/
def numC (acc : List Nat) : AC → Option (AC × List Nat)
  | .v x => some (.v x, acc)
  | .ow i => some (.ow acc.length, acc ++ [i])
  | _ => none
def numCs : List Nat → List AC → Option (List AC × List Nat)
  | acc, [] => some ([], acc)
  | acc, c :: r => match numC acc c with
    | some (c', acc') => (match numCs acc' r with
      | some (r', acc'') => some (c' :: r', acc'')
      | none => none)
    | none => none
def numV (acc : List Nat) : AV → Option (AV × List Nat)
  | .one c => (match numC acc c with
    | some (c', acc') => some (.one c', acc')
    | none => none)
  | .agg cs => (match numCs acc cs with
    | some (cs', acc') => some (.agg cs', acc')
    | none => none)
  | .arr n f => some (.arr n f, acc)
  | _ => none
def numAs : List Nat → List AV → Option (List AV × List Nat)
  | acc, [] => some ([], acc)
  | acc, v :: r => match numV acc v with
    | some (v', acc') => (match numAs acc' r with
      | some (r', acc'') => some (v' :: r', acc'')
      | none => none)
    | none => none
def Ren (ord : List Nat) (β β' : Bt) : Prop := ∀ i, i < ord.length → β'.l i = β.l (ord.getD i 0)
theorem Ren.of {ord : List Nat} {β β' : Bt} (h : Agree ord.length (renBt 0 ord β) β') : Ren ord β β' := fun i hi => by
  rw [(h i hi).2]
  simp [renBt]
theorem numC_spec {acc acc' : List Nat} {c c' : AC} (h : numC acc c = some (c', acc')) : acc <+: acc' ∧ ∀ ord β β', acc' <+: ord → Ren ord β β' → cC β' c' = cC β c := by
  unfold numC at h
  split at h
  · simp only [Option.some.injEq, Prod.mk.injEq] at h
    rw [← h.1, ← h.2]
    exact ⟨List.prefix_refl _, fun _ _ _ _ _ => rfl⟩
  · rename_i i
    simp only [Option.some.injEq, Prod.mk.injEq] at h
    rw [← h.1, ← h.2]
    refine ⟨List.prefix_append _ _, fun ord β β' hp hr => ?_⟩
    obtain ⟨t, rfl⟩ := hp
    have e := hr acc.length (by simp)
    have e2 : (acc ++ [i] ++ t).getD acc.length 0 = i := by simp [List.getD_eq_getElem?_getD]
    rw [e2] at e
    simp only [cC, e]
  · cases h
theorem numCs_spec : ∀ {acc acc' : List Nat} {cs cs' : List AC}, numCs acc cs = some (cs', acc') → acc <+: acc' ∧ ∀ ord β β', acc' <+: ord → Ren ord β β' → cs'.map (cC β') = cs.map (cC β)
  | acc, acc', [], cs', h => by
    simp only [numCs, Option.some.injEq, Prod.mk.injEq] at h
    rw [← h.1, ← h.2]
    exact ⟨List.prefix_refl _, fun _ _ _ _ _ => rfl⟩
  | acc, acc', c :: r, cs', h => by
    simp only [numCs] at h
    split at h
    · rename_i c' acc1 hc
      split at h
      · rename_i r' acc2 hr
        simp only [Option.some.injEq, Prod.mk.injEq] at h
        rw [← h.1, ← h.2]
        obtain ⟨p1, s1⟩ := numC_spec hc
        obtain ⟨p2, s2⟩ := numCs_spec hr
        refine ⟨p1.trans p2, fun ord β β' hp hren => ?_⟩
        rw [List.map_cons, List.map_cons, s1 ord β β' (p2.trans hp) hren, s2 ord β β' hp hren]
      · cases h
    · cases h
theorem numV_spec {acc acc' : List Nat} {v v' : AV} (h : numV acc v = some (v', acc')) : acc <+: acc' ∧ v ≠ .one .any ∧ ∀ ord β β', acc' <+: ord → Ren ord β β' → cA β' v' = cA β v := by
  unfold numV at h
  split at h
  · rename_i c
    split at h
    · rename_i c' acc1 hc
      simp only [Option.some.injEq, Prod.mk.injEq] at h
      rw [← h.1, ← h.2]
      obtain ⟨p1, s1⟩ := numC_spec hc
      refine ⟨p1, fun e => ?_, s1⟩
      injection e with e
      rw [e] at hc
      cases hc
    · cases h
  · split at h
    · rename_i cs cs' acc1 hc
      simp only [Option.some.injEq, Prod.mk.injEq] at h
      rw [← h.1, ← h.2]
      obtain ⟨p1, s1⟩ := numCs_spec hc
      exact ⟨p1, by simp, fun ord β β' hp hr => by simp only [cA, cA0, s1 ord β β' hp hr]⟩
    · cases h
  · simp only [Option.some.injEq, Prod.mk.injEq] at h
    rw [← h.1, ← h.2]
    exact ⟨List.prefix_refl _, by simp, fun _ _ _ _ _ => rfl⟩
  · cases h
theorem numAs_spec : ∀ {acc acc' : List Nat} {args args' : List AV}, numAs acc args = some (args', acc') → acc <+: acc' ∧ args'.length = args.length ∧ ∀ (i : Nat) (x' : AV), args'[i]? = some x' → ∃ x, args[i]? = some x ∧ x ≠ .one .any ∧ ∀ ord β β', acc' <+: ord → Ren ord β β' → cA β' x' = cA β x
  | acc, acc', [], args', h => by
    simp only [numAs, Option.some.injEq, Prod.mk.injEq] at h
    rw [← h.1, ← h.2]
    exact ⟨List.prefix_refl _, rfl, fun i x' hx => by simp at hx⟩
  | acc, acc', v :: r, args', h => by
    simp only [numAs] at h
    split at h
    · rename_i v' acc1 hv
      split at h
      · rename_i r' acc2 hr
        simp only [Option.some.injEq, Prod.mk.injEq] at h
        rw [← h.1, ← h.2]
        obtain ⟨p1, n1, s1⟩ := numV_spec hv
        obtain ⟨p2, l2, s2⟩ := numAs_spec hr
        refine ⟨p1.trans p2, by simp [l2], fun i x' hx => ?_⟩
        cases i with
        | zero =>
          simp only [List.getElem?_cons_zero, Option.some.injEq] at hx
          exact ⟨v, rfl, n1, fun ord β β' hp hren => by rw [← hx]; exact s1 ord β β' (p2.trans hp) hren⟩
        | succ i => exact s2 i x' hx
      · cases h
    · cases h
/-- The lists that are handed are as said. -/
theorem pickL_hr {h : AH} {ord : List Nat} {l : List (Nat × LB)} (hp : pickL h ord 0 = some l) (hh : HR L w0 β h w) {β' : Bt} (hag : Agree ord.length (renBt 0 ord β) β') : HR [] w β' ⟨[], l, l.length⟩ w := by
  have hps := pickL_spec hp
  have hv := hh.view
  refine ⟨?_, fun q hq hfo => ?_⟩
  · rw [lsO_none fun q hq => (hps q hq).2.1]
    exact Own.start [] w
  · obtain ⟨_, _, i, lb, g3, g4, g5⟩ := hps q hq
    have hmem : (i, (⟨false, lb.e, lb.bb⟩ : LB)) ∈ viewL h.l := by
      have := look_mem g4
      clear g4 hh hps hv hp
      generalize h.l = hl' at this
      induction hl' with
      | nil => cases this
      | cons x r ih =>
        obtain ⟨j, lb'⟩ := x
        rcases List.mem_cons.1 this with e | e
        · injection e with e1 e2
          subst e1 e2
          exact List.mem_cons_self ..
        · exact List.mem_cons_of_mem _ (ih e)
    have hlt : q.1 < ord.length := by
      have := (List.getElem?_eq_some_iff.1 g3).1
      simpa using this
    have e1 := (hag q.1 hlt).2
    have e2 : (renBt 0 ord β).l q.1 = β.l i := by
      simp only [renBt, Nat.not_lt_zero, if_false]
      have : ord.getD (q.1 - 0) 0 = i := by
        rw [List.getD_eq_getElem?_getD, g3]
        rfl
      rw [this]
    rw [e1, e2, g5]
    exact hv.ro _ hmem rfl
theorem pickL_len {h : AH} : ∀ {ord : List Nat} {p : Nat} {l : List (Nat × LB)}, pickL h ord p = some l → l.length = ord.length
  | [], p, l, e => by
    simp only [pickL, Option.some.injEq] at e
    rw [← e]
    rfl
  | i :: r, p, l, e => by
    simp only [pickL] at e
    split at e
    · rename_i lb l' h1 h2
      simp only [Option.some.injEq] at e
      rw [← e, List.length_cons, List.length_cons, pickL_len h2]
    · cases e
theorem hand_begin {args args' : List AV} {h : AH} {ord : List Nat} {l : List (Nat × LB)} (ha : numAs [] args = some (args', ord)) (hp : pickL h ord 0 = some l) {vals : List Value} (hb : Begin L w0 β args h vals w) :
    Begin [] w (renBt 0 ord β) args' ⟨[], l, l.length⟩ vals w := by
  intro β' hβ
  have hlen := pickL_len hp
  simp only at hβ
  rw [hlen] at hβ
  obtain ⟨hav, hh⟩ := hb β (Agree.refl _ _)
  obtain ⟨_, _, hx⟩ := numAs_spec ha
  refine ⟨fun i x' y hx' hy => ?_, pickL_hr hp hh hβ⟩
  obtain ⟨x, h1, h2, h3⟩ := hx i x' hx'
  right
  rw [h3 ord β β' (List.prefix_refl _) (Ren.of hβ)]
  exact (hav i x y h1 hy).resolve_left h2
/-- Quiet callees. -/
def handQ (F : List AV → List (Nat × LB) → Option (Bool × AV)) (args : List AV) (h : AH) : Option (Bool × AV) := match numAs [] args with
  | some (args', ord) => (match pickL h ord 0 with
    | some l => F args' l
    | none => none)
  | none => none
theorem CallQ.hand (hE : E.Sound) (hm : E.P.follows .mixedOrders = true) {f : FuncId} {fn : Func} (hlp : LpF E fn) (hf : hasFn E.P f fn) {F : List AV → List (Nat × LB) → Option (Bool × AV)}
    (hF : ∀ args l v, F args l = some (true, v) → sure v = true ∧ ∃ fuel h', evV E fn fuel args ⟨[], l, l.length⟩ = some (v, h')) : CallQ E.P f (handQ F) := by
  refine ⟨hf.enter, fun args h v hq => ?_⟩
  unfold handQ at hq
  split at hq
  · rename_i args' ord ha
    split at hq
    · rename_i l hp
      obtain ⟨hs, fuel, h', he⟩ := hF _ _ _ hq
      obtain ⟨s1, s2⟩ := sure_spec hs
      refine ⟨⟨cA ⟨fun _ => 0, fun _ => (none, 0, 0)⟩ v, fun β => ⟨.inr (s2 _ _), s1⟩⟩, fun L w0 β w vals hl hb => ?_⟩
      refine (evV_calls (L := []) (w0 := w) (β := renBt 0 ord β) hE hm hlp hf.1 he (by rw [(numAs_spec ha).2.1]; exact hl) (hand_begin ha hp hb)).mono ?_
      rintro e w' ⟨y, β2, rfl, _, hv, bs, ls, ho⟩
      refine ⟨?_, ho.below0⟩
      rw [hv.resolve_left s1, s2 β2 β]
    · cases hq
  · cases hq
/-- What a callee gives, in one form: its values, its new lists, numbered anew. -/
def encL (q : Nat × LB) : AV := .tup [.one (.v (.int .i64 q.1)), .one (.v (.int .i64 q.2.e)), .one (.v (.int .i64 q.2.bb.sz)), .one (.v (.int .i64 q.2.bb.n)), .agg ((lV q.2).map .v)]
def canO (tp : Bool) (fr : List AV) (ls : List AV) (nx : Nat) : Out := some (.tup [.one (.v (.bool tp)), .tup fr, .tup ls], ⟨[], [], nx⟩)
def canG (m : Nat) (v : AV) (h : AH) : Out := match v with
  | .tup vs => bif Nat.blt vs.length 1000 then gc m (some (upto vs.length)) ⟨vs, h⟩ fun st => canO true st.fr ((newL m st.h.l).map encL) st.h.nx else none
  | v => gc m (some [0]) ⟨[v], h⟩ fun st => canO false st.fr ((newL m st.h.l).map encL) st.h.nx
def backI (m : Nat) (ord : List Nat) (nx i : Nat) : Nat := bif Nat.blt i m then ord.getD i 0 else nx + (i - m)
def backC (m : Nat) (ord : List Nat) (nx : Nat) : AC → AC
  | .v x => .v x
  | .ow i => .ow (backI m ord nx i)
  | _ => .any
def backV (m : Nat) (ord : List Nat) (nx : Nat) : AV → AV
  | .one c => .one (backC m ord nx c)
  | .agg cs => .agg (cs.map (backC m ord nx))
  | .arr n f => .arr n f
  | _ => .one .any
def okB : AC → Bool
  | .v (.tuple _) => false
  | .v _ => true
  | .ow _ => true
  | _ => false
def okG (nx : Nat) : AV → Bool
  | .one c => okB c && ltC nx c
  | .agg cs => cs.all fun c => okB c && ltC nx c
  | .arr _ _ => true
  | _ => false
structure Give where
  ok : Bool
  tp : Bool
  fr : List AV
  ls : List (Nat × LB)
  nx : Nat
def giveV (m : Nat) (ord : List Nat) (nx : Nat) (tp : Bool) (fr : List AV) : AV := bif tp then .tup (fr.map (backV m ord nx)) else match fr with
  | v :: _ => backV m ord nx v
  | [] => .one .any
def giveL (m : Nat) (ord : List Nat) (nx : Nat) (ls : List (Nat × LB)) : List (Nat × LB) := ls.map fun q => (backI m ord nx q.1, q.2)
def giveOk (m : Nat) (ord : List Nat) (nx : Nat) (g : Give) : Bool :=
  ord.all (fun i => Nat.blt i nx) && g.fr.all (okG g.nx) && g.ls.all (fun q => q.2.own && Nat.ble m q.1 && Nat.blt q.1 g.nx) && Nat.ble m g.nx && (g.tp || Nat.beq g.fr.length 1)
/-- Callees that make new lists. -/
def handC' (F : Nat → List AV → List (Nat × LB) → Option Give) (args : List AV) (h : AH) : Option (Bool × AV × AH) := match numAs [] args with
  | some (args', ord) => (match pickL h ord 0, h with
    | some l, ⟨b, hl, nx⟩ => (match F nx args' l with
      | some g => bif giveOk l.length ord nx g then some (g.ok, giveV l.length ord nx g.tp g.fr, ⟨b, giveL l.length ord nx g.ls ++ hl, nx + (g.nx - l.length)⟩) else none
      | none => none)
    | none, _ => none)
  | none => none
theorem encL_inj {q q' : Nat × LB} (h : encL q = encL q') : q.1 = q'.1 ∧ ∀ s, lsOf s q.2 = lsOf s q'.2 := by
  unfold encL at h
  injection h with h
  simp only [List.cons.injEq, and_true] at h
  obtain ⟨h1, h2, h3, h4, h5⟩ := h
  have key : ∀ {a b : Nat}, AV.one (.v (.int .i64 (a : Int))) = AV.one (.v (.int .i64 (b : Int))) → a = b := by
    intro a b h
    injection h with h
    injection h with h
    injection h with _ h
    exact Int.ofNat.inj h
  refine ⟨key h1, fun s => ?_⟩
  injection h5 with h5
  have h6 : lV q.2 = lV q'.2 := by
    have := congrArg (List.map (fun c => (plainC c).getD undef)) h5
    simpa [Function.comp_def, plainC] using this
  unfold lsOf
  rw [key h2, key h3, key h4, h6]
theorem newL_keep {m : Nat} : ∀ {ls : List (Nat × LB)}, (∀ q ∈ ls, q.2.own = true ∧ m ≤ q.1) → newL m ls = ls
  | [], _ => rfl
  | (i, lb) :: r, h => by
    have h1 := h (i, lb) (List.mem_cons_self ..)
    have e : Nat.blt i m = false := blt_false (by have := h1.2; simp only at this; omega)
    have e1 : lb.own = true := h1.1
    simp only [newL, e, e1, Bool.not_true, Bool.or_self, cond_false]
    rw [newL_keep fun q hq => h q (List.mem_cons_of_mem _ hq)]
theorem enc_lsO : ∀ {xs ys : List (Nat × LB)}, xs.map encL = ys.map encL → (∀ q ∈ xs, q.2.own = true) → (∀ q ∈ ys, q.2.own = true) → lsO β xs = lsO β ys
  | [], [], _, _, _ => rfl
  | x :: r, y :: s, h, hx, hy => by
    simp only [List.map_cons, List.cons.injEq] at h
    obtain ⟨x1, x2⟩ := x
    obtain ⟨y1, y2⟩ := y
    obtain ⟨e1, e2⟩ := encL_inj h.1
    simp only at e1 e2
    rw [lsO_cons, lsO_cons, if_pos (hx _ (List.mem_cons_self ..)), if_pos (hy _ (List.mem_cons_self ..)), enc_lsO h.2 (fun q hq => hx q (List.mem_cons_of_mem _ hq)) (fun q hq => hy q (List.mem_cons_of_mem _ hq)), e1, e2]
  | [], _ :: _, h, _, _ => by simp at h
  | _ :: _, [], h, _, _ => by simp at h
theorem gc_plain {m : Nat} {keep : List Nat} (hk : ∀ i ∈ keep, i < 1000) {vs : List AV} {h : AH} {k : AS → Out} {out : AV × AH} (hc : gc m (some keep) ⟨vs, h⟩ k = some out) :
    ∃ ord st', k st' = some out ∧ st'.h.nx = m + ord.length ∧ st'.fr.length = vs.length ∧ ∀ β β', Agree (m + ord.length) (renBt m ord β) β' → (∀ j y, RV β (getA vs j) y → RV β' (getA st'.fr j) y) ∧ (HR L w0 β h w → HR L w0 β' st'.h w) := by
  have hn : ∀ (keep : List Nat), (∀ i ∈ keep, i < 1000) → ∀ (st : AS) (k : AS → Out), nilG keep st k = k st := by
    intro keep
    induction keep with
    | nil => intro _ st k; rfl
    | cons i r ih =>
      intro hk st k
      have e : Nat.blt i 1000 = true := by rw [Nat.blt_eq]; exact hk i (List.mem_cons_self ..)
      simp only [nilG, e, cond_true]
      exact ih (fun j hj => hk j (List.mem_cons_of_mem _ hj)) st k
  unfold gc at hc
  simp only at hc
  rw [hn keep hk] at hc
  generalize idB m (idB m (idB m (idF m keep [] 0 (AS.mk vs h).fr) (AS.mk vs h).h.b) (AS.mk vs h).h.b) (AS.mk vs h).h.b = ord at hc
  unfold gcO at hc
  obtain ⟨fr, h1, f2, f3⟩ := renF_spec _ _ _ hc
  obtain ⟨b, h2, b2⟩ := renB_spec _ _ h1
  obtain ⟨l, h3, l2, l3⟩ := renL_spec _ _ h2
  refine ⟨ord, _, h3, rfl, f2, fun β β' hβ => ⟨fun j y hv => f3 β β' hβ j y hv, fun hh => ⟨(hh.own.dropb _ (b2 β β' hβ)).dropl _ (l2 β β' hβ), fun q hq hf => ?_⟩⟩⟩
  obtain ⟨i, g1, g2⟩ := l3 q hq
  rw [g2 β β' hβ]
  exact hh.ro _ g1 hf
theorem upto_lt : ∀ {n i : Nat}, i ∈ upto n → i < n
  | 0, i, h => by cases h
  | n + 1, i, h => by
    rcases List.mem_cons.1 h with rfl | h
    · exact Nat.lt_succ_self _
    · exact Nat.lt_succ_of_lt (upto_lt h)
theorem okG_ne {nx : Nat} {v : AV} (h : okG nx v = true) : v ≠ .one .any := by
  intro e
  subst e
  simp [okG, okB] at h
theorem okG_tup {nx : Nat} {v : AV} (h : okG nx v = true) (us : Array Value) : cA β v ≠ .tuple us := by
  cases v with
  | one c =>
    simp only [okG, Bool.and_eq_true] at h
    cases c with
    | v x =>
      simp only [cA, cA0, cC]
      intro e
      rw [e] at h
      simp [okB] at h
    | ow i => simp [cA, cA0, cC, slv]
    | _ => simp [okB] at h
  | agg cs => simp [cA, cA0]
  | arr n f => simp [cA, cA0]
  | tup vs => simp [okG] at h
  | clo f vs => simp [okG] at h
theorem back_cA {m nx0 nx : Nat} {ord : List Nat} {β' β3 : Bt} (hb : ∀ i, i < nx → β'.l (backI m ord nx0 i) = β3.l i) {v : AV} (h : okG nx v = true) : cA β' (backV m ord nx0 v) = cA β3 v ∧ backV m ord nx0 v ≠ .one .any ∧ cA0 β' (backV m ord nx0 v) = cA0 β3 v := by
  have hc : ∀ c, okB c = true → ltC nx c = true → cC β' (backC m ord nx0 c) = cC β3 c ∧ backC m ord nx0 c ≠ .any := by
    intro c h1 h2
    cases c with
    | v x => exact ⟨rfl, by simp [backC]⟩
    | ow i =>
      simp only [ltC, Nat.blt_eq] at h2
      refine ⟨?_, by simp [backC]⟩
      simp only [backC, cC, hb i h2]
    | _ => simp [okB] at h1
  cases v with
  | one c =>
    simp only [okG, Bool.and_eq_true] at h
    obtain ⟨h1, h2⟩ := hc c h.1 h.2
    refine ⟨h1, fun e => h2 ?_, h1⟩
    simp only [backV] at e
    injection e
  | agg cs =>
    simp only [okG, List.all_eq_true, Bool.and_eq_true] at h
    have e : (cs.map (backC m ord nx0)).map (cC β') = cs.map (cC β3) := by
      rw [List.map_map]
      exact List.map_congr_left fun c hcm => (hc c (h c hcm).1 (h c hcm).2).1
    refine ⟨?_, by simp [backV], ?_⟩ <;> simp only [backV, cA, cA0, e]
  | arr n f => exact ⟨rfl, by simp [backV], rfl⟩
  | tup vs => simp [okG] at h
  | clo f vs => simp [okG] at h
theorem canG_spec {m : Nat} {v : AV} {h : AH} {g : Give} (hg : canG m v h = canO g.tp g.fr (g.ls.map encL) g.nx) : ∃ vs, (∀ β y, RV β v y → v ≠ .one .any → (if g.tp then y = .tuple (vs.map (cA0 β)).toArray else vs.length = 1 ∧ RV β (getA vs 0) y)) ∧ (v = .one .any → g.tp = false ∧ vs = [.one .any]) ∧
    ∃ (ord : List Nat) (st' : AS), st'.h.nx = m + ord.length ∧ st'.fr.length = vs.length ∧ (∀ β β', Agree (m + ord.length) (renBt m ord β) β' → (∀ j y, RV β (getA vs j) y → RV β' (getA st'.fr j) y) ∧ (HR L w0 β h w → HR L w0 β' st'.h w)) ∧ st'.fr = g.fr ∧ (newL m st'.h.l).map encL = g.ls.map encL ∧ st'.h.nx = g.nx := by
  have key : ∀ (tp : Bool) (vs : List AV), vs.length < 1000 → (gc m (some (upto vs.length)) ⟨vs, h⟩ fun st => canO tp st.fr ((newL m st.h.l).map encL) st.h.nx) = canO g.tp g.fr (g.ls.map encL) g.nx → tp = g.tp ∧
      ∃ (ord : List Nat) (st' : AS), st'.h.nx = m + ord.length ∧ st'.fr.length = vs.length ∧ (∀ β β', Agree (m + ord.length) (renBt m ord β) β' → (∀ j y, RV β (getA vs j) y → RV β' (getA st'.fr j) y) ∧ (HR L w0 β h w → HR L w0 β' st'.h w)) ∧ st'.fr = g.fr ∧ (newL m st'.h.l).map encL = g.ls.map encL ∧ st'.h.nx = g.nx := by
    intro tp vs hlen hg
    unfold canO at hg
    obtain ⟨ord, st', h1, h2, h3, h4⟩ := gc_plain (L := L) (w0 := w0) (w := w) (fun i hi => by have := upto_lt hi; omega) hg
    simp only [Option.some.injEq, Prod.mk.injEq, AV.tup.injEq, List.cons.injEq, and_true, AH.mk.injEq, true_and] at h1
    obtain ⟨⟨e1, e2, e3⟩, e4⟩ := h1
    injection e1 with e1
    injection e1 with e1
    injection e1 with e1
    exact ⟨e1, ord, st', h2, h3, h4, e2, e3, e4⟩
  have one : (∀ vs, v ≠ .tup vs) → (gc m (some [0]) ⟨[v], h⟩ fun st => canO false st.fr ((newL m st.h.l).map encL) st.h.nx) = canO g.tp g.fr (g.ls.map encL) g.nx → ∃ vs, (∀ β y, RV β v y → v ≠ .one .any → (if g.tp then y = .tuple (vs.map (cA0 β)).toArray else vs.length = 1 ∧ RV β (getA vs 0) y)) ∧ (v = .one .any → g.tp = false ∧ vs = [.one .any]) ∧
    ∃ (ord : List Nat) (st' : AS), st'.h.nx = m + ord.length ∧ st'.fr.length = vs.length ∧ (∀ β β', Agree (m + ord.length) (renBt m ord β) β' → (∀ j y, RV β (getA vs j) y → RV β' (getA st'.fr j) y) ∧ (HR L w0 β h w → HR L w0 β' st'.h w)) ∧ st'.fr = g.fr ∧ (newL m st'.h.l).map encL = g.ls.map encL ∧ st'.h.nx = g.nx := by
    intro _ hg
    obtain ⟨e, r⟩ := key false [v] (by simp) hg
    refine ⟨[v], fun β y hv _ => ?_, fun hv => ⟨e.symm, by rw [hv]⟩, r⟩
    rw [← e, if_neg (by simp)]
    exact ⟨rfl, hv⟩
  cases v with
  | tup vs =>
    simp only [canG] at hg
    cases hlen : Nat.blt vs.length 1000 with
    | false => simp [hlen, canO] at hg
    | true =>
      simp only [hlen, cond_true] at hg
      rw [Nat.blt_eq] at hlen
      obtain ⟨e, r⟩ := key true vs hlen hg
      refine ⟨vs, fun β y hv _ => ?_, fun hv => (by cases hv), r⟩
      rw [← e, if_pos rfl]
      exact hv.resolve_left (by simp)
  | one c => exact one (by simp) hg
  | agg cs => exact one (by simp) hg
  | arr n f => exact one (by simp) hg
  | clo f vs => exact one (by simp) hg
theorem CallS.hand (hE : E.Sound) (hm : E.P.follows .mixedOrders = true) {f : FuncId} {fn : Func} (hlp : LpF E fn) (hf : hasFn E.P f fn) {F : Nat → List AV → List (Nat × LB) → Option Give}
    (hF : ∀ nx args l g, F nx args l = some g → g.ok = true → ∃ fuel, evC E fn fuel args ⟨[], l, l.length⟩ (canG l.length) = canO g.tp g.fr (g.ls.map encL) g.nx) : CallS E.P f (handC' F) := by
  refine ⟨hf.enter, fun args h v h' he L w0 β w vals hl hb => ?_⟩
  unfold handC' at he
  split at he
  case h_2 => cases he
  rename_i args' ord ha
  split at he
  · rename_i l b hls nx hp
    split at he
    · rename_i g hg
      cases hok : giveOk l.length ord nx g with
      | false => simp [hok] at he
      | true =>
        simp only [hok, cond_true, Option.some.injEq, Prod.mk.injEq] at he
        obtain ⟨hgo, rfl, rfl⟩ := he
        obtain ⟨fuel, hev⟩ := hF _ _ _ _ hg hgo
        have hm' := pickL_len hp
        simp only [giveOk, Bool.and_eq_true, List.all_eq_true, Nat.blt_eq, Nat.ble_eq, Bool.or_eq_true] at hok
        obtain ⟨⟨⟨⟨k1, k2⟩, k3⟩, k4⟩, k5⟩ := hok
        unfold canO at hev
        refine (evC_calls (L := []) (w0 := w) (β := renBt 0 ord β) hE hm hlp hf.1 hev (by rw [(numAs_spec ha).2.1]; exact hl) (hand_begin ha hp hb)).mono ?_
        rintro e w' ⟨y, β2, v1, h1, rfl, hag, hle, hall, hgg⟩
        obtain ⟨hv, hh1⟩ := hall β2 (Agree.refl _ _)
        obtain ⟨vs, c1, c2, ord2, st', c3, c4, c5, c6, c7, c8⟩ := canG_spec (L := []) (w0 := w) (w := w') (g := g) hgg
        obtain ⟨d1, d2⟩ := c5 β2 (renBt l.length ord2 β2) (Agree.refl _ _)
        have hh3 := d2 hh1
        have hne : v1 ≠ .one .any := by
          intro e
          obtain ⟨t1, t2⟩ := c2 e
          rw [t2] at c4 d1
          have := d1 0 undef (.inl rfl)
          have hfr : g.fr.length = 1 := by rw [← c6, c4]; rfl
          match hgf : g.fr, hfr with
          | [x], _ =>
            rw [c6, hgf] at d1
            have hx := k2 x (by rw [hgf]; exact List.mem_cons_self ..)
            have u1 := (d1 0 undef (.inl rfl)).resolve_left (okG_ne hx)
            have u2 := (d1 0 (.bool true) (.inl rfl)).resolve_left (okG_ne hx)
            rw [← u2] at u1
            cases u1
        have hback : ∀ β', Agree (nx + (g.nx - l.length)) ⟨β.b, fun i => if i < nx then β.l i else (renBt l.length ord2 β2).l (l.length + (i - nx))⟩ β' → ∀ i, i < g.nx → β'.l (backI l.length ord nx i) = (renBt l.length ord2 β2).l i := by
          intro β' hβ i hi
          unfold backI
          by_cases him : i < l.length
          · have e : Nat.blt i l.length = true := by rw [Nat.blt_eq]; exact him
            rw [e, cond_true]
            have hio : i < ord.length := by omega
            have hmem : ord.getD i 0 ∈ ord := by
              rw [List.getD_eq_getElem?_getD, List.getElem?_eq_getElem hio]
              exact List.getElem_mem _
            have hlt := k1 _ hmem
            rw [(hβ _ (by omega)).2]
            simp only [hlt, if_true]
            have e2 : (renBt l.length ord2 β2).l i = β2.l i := by simp [renBt, him]
            rw [e2, (hag i him).2]
            simp [renBt]
          · have e : Nat.blt i l.length = false := blt_false him
            rw [e, cond_false, (hβ _ (by omega)).2]
            simp only
            rw [if_neg (by omega), show l.length + (nx + (i - l.length) - nx) = i by omega]
        refine ⟨y, ⟨β.b, fun i => if i < nx then β.l i else (renBt l.length ord2 β2).l (l.length + (i - nx))⟩, rfl, fun i hi => ⟨rfl, if_pos hi⟩, Nat.le_add_right _ _, fun β' hβ => ?_⟩
        have hb1 := hback β' hβ
        have hold : Agree nx β β' := fun i hi => by
          have := hβ i (Nat.lt_of_lt_of_le hi (Nat.le_add_right _ _))
          exact ⟨this.1, by rw [this.2]; exact if_pos hi⟩
        obtain ⟨_, hh0⟩ := hb β' hold
        have hc := c1 β2 y hv hne
        refine ⟨.inr ?_, ?_, fun q hq ho => ?_⟩
        · unfold giveV
          cases htp : g.tp with
          | false =>
            rw [htp, if_neg (by simp)] at hc
            simp only [cond_false]
            have hfr : g.fr.length = 1 := by rw [← c6, c4]; exact hc.1
            match hgf : g.fr, hfr with
            | [x], _ =>
              have hx := k2 x (by rw [hgf]; exact List.mem_cons_self ..)
              have := d1 0 y hc.2
              rw [c6, hgf] at this
              have := this.resolve_left (okG_ne hx)
              simp only
              rw [(back_cA hb1 hx).1, this]
              rfl
          | true =>
            rw [htp, if_pos rfl] at hc
            simp only [cond_true]
            rw [hc]
            simp only [cA]
            congr 2
            rw [List.map_map]
            apply List.ext_getElem?
            intro j
            rw [List.getElem?_map, List.getElem?_map]
            have hlen : g.fr.length = vs.length := by rw [← c6, c4]
            by_cases hj : j < vs.length
            · have hj' : j < g.fr.length := by omega
              rw [List.getElem?_eq_getElem hj, List.getElem?_eq_getElem hj']
              simp only [Option.map_some, Option.some.injEq, Function.comp]
              have hx := k2 _ (List.getElem_mem hj')
              have hr := d1 j (cA β2 (getA vs j)) (.inr rfl)
              rw [c6] at hr
              have g1 : getA g.fr j = g.fr[j] := by have := getA_of g.fr j hj'; rw [List.getElem?_eq_getElem hj'] at this; exact (Option.some.inj this).symm
              have g2 : getA vs j = vs[j] := by have := getA_of vs j hj; rw [List.getElem?_eq_getElem hj] at this; exact (Option.some.inj this).symm
              rw [g1, g2] at hr
              have hr := hr.resolve_left (okG_ne hx)
              rw [(back_cA hb1 hx).2.2]
              have t1 : cA (renBt l.length ord2 β2) g.fr[j] = cA0 (renBt l.length ord2 β2) g.fr[j] := by
                generalize g.fr[j] = x at hx
                cases x <;> first | rfl | (simp [okG] at hx; done)
              have t2 : cA β2 vs[j] = cA0 β2 vs[j] := by
                generalize hvj : vs[j] = x at hr
                cases x with
                | tup us => exact absurd hr.symm (okG_tup hx _)
                | _ => rfl
              rw [← t1, ← t2, hr]
            · rw [List.getElem?_eq_none (by omega), List.getElem?_eq_none (by omega)]
              rfl
        · rw [lsO_append]
          have hnew : lsO β' (giveL l.length ord nx g.ls) = lsO (renBt l.length ord2 β2) (newL l.length st'.h.l) := by
            rw [enc_lsO c7 (newL_own _ _) (fun q hq => (by have := k3 q hq; exact this.1.1))]
            unfold giveL
            have : ∀ ls : List (Nat × LB), (∀ q ∈ ls, q.2.own = true ∧ q.1 < g.nx) → lsO β' (ls.map fun q => (backI l.length ord nx q.1, q.2)) = lsO (renBt l.length ord2 β2) ls := by
              intro ls
              induction ls with
              | nil => intro _; rfl
              | cons q r ih =>
                intro hq
                obtain ⟨i, lb⟩ := q
                have h1 := hq (i, lb) (List.mem_cons_self ..)
                rw [List.map_cons, lsO_cons, lsO_cons, if_pos h1.1, if_pos h1.1, hb1 i h1.2, ih fun q hqm => hq q (List.mem_cons_of_mem _ hqm)]
            exact this g.ls fun q hq => by have := k3 q hq; exact ⟨this.1.1, this.2⟩
          rw [hnew]
          exact hh0.own.gots hh1.own.below0 (hh3.own.dropl _ ((newL_sub l.length st'.h.l).filter _ |>.map _))
        · rcases List.mem_append.1 hq with h1 | h1
          · obtain ⟨q', h2, rfl⟩ := List.mem_map.1 h1
            have := k3 q' h2
            simp only at ho
            rw [this.1.1] at ho
            cases ho
          · exact hh0.ro q h1 ho
    · cases he
  · cases he
theorem handC'_keeps {F : Nat → List AV → List (Nat × LB) → Option Give} (args : List AV) (h : AH) (g : Bool) (v : AV) (h' : AH) (e : handC' F args h = some (g, v, h')) : h.b.Sublist h'.b ∧ h.l.Sublist h'.l := by
  unfold handC' at e
  split at e
  case h_2 => cases e
  rename_i args' ord ha
  split at e
  · rename_i l b hl nx hp
    split at e
    · rename_i g' hg
      cases hok : giveOk l.length ord nx g' with
      | false => simp [hok] at e
      | true =>
        simp only [hok, cond_true, Option.some.injEq, Prod.mk.injEq] at e
        rw [← e.2.2]
        exact ⟨List.Sublist.refl _, List.sublist_append_right _ _⟩
    · cases e
  · cases e
/-- A function that reads lists and makes new ones, by its summary. -/
def Env.gives (E : Env) (f0 : FuncId) (F : Nat → List AV → List (Nat × LB) → Option Give) : Env := E.add f0 (handC' F) noQ false true
theorem Env.Sound.gives {E : Env} (h : E.Sound) {f0 : FuncId} {fn : Func} (hf : hasFn E.P f0 fn) {F : Nat → List AV → List (Nat × LB) → Option Give} (hc : CallS E.P f0 (handC' F)) : (E.gives f0 F).Sound :=
  h.add hc (noQ_CallQ hf) fun _ => handC'_keeps
end Go.Proofs.Ytjpeplidbodjiaa
