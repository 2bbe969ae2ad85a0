/- What the evaluator says of a value and of what is owned holds of the machine: the words, and loads and stores. -/
import Derived.Test.YtjpeplidbodjiaaEv
namespace Go.Proofs.Ytjpeplidbodjiaa
open Go.RowKit
/-- Where the blocks and lists lie. -/
structure Bt where
  b : Nat → Nat
  l : Nat → Option Addr × Nat × Nat
def sB : Option Addr → Nat
  | some a => a.block
  | none => 0
def sO : Option Addr → Nat
  | some a => a.off
  | none => 0
def slv (s : Option Addr × Nat × Nat) : Value := .slice s.1 s.2.1 s.2.2
def cC (β : Bt) : AC → Value
  | .v x => x
  | .pt id off => .pointer (some ⟨β.b id, off, none⟩)
  | .el false id sz k j => .pointer (some ⟨β.b id, k * sz + j, none⟩)
  | .el true id sz k j => .pointer (some ⟨sB (β.l id).1, sO (β.l id).1 + k * sz + j, none⟩)
  | .ow id => slv (β.l id)
  | .sl id sz s n c => .slice (some ⟨β.b id, s * sz, none⟩) n c
  | .any => undef
def cA1 (β : Bt) : AV → Value
  | .one c => cC β c
  | .agg cs => .agg (cs.map (cC β)).toArray
  | .arr n f => .agg ((List.range n).map fun i => Value.bool (f i)).toArray
  | .tup _ => undef
  | .clo _ _ => undef
def cA0 (β : Bt) : AV → Value
  | .one c => cC β c
  | .agg cs => .agg (cs.map (cC β)).toArray
  | .arr n f => .agg ((List.range n).map fun i => Value.bool (f i)).toArray
  | .tup _ => undef
  | .clo f vs => .func (.func f) #[] (vs.map (cA1 β)).toArray
def cA (β : Bt) : AV → Value
  | .tup vs => .tuple (vs.map (cA0 β)).toArray
  | v => cA0 β v
def RV (β : Bt) (v : AV) (y : Value) : Prop := v = .one .any ∨ y = cA β v
def RF (β : Bt) (fr : List AV) (tm : Array Value) : Prop := ∀ j, RV β (getA fr j) (tm.getD j undef)
def rowV (sh : List CK) (f : Nat → Nat → Int) (o : Nat → Nat → ByteArray) (k : Nat) : List Value := (shAll f o k sh 0).map fun c => (plainC c).getD undef
def cB (β : Bt) : BB → List Value
  | .cells cs => cs.map (cC β)
  | .bools m n f => (List.range n).flatMap fun k => (List.range m).map fun j => Value.bool (f k j)
  | .row sh n f o => (List.range n).flatMap fun k => rowV sh f o k
def lV (lb : LB) : List Value := match lb.bb with
  | .cells _ => []
  | .bools m n f => (List.range n).flatMap fun k => (List.range m).map fun j => Value.bool (f k j)
  | .row sh n f o => (List.range n).flatMap fun k => rowV sh f o k
theorem lV_cB (β : Bt) (lb : LB) (h : ∀ cs, lb.bb ≠ .cells cs) : lV lb = cB β lb.bb := by
  unfold lV
  cases hb : lb.bb with
  | cells cs => exact absurd hb (h cs)
  | _ => rfl
theorem flat_len (g : Nat → List Value) (m : Nat) (hm : ∀ k, (g k).length = m) (n : Nat) : ((List.range n).flatMap g).length = n * m := by
  induction n with
  | zero => simp
  | succ n ih => rw [List.range_succ, List.flatMap_append, List.length_append, ih]; simp [hm, Nat.succ_mul]
theorem flat_get (g : Nat → List Value) (m : Nat) (hm : ∀ k, (g k).length = m) (k j : Nat) (hj : j < m) : ∀ n, k < n → ((List.range n).flatMap g)[k * m + j]? = (g k)[j]? := by
  intro n
  induction n with
  | zero => intro h; omega
  | succ n ih =>
    intro h
    rw [List.range_succ, List.flatMap_append]
    have hl := flat_len g m hm n
    by_cases e : k = n
    · subst e
      rw [List.getElem?_append_right (by rw [hl]; omega), hl]
      simp
    · have hk : k < n := by omega
      have : k * m + j < n * m := by
        have : (k + 1) * m ≤ n * m := Nat.mul_le_mul_right m hk
        rw [Nat.succ_mul] at this
        omega
      rw [List.getElem?_append_left (by rw [hl]; exact this)]
      exact ih hk
theorem shAll_len (f : Nat → Nat → Int) (o : Nat → Nat → ByteArray) (k : Nat) : ∀ (sh : List CK) (j : Nat), (shAll f o k sh j).length = sh.length
  | [], _ => rfl
  | .i _ :: r, j => by simp [shAll, shAll_len f o k r (j + 1)]
  | .s :: r, j => by simp [shAll, shAll_len f o k r (j + 1)]
theorem shAll_get (f : Nat → Nat → Int) (o : Nat → Nat → ByteArray) (k : Nat) : ∀ (sh : List CK) (j n : Nat), n < sh.length → (shAll f o k sh j)[n]? = some (shAt f o k sh j n)
  | [], _, n, h => by simp at h
  | .i _ :: r, j, 0, _ => by simp [shAll, shAt]
  | .s :: r, j, 0, _ => by simp [shAll, shAt]
  | .i _ :: r, j, n + 1, h => by simp only [shAll, shAt, List.getElem?_cons_succ]; exact shAll_get f o k r (j + 1) n (by simpa using h)
  | .s :: r, j, n + 1, h => by simp only [shAll, shAt, List.getElem?_cons_succ]; exact shAll_get f o k r (j + 1) n (by simpa using h)
theorem shAll_plain (f : Nat → Nat → Int) (o : Nat → Nat → ByteArray) (k : Nat) (β : Bt) : ∀ (sh : List CK) (j : Nat), (shAll f o k sh j).map (fun c => (plainC c).getD undef) = (shAll f o k sh j).map (cC β)
  | [], _ => rfl
  | .i _ :: r, j => by simp only [shAll, List.map_cons]; rw [shAll_plain f o k β r (j + 1)]; rfl
  | .s :: r, j => by simp only [shAll, List.map_cons]; rw [shAll_plain f o k β r (j + 1)]; rfl
theorem rowV_len (sh : List CK) (f : Nat → Nat → Int) (o : Nat → Nat → ByteArray) (k : Nat) : (rowV sh f o k).length = sh.length := by simp [rowV, shAll_len]
theorem rowV_get (β : Bt) (sh : List CK) (f : Nat → Nat → Int) (o : Nat → Nat → ByteArray) (k j : Nat) (h : j < sh.length) : (rowV sh f o k)[j]? = some (cC β (shAt f o k sh 0 j)) := by
  unfold rowV
  rw [shAll_plain f o k β, List.getElem?_map, shAll_get f o k sh 0 j h]
  rfl
theorem nthC_get : ∀ (cs : List AC) (j : Nat), j < cs.length → cs[j]? = some (nthC cs j)
  | [], _, h => by simp at h
  | _ :: _, 0, _ => rfl
  | _ :: r, j + 1, h => by simp only [nthC, List.getElem?_cons_succ]; exact nthC_get r j (by simpa using h)
theorem nthC_any : ∀ (cs : List AC) (j : Nat), cs.length ≤ j → nthC cs j = .any
  | [], _, _ => rfl
  | _ :: r, 0, h => by simp at h
  | _ :: r, j + 1, h => by simp only [nthC]; exact nthC_any r j (by simpa using h)
theorem isRowT_spec {P : Program} {t : TypeId} (h : isRowT P t = true) : ∃ d, P.underlying t = some d ∧ d.isRow = true := by
  unfold isRowT at h
  split at h
  · rename_i fs he; exact ⟨_, he, rfl⟩
  · rename_i n e he; exact ⟨_, he, rfl⟩
  · cases h
theorem sizeT_spec {P : Program} {t : TypeId} {n : Nat} (h : sizeT P t = n) (hn : 0 < n) : (P.info? t).map (·.size) = some n := by
  unfold sizeT at h
  cases hi : P.info? t with
  | none => simp [hi] at h; omega
  | some i => simp [hi] at h; simp [h]
theorem splitI_spec {kd : IntKind} {n : Int} {k : AV → Out} {out : AV × AH} : ∀ (m j : Nat), splitI kd n k m j = some out → k (.one (.v (.int kd n))) = some out
  | 0, _, h => by cases h
  | m + 1, j, h => by
    simp only [splitI] at h
    cases e : n == Int.ofNat j with
    | true =>
      have := eq_of_beq e
      subst this
      simpa [e] using h
    | false =>
      simp only [e, cond_false] at h
      exact splitI_spec m (j + 1) h
theorem splitL_spec {sh : List CK} {n : Nat} {k : BB → Out} {f : Nat → Nat → Int} {o : Nat → Nat → ByteArray} {out : AV × AH} : ∀ (m j : Nat), splitL sh n k f o m j = some out → k (.row sh n f o) = some out
  | 0, _, h => by cases h
  | m + 1, j, h => by
    simp only [splitL] at h
    cases e : Nat.beq n j with
    | true =>
      have := Nat.eq_of_beq_eq_true e
      subst this
      simpa [e] using h
    | false =>
      simp only [e, cond_false] at h
      exact splitL_spec m (j + 1) h
theorem over_look {α : Type} {id : Nat} {x : α} : ∀ {l : List (Nat × α)}, look id l = some x → over id x l = l
  | [], _ => rfl
  | (j, y) :: r, h => by
    simp only [look] at h
    simp only [over]
    cases e : Nat.beq id j with
    | true =>
      simp only [e, cond_true, Option.some.injEq] at h ⊢
      rw [h]
    | false =>
      simp only [e, cond_false] at h ⊢
      rw [over_look h]
theorem splitV_spec {s : Option Nat} {v : AV} {h : AH} {k : AV → AH → Out} {out : AV × AH} (he : splitV s v h k = some out) : k v h = some out := by
  unfold splitV at he
  split at he
  · exact he
  · split at he
    · exact splitI_spec _ _ he
    · split at he
      · rename_i hl
        have := splitL_spec _ _ he
        rw [over_look hl] at this
        exact this
      · exact he
    · exact he
end Go.Proofs.Ytjpeplidbodjiaa
