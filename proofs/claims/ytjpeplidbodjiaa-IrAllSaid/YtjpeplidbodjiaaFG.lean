/- block.Right, block.Jumps. -/
import Derived.Test.YtjpeplidbodjiaaFF
import Derived.Test.YtjpeplidbodjiaaSndU
namespace Go.Proofs.Ytjpeplidbodjiaa
set_option maxRecDepth 100000
noncomputable def EG72 : Env := EE7.marks (fun i => bif Nat.beq i 4 then some [0, 13, 14, 15] else none) fun _ => none
theorem EG72_s : EG72.Sound := EE7_s.marks
noncomputable def x72 : Code := loopF Try.f72
theorem key72 : keyC x72 = 4 := by kernel_rfl
theorem loops72 : loopsC (bodyC Try.f72) = [x72] := by kernel_rfl
def kp72 : Exit → Option (List Nat)
  | .ret => some [2]
  | .exit _ => some []
  | _ => none
def lW (n : Nat) (f : Nat → Nat → Int) (o : Nat → Nat → ByteArray) : List (Nat × LB) := [(0, ⟨false, 22, .row [.i .u32] n f o⟩)]
def S72 (i nn : Int) (n : Nat) (f : Nat → Nat → Int) (o : Nat → Nat → ByteArray) : AS := ⟨[.one (.ow 0), .one .any, .one .any, .one .any, .one .any, .one .any, .one .any, .one .any, .one .any, .one .any, .one .any, .one .any, .one .any, .one (.ow 0), .one (.v (.int .i64 nn)), .one (.v (.int .i64 i))] ++ anys 20, ⟨[], lW n f o, 1⟩⟩
def X72 (n : Nat) (f : Nat → Nat → Int) (o : Nat → Nat → ByteArray) : AS := ⟨anys 36, ⟨[], lW n f o, 1⟩⟩
def R72 (n : Nat) (f : Nat → Nat → Int) (o : Nat → Nat → ByteArray) : AS := ⟨.one .any :: .one .any :: .one (.v (.bool false)) :: anys 33, ⟨[], lW n f o, 1⟩⟩
theorem rnd72 (i : Int) (n : Nat) (f : Nat → Nat → Int) (o : Nat → Nat → ByteArray) (F : AS → Out) (K : Exit → AS → Out) (N : Nat) : ev EG72 1 (N + 30) x72 (S72 i n n f o) (rkG 1 (EG72.lv 4) kp72 F K) =
    bif decide (i < (n : Int)) then bif decide (0 ≤ i) && decide (i < (n : Int)) then bif decide (i.toNat < n) && decide (0 < 1) then
      (bif !plainW (f i.toNat 0) then (bif i != IntKind.i64.wrap ((n : Int) - 2) then K .ret (R72 n f o) else bif !jumpsW (f i.toNat 0) then K .ret (R72 n f o) else F (S72 (IntKind.i64.wrap (i + 1)) n n f o)) else F (S72 (IntKind.i64.wrap (i + 1)) n n f o))
    else none else none else K (.exit 0) (X72 n f o) := by kernel_rfl
/-- May word number i of n stand there? -/
def fitsW (n i : Nat) (v : Int) : Bool := plainW v || (decide ((i : Int) = (n : Int) - 2) && jumpsW v)
/-- Do all words from number i on fit? -/
def goodR (n : Nat) (f : Nat → Int) : Nat → Nat → Bool
  | 0, _ => true
  | r + 1, i => fitsW n i (f i) && goodR n f r (i + 1)
theorem head72 (n : Nat) (f : Nat → Nat → Int) (o : Nat → Nat → ByteArray) (K : Exit → AS → Out) (hn : n ≤ 16) : ∀ (r i N : Nat), i + r = n → HeadK EG72 1 kp72 x72 (N + r + 30) K (S72 i n n f o) = bif goodR n (fun k => f k 0) r i then K (.exit 0) (X72 n f o) else K .ret (R72 n f o)
  | 0, i, N, h => by
    rw [show N + 0 + 30 = (N + 29) + 1 by omega, HeadK_succ (by rw [key72]; rfl), key72]
    refine (rnd72 i n f o _ K N).trans ?_
    have : decide ((i : Int) < (n : Int)) = false := decide_eq_false (by omega)
    rw [this]
    rfl
  | r + 1, i, N, h => by
    rw [show N + (r + 1) + 30 = (N + r + 30) + 1 by omega, HeadK_succ (by rw [key72]; rfl), key72]
    refine (rnd72 i n f o _ K (N + r + 1)).trans ?_
    have e1 : decide ((i : Int) < (n : Int)) = true := decide_eq_true (by omega)
    have e2 : decide (0 ≤ (i : Int)) = true := decide_eq_true (by omega)
    have e3 : decide ((i : Int).toNat < n) = true := decide_eq_true (by omega)
    have e4 : IntKind.i64.wrap ((i : Int) + 1) = ((i + 1 : Nat) : Int) := by rw [IntKind.wrap_i64]; omega
    have e5 : IntKind.i64.wrap ((n : Int) - 2) = (n : Int) - 2 := by rw [IntKind.wrap_i64]; omega
    have e6 : (i : Int).toNat = i := by omega
    rw [e1, e2, e3, e4, e5, e6]
    have ih := head72 n f o K hn r (i + 1) N (by omega)
    simp only [goodR, fitsW]
    cases hp : plainW (f i 0) with
    | true =>
      simp only [Bool.not_true, cond_false, Bool.true_or, Bool.true_and, cond_true]
      exact ih
    | false =>
      by_cases h2 : (i : Int) = (n : Int) - 2
      · have e7 : ((i : Int) != (n : Int) - 2) = false := by rw [h2]; exact bne_self_eq_false _
        have e8 : decide ((i : Int) = (n : Int) - 2) = true := decide_eq_true h2
        rw [e7, e8]
        cases hj : jumpsW (f i 0) with
        | true =>
          simp only [Bool.not_true, Bool.not_false, cond_false, Bool.false_or, Bool.true_and, cond_true]
          exact ih
        | false => rfl
      · have e7 : ((i : Int) != (n : Int) - 2) = true := by simpa using h2
        have e8 : decide ((i : Int) = (n : Int) - 2) = false := decide_eq_false h2
        rw [e7, e8]
        rfl
def lp72 (m : Nat) (st : AS) (K : Exit → AS → Out) : Out := bif Nat.beq m 1 && likeS st (S72 0 0 0 (fun _ _ => 0) fun _ _ => ByteArray.empty) then (match datS st with
  | ⟨[nn, i], [], [], [n], [f], [o], []⟩ => bif decide (i = 0) && decide (nn = (n : Int)) && Nat.ble n 16 then
      (bif goodR n (fun k => f k 0) n 0 then K (.exit 0) (X72 n f o) else K .ret (R72 n f o)) else none
  | _ => none) else none
theorem ref72 (nn i : Int) (n : Nat) (f : Nat → Nat → Int) (o : Nat → Nat → ByteArray) : refS (S72 0 0 0 (fun _ _ => 0) fun _ _ => ByteArray.empty) ⟨[nn, i], [], [], [n], [f], [o], []⟩ = S72 i nn n f o := by kernel_rfl
theorem gcS72 (i nn : Int) (n : Nat) (f : Nat → Nat → Int) (o : Nat → Nat → ByteArray) (F : AS → Out) : gc 1 (EG72.lv 4) (S72 i nn n f o) F = F (S72 i nn n f o) := by kernel_rfl
theorem lp72_ok : LoopS Try.prog x72 lp72 := by
  refine LoopS.head (E := EG72) (kp := kp72) EG72_s pfl (LpC.none fun _ => rfl) (by rw [key72]; rfl) fun m st k out h => ?_
  unfold lp72 at h
  cases hl : (Nat.beq m 1 && likeS st (S72 0 0 0 (fun _ _ => 0) fun _ _ => ByteArray.empty)) with
  | false => simp [hl] at h
  | true =>
    simp only [hl, cond_true] at h
    rw [Bool.and_eq_true] at hl
    have hm := Nat.eq_of_beq_eq_true hl.1
    have hst := likeS_ref hl.2
    split at h
    · rename_i nn i n f o hd
      cases hc : (decide (i = 0) && decide (nn = (n : Int)) && Nat.ble n 16) with
      | false => simp [hc] at h
      | true =>
        simp only [hc, cond_true] at h
        simp only [Bool.and_eq_true, decide_eq_true_eq, Nat.ble_eq] at hc
        obtain ⟨⟨rfl, rfl⟩, hn⟩ := hc
        rw [hd, ref72] at hst
        subst hst hm
        refine ⟨n + 30, ?_⟩
        rw [key72, gcS72]
        have := head72 n f o k hn n 0 0 (by omega)
        rw [Nat.zero_add] at this
        exact this.trans h
    · cases h
noncomputable def EG0 : Env := (EE7.marks (fun i => bif Nat.beq i 4 then some [0, 13, 14, 15] else none) fun _ => none).loops fun i => bif Nat.beq i 4 then some lp72 else none
theorem EG0_s : EG0.Sound := EE7_s.marks.loops
theorem EG0_lp : LpF EG0 Try.f72 := LpF.of fun x hx f hf => by
  rw [loops72] at hx
  have hx : x = x72 := by simpa using hx
  subst hx
  have e : EG0.lp (keyC x72) = some lp72 := by rw [key72]; rfl
  rw [e] at hf
  injection hf with hf
  subst hf
  exact lp72_ok
/-- What may be a block's words. -/
def rightW (n : Nat) (f : Nat → Int) : Bool := bif decide ((n : Int) < 1) then false else bif decide ((n : Int) > 16) then false else goodR n f n 0
theorem t72 (n : Nat) (f : Nat → Nat → Int) (o : Nat → Nat → ByteArray) : evV EG0 Try.f72 100 [.one (.ow 0)] ⟨[], lW n f o, 1⟩ =
    bif (bif decide ((n : Int) < 1) then true else decide ((n : Int) > 16)) then some (boolV false, hh0) else
    bif decide ((0 : Int) = 0) && decide ((n : Int) = (n : Int)) && Nat.ble n 16 then (bif goodR n (fun k => f k 0) n 0 then some (boolV true, hh0) else some (boolV false, hh0)) else none := by kernel_rfl
theorem t72' (n : Nat) (f : Nat → Nat → Int) (o : Nat → Nat → ByteArray) : evV EG0 Try.f72 100 [.one (.ow 0)] ⟨[], lW n f o, 1⟩ = some (boolV (rightW n fun k => f k 0), hh0) := by
  rw [t72]
  unfold rightW
  by_cases h1 : (n : Int) < 1
  · rw [decide_eq_true h1]
    rfl
  · rw [decide_eq_false h1]
    by_cases h2 : (n : Int) > 16
    · rw [decide_eq_true h2]
      rfl
    · rw [decide_eq_false h2]
      have : Nat.ble n 16 = true := by rw [Nat.ble_eq]; omega
      rw [this, decide_eq_true (rfl : (n : Int) = (n : Int))]
      cases goodR n (fun k => f k 0) n 0 <;> rfl
/-- The words of a list. -/
def wordsOf (v : AV) (h : AH) : Option (Nat × (Nat → Nat → Int)) := match v with
  | .one (.ow id) => (match look id h.l with
    | some ⟨_, e, .row [.i .u32] n f _⟩ => bif Nat.beq e 22 then some (n, f) else none
    | _ => none)
  | .one (.v (.slice none 0 0)) => some (0, fun _ _ => 0)
  | _ => none
def q72 (args : List AV) (h : AH) : Option (Bool × AV) := match args with
  | [v] => (match wordsOf v h with
    | some (n, f) => some (true, boolV (rightW n fun k => f k 0))
    | none => none)
  | _ => none
theorem nil72 : evV EG0 Try.f72 100 [.one (.v (.slice none 0 0))] ⟨[], [], 0⟩ = some (boolV false, hh0) := by kernel_rfl
theorem wordsOf_spec {v : AV} {h : AH} {n : Nat} {f : Nat → Nat → Int} (e : wordsOf v h = some (n, f)) : (∃ id own o, v = .one (.ow id) ∧ look id h.l = some ⟨own, 22, .row [.i .u32] n f o⟩) ∨ (v = .one (.v (.slice none 0 0)) ∧ n = 0 ∧ f = fun _ _ => 0) := by
  unfold wordsOf at e
  split at e
  · rename_i id
    split at e
    · rename_i own e' n' f' o' hl
      cases hb : Nat.beq e' 22 with
      | false => simp [hb] at e
      | true =>
        have := Nat.eq_of_beq_eq_true hb
        subst this
        simp only [hb, cond_true, Option.some.injEq, Prod.mk.injEq] at e
        obtain ⟨rfl, rfl⟩ := e
        exact .inl ⟨id, own, o', rfl, hl⟩
    · cases e
  · simp only [Option.some.injEq, Prod.mk.injEq] at e
    exact .inr ⟨rfl, e.1.symm, e.2.symm⟩
  · cases e
theorem q72_ok : ∀ args h v, q72 args h = some (true, v) → inlP EG0 Try.f72 100 args h = some (true, v) := by
  intro args h v hq
  unfold q72 at hq
  split at hq
  · rename_i x
    split at hq
    · rename_i n f hw
      simp only [Option.some.injEq, Prod.mk.injEq, true_and] at hq
      subst hq
      rcases wordsOf_spec hw with ⟨id, own, o, rfl, hl⟩ | ⟨rfl, rfl, rfl⟩
      · exact inlP_one hl rfl (t72' n f o)
      · exact inlP_plain rfl (fun _ => rfl) rfl nil72
    · cases hq
  · cases hq
noncomputable def EG1 : Env := EE7.sum 72 q72
theorem EG1_s : EG1.Sound := EE7_s.sumC ((inlP_CallQ EG0_s pfl EG0_lp has72).of q72_ok)
theorem has75 : hasFn Try.prog 75 Try.f75 := ⟨by kernel_rfl, by kernel_rfl, by kernel_rfl⟩
end Go.Proofs.Ytjpeplidbodjiaa
