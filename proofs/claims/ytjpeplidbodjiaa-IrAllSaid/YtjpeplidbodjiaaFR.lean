/- ir.right. -/
import Derived.Test.YtjpeplidbodjiaaFH
namespace Go.Proofs.Ytjpeplidbodjiaa
set_option maxRecDepth 100000
noncomputable def ER87 : Env := EH5.marks (fun i => bif Nat.beq i 16 then some [2, 3, 7, 82, 83, 84] else none) fun _ => none
theorem ER87_s : ER87.Sound := EH5_s.marks
noncomputable def x87 : Code := loopF Try.f87
theorem key87 : keyC x87 = 16 := by kernel_rfl
theorem loops87 : loopsC (bodyC Try.f87) = [x87] := by kernel_rfl
def kp87 : Exit → Option (List Nat)
  | .ret => some [6]
  | .exit _ => some [2, 3, 7]
  | _ => none
def opC (k D A B I At : Int) : List AC := [.v (.int .i64 k), .v (.int .i64 D), .v (.int .i64 A), .v (.int .i64 B), .v (.int .u32 I), .v (.int .i64 At)]
def shC (x : Shp) : List AC := [.v (.bool x.a), .v (.bool x.b), .v (.bool x.d), .v (.bool x.w), .v (.bool x.i)]
def S87 (i nn : Int) (n : Nat) (g : Nat → Nat → Int) (o : Nat → Nat → ByteArray) (nF : Nat) (F : Nat → Nat → Bool) (k D A B I At : Int) (x : Shp) : AS :=
  ⟨.one .any :: .one .any :: .one (.pt 0 0) :: .one (.pt 1 0) :: .one .any :: .one .any :: .one .any :: .one (.pt 2 0) :: (anys 74 ++ (.one (.ow 3) :: .one (.v (.int .i64 nn)) :: .one (.v (.int .i64 i)) :: anys 21)),
    ⟨[(2, 147, .cells (shC x)), (1, 31, .cells (opC k D A B I At)), (0, 42, .bools 1 nF F)], [(3, ⟨true, 3, .row [.i .i64] n g o⟩)], 4⟩⟩
def X87 (nF : Nat) (F : Nat → Nat → Bool) (k D A B I At : Int) (x : Shp) : AS :=
  ⟨.one .any :: .one .any :: .one (.pt 0 0) :: .one (.pt 1 0) :: .one .any :: .one .any :: .one .any :: .one (.pt 2 0) :: anys 98,
    ⟨[(2, 147, .cells (shC x)), (1, 31, .cells (opC k D A B I At)), (0, 42, .bools 1 nF F)], [], 3⟩⟩
def R87 (nF : Nat) (F : Nat → Nat → Bool) : AS := ⟨.one .any :: .one .any :: .one .any :: .one .any :: .one .any :: .one .any :: .one (.v (.bool false)) :: anys 99, ⟨[(0, 42, .bools 1 nF F)], [], 1⟩⟩
theorem gcS87 (i nn : Int) (n : Nat) (g : Nat → Nat → Int) (o : Nat → Nat → ByteArray) (nF : Nat) (F : Nat → Nat → Bool) (k D A B I At : Int) (x : Shp) (G : AS → Out) : gc 1 (ER87.lv 16) (S87 i nn n g o nF F k D A B I At x) G = G (S87 i nn n g o nF F k D A B I At x) := by kernel_rfl
section
variable (n : Nat) (g : Nat → Nat → Int) (o : Nat → Nat → ByteArray) (F : Nat → Nat → Bool) (k D A B I At : Int) (x : Shp) (K : Exit → AS → Out)
theorem rnd87 (i : Int) (G : AS → Out) (N : Nat) : ev ER87 1 (N + 30) x87 (S87 i n n g o 64 F k D A B I At x) (rkG 1 (ER87.lv 16) kp87 G K) =
    bif decide (i < (n : Int)) then bif decide (0 ≤ i) && decide (i < (n : Int)) then bif decide (i.toNat < n) && decide (0 < 1) then
      (bif decide (g i.toNat 0 ≥ 34) then (bif decide (0 ≤ g i.toNat 0) && decide (g i.toNat 0 < ((64 : Nat) : Int)) then (bif decide ((g i.toNat 0).toNat < 64) && decide (0 < 1) then
        (bif !F (g i.toNat 0).toNat 0 then K .ret (R87 64 F) else G (S87 (IntKind.i64.wrap (i + 1)) n n g o 64 F k D A B I At x)) else none) else none)
      else G (S87 (IntKind.i64.wrap (i + 1)) n n g o 64 F k D A B I At x)) else none else none
    else K (.exit 1) (X87 64 F k D A B I At x) := by kernel_rfl
def listIn (g : Nat → Nat → Int) : Nat → Nat → Bool
  | 0, _ => true
  | r + 1, i => (bif decide (g i 0 ≥ 34) then decide (g i 0 < 64) else true) && listIn g r (i + 1)
/-- Is what is read written, if it is a place of its own? -/
def readOk (F : Nat → Nat → Bool) (p : Int) : Bool := bif decide (p ≥ 34) then F p.toNat 0 else true
def listOk (F : Nat → Nat → Bool) (g : Nat → Nat → Int) : Nat → Nat → Bool
  | 0, _ => true
  | r + 1, i => readOk F (g i 0) && listOk F g r (i + 1)
theorem head87 (hn : n ≤ 1000) : ∀ (r i N : Nat), i + r = n → listIn g r i = true → HeadK ER87 1 kp87 x87 (N + r + 30) K (S87 i n n g o 64 F k D A B I At x) = bif listOk F g r i then K (.exit 1) (X87 64 F k D A B I At x) else K .ret (R87 64 F)
  | 0, i, N, h, _ => by
    rw [show N + 0 + 30 = (N + 29) + 1 by omega, HeadK_succ (by rw [key87]; rfl), key87]
    refine (rnd87 n g o F k D A B I At x K i _ N).trans ?_
    rw [decide_eq_false (show ¬ (i : Int) < (n : Int) by omega)]
    rfl
  | r + 1, i, N, h, hin => by
    rw [show N + (r + 1) + 30 = (N + r + 30) + 1 by omega, HeadK_succ (by rw [key87]; rfl), key87]
    refine (rnd87 n g o F k D A B I At x K i _ (N + r + 1)).trans ?_
    have e4 : IntKind.i64.wrap ((i : Int) + 1) = ((i + 1 : Nat) : Int) := by rw [IntKind.wrap_i64]; omega
    have e6 : (i : Int).toNat = i := by omega
    rw [decide_eq_true (show (i : Int) < (n : Int) by omega), decide_eq_true (show 0 ≤ (i : Int) by omega), e4, e6, decide_eq_true (show i < n by omega)]
    simp only [listIn, Bool.and_eq_true] at hin
    have ih := head87 hn r (i + 1) N (by omega) hin.2
    have ih' : HeadK ER87 1 kp87 x87 (N + r + 30) K (S87 ((i + 1 : Nat) : Int) n n g o 64 F k D A B I At x) = _ := ih
    simp only [listOk, readOk, Bool.and_self, cond_true]
    by_cases hp : g i 0 ≥ 34
    · rw [decide_eq_true hp] at hin ⊢
      have h64 : g i 0 < 64 := of_decide_eq_true hin.1
      rw [decide_eq_true (show 0 ≤ g i 0 by omega), decide_eq_true (show g i 0 < ((64 : Nat) : Int) by omega), decide_eq_true (show (g i 0).toNat < 64 by omega)]
      simp only [cond_true, Bool.and_self]
      cases hF : F (g i 0).toNat 0 with
      | true =>
        simp only [Bool.not_true, cond_false, Bool.true_and]
        exact ih'
      | false => rfl
    · rw [decide_eq_false hp]
      simp only [cond_false, Bool.true_and]
      exact ih'
end
def d87 : AS := S87 0 0 0 (fun _ _ => 0) (fun _ _ => ByteArray.empty) 0 (fun _ _ => false) 0 0 0 0 0 0 ⟨false, false, false, false, false, false⟩
def lp87 (m : Nat) (st : AS) (K : Exit → AS → Out) : Out := bif Nat.beq m 1 && likeS st d87 then (match datS st with
  | ⟨[nn, i, k, D, A, B, I, At], [a, b, d, w, im], [F], [nF, n], [g], [_], []⟩ => bif decide (i = 0) && decide (nn = (n : Int)) && Nat.ble n 1000 && Nat.beq nF 64 && listIn g n 0 then
      (bif listOk F g n 0 then K (.exit 1) (X87 64 F k D A B I At ⟨a, b, d, w, im, true⟩) else K .ret (R87 64 F)) else none
  | _ => none) else none
theorem ref87 (nn i k D A B I At : Int) (a b d w im : Bool) (F : Nat → Nat → Bool) (nF n : Nat) (g : Nat → Nat → Int) (o : Nat → Nat → ByteArray) :
    refS d87 ⟨[nn, i, k, D, A, B, I, At], [a, b, d, w, im], [F], [nF, n], [g], [o], []⟩ = S87 i nn n g o nF F k D A B I At ⟨a, b, d, w, im, true⟩ := by kernel_rfl
theorem lp87_ok : LoopS Try.prog x87 lp87 := by
  refine LoopS.head (E := ER87) (kp := kp87) ER87_s pfl (LpC.none fun _ => rfl) (by rw [key87]; rfl) fun m st K out h => ?_
  unfold lp87 at h
  cases hl : (Nat.beq m 1 && likeS st d87) with
  | false => simp [hl] at h
  | true =>
    simp only [hl, cond_true] at h
    rw [Bool.and_eq_true] at hl
    have hm := Nat.eq_of_beq_eq_true hl.1
    have hst := likeS_ref hl.2
    split at h
    · rename_i nn i k D A B I At a b d w im F nF n g o hd
      cases hc : (decide (i = 0) && decide (nn = (n : Int)) && Nat.ble n 1000 && Nat.beq nF 64 && listIn g n 0) with
      | false => simp [hc] at h
      | true =>
        simp only [hc, cond_true] at h
        simp only [Bool.and_eq_true, decide_eq_true_eq, Nat.ble_eq] at hc
        obtain ⟨⟨⟨⟨rfl, rfl⟩, hn⟩, hF⟩, hin⟩ := hc
        have hF := Nat.eq_of_beq_eq_true hF
        subst hF
        rw [hd, ref87] at hst
        subst hst hm
        refine ⟨n + 30, ?_⟩
        rw [key87, gcS87]
        have := head87 n g o F k D A B I At ⟨a, b, d, w, im, true⟩ K hn n 0 0 (by omega) hin
        rw [Nat.zero_add] at this
        exact this.trans h
    · cases h
noncomputable def ER0 : Env := (EH5.marks (fun i => bif Nat.beq i 16 then some [2, 3, 7, 82, 83, 84] else none) fun _ => none).loops fun i => bif Nat.beq i 16 then some lp87 else none
theorem ER0_s : ER0.Sound := EH5_s.marks.loops
theorem ER0_lp : LpF ER0 Try.f87 := LpF.of fun x hx f hf => by
  rw [loops87] at hx
  have hx : x = x87 := by simpa using hx
  subst hx
  have e : ER0.lp (keyC x87) = some lp87 := by rw [key87]; rfl
  rw [e] at hf
  injection hf with hf
  subst hf
  exact lp87_ok
theorem has87 : hasFn Try.prog 87 Try.f87 := ⟨by kernel_rfl, by kernel_rfl, by kernel_rfl⟩
end Go.Proofs.Ytjpeplidbodjiaa
