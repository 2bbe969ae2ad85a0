/- live: is a write behind an operation; does it show what the end asks. -/
import Derived.Test.YtjpeplidbodjiaaFU
namespace Go.Proofs.Ytjpeplidbodjiaa
set_option maxRecDepth 100000
theorem t75 (n : Nat) (f : Nat → Nat → Int) (o : Nat → Nat → ByteArray) : evV EG1 Try.f75 100 [.one (.ow 0)] ⟨[], lW n f o, 1⟩ =
    bif (bif rightW n (fun k => f k 0) then decide ((n : Int) > 1) else false) then
      bif decide (0 ≤ IntKind.i64.wrap ((n : Int) - 2)) && decide (IntKind.i64.wrap ((n : Int) - 2) < (n : Int)) then bif decide ((IntKind.i64.wrap ((n : Int) - 2)).toNat < n) && decide (0 < 1) then
        some (boolV (bif true then jumpsW (f (IntKind.i64.wrap ((n : Int) - 2)).toNat 0) else false), hh0) else none else none
    else some (boolV false, hh0) := by kernel_rfl
/-- Do words have one that jumps? -/
def jumpsL (l : List Int) : Bool := rightL l && (decide ((l.length : Int) > 1) && jumpsW (l.getD (l.length - 2) 0))
theorem tabW_get (f : Nat → Int) : ∀ r i j, j < r → (tabW f r i).getD j 0 = f (i + j)
  | 0, _, _, h => by omega
  | r + 1, i, 0, _ => rfl
  | r + 1, i, j + 1, h => by
    simp only [tabW, List.getD_cons_succ]
    rw [tabW_get f r (i + 1) j (by omega)]
    congr 1
    omega
theorem rightW_le {n : Nat} {f : Nat → Int} (h : rightW n f = true) : n ≤ 16 := by
  unfold rightW at h
  by_cases h1 : (n : Int) < 1
  · omega
  · rw [decide_eq_false h1, cond_false] at h
    by_cases h2 : (n : Int) > 16
    · rw [decide_eq_true h2] at h
      cases h
    · omega
theorem t75' (n : Nat) (f : Nat → Nat → Int) (o : Nat → Nat → ByteArray) : evV EG1 Try.f75 100 [.one (.ow 0)] ⟨[], lW n f o, 1⟩ = some (boolV (jumpsL (tabW (fun k => f k 0) n 0)), hh0) := by
  rw [t75]
  unfold jumpsL
  rw [← rightW_eq, tabW_len]
  cases hr : rightW n fun k => f k 0 with
  | false => rfl
  | true =>
    have hn := rightW_le hr
    simp only [cond_true, Bool.true_and]
    by_cases h1 : (n : Int) > 1
    · have e : IntKind.i64.wrap ((n : Int) - 2) = ((n - 2 : Nat) : Int) := by rw [IntKind.wrap_i64]; omega
      rw [decide_eq_true h1, e, decide_eq_true (show 0 ≤ ((n - 2 : Nat) : Int) by omega), decide_eq_true (show ((n - 2 : Nat) : Int) < (n : Int) by omega), show (((n - 2 : Nat) : Int)).toNat = n - 2 by omega, decide_eq_true (show n - 2 < n by omega)]
      rw [tabW_get (fun k => f k 0) n 0 (n - 2) (by omega), Nat.zero_add]
      rfl
    · rw [decide_eq_false h1]
      rfl
theorem nil75 : evV EG1 Try.f75 100 [.one (.v (.slice none 0 0))] ⟨[], [], 0⟩ = some (boolV false, hh0) := by kernel_rfl
def q75 (args : List AV) (h : AH) : Option (Bool × AV) := match args with
  | [v] => (match wordsOf v h with
    | some (n, f) => some (true, boolV (jumpsL (tabW (fun k => f k 0) n 0)))
    | none => none)
  | _ => none
theorem q75_ok : ∀ args h v, q75 args h = some (true, v) → inlP EG1 Try.f75 100 args h = some (true, v) := by
  intro args h v hq
  unfold q75 at hq
  split at hq
  · rename_i x
    split at hq
    · rename_i n f hw
      simp only [Option.some.injEq, Prod.mk.injEq, true_and] at hq
      subst hq
      rcases wordsOf_spec hw with ⟨id, own, o, rfl, hl⟩ | ⟨rfl, rfl, rfl⟩
      · exact inlP_one hl rfl (t75' n f o)
      · exact inlP_plain rfl (fun _ => rfl) rfl nil75
    · cases hq
  · cases hq
noncomputable def EY0 : Env := EU0.sum 75 q75
theorem EY0_s : EY0.Sound := EU0_s.sumC ((inlP_CallQ EG1_s pfl (LpF.none fun _ => rfl) has75).of q75_ok)
theorem has125 : hasFn Try.prog 125 Try.f125 := ⟨by kernel_rfl, by kernel_rfl, by kernel_rfl⟩
theorem has126 : hasFn Try.prog 126 Try.f126 := ⟨by kernel_rfl, by kernel_rfl, by kernel_rfl⟩
noncomputable def x125 : Code := loopF Try.f125
theorem loops125 : loopsC (bodyC Try.f125) = [x125] := by kernel_rfl
def lO (n : Nat) (g : Nat → Nat → Int) (o : Nat → Nat → ByteArray) : List (Nat × LB) := [(0, ⟨false, 31, .row opSh n g o⟩)]
theorem key125 : keyC x125 = 4 := by kernel_rfl
noncomputable def EY125 : Env := EY0.marks (fun i => bif Nat.beq i 4 then some [0, 1, 5] else none) fun _ => none
theorem EY125_s : EY125.Sound := EY0_s.marks
def kp125 : Exit → Option (List Nat)
  | .ret => some [4]
  | .exit _ => some []
  | _ => none
/-- An element's cell j of n. -/
def ix (n : Nat) (k : Int) (j : Nat) (x : Out) : Out := bif decide (0 ≤ k) && decide (k < (n : Int)) then bif decide (k.toNat < n) && decide (j < 6) then x else none else none
theorem ix_in {n : Nat} {k : Int} {j : Nat} {x : Out} (h0 : 0 ≤ k) (h1 : k < (n : Int)) (hj : j < 6) : ix n k j x = x := by
  unfold ix
  rw [decide_eq_true h0, decide_eq_true h1, decide_eq_true (show k.toNat < n by omega), decide_eq_true hj]
  rfl
def S125 (i k : Int) (n : Nat) (g : Nat → Nat → Int) (o : Nat → Nat → ByteArray) : AS := ⟨.one (.ow 0) :: .one (.v (.int .i64 i)) :: .one .any :: .one .any :: .one .any :: .one (.v (.int .i64 k)) :: anys 50, ⟨[], lO n g o, 1⟩⟩
def X125 (n : Nat) (g : Nat → Nat → Int) (o : Nat → Nat → ByteArray) : AS := ⟨anys 56, ⟨[], lO n g o, 1⟩⟩
def R125 (n : Nat) (g : Nat → Nat → Int) (o : Nat → Nat → ByteArray) : AS := ⟨.one .any :: .one .any :: .one .any :: .one .any :: .one (.v (.bool true)) :: anys 51, ⟨[], lO n g o, 1⟩⟩
section
variable (n : Nat) (g : Nat → Nat → Int) (o : Nat → Nat → ByteArray) (K : Exit → AS → Out)
theorem gcS125 (i k : Int) (G : AS → Out) : gc 1 (EY125.lv 4) (S125 i k n g o) G = G (S125 i k n g o) := by kernel_rfl
theorem rnd125 (i k : Int) (G : AS → Out) (N : Nat) : ev EY125 1 (N + 30) x125 (S125 i k n g o) (rkG 1 (EY125.lv 4) kp125 G K) =
    bif decide (k ≥ 0) then ix n k 5 (ix n (IntKind.i64.wrap (i - 1)) 5 (bif g k.toNat 5 == g (IntKind.i64.wrap (i - 1)).toNat 5 then
      ix n k 0 (bif decide (g k.toNat 0 ≥ 50) then ix n k 0 (bif decide (g k.toNat 0 ≤ 54) then K .ret (R125 n g o) else G (S125 i (IntKind.i64.wrap (k - 1)) n g o)) else G (S125 i (IntKind.i64.wrap (k - 1)) n g o))
      else K (.exit 0) (X125 n g o))) else K (.exit 0) (X125 n g o) := by kernel_rfl
/-- Is there a write among the operations before number c, as long as they are at a? -/
def scanG (g : Nat → Nat → Int) (a : Int) : Nat → Bool
  | 0 => false
  | c + 1 => bif g c 5 == a then (bif decide (g c 0 ≥ 50) then (bif decide (g c 0 ≤ 54) then true else scanG g a c) else scanG g a c) else false
theorem head125 (i : Nat) (hi : 1 ≤ i) (hin : i ≤ n) (hn : n ≤ 100000) : ∀ (c N : Nat), c ≤ n → HeadK EY125 1 kp125 x125 (N + c + 30) K (S125 i ((c : Int) - 1) n g o) = bif scanG g (g (i - 1) 5) c then K .ret (R125 n g o) else K (.exit 0) (X125 n g o)
  | 0, N, _ => by
    rw [show N + 0 + 30 = (N + 29) + 1 by omega, HeadK_succ (by rw [key125]; rfl), key125]
    refine (rnd125 n g o K i _ _ N).trans ?_
    rw [decide_eq_false (show ¬ ((0 : Nat) : Int) - 1 ≥ 0 by omega)]
    simp only [cond_false, scanG]
  | c + 1, N, hc => by
    rw [show N + (c + 1) + 30 = (N + c + 30) + 1 by omega, HeadK_succ (by rw [key125]; rfl), key125]
    refine (rnd125 n g o K i _ _ (N + c + 1)).trans ?_
    have e1 : ((c + 1 : Nat) : Int) - 1 = (c : Int) := by omega
    have e2 : IntKind.i64.wrap ((i : Int) - 1) = ((i - 1 : Nat) : Int) := by rw [IntKind.wrap_i64]; omega
    have e3 : IntKind.i64.wrap ((c : Int) - 1) = (c : Int) - 1 := by rw [IntKind.wrap_i64]; omega
    have h0 : decide ((c : Int) ≥ 0) = true := decide_eq_true (by omega)
    have h1 : ∀ (j : Nat) (x : Out), j < 6 → ix n (c : Int) j x = x := fun j x hj => ix_in (by omega) (by omega) hj
    have h2 : ∀ (j : Nat) (x : Out), j < 6 → ix n ((i - 1 : Nat) : Int) j x = x := fun j x hj => ix_in (by omega) (by omega) hj
    have h3 : ((c : Nat) : Int).toNat = c := by omega
    have h4 : (((i - 1 : Nat)) : Int).toNat = i - 1 := by omega
    rw [e1, e2, e3, h0, h1 5 _ (by decide), h2 5 _ (by decide), h1 0 _ (by decide), h1 0 _ (by decide), h3, h4]
    have ih := head125 i hi hin hn c N (by omega)
    rw [scanG]
    generalize HeadK EY125 1 kp125 x125 (N + c + 30) K (S125 i ((c : Int) - 1) n g o) = H at ih ⊢
    rw [ih]
    generalize K .ret (R125 n g o) = y1
    generalize K (.exit 0) (X125 n g o) = y2
    generalize (g c 5 == g (i - 1) 5) = b1
    generalize decide (g c 0 ≥ 50) = b2
    generalize decide (g c 0 ≤ 54) = b3
    cases b1 <;> cases b2 <;> cases b3 <;> rfl
end
def d125 : AS := S125 0 0 0 (fun _ _ => 0) fun _ _ => ByteArray.empty
def lp125 (m : Nat) (st : AS) (K : Exit → AS → Out) : Out := bif Nat.beq m 1 && likeS st d125 then (match datS st with
  | ⟨[i, k], [], [], [n], [g], [o], []⟩ => bif decide (1 ≤ i) && decide (i ≤ (n : Int)) && Nat.ble n 100000 && decide (k = i - 1) then
      (bif scanG g (g (i.toNat - 1) 5) i.toNat then K .ret (R125 n g o) else K (.exit 0) (X125 n g o)) else none
  | _ => none) else none
theorem ref125 (i k : Int) (n : Nat) (g : Nat → Nat → Int) (o : Nat → Nat → ByteArray) : refS d125 ⟨[i, k], [], [], [n], [g], [o], []⟩ = S125 i k n g o := by kernel_rfl
theorem lp125_ok : LoopS Try.prog x125 lp125 := by
  refine LoopS.head (E := EY125) (kp := kp125) EY125_s pfl (LpC.none fun _ => rfl) (by rw [key125]; rfl) fun m st K out h => ?_
  unfold lp125 at h
  cases hl : (Nat.beq m 1 && likeS st d125) with
  | false => simp [hl] at h
  | true =>
    simp only [hl, cond_true] at h
    rw [Bool.and_eq_true] at hl
    have hm := Nat.eq_of_beq_eq_true hl.1
    have hst := likeS_ref hl.2
    split at h
    · rename_i i k n g o hd
      cases hc : (decide (1 ≤ i) && decide (i ≤ (n : Int)) && Nat.ble n 100000 && decide (k = i - 1)) with
      | false => simp [hc] at h
      | true =>
        simp only [hc, cond_true] at h
        simp only [Bool.and_eq_true, decide_eq_true_eq, Nat.ble_eq] at hc
        obtain ⟨⟨⟨h1, h2⟩, hn⟩, rfl⟩ := hc
        rw [hd, ref125] at hst
        subst hst hm
        refine ⟨i.toNat + 30, ?_⟩
        rw [key125, gcS125]
        have hi : i = (i.toNat : Int) := by omega
        have := head125 n g o K i.toNat (by omega) (by omega) hn i.toNat 0 (by omega)
        rw [Nat.zero_add, ← hi] at this
        exact this.trans h
    · cases h
noncomputable def EY1 : Env := (EY0.marks (fun i => bif Nat.beq i 4 then some [0, 1, 5] else none) fun _ => none).loops fun i => bif Nat.beq i 4 then some lp125 else none
theorem EY1_s : EY1.Sound := EY0_s.marks.loops
theorem EY1_lp : LpF EY1 Try.f125 := LpF.of fun x hx f hf => by
  rw [loops125] at hx
  have hx : x = x125 := by simpa using hx
  subst hx
  have e : EY1.lp (keyC x125) = some lp125 := by rw [key125]; rfl
  rw [e] at hf
  injection hf with hf
  subst hf
  exact lp125_ok
theorem t125 (i : Int) (n : Nat) (g : Nat → Nat → Int) (o : Nat → Nat → ByteArray) : evV EY1 Try.f125 100 [.one (.ow 0), intV i] ⟨[], lO n g o, 1⟩ =
    bif i == 0 then some (boolV false, hh0) else ix n i 5 (ix n (IntKind.i64.wrap (i - 1)) 5 (bif (bif false then true else g i.toNat 5 == g (IntKind.i64.wrap (i - 1)).toNat 5) then some (boolV false, hh0) else
      bif decide (1 ≤ i) && decide (i ≤ (n : Int)) && Nat.ble n 100000 && decide (IntKind.i64.wrap (i - 1) = i - 1) then (bif scanG g (g (i.toNat - 1) 5) i.toNat then some (boolV true, hh0) else some (boolV false, hh0)) else none)) := by kernel_rfl
/-- Is an operation the first one with another At behind a write? -/
def behindG (g : Nat → Nat → Int) (i : Nat) : Bool := bif Nat.beq i 0 then false else bif g i 5 == g (i - 1) 5 then false else scanG g (g (i - 1) 5) i
theorem t125' (i : Nat) (n : Nat) (g : Nat → Nat → Int) (o : Nat → Nat → ByteArray) (h : i < n) (hn : n ≤ 100000) : evV EY1 Try.f125 100 [.one (.ow 0), intV i] ⟨[], lO n g o, 1⟩ = some (boolV (behindG g i), hh0) := by
  rw [t125]
  unfold behindG
  by_cases h0 : i = 0
  · subst h0
    rfl
  · have e0 : ((i : Int) == 0) = false := by simpa using h0
    have e1 : Nat.beq i 0 = false := by
      cases e : Nat.beq i 0 with
      | false => rfl
      | true => exact absurd (Nat.eq_of_beq_eq_true e) h0
    have e2 : IntKind.i64.wrap ((i : Int) - 1) = ((i - 1 : Nat) : Int) := by rw [IntKind.wrap_i64]; omega
    have e3 : ∀ (j : Nat) (x : Out), j < 6 → ix n (i : Int) j x = x := fun j x hj => ix_in (by omega) (by omega) hj
    have e4 : ∀ (j : Nat) (x : Out), j < 6 → ix n ((i - 1 : Nat) : Int) j x = x := fun j x hj => ix_in (by omega) (by omega) hj
    have e5 : ((i : Nat) : Int).toNat = i := by omega
    have e6 : (((i - 1 : Nat)) : Int).toNat = i - 1 := by omega
    have e7 : ((i - 1 : Nat) : Int) = (i : Int) - 1 := by omega
    have e8 : Nat.ble n 100000 = true := by rw [Nat.ble_eq]; exact hn
    rw [e0, e1, e2, e3 5 _ (by decide), e4 5 _ (by decide), e5, e6, e8, decide_eq_true (show 1 ≤ (i : Int) by omega), decide_eq_true (show (i : Int) ≤ (n : Int) by omega), decide_eq_true e7]
    cases (g i 5 == g (i - 1) 5) <;> cases scanG g (g (i - 1) 5) i <;> rfl
theorem inlP_oneV {E : Env} {fn : Func} {fuel : Nat} {id : Nat} {h h' : AH} {lb : LB} {v : AV} {x : Value} (hl : look id h.l = some lb) (hs : sure v = true)
    (he : evV E fn fuel [.one (.ow 0), .one (.v x)] ⟨[], [(0, ⟨false, lb.e, lb.bb⟩)], 1⟩ = some (v, h')) : inlP E fn fuel [.one (.ow id), .one (.v x)] h = some (true, v) := by
  have e0 : Nat.blt id 0 = false := blt_false (by omega)
  have e1 : idF 0 (upto [AV.one (.ow id), .one (.v x)].length) [] 0 [.one (.ow id), .one (.v x)] = [id] := by
    simp [idF, upto, memN, idC, addN, e0]
  unfold inlP inlPO
  rw [e1]
  have e2 : ∀ k : List AV → Out, renF 0 (upto [AV.one (.ow id), .one (.v x)].length) [id] 0 [.one (.ow id), .one (.v x)] k = k [.one (.ow 0), .one (.v x)] := by
    intro k
    simp only [renF, upto, List.length_cons, List.length_nil, memN, renC, ren1, posN, e0, forceV_eq]
    simp
  rw [e2]
  simp only [pickL, hl, List.length_cons, List.length_nil]
  rw [he]
  simp [hs]
def q125 (args : List AV) (h : AH) : Option (Bool × AV) := match args with
  | [v, .one (.v (.int .i64 (.ofNat i)))] => (match opsOf v h with
    | some (n, g) => some (Nat.blt i n && Nat.ble n 100000, boolV (behindG g i))
    | none => none)
  | _ => none
theorem q125_ok : ∀ args h v, q125 args h = some (true, v) → inlP EY1 Try.f125 100 args h = some (true, v) := by
  intro args h v hq
  unfold q125 at hq
  split at hq
  · rename_i x i
    split at hq
    · rename_i n g hw
      simp only [Option.some.injEq, Prod.mk.injEq, Bool.and_eq_true, Nat.blt_eq, Nat.ble_eq] at hq
      obtain ⟨⟨h1, h2⟩, rfl⟩ := hq
      rcases opsOf_spec hw with ⟨id, own, o, rfl, hl⟩ | ⟨rfl, rfl, rfl⟩
      · exact inlP_oneV hl rfl (t125' i n g o h1 h2)
      · omega
    · cases hq
  · cases hq
noncomputable def EY2 : Env := EY0.sum 125 q125
theorem EY2_s : EY2.Sound := EY0_s.sumC ((inlP_CallQ EY1_s pfl EY1_lp has125).of q125_ok)
end Go.Proofs.Ytjpeplidbodjiaa
