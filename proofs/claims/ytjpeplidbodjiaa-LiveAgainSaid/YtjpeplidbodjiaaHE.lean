/- The same lists? -/
import Derived.Test.YtjpeplidbodjiaaHD
namespace Go.Proofs.Ytjpeplidbodjiaa
set_option maxRecDepth 100000
noncomputable def E0' : Env := (Env.empty Try.prog).allocs
theorem E0'_s : E0'.Sound := (Env.empty_sound _).allocs
def kpS : Exit → Option (List Nat)
  | .ret => some [4]
  | .exit _ => some []
  | _ => none
/-- Element k of n, of z cells. -/
def ixZ (z n : Nat) (k : Int) (x : Out) : Out := bif decide (0 ≤ k) && decide (k < (n : Int)) then bif decide (k.toNat < n) && decide (0 < z) then x else none else none
theorem ixZ_in {z n : Nat} {k : Int} {x : Out} (h0 : 0 ≤ k) (h1 : k < (n : Int)) (hz : 0 < z) : ixZ z n k x = x := by
  unfold ixZ
  rw [decide_eq_true h0, decide_eq_true h1, decide_eq_true (show k.toNat < n by omega), decide_eq_true hz]
  rfl
def asW (lb : LB) : Option (Nat × (Nat → Nat → Int)) := match lb with
  | ⟨false, e, .row sh n f _⟩ => bif Nat.beq e 22 && eqSh sh [.i .u32] then some (n, f) else none
  | _ => none
def asI (lb : LB) : Option (Nat × (Nat → Nat → Int)) := match lb with
  | ⟨false, e, .row sh n f _⟩ => bif Nat.beq e 3 && eqSh sh [.i .i64] then some (n, f) else none
  | _ => none
def asO (lb : LB) : Option (Nat × (Nat → Nat → Int)) := match lb with
  | ⟨false, e, .row sh n f _⟩ => bif Nat.beq e 31 && eqSh sh opSh then some (n, f) else none
  | _ => none
theorem asRow {lb : LB} {t : Nat} {s : List CK} {n : Nat} {f : Nat → Nat → Int} (h : (match lb with
  | ⟨false, e, .row sh n f _⟩ => bif Nat.beq e t && eqSh sh s then some (n, f) else none
  | _ => none) = some (n, f)) : ∃ o, lb = ⟨false, t, .row s n f o⟩ := by
  split at h
  · rename_i e sh n' f' o
    cases hb : (Nat.beq e t && eqSh sh s) with
    | false => simp [hb] at h
    | true =>
      simp only [hb, cond_true, Option.some.injEq, Prod.mk.injEq] at h
      rw [Bool.and_eq_true] at hb
      rw [Nat.eq_of_beq_eq_true hb.1, eqSh_eq' hb.2, h.1, h.2]
      exact ⟨_, rfl⟩
  · cases h
theorem asW_spec {lb : LB} {n : Nat} {f : Nat → Nat → Int} (h : asW lb = some (n, f)) : ∃ o, lb = ⟨false, 22, .row [.i .u32] n f o⟩ := asRow h
theorem asI_spec {lb : LB} {n : Nat} {f : Nat → Nat → Int} (h : asI lb = some (n, f)) : ∃ o, lb = ⟨false, 3, .row [.i .i64] n f o⟩ := asRow h
theorem asO_spec {lb : LB} {n : Nat} {f : Nat → Nat → Int} (h : asO lb = some (n, f)) : ∃ o, lb = ⟨false, 31, .row opSh n f o⟩ := asRow h
/-- A list's numbers. -/
def tabI (f : Nat → Nat → Int) (r i : Nat) : List Int := tabW (fun k => f k 0) r i
theorem tabI_len (f : Nat → Nat → Int) (r i : Nat) : (tabI f r i).length = r := tabW_len _ _ _
noncomputable def x60 : Code := loopF Try.f60
theorem loops60 : loopsC (bodyC Try.f60) = [x60] := by kernel_rfl
theorem key60 : keyC x60 = 4 := by kernel_rfl
noncomputable def ES60 : Env := E0'.marks (fun i => bif Nat.beq i 4 then some [0, 1, 5] else none) fun _ => none
theorem ES60_s : ES60.Sound := E0'_s.marks
def l60 (n : Nat) (g : Nat → Nat → Int) (o : Nat → Nat → ByteArray) (n' : Nat) (g' : Nat → Nat → Int) (o' : Nat → Nat → ByteArray) : List (Nat × LB) := [(0, ⟨false, 22, .row [.i .u32] n g o⟩), (1, ⟨false, 22, .row [.i .u32] n' g' o'⟩)]
def S60 (i : Int) (l : List (Nat × LB)) : AS := ⟨.one (.ow 0) :: .one (.ow 1) :: .one .any :: .one .any :: .one .any :: .one (.v (.int .i64 i)) :: anys 20, ⟨[], l, 2⟩⟩
def X60 (l : List (Nat × LB)) : AS := ⟨anys 26, ⟨[], l, 2⟩⟩
def R60 (l : List (Nat × LB)) : AS := ⟨.one .any :: .one .any :: .one .any :: .one .any :: .one (.v (.bool false)) :: anys 21, ⟨[], l, 2⟩⟩
section
variable (n : Nat) (g : Nat → Nat → Int) (o : Nat → Nat → ByteArray) (n' : Nat) (g' : Nat → Nat → Int) (o' : Nat → Nat → ByteArray) (K : Exit → AS → Out)
theorem gcS60 (i : Int) (H : AS → Out) : gc 2 (ES60.lv 4) (S60 i (l60 n g o n' g' o')) H = H (S60 i (l60 n g o n' g' o')) := by kernel_rfl
theorem rnd60 (i : Int) (H : AS → Out) (N : Nat) : ev ES60 2 (N + 30) x60 (S60 i (l60 n g o n' g' o')) (rkG 2 (ES60.lv 4) kpS H K) =
    bif decide (i < (n : Int)) then ixZ 1 n i (ixZ 1 n' i (bif g i.toNat 0 != g' i.toNat 0 then K .ret (R60 (l60 n g o n' g' o')) else H (S60 (IntKind.i64.wrap (i + 1)) (l60 n g o n' g' o')))) else K (.exit 0) (X60 (l60 n g o n' g' o')) := by kernel_rfl
def eqR60 (g g' : Nat → Nat → Int) : Nat → Nat → Bool
  | 0, _ => true
  | c + 1, i => (g i 0 == g' i 0) && eqR60 g g' c (i + 1)
theorem head60 (hn : n ≤ 100000) (hn' : n = n') : ∀ (c i N : Nat), i + c = n → HeadK ES60 2 kpS x60 (N + c + 30) K (S60 i (l60 n g o n' g' o')) = bif eqR60 g g' c i then K (.exit 0) (X60 (l60 n g o n' g' o')) else K .ret (R60 (l60 n g o n' g' o'))
  | 0, i, N, h => by
    rw [show N + 0 + 30 = (N + 29) + 1 by omega, HeadK_succ (by rw [key60]; rfl), key60]
    refine (rnd60 n g o n' g' o' K i _ N).trans ?_
    rw [decide_eq_false (show ¬ (i : Int) < (n : Int) by omega)]
    simp only [cond_false, eqR60, cond_true]
  | c + 1, i, N, h => by
    rw [show N + (c + 1) + 30 = (N + c + 30) + 1 by omega, HeadK_succ (by rw [key60]; rfl), key60]
    refine (rnd60 n g o n' g' o' K i _ (N + c + 1)).trans ?_
    have e4 : IntKind.i64.wrap ((i : Int) + 1) = ((i + 1 : Nat) : Int) := by rw [IntKind.wrap_i64]; omega
    have e6 : (i : Int).toNat = i := by omega
    have ih := head60 hn hn' c (i + 1) N (by omega)
    rw [ixZ_in (by omega) (by omega) (by decide), ixZ_in (by omega) (by omega) (by decide), e4, e6, decide_eq_true (show (i : Int) < (n : Int) by omega), eqR60]
    generalize HeadK ES60 2 kpS x60 (N + c + 30) K (S60 ((i + 1 : Nat) : Int) (l60 n g o n' g' o')) = H1 at ih ⊢
    rw [ih]
    generalize K .ret (R60 (l60 n g o n' g' o')) = y1
    generalize K (.exit 0) (X60 (l60 n g o n' g' o')) = y2
    have e7 : (g i 0 != g' i 0) = !(g i 0 == g' i 0) := rfl
    rw [e7]
    cases (g i 0 == g' i 0) <;> cases eqR60 g g' c (i + 1) <;> rfl
end
def d60 : AS := S60 0 (l60 0 (fun _ _ => 0) (fun _ _ => ByteArray.empty) 0 (fun _ _ => 0) (fun _ _ => ByteArray.empty))
def leaf60 (dt : Dt) (K : Exit → AS → Out) : Out := match dt with
  | ⟨[i], [], [], [n, n'], [g, g'], [o, o'], []⟩ => bif decide (i = 0) && Nat.ble n 100000 && Nat.beq n n' then (bif eqR60 g g' n 0 then K (.exit 0) (X60 (l60 n g o n' g' o')) else K .ret (R60 (l60 n g o n' g' o'))) else none
  | _ => none
theorem ref60 (i : Int) (n n' : Nat) (g g' : Nat → Nat → Int) (o o' : Nat → Nat → ByteArray) : refS d60 ⟨[i], [], [], [n, n'], [g, g'], [o, o'], []⟩ = S60 i (l60 n g o n' g' o') := by kernel_rfl
theorem lp60_ok : LoopS Try.prog x60 (lpG 2 d60 leaf60) := by
  refine LoopS.pat (E := ES60) ES60_s pfl (LpC.none fun _ => rfl) (by rw [key60]; rfl) kpS fun dt K out h => ?_
  unfold leaf60 at h
  split at h
  · rename_i i n n' g g' o o'
    cases hc : (decide (i = 0) && Nat.ble n 100000 && Nat.beq n n') with
    | false => simp [hc] at h
    | true =>
      simp only [hc, cond_true] at h
      simp only [Bool.and_eq_true, decide_eq_true_eq, Nat.ble_eq] at hc
      obtain ⟨⟨rfl, h1⟩, h2⟩ := hc
      refine ⟨0 + n + 30, ?_⟩
      rw [ref60, key60, gcS60]
      exact (head60 n g o n' g' o' K h1 (Nat.eq_of_beq_eq_true h2) n 0 0 (by omega)).trans h
  · cases h
noncomputable def ET60 : Env := (E0'.marks (fun i => bif Nat.beq i 4 then some [0, 1, 5] else none) fun _ => none).loops fun i => bif Nat.beq i 4 then some (lpG 2 d60 leaf60) else none
theorem ET60_s : ET60.Sound := E0'_s.marks.loops
theorem ET60_lp : LpF ET60 Try.f60 := LpF.of fun x hx f hf => by
  rw [loops60] at hx
  have hx : x = x60 := by simpa using hx
  subst hx
  have e : ET60.lp (keyC x60) = some (lpG 2 d60 leaf60) := by rw [key60]; rfl
  rw [e] at hf
  injection hf with hf
  subst hf
  exact lp60_ok
theorem has60 : hasFn Try.prog 60 Try.f60 := ⟨by kernel_rfl, by kernel_rfl, by kernel_rfl⟩
theorem t60 (n : Nat) (g : Nat → Nat → Int) (o : Nat → Nat → ByteArray) (n' : Nat) (g' : Nat → Nat → Int) (o' : Nat → Nat → ByteArray) : evV ET60 Try.f60 100 [.one (.ow 0), .one (.ow 1)] ⟨[], l60 n g o n' g' o', 2⟩ =
    bif (n : Int) != (n' : Int) then some (boolV false, hh0) else bif decide ((0 : Int) = 0) && Nat.ble n 100000 && Nat.beq n n' then (bif eqR60 g g' n 0 then some (boolV true, hh0) else some (boolV false, hh0)) else none := by kernel_rfl
/-- The same lists? -/
def same60 (a b : List Int) : Bool := match a, b with
  | [], [] => true
  | x :: r, y :: s => (x == y) && same60 r s
  | _, _ => false
theorem eqR60_eq (g g' : Nat → Nat → Int) : ∀ c i, eqR60 g g' c i = same60 (tabI g c i) (tabI g' c i)
  | 0, _ => rfl
  | c + 1, i => by
    rw [eqR60, eqR60_eq g g' c (i + 1)]
    rfl
theorem same60_len : ∀ {a b : List Int}, a.length ≠ b.length → same60 a b = false
  | [], [], h => absurd rfl h
  | x :: r, y :: s, h => by
    simp only [same60]
    rw [same60_len (fun e => h (by simp [e])), Bool.and_false]
  | [], _ :: _, _ => rfl
  | _ :: _, [], _ => rfl
theorem same60_refl : ∀ (a : List Int), same60 a a = true
  | [] => rfl
  | x :: r => by simp [same60, same60_refl r]
theorem same60_eq : ∀ {a b : List Int}, same60 a b = true → a = b
  | [], [], _ => rfl
  | x :: r, y :: s, h => by
    simp only [same60, Bool.and_eq_true] at h
    rw [same60_eq h.2]
    rw [eq_of_beq h.1]
  | [], _ :: _, h => by cases h
  | _ :: _, [], h => by cases h
theorem t60' (n : Nat) (g : Nat → Nat → Int) (o : Nat → Nat → ByteArray) (n' : Nat) (g' : Nat → Nat → Int) (o' : Nat → Nat → ByteArray) (hn : n ≤ 100000) : evV ET60 Try.f60 100 [.one (.ow 0), .one (.ow 1)] ⟨[], l60 n g o n' g' o', 2⟩ = some (boolV (same60 (tabI g n 0) (tabI g' n' 0)), hh0) := by
  rw [t60]
  by_cases h : n = n'
  · subst h
    have e : ((n : Int) != (n : Int)) = false := by simp
    have e1 : Nat.ble n 100000 = true := by rw [Nat.ble_eq]; exact hn
    rw [e, e1, Nat.beq_refl, eqR60_eq]
    cases same60 (tabI g n 0) (tabI g' n 0) <;> rfl
  · have e : ((n : Int) != (n' : Int)) = true := by
      rw [bne_iff_ne]
      omega
    rw [e, same60_len (by rw [tabI_len, tabI_len]; exact h)]
    rfl
def F60 (args : List AV) (l : List (Nat × LB)) : Option (Bool × AV) := match args, l with
  | [.one (.ow 0), .one (.ow 1)], [(0, la), (1, lb)] => (match asW la, asW lb with
    | some (n, g), some (n', g') => some (Nat.ble n 100000, boolV (same60 (tabI g n 0) (tabI g' n' 0)))
    | _, _ => none)
  | _, _ => none
theorem q60_ok : CallQ Try.prog 60 (handQ F60) := by
  refine CallQ.hand (E := ET60) ET60_s pfl ET60_lp has60 fun args l v h => ?_
  unfold F60 at h
  split at h
  · rename_i la lb
    split at h
    · rename_i n g n' g' ha hb
      obtain ⟨o, rfl⟩ := asW_spec ha
      obtain ⟨o', rfl⟩ := asW_spec hb
      simp only [Option.some.injEq, Prod.mk.injEq, Nat.ble_eq] at h
      obtain ⟨h1, rfl⟩ := h
      exact ⟨rfl, 100, hh0, t60' n g o n' g' o' h1⟩
    · cases h
  · cases h
noncomputable def x26 : Code := loopF Try.f26
theorem loops26 : loopsC (bodyC Try.f26) = [x26] := by kernel_rfl
theorem key26 : keyC x26 = 4 := by kernel_rfl
noncomputable def ES26 : Env := E0'.marks (fun i => bif Nat.beq i 4 then some [0, 1, 5] else none) fun _ => none
theorem ES26_s : ES26.Sound := E0'_s.marks
def l26 (n : Nat) (g : Nat → Nat → Int) (o : Nat → Nat → ByteArray) (n' : Nat) (g' : Nat → Nat → Int) (o' : Nat → Nat → ByteArray) : List (Nat × LB) := [(0, ⟨false, 3, .row [.i .i64] n g o⟩), (1, ⟨false, 3, .row [.i .i64] n' g' o'⟩)]
def S26 (i : Int) (l : List (Nat × LB)) : AS := ⟨.one (.ow 0) :: .one (.ow 1) :: .one .any :: .one .any :: .one .any :: .one (.v (.int .i64 i)) :: anys 20, ⟨[], l, 2⟩⟩
def X26 (l : List (Nat × LB)) : AS := ⟨anys 26, ⟨[], l, 2⟩⟩
def R26 (l : List (Nat × LB)) : AS := ⟨.one .any :: .one .any :: .one .any :: .one .any :: .one (.v (.bool false)) :: anys 21, ⟨[], l, 2⟩⟩
section
variable (n : Nat) (g : Nat → Nat → Int) (o : Nat → Nat → ByteArray) (n' : Nat) (g' : Nat → Nat → Int) (o' : Nat → Nat → ByteArray) (K : Exit → AS → Out)
theorem gcS26 (i : Int) (H : AS → Out) : gc 2 (ES26.lv 4) (S26 i (l26 n g o n' g' o')) H = H (S26 i (l26 n g o n' g' o')) := by kernel_rfl
theorem rnd26 (i : Int) (H : AS → Out) (N : Nat) : ev ES26 2 (N + 30) x26 (S26 i (l26 n g o n' g' o')) (rkG 2 (ES26.lv 4) kpS H K) =
    bif decide (i < (n : Int)) then ixZ 1 n i (ixZ 1 n' i (bif g i.toNat 0 != g' i.toNat 0 then K .ret (R26 (l26 n g o n' g' o')) else H (S26 (IntKind.i64.wrap (i + 1)) (l26 n g o n' g' o')))) else K (.exit 0) (X26 (l26 n g o n' g' o')) := by kernel_rfl
def eqR26 (g g' : Nat → Nat → Int) : Nat → Nat → Bool
  | 0, _ => true
  | c + 1, i => (g i 0 == g' i 0) && eqR26 g g' c (i + 1)
theorem head26 (hn : n ≤ 100000) (hn' : n = n') : ∀ (c i N : Nat), i + c = n → HeadK ES26 2 kpS x26 (N + c + 30) K (S26 i (l26 n g o n' g' o')) = bif eqR26 g g' c i then K (.exit 0) (X26 (l26 n g o n' g' o')) else K .ret (R26 (l26 n g o n' g' o'))
  | 0, i, N, h => by
    rw [show N + 0 + 30 = (N + 29) + 1 by omega, HeadK_succ (by rw [key26]; rfl), key26]
    refine (rnd26 n g o n' g' o' K i _ N).trans ?_
    rw [decide_eq_false (show ¬ (i : Int) < (n : Int) by omega)]
    simp only [cond_false, eqR26, cond_true]
  | c + 1, i, N, h => by
    rw [show N + (c + 1) + 30 = (N + c + 30) + 1 by omega, HeadK_succ (by rw [key26]; rfl), key26]
    refine (rnd26 n g o n' g' o' K i _ (N + c + 1)).trans ?_
    have e4 : IntKind.i64.wrap ((i : Int) + 1) = ((i + 1 : Nat) : Int) := by rw [IntKind.wrap_i64]; omega
    have e6 : (i : Int).toNat = i := by omega
    have ih := head26 hn hn' c (i + 1) N (by omega)
    rw [ixZ_in (by omega) (by omega) (by decide), ixZ_in (by omega) (by omega) (by decide), e4, e6, decide_eq_true (show (i : Int) < (n : Int) by omega), eqR26]
    generalize HeadK ES26 2 kpS x26 (N + c + 30) K (S26 ((i + 1 : Nat) : Int) (l26 n g o n' g' o')) = H1 at ih ⊢
    rw [ih]
    generalize K .ret (R26 (l26 n g o n' g' o')) = y1
    generalize K (.exit 0) (X26 (l26 n g o n' g' o')) = y2
    have e7 : (g i 0 != g' i 0) = !(g i 0 == g' i 0) := rfl
    rw [e7]
    cases (g i 0 == g' i 0) <;> cases eqR26 g g' c (i + 1) <;> rfl
end
def d26 : AS := S26 0 (l26 0 (fun _ _ => 0) (fun _ _ => ByteArray.empty) 0 (fun _ _ => 0) (fun _ _ => ByteArray.empty))
def leaf26 (dt : Dt) (K : Exit → AS → Out) : Out := match dt with
  | ⟨[i], [], [], [n, n'], [g, g'], [o, o'], []⟩ => bif decide (i = 0) && Nat.ble n 100000 && Nat.beq n n' then (bif eqR26 g g' n 0 then K (.exit 0) (X26 (l26 n g o n' g' o')) else K .ret (R26 (l26 n g o n' g' o'))) else none
  | _ => none
theorem ref26 (i : Int) (n n' : Nat) (g g' : Nat → Nat → Int) (o o' : Nat → Nat → ByteArray) : refS d26 ⟨[i], [], [], [n, n'], [g, g'], [o, o'], []⟩ = S26 i (l26 n g o n' g' o') := by kernel_rfl
theorem lp26_ok : LoopS Try.prog x26 (lpG 2 d26 leaf26) := by
  refine LoopS.pat (E := ES26) ES26_s pfl (LpC.none fun _ => rfl) (by rw [key26]; rfl) kpS fun dt K out h => ?_
  unfold leaf26 at h
  split at h
  · rename_i i n n' g g' o o'
    cases hc : (decide (i = 0) && Nat.ble n 100000 && Nat.beq n n') with
    | false => simp [hc] at h
    | true =>
      simp only [hc, cond_true] at h
      simp only [Bool.and_eq_true, decide_eq_true_eq, Nat.ble_eq] at hc
      obtain ⟨⟨rfl, h1⟩, h2⟩ := hc
      refine ⟨0 + n + 30, ?_⟩
      rw [ref26, key26, gcS26]
      exact (head26 n g o n' g' o' K h1 (Nat.eq_of_beq_eq_true h2) n 0 0 (by omega)).trans h
  · cases h
noncomputable def ET26 : Env := (E0'.marks (fun i => bif Nat.beq i 4 then some [0, 1, 5] else none) fun _ => none).loops fun i => bif Nat.beq i 4 then some (lpG 2 d26 leaf26) else none
theorem ET26_s : ET26.Sound := E0'_s.marks.loops
theorem ET26_lp : LpF ET26 Try.f26 := LpF.of fun x hx f hf => by
  rw [loops26] at hx
  have hx : x = x26 := by simpa using hx
  subst hx
  have e : ET26.lp (keyC x26) = some (lpG 2 d26 leaf26) := by rw [key26]; rfl
  rw [e] at hf
  injection hf with hf
  subst hf
  exact lp26_ok
theorem has26 : hasFn Try.prog 26 Try.f26 := ⟨by kernel_rfl, by kernel_rfl, by kernel_rfl⟩
theorem t26 (n : Nat) (g : Nat → Nat → Int) (o : Nat → Nat → ByteArray) (n' : Nat) (g' : Nat → Nat → Int) (o' : Nat → Nat → ByteArray) : evV ET26 Try.f26 100 [.one (.ow 0), .one (.ow 1)] ⟨[], l26 n g o n' g' o', 2⟩ =
    bif (n : Int) != (n' : Int) then some (boolV false, hh0) else bif decide ((0 : Int) = 0) && Nat.ble n 100000 && Nat.beq n n' then (bif eqR26 g g' n 0 then some (boolV true, hh0) else some (boolV false, hh0)) else none := by kernel_rfl
/-- The same lists? -/
def same26 (a b : List Int) : Bool := match a, b with
  | [], [] => true
  | x :: r, y :: s => (x == y) && same26 r s
  | _, _ => false
theorem eqR26_eq (g g' : Nat → Nat → Int) : ∀ c i, eqR26 g g' c i = same26 (tabI g c i) (tabI g' c i)
  | 0, _ => rfl
  | c + 1, i => by
    rw [eqR26, eqR26_eq g g' c (i + 1)]
    rfl
theorem same26_len : ∀ {a b : List Int}, a.length ≠ b.length → same26 a b = false
  | [], [], h => absurd rfl h
  | x :: r, y :: s, h => by
    simp only [same26]
    rw [same26_len (fun e => h (by simp [e])), Bool.and_false]
  | [], _ :: _, _ => rfl
  | _ :: _, [], _ => rfl
theorem same26_refl : ∀ (a : List Int), same26 a a = true
  | [] => rfl
  | x :: r => by simp [same26, same26_refl r]
theorem same26_eq : ∀ {a b : List Int}, same26 a b = true → a = b
  | [], [], _ => rfl
  | x :: r, y :: s, h => by
    simp only [same26, Bool.and_eq_true] at h
    rw [same26_eq h.2]
    rw [eq_of_beq h.1]
  | [], _ :: _, h => by cases h
  | _ :: _, [], h => by cases h
theorem t26' (n : Nat) (g : Nat → Nat → Int) (o : Nat → Nat → ByteArray) (n' : Nat) (g' : Nat → Nat → Int) (o' : Nat → Nat → ByteArray) (hn : n ≤ 100000) : evV ET26 Try.f26 100 [.one (.ow 0), .one (.ow 1)] ⟨[], l26 n g o n' g' o', 2⟩ = some (boolV (same26 (tabI g n 0) (tabI g' n' 0)), hh0) := by
  rw [t26]
  by_cases h : n = n'
  · subst h
    have e : ((n : Int) != (n : Int)) = false := by simp
    have e1 : Nat.ble n 100000 = true := by rw [Nat.ble_eq]; exact hn
    rw [e, e1, Nat.beq_refl, eqR26_eq]
    cases same26 (tabI g n 0) (tabI g' n 0) <;> rfl
  · have e : ((n : Int) != (n' : Int)) = true := by
      rw [bne_iff_ne]
      omega
    rw [e, same26_len (by rw [tabI_len, tabI_len]; exact h)]
    rfl
def F26 (args : List AV) (l : List (Nat × LB)) : Option (Bool × AV) := match args, l with
  | [.one (.ow 0), .one (.ow 1)], [(0, la), (1, lb)] => (match asI la, asI lb with
    | some (n, g), some (n', g') => some (Nat.ble n 100000, boolV (same26 (tabI g n 0) (tabI g' n' 0)))
    | _, _ => none)
  | _, _ => none
theorem q26_ok : CallQ Try.prog 26 (handQ F26) := by
  refine CallQ.hand (E := ET26) ET26_s pfl ET26_lp has26 fun args l v h => ?_
  unfold F26 at h
  split at h
  · rename_i la lb
    split at h
    · rename_i n g n' g' ha hb
      obtain ⟨o, rfl⟩ := asI_spec ha
      obtain ⟨o', rfl⟩ := asI_spec hb
      simp only [Option.some.injEq, Prod.mk.injEq, Nat.ble_eq] at h
      obtain ⟨h1, rfl⟩ := h
      exact ⟨rfl, 100, hh0, t26' n g o n' g' o' h1⟩
    · cases h
  · cases h
noncomputable def x23 : Code := loopF Try.f23
theorem loops23 : loopsC (bodyC Try.f23) = [x23] := by kernel_rfl
theorem key23 : keyC x23 = 4 := by kernel_rfl
noncomputable def ES23 : Env := E0'.marks (fun i => bif Nat.beq i 4 then some [0, 1, 5] else none) fun _ => none
theorem ES23_s : ES23.Sound := E0'_s.marks
def l23 (n : Nat) (g : Nat → Nat → Int) (o : Nat → Nat → ByteArray) (n' : Nat) (g' : Nat → Nat → Int) (o' : Nat → Nat → ByteArray) : List (Nat × LB) := [(0, ⟨false, 31, .row opSh n g o⟩), (1, ⟨false, 31, .row opSh n' g' o'⟩)]
def S23 (i : Int) (l : List (Nat × LB)) : AS := ⟨.one (.ow 0) :: .one (.ow 1) :: .one .any :: .one .any :: .one .any :: .one (.v (.int .i64 i)) :: anys 20, ⟨[], l, 2⟩⟩
def X23 (l : List (Nat × LB)) : AS := ⟨anys 26, ⟨[], l, 2⟩⟩
def R23 (l : List (Nat × LB)) : AS := ⟨.one .any :: .one .any :: .one .any :: .one .any :: .one (.v (.bool false)) :: anys 21, ⟨[], l, 2⟩⟩
section
variable (n : Nat) (g : Nat → Nat → Int) (o : Nat → Nat → ByteArray) (n' : Nat) (g' : Nat → Nat → Int) (o' : Nat → Nat → ByteArray) (K : Exit → AS → Out)
theorem gcS23 (i : Int) (H : AS → Out) : gc 2 (ES23.lv 4) (S23 i (l23 n g o n' g' o')) H = H (S23 i (l23 n g o n' g' o')) := by kernel_rfl
theorem rnd23 (i : Int) (H : AS → Out) (N : Nat) : ev ES23 2 (N + 30) x23 (S23 i (l23 n g o n' g' o')) (rkG 2 (ES23.lv 4) kpS H K) =
    bif decide (i < (n : Int)) then ixZ 6 n i (ixZ 6 n' i (bif !((g i.toNat 0 == g' i.toNat 0) && ((g i.toNat 1 == g' i.toNat 1) && ((g i.toNat 2 == g' i.toNat 2) && ((g i.toNat 3 == g' i.toNat 3) && ((g i.toNat 4 == g' i.toNat 4) && ((g i.toNat 5 == g' i.toNat 5) && true)))))) then K .ret (R23 (l23 n g o n' g' o')) else H (S23 (IntKind.i64.wrap (i + 1)) (l23 n g o n' g' o')))) else K (.exit 0) (X23 (l23 n g o n' g' o')) := by kernel_rfl
def eqR23 (g g' : Nat → Nat → Int) : Nat → Nat → Bool
  | 0, _ => true
  | c + 1, i => ((g i 0 == g' i 0) && ((g i 1 == g' i 1) && ((g i 2 == g' i 2) && ((g i 3 == g' i 3) && ((g i 4 == g' i 4) && ((g i 5 == g' i 5) && true)))))) && eqR23 g g' c (i + 1)
theorem head23 (hn : n ≤ 100000) (hn' : n = n') : ∀ (c i N : Nat), i + c = n → HeadK ES23 2 kpS x23 (N + c + 30) K (S23 i (l23 n g o n' g' o')) = bif eqR23 g g' c i then K (.exit 0) (X23 (l23 n g o n' g' o')) else K .ret (R23 (l23 n g o n' g' o'))
  | 0, i, N, h => by
    rw [show N + 0 + 30 = (N + 29) + 1 by omega, HeadK_succ (by rw [key23]; rfl), key23]
    refine (rnd23 n g o n' g' o' K i _ N).trans ?_
    rw [decide_eq_false (show ¬ (i : Int) < (n : Int) by omega)]
    simp only [cond_false, eqR23, cond_true]
  | c + 1, i, N, h => by
    rw [show N + (c + 1) + 30 = (N + c + 30) + 1 by omega, HeadK_succ (by rw [key23]; rfl), key23]
    refine (rnd23 n g o n' g' o' K i _ (N + c + 1)).trans ?_
    have e4 : IntKind.i64.wrap ((i : Int) + 1) = ((i + 1 : Nat) : Int) := by rw [IntKind.wrap_i64]; omega
    have e6 : (i : Int).toNat = i := by omega
    have ih := head23 hn hn' c (i + 1) N (by omega)
    rw [ixZ_in (by omega) (by omega) (by decide), ixZ_in (by omega) (by omega) (by decide), e4, e6, decide_eq_true (show (i : Int) < (n : Int) by omega), eqR23]
    generalize HeadK ES23 2 kpS x23 (N + c + 30) K (S23 ((i + 1 : Nat) : Int) (l23 n g o n' g' o')) = H1 at ih ⊢
    rw [ih]
    generalize K .ret (R23 (l23 n g o n' g' o')) = y1
    generalize K (.exit 0) (X23 (l23 n g o n' g' o')) = y2
    generalize ((g i 0 == g' i 0) && ((g i 1 == g' i 1) && ((g i 2 == g' i 2) && ((g i 3 == g' i 3) && ((g i 4 == g' i 4) && ((g i 5 == g' i 5) && true)))))) = b1
    cases b1 <;> cases eqR23 g g' c (i + 1) <;> rfl
end
def d23 : AS := S23 0 (l23 0 (fun _ _ => 0) (fun _ _ => ByteArray.empty) 0 (fun _ _ => 0) (fun _ _ => ByteArray.empty))
def leaf23 (dt : Dt) (K : Exit → AS → Out) : Out := match dt with
  | ⟨[i], [], [], [n, n'], [g, g'], [o, o'], []⟩ => bif decide (i = 0) && Nat.ble n 100000 && Nat.beq n n' then (bif eqR23 g g' n 0 then K (.exit 0) (X23 (l23 n g o n' g' o')) else K .ret (R23 (l23 n g o n' g' o'))) else none
  | _ => none
theorem ref23 (i : Int) (n n' : Nat) (g g' : Nat → Nat → Int) (o o' : Nat → Nat → ByteArray) : refS d23 ⟨[i], [], [], [n, n'], [g, g'], [o, o'], []⟩ = S23 i (l23 n g o n' g' o') := by kernel_rfl
theorem lp23_ok : LoopS Try.prog x23 (lpG 2 d23 leaf23) := by
  refine LoopS.pat (E := ES23) ES23_s pfl (LpC.none fun _ => rfl) (by rw [key23]; rfl) kpS fun dt K out h => ?_
  unfold leaf23 at h
  split at h
  · rename_i i n n' g g' o o'
    cases hc : (decide (i = 0) && Nat.ble n 100000 && Nat.beq n n') with
    | false => simp [hc] at h
    | true =>
      simp only [hc, cond_true] at h
      simp only [Bool.and_eq_true, decide_eq_true_eq, Nat.ble_eq] at hc
      obtain ⟨⟨rfl, h1⟩, h2⟩ := hc
      refine ⟨0 + n + 30, ?_⟩
      rw [ref23, key23, gcS23]
      exact (head23 n g o n' g' o' K h1 (Nat.eq_of_beq_eq_true h2) n 0 0 (by omega)).trans h
  · cases h
noncomputable def ET23 : Env := (E0'.marks (fun i => bif Nat.beq i 4 then some [0, 1, 5] else none) fun _ => none).loops fun i => bif Nat.beq i 4 then some (lpG 2 d23 leaf23) else none
theorem ET23_s : ET23.Sound := E0'_s.marks.loops
theorem ET23_lp : LpF ET23 Try.f23 := LpF.of fun x hx f hf => by
  rw [loops23] at hx
  have hx : x = x23 := by simpa using hx
  subst hx
  have e : ET23.lp (keyC x23) = some (lpG 2 d23 leaf23) := by rw [key23]; rfl
  rw [e] at hf
  injection hf with hf
  subst hf
  exact lp23_ok
theorem has23 : hasFn Try.prog 23 Try.f23 := ⟨by kernel_rfl, by kernel_rfl, by kernel_rfl⟩
theorem t23 (n : Nat) (g : Nat → Nat → Int) (o : Nat → Nat → ByteArray) (n' : Nat) (g' : Nat → Nat → Int) (o' : Nat → Nat → ByteArray) : evV ET23 Try.f23 100 [.one (.ow 0), .one (.ow 1)] ⟨[], l23 n g o n' g' o', 2⟩ =
    bif (n : Int) != (n' : Int) then some (boolV false, hh0) else bif decide ((0 : Int) = 0) && Nat.ble n 100000 && Nat.beq n n' then (bif eqR23 g g' n 0 then some (boolV true, hh0) else some (boolV false, hh0)) else none := by kernel_rfl
/-- The same lists? -/
def same23 (a b : List OpT) : Bool := match a, b with
  | [], [] => true
  | x :: r, y :: s => ((x.k == y.k) && ((x.D == y.D) && ((x.A == y.A) && ((x.B == y.B) && ((x.I == y.I) && ((x.t == y.t) && true)))))) && same23 r s
  | _, _ => false
theorem eqR23_eq (g g' : Nat → Nat → Int) : ∀ c i, eqR23 g g' c i = same23 (tabO g c i) (tabO g' c i)
  | 0, _ => rfl
  | c + 1, i => by
    rw [eqR23, eqR23_eq g g' c (i + 1)]
    rfl
theorem same23_len : ∀ {a b : List OpT}, a.length ≠ b.length → same23 a b = false
  | [], [], h => absurd rfl h
  | x :: r, y :: s, h => by
    simp only [same23]
    rw [same23_len (fun e => h (by simp [e])), Bool.and_false]
  | [], _ :: _, _ => rfl
  | _ :: _, [], _ => rfl
theorem same23_refl : ∀ (a : List OpT), same23 a a = true
  | [] => rfl
  | x :: r => by simp [same23, same23_refl r]
theorem same23_eq : ∀ {a b : List OpT}, same23 a b = true → a = b
  | [], [], _ => rfl
  | x :: r, y :: s, h => by
    simp only [same23, Bool.and_eq_true] at h
    rw [same23_eq h.2]
    obtain ⟨xk, xD, xA, xB, xI, xt⟩ := x
    obtain ⟨yk, yD, yA, yB, yI, yt⟩ := y
    simp only [Bool.and_eq_true, beq_iff_eq, and_true] at h
    obtain ⟨⟨rfl, rfl, rfl, rfl, rfl, rfl⟩, _⟩ := h
    rfl
  | [], _ :: _, h => by cases h
  | _ :: _, [], h => by cases h
theorem t23' (n : Nat) (g : Nat → Nat → Int) (o : Nat → Nat → ByteArray) (n' : Nat) (g' : Nat → Nat → Int) (o' : Nat → Nat → ByteArray) (hn : n ≤ 100000) : evV ET23 Try.f23 100 [.one (.ow 0), .one (.ow 1)] ⟨[], l23 n g o n' g' o', 2⟩ = some (boolV (same23 (tabO g n 0) (tabO g' n' 0)), hh0) := by
  rw [t23]
  by_cases h : n = n'
  · subst h
    have e : ((n : Int) != (n : Int)) = false := by simp
    have e1 : Nat.ble n 100000 = true := by rw [Nat.ble_eq]; exact hn
    rw [e, e1, Nat.beq_refl, eqR23_eq]
    cases same23 (tabO g n 0) (tabO g' n 0) <;> rfl
  · have e : ((n : Int) != (n' : Int)) = true := by
      rw [bne_iff_ne]
      omega
    rw [e, same23_len (by rw [tabO_len, tabO_len]; exact h)]
    rfl
def F23 (args : List AV) (l : List (Nat × LB)) : Option (Bool × AV) := match args, l with
  | [.one (.ow 0), .one (.ow 1)], [(0, la), (1, lb)] => (match asO la, asO lb with
    | some (n, g), some (n', g') => some (Nat.ble n 100000, boolV (same23 (tabO g n 0) (tabO g' n' 0)))
    | _, _ => none)
  | _, _ => none
theorem q23_ok : CallQ Try.prog 23 (handQ F23) := by
  refine CallQ.hand (E := ET23) ET23_s pfl ET23_lp has23 fun args l v h => ?_
  unfold F23 at h
  split at h
  · rename_i la lb
    split at h
    · rename_i n g n' g' ha hb
      obtain ⟨o, rfl⟩ := asO_spec ha
      obtain ⟨o', rfl⟩ := asO_spec hb
      simp only [Option.some.injEq, Prod.mk.injEq, Nat.ble_eq] at h
      obtain ⟨h1, rfl⟩ := h
      exact ⟨rfl, 100, hh0, t23' n g o n' g' o' h1⟩
    · cases h
  · cases h
end Go.Proofs.Ytjpeplidbodjiaa
