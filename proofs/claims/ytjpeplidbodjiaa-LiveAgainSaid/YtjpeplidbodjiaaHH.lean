/- Copies of lists and blocks. -/
import Derived.Test.YtjpeplidbodjiaaHG
namespace Go.Proofs.Ytjpeplidbodjiaa
set_option maxRecDepth 100000
def cpy (n : Nat) (f : Nat → Nat → Int) : Nat → Nat → Int := fun k j => bif Nat.blt k 0 then 0 else f (k - 0) j
def cpyO (o : Nat → Nat → ByteArray) : Nat → Nat → ByteArray := fun k j => bif Nat.blt k 0 then ByteArray.empty else o (k - 0) j
theorem t34 (n : Nat) (f : Nat → Nat → Int) (o : Nat → Nat → ByteArray) : evC E0' Try.f34 60 [.one (.ow 0)] ⟨[], [(0, ⟨false, 22, .row [.i .u32] n f o⟩)], 1⟩ (canG 1) =
    bif Nat.ble n 1048576 then canO false [.one (.ow 1)] [encL (1, ⟨true, 22, .row [.i .u32] (0 + n) (cpy n f) (cpyO o)⟩)] 2 else none := by kernel_rfl
theorem t63 (n : Nat) (f : Nat → Nat → Int) (o : Nat → Nat → ByteArray) : evC E0' Try.f63 60 [.one (.ow 0)] ⟨[], [(0, ⟨false, 31, .row opSh n f o⟩)], 1⟩ (canG 1) =
    bif Nat.ble n 1048576 then canO false [.one (.ow 1)] [encL (1, ⟨true, 31, .row opSh (0 + n) (cpy n f) (cpyO o)⟩)] 2 else none := by kernel_rfl
def noO : Nat → Nat → ByteArray := fun _ _ => ByteArray.empty
theorem enc_w (i n : Nat) (f : Nat → Nat → Int) (o : Nat → Nat → ByteArray) : encL (i, ⟨true, 22, .row [.i .u32] (0 + n) (cpy n f) (cpyO o)⟩) = encL (i, ⟨true, 22, .row [.i .u32] n f noO⟩) := by
  rw [Nat.zero_add]
  rfl
theorem enc_o (i n : Nat) (f : Nat → Nat → Int) (o : Nat → Nat → ByteArray) : encL (i, ⟨true, 31, .row opSh (0 + n) (cpy n f) (cpyO o)⟩) = encL (i, ⟨true, 31, .row opSh n f noO⟩) := by
  rw [Nat.zero_add]
  rfl
def F34 (_ : Nat) (args : List AV) (l : List (Nat × LB)) : Option Give := match args, l with
  | [.one (.ow 0)], [(0, la)] => (match asW la with
    | some (n, f) => some ⟨Nat.ble n 1048576, false, [.one (.ow 1)], [(1, ⟨true, 22, .row [.i .u32] n f noO⟩)], 2⟩
    | none => none)
  | _, _ => none
def F63 (_ : Nat) (args : List AV) (l : List (Nat × LB)) : Option Give := match args, l with
  | [.one (.ow 0)], [(0, la)] => (match asO la with
    | some (n, f) => some ⟨Nat.ble n 1048576, false, [.one (.ow 1)], [(1, ⟨true, 31, .row opSh n f noO⟩)], 2⟩
    | none => none)
  | _, _ => none
theorem c34_ok : CallS Try.prog 34 (handC' F34) := by
  refine CallS.hand (E := E0') E0'_s pfl (LpF.none fun _ => rfl) has34 fun nx args l r h hok => ?_
  unfold F34 at h
  split at h
  · rename_i la
    split at h
    · rename_i n f ha
      obtain ⟨o, rfl⟩ := asW_spec ha
      simp only [Option.some.injEq] at h
      subst h
      refine ⟨60, (t34 n f o).trans ?_⟩
      simp only at hok
      rw [hok, enc_w]
      rfl
    · cases h
  · cases h
theorem c63_ok : CallS Try.prog 63 (handC' F63) := by
  refine CallS.hand (E := E0') E0'_s pfl (LpF.none fun _ => rfl) has63 fun nx args l r h hok => ?_
  unfold F63 at h
  split at h
  · rename_i la
    split at h
    · rename_i n f ha
      obtain ⟨o, rfl⟩ := asO_spec ha
      simp only [Option.some.injEq] at h
      subst h
      refine ⟨60, (t63 n f o).trans ?_⟩
      simp only at hok
      rw [hok, enc_o]
      rfl
    · cases h
  · cases h
noncomputable def VH1 : Env := E0'.gives 34 F34
theorem VH1_s : VH1.Sound := E0'_s.gives has34 c34_ok
noncomputable def VH2 : Env := VH1.gives 63 F63
theorem VH2_s : VH2.Sound := VH1_s.gives has63 c63_ok
theorem t20 (pc : Int) (nW : Nat) (f : Nat → Nat → Int) (oW : Nat → Nat → ByteArray) (n : Nat) (g : Nat → Nat → Int) (o : Nat → Nat → ByteArray) : evC VH2 Try.f20 60 [.agg [.v (.int .u32 pc), .ow 0, .ow 1]] ⟨[], lB nW f oW n g o, 2⟩ (canG 2) =
    bif Nat.ble nW 1048576 then bif Nat.ble n 1048576 then canO false [.agg [.v (.int .u32 pc), .ow 2, .ow 3]] [encL (3, ⟨true, 31, .row opSh n g noO⟩), encL (2, ⟨true, 22, .row [.i .u32] nW f noO⟩)] 4 else none else none := by kernel_rfl
def F20 (_ : Nat) (args : List AV) (l : List (Nat × LB)) : Option Give := match args, l with
  | [.agg [.v (.int .u32 pc), .ow 0, .ow 1]], [(0, la), (1, lb)] => (match asW la, asO lb with
    | some (nW, f), some (n, g) => some ⟨Nat.ble n 1048576 && Nat.ble nW 1048576, false, [.agg [.v (.int .u32 pc), .ow 2, .ow 3]], [(3, ⟨true, 31, .row opSh n g noO⟩), (2, ⟨true, 22, .row [.i .u32] nW f noO⟩)], 4⟩
    | _, _ => none)
  | _, _ => none
theorem c20_ok : CallS Try.prog 20 (handC' F20) := by
  refine CallS.hand (E := VH2) VH2_s pfl (LpF.none fun _ => rfl) has20 fun nx args l r h hok => ?_
  unfold F20 at h
  split at h
  · rename_i pc la lb
    split at h
    · rename_i nW f n g ha hb
      obtain ⟨oW, rfl⟩ := asW_spec ha
      obtain ⟨o, rfl⟩ := asO_spec hb
      simp only [Option.some.injEq] at h
      subst h
      refine ⟨60, (t20 pc nW f oW n g o).trans ?_⟩
      simp only [Bool.and_eq_true] at hok
      rw [hok.1, hok.2]
      rfl
    · cases h
  · cases h
noncomputable def VH3 (v : Nat → Bool) : Env := (VG3 v).gives 20 F20
theorem VH3_s (v : Nat → Bool) : (VH3 v).Sound := (VG3_s v).gives has20 c20_ok
noncomputable def VH5 (v : Nat → Bool) : Env := ((VH3 v).marks lv3 fun _ => none).loops fun i => bif Nat.beq i 6 then some (lpG 2 d3a leaf3a) else bif Nat.beq i 11 then some (lpG 2 d3b leaf3b) else none
theorem VH5_s (v : Nat → Bool) : (VH5 v).Sound := (VH3_s v).marks.loops
theorem VH5_lp (v : Nat → Bool) : LpF (VH5 v) Try.f3 := LpF.of fun x hx f hf => by
  rw [loops3] at hx
  simp only [List.mem_cons, List.not_mem_nil, or_false] at hx
  rcases hx with rfl | rfl
  · have e : (VH5 v).lp (keyC x3a) = some (lpG 2 d3a leaf3a) := by rw [key3a]; rfl
    rw [e] at hf
    injection hf with hf
    subst hf
    exact lp3a_ok
  · have e : (VH5 v).lp (keyC x3b) = some (lpG 2 d3b leaf3b) := by rw [key3b]; rfl
    rw [e] at hf
    injection hf with hf
    subst hf
    exact lp3b_ok
end Go.Proofs.Ytjpeplidbodjiaa
