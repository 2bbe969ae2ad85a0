/- The search of ins.of: what its loop does. -/
import Derived.Test.YtjpeplidbodjiaaFC
namespace Go.Proofs.Ytjpeplidbodjiaa
set_option maxRecDepth 100000
noncomputable def lk136 (n : Nat) (K : Exit → AS → Out) (e : Exit) (st' : AS) : Out := match e with
  | .normal => ev EC 0 n (.loop x136) st' fun e st' => gc 0 (kp136 e) st' (K e)
  | e => gc 0 (kp136 e) st' (K e)
theorem loop136 (n : Nat) (st : AS) (K : Exit → AS → Out) : (ev EC 0 (n + 1) (.loop x136) st fun e st' => gc 0 (kp136 e) st' (K e)) = gc 0 (EC.lv 10) st fun st' => ev EC 0 n x136 st' (lk136 n K) := by
  simp only [ev, key136]
  rfl
theorem lk136_eq (n : Nat) (K : Exit → AS → Out) : lk136 (n + 1) K = k136 (fun st' => ev EC 0 n x136 st' (lk136 n K)) K := by
  funext e st'
  cases e with
  | normal => exact loop136 n st' K
  | _ => rfl
/-- The rows, as a table. -/
def rowsT : List (Int × Int × ByteArray × Int) := [(1, 0, ⟨#[97, 100, 100, 117]⟩, 33),
  (2, 0, ⟨#[115, 117, 98, 117]⟩, 35),
  (3, 0, ⟨#[97, 110, 100]⟩, 36),
  (4, 0, ⟨#[111, 114]⟩, 37),
  (5, 0, ⟨#[120, 111, 114]⟩, 38),
  (6, 0, ⟨#[110, 111, 114]⟩, 39),
  (7, 0, ⟨#[115, 108, 116]⟩, 42),
  (8, 0, ⟨#[115, 108, 116, 117]⟩, 43),
  (9, 0, ⟨#[97, 100, 100]⟩, 32),
  (10, 0, ⟨#[115, 117, 98]⟩, 34),
  (11, 0, ⟨#[115, 108, 108, 118]⟩, 4),
  (12, 0, ⟨#[115, 114, 108, 118]⟩, 6),
  (13, 0, ⟨#[115, 114, 97, 118]⟩, 7),
  (14, 0, ⟨#[109, 111, 118, 122]⟩, 10),
  (15, 0, ⟨#[109, 111, 118, 110]⟩, 11),
  (16, 1, ⟨#[115, 108, 108]⟩, 0),
  (17, 1, ⟨#[115, 114, 108]⟩, 2),
  (18, 1, ⟨#[115, 114, 97]⟩, 3),
  (19, 2, ⟨#[109, 117, 108, 116]⟩, 24),
  (20, 2, ⟨#[109, 117, 108, 116, 117]⟩, 25),
  (21, 2, ⟨#[100, 105, 118]⟩, 26),
  (22, 2, ⟨#[100, 105, 118, 117]⟩, 27),
  (23, 3, ⟨#[109, 102, 104, 105]⟩, 16),
  (24, 3, ⟨#[109, 102, 108, 111]⟩, 18),
  (25, 4, ⟨#[109, 116, 104, 105]⟩, 17),
  (26, 4, ⟨#[109, 116, 108, 111]⟩, 19),
  (27, 4, ⟨#[106, 114]⟩, 8),
  (28, 5, ⟨#[106, 97, 108, 114]⟩, 9),
  (29, 6, ⟨#[116, 103, 101]⟩, 48),
  (30, 6, ⟨#[116, 103, 101, 117]⟩, 49),
  (31, 6, ⟨#[116, 108, 116]⟩, 50),
  (32, 6, ⟨#[116, 108, 116, 117]⟩, 51),
  (33, 6, ⟨#[116, 101, 113]⟩, 52),
  (34, 6, ⟨#[116, 110, 101]⟩, 54),
  (35, 7, ⟨#[115, 121, 115, 99, 97, 108, 108]⟩, 12),
  (36, 7, ⟨#[98, 114, 101, 97, 107]⟩, 13),
  (37, 8, ⟨#[109, 117, 108]⟩, 2),
  (38, 9, ⟨#[99, 108, 122]⟩, 32),
  (39, 9, ⟨#[99, 108, 111]⟩, 33),
  (40, 10, ⟨#[97, 100, 100, 105, 117]⟩, 9),
  (41, 10, ⟨#[97, 100, 100, 105]⟩, 8),
  (42, 10, ⟨#[115, 108, 116, 105]⟩, 10),
  (43, 10, ⟨#[115, 108, 116, 105, 117]⟩, 11),
  (44, 11, ⟨#[97, 110, 100, 105]⟩, 12),
  (45, 11, ⟨#[111, 114, 105]⟩, 13),
  (46, 11, ⟨#[120, 111, 114, 105]⟩, 14),
  (47, 12, ⟨#[108, 117, 105]⟩, 15),
  (48, 13, ⟨#[108, 98]⟩, 32),
  (49, 13, ⟨#[108, 104]⟩, 33),
  (50, 13, ⟨#[108, 119, 108]⟩, 34),
  (51, 13, ⟨#[108, 119]⟩, 35),
  (52, 13, ⟨#[108, 98, 117]⟩, 36),
  (53, 13, ⟨#[108, 104, 117]⟩, 37),
  (54, 13, ⟨#[108, 119, 114]⟩, 38),
  (55, 13, ⟨#[115, 98]⟩, 40),
  (56, 13, ⟨#[115, 104]⟩, 41),
  (57, 13, ⟨#[115, 119, 108]⟩, 42),
  (58, 13, ⟨#[115, 119]⟩, 43),
  (59, 13, ⟨#[115, 119, 114]⟩, 46),
  (60, 14, ⟨#[98, 101, 113]⟩, 4),
  (61, 14, ⟨#[98, 110, 101]⟩, 5),
  (62, 15, ⟨#[98, 108, 101, 122]⟩, 6),
  (63, 15, ⟨#[98, 103, 116, 122]⟩, 7),
  (64, 16, ⟨#[98, 108, 116, 122]⟩, 0),
  (65, 16, ⟨#[98, 103, 101, 122]⟩, 1),
  (66, 16, ⟨#[98, 108, 116, 122, 97, 108]⟩, 16),
  (67, 16, ⟨#[98, 103, 101, 122, 97, 108]⟩, 17),
  (68, 17, ⟨#[106]⟩, 2),
  (69, 17, ⟨#[106, 97, 108]⟩, 3)]
def hit (a b : Int) (r : Int × Int × ByteArray × Int) : Bool := slotA r.2.1 r.2.2.2 == a && (slotB r.2.1 r.2.2.2 == b && true)
def resL (a b : Int) (K : Exit → AS → Out) (d : Out) : List (Int × Int × ByteArray × Int) → Out
  | [] => d
  | r :: rs => bif hit a b r then K .ret (R136 (rowA r.1 r.2.1 r.2.2.1 r.2.2.2)) else resL a b K d rs
theorem resL_cons {a b : Int} {K : Exit → AS → Out} {d x : Out} {op f c : Int} {nm : ByteArray} {r : List (Int × Int × ByteArray × Int)} (h : x = resL a b K d r) : (bif slotA f c == a && (slotB f c == b && true) then K .ret (R136 (rowA op f nm c)) else x) = resL a b K d ((op, f, nm, c) :: r) := by
  rw [h]
  rfl
/-- The row that is found, or the row of zeros. -/
def findR (a b : Int) : List (Int × Int × ByteArray × Int) → Option (Int × Int × ByteArray × Int)
  | [] => none
  | r :: rs => bif hit a b r then some r else findR a b rs
def zRowT : Int × Int × ByteArray × Int := (0, 0, ByteArray.empty, 0)
def isHit (a b : Int) : Bool := (findR a b rowsT).isSome
def rowOf (a b : Int) : Int × Int × ByteArray × Int := (findR a b rowsT).getD zRowT
theorem resL_eq (a b : Int) (K : Exit → AS → Out) (d : Out) : ∀ rs, resL a b K d rs = bif (findR a b rs).isSome then K .ret (R136 (rowA ((findR a b rs).getD zRowT).1 ((findR a b rs).getD zRowT).2.1 ((findR a b rs).getD zRowT).2.2.1 ((findR a b rs).getD zRowT).2.2.2)) else d
  | [] => rfl
  | r :: rs => by
    simp only [resL, findR]
    cases hit a b r with
    | true => rfl
    | false => simp only [cond_false]; exact resL_eq a b K d rs
section
variable (w a b : Int) (n : Nat) (K : Exit → AS → Out)
theorem c136_69 : ev EC 0 (n + 30) x136 (S136 69 w a b) (lk136 (n + 30) K) = resL a b K (K (.exit 1) X136) (rowsT.drop 69) := by
  rw [lk136_eq (n + 29) K]
  exact s136_69 w a b n _ K
theorem c136_68 : ev EC 0 (n + 31) x136 (S136 68 w a b) (lk136 (n + 31) K) = resL a b K (K (.exit 1) X136) (rowsT.drop 68) := by
  rw [lk136_eq (n + 30) K]
  exact (s136_68 w a b (n + 1) _ K).trans (resL_cons (c136_69 w a b n K))
theorem c136_67 : ev EC 0 (n + 32) x136 (S136 67 w a b) (lk136 (n + 32) K) = resL a b K (K (.exit 1) X136) (rowsT.drop 67) := by
  rw [lk136_eq (n + 31) K]
  exact (s136_67 w a b (n + 2) _ K).trans (resL_cons (c136_68 w a b n K))
theorem c136_66 : ev EC 0 (n + 33) x136 (S136 66 w a b) (lk136 (n + 33) K) = resL a b K (K (.exit 1) X136) (rowsT.drop 66) := by
  rw [lk136_eq (n + 32) K]
  exact (s136_66 w a b (n + 3) _ K).trans (resL_cons (c136_67 w a b n K))
theorem c136_65 : ev EC 0 (n + 34) x136 (S136 65 w a b) (lk136 (n + 34) K) = resL a b K (K (.exit 1) X136) (rowsT.drop 65) := by
  rw [lk136_eq (n + 33) K]
  exact (s136_65 w a b (n + 4) _ K).trans (resL_cons (c136_66 w a b n K))
theorem c136_64 : ev EC 0 (n + 35) x136 (S136 64 w a b) (lk136 (n + 35) K) = resL a b K (K (.exit 1) X136) (rowsT.drop 64) := by
  rw [lk136_eq (n + 34) K]
  exact (s136_64 w a b (n + 5) _ K).trans (resL_cons (c136_65 w a b n K))
theorem c136_63 : ev EC 0 (n + 36) x136 (S136 63 w a b) (lk136 (n + 36) K) = resL a b K (K (.exit 1) X136) (rowsT.drop 63) := by
  rw [lk136_eq (n + 35) K]
  exact (s136_63 w a b (n + 6) _ K).trans (resL_cons (c136_64 w a b n K))
theorem c136_62 : ev EC 0 (n + 37) x136 (S136 62 w a b) (lk136 (n + 37) K) = resL a b K (K (.exit 1) X136) (rowsT.drop 62) := by
  rw [lk136_eq (n + 36) K]
  exact (s136_62 w a b (n + 7) _ K).trans (resL_cons (c136_63 w a b n K))
theorem c136_61 : ev EC 0 (n + 38) x136 (S136 61 w a b) (lk136 (n + 38) K) = resL a b K (K (.exit 1) X136) (rowsT.drop 61) := by
  rw [lk136_eq (n + 37) K]
  exact (s136_61 w a b (n + 8) _ K).trans (resL_cons (c136_62 w a b n K))
theorem c136_60 : ev EC 0 (n + 39) x136 (S136 60 w a b) (lk136 (n + 39) K) = resL a b K (K (.exit 1) X136) (rowsT.drop 60) := by
  rw [lk136_eq (n + 38) K]
  exact (s136_60 w a b (n + 9) _ K).trans (resL_cons (c136_61 w a b n K))
theorem c136_59 : ev EC 0 (n + 40) x136 (S136 59 w a b) (lk136 (n + 40) K) = resL a b K (K (.exit 1) X136) (rowsT.drop 59) := by
  rw [lk136_eq (n + 39) K]
  exact (s136_59 w a b (n + 10) _ K).trans (resL_cons (c136_60 w a b n K))
theorem c136_58 : ev EC 0 (n + 41) x136 (S136 58 w a b) (lk136 (n + 41) K) = resL a b K (K (.exit 1) X136) (rowsT.drop 58) := by
  rw [lk136_eq (n + 40) K]
  exact (s136_58 w a b (n + 11) _ K).trans (resL_cons (c136_59 w a b n K))
theorem c136_57 : ev EC 0 (n + 42) x136 (S136 57 w a b) (lk136 (n + 42) K) = resL a b K (K (.exit 1) X136) (rowsT.drop 57) := by
  rw [lk136_eq (n + 41) K]
  exact (s136_57 w a b (n + 12) _ K).trans (resL_cons (c136_58 w a b n K))
theorem c136_56 : ev EC 0 (n + 43) x136 (S136 56 w a b) (lk136 (n + 43) K) = resL a b K (K (.exit 1) X136) (rowsT.drop 56) := by
  rw [lk136_eq (n + 42) K]
  exact (s136_56 w a b (n + 13) _ K).trans (resL_cons (c136_57 w a b n K))
theorem c136_55 : ev EC 0 (n + 44) x136 (S136 55 w a b) (lk136 (n + 44) K) = resL a b K (K (.exit 1) X136) (rowsT.drop 55) := by
  rw [lk136_eq (n + 43) K]
  exact (s136_55 w a b (n + 14) _ K).trans (resL_cons (c136_56 w a b n K))
theorem c136_54 : ev EC 0 (n + 45) x136 (S136 54 w a b) (lk136 (n + 45) K) = resL a b K (K (.exit 1) X136) (rowsT.drop 54) := by
  rw [lk136_eq (n + 44) K]
  exact (s136_54 w a b (n + 15) _ K).trans (resL_cons (c136_55 w a b n K))
theorem c136_53 : ev EC 0 (n + 46) x136 (S136 53 w a b) (lk136 (n + 46) K) = resL a b K (K (.exit 1) X136) (rowsT.drop 53) := by
  rw [lk136_eq (n + 45) K]
  exact (s136_53 w a b (n + 16) _ K).trans (resL_cons (c136_54 w a b n K))
theorem c136_52 : ev EC 0 (n + 47) x136 (S136 52 w a b) (lk136 (n + 47) K) = resL a b K (K (.exit 1) X136) (rowsT.drop 52) := by
  rw [lk136_eq (n + 46) K]
  exact (s136_52 w a b (n + 17) _ K).trans (resL_cons (c136_53 w a b n K))
theorem c136_51 : ev EC 0 (n + 48) x136 (S136 51 w a b) (lk136 (n + 48) K) = resL a b K (K (.exit 1) X136) (rowsT.drop 51) := by
  rw [lk136_eq (n + 47) K]
  exact (s136_51 w a b (n + 18) _ K).trans (resL_cons (c136_52 w a b n K))
theorem c136_50 : ev EC 0 (n + 49) x136 (S136 50 w a b) (lk136 (n + 49) K) = resL a b K (K (.exit 1) X136) (rowsT.drop 50) := by
  rw [lk136_eq (n + 48) K]
  exact (s136_50 w a b (n + 19) _ K).trans (resL_cons (c136_51 w a b n K))
theorem c136_49 : ev EC 0 (n + 50) x136 (S136 49 w a b) (lk136 (n + 50) K) = resL a b K (K (.exit 1) X136) (rowsT.drop 49) := by
  rw [lk136_eq (n + 49) K]
  exact (s136_49 w a b (n + 20) _ K).trans (resL_cons (c136_50 w a b n K))
theorem c136_48 : ev EC 0 (n + 51) x136 (S136 48 w a b) (lk136 (n + 51) K) = resL a b K (K (.exit 1) X136) (rowsT.drop 48) := by
  rw [lk136_eq (n + 50) K]
  exact (s136_48 w a b (n + 21) _ K).trans (resL_cons (c136_49 w a b n K))
theorem c136_47 : ev EC 0 (n + 52) x136 (S136 47 w a b) (lk136 (n + 52) K) = resL a b K (K (.exit 1) X136) (rowsT.drop 47) := by
  rw [lk136_eq (n + 51) K]
  exact (s136_47 w a b (n + 22) _ K).trans (resL_cons (c136_48 w a b n K))
theorem c136_46 : ev EC 0 (n + 53) x136 (S136 46 w a b) (lk136 (n + 53) K) = resL a b K (K (.exit 1) X136) (rowsT.drop 46) := by
  rw [lk136_eq (n + 52) K]
  exact (s136_46 w a b (n + 23) _ K).trans (resL_cons (c136_47 w a b n K))
theorem c136_45 : ev EC 0 (n + 54) x136 (S136 45 w a b) (lk136 (n + 54) K) = resL a b K (K (.exit 1) X136) (rowsT.drop 45) := by
  rw [lk136_eq (n + 53) K]
  exact (s136_45 w a b (n + 24) _ K).trans (resL_cons (c136_46 w a b n K))
theorem c136_44 : ev EC 0 (n + 55) x136 (S136 44 w a b) (lk136 (n + 55) K) = resL a b K (K (.exit 1) X136) (rowsT.drop 44) := by
  rw [lk136_eq (n + 54) K]
  exact (s136_44 w a b (n + 25) _ K).trans (resL_cons (c136_45 w a b n K))
theorem c136_43 : ev EC 0 (n + 56) x136 (S136 43 w a b) (lk136 (n + 56) K) = resL a b K (K (.exit 1) X136) (rowsT.drop 43) := by
  rw [lk136_eq (n + 55) K]
  exact (s136_43 w a b (n + 26) _ K).trans (resL_cons (c136_44 w a b n K))
theorem c136_42 : ev EC 0 (n + 57) x136 (S136 42 w a b) (lk136 (n + 57) K) = resL a b K (K (.exit 1) X136) (rowsT.drop 42) := by
  rw [lk136_eq (n + 56) K]
  exact (s136_42 w a b (n + 27) _ K).trans (resL_cons (c136_43 w a b n K))
theorem c136_41 : ev EC 0 (n + 58) x136 (S136 41 w a b) (lk136 (n + 58) K) = resL a b K (K (.exit 1) X136) (rowsT.drop 41) := by
  rw [lk136_eq (n + 57) K]
  exact (s136_41 w a b (n + 28) _ K).trans (resL_cons (c136_42 w a b n K))
theorem c136_40 : ev EC 0 (n + 59) x136 (S136 40 w a b) (lk136 (n + 59) K) = resL a b K (K (.exit 1) X136) (rowsT.drop 40) := by
  rw [lk136_eq (n + 58) K]
  exact (s136_40 w a b (n + 29) _ K).trans (resL_cons (c136_41 w a b n K))
theorem c136_39 : ev EC 0 (n + 60) x136 (S136 39 w a b) (lk136 (n + 60) K) = resL a b K (K (.exit 1) X136) (rowsT.drop 39) := by
  rw [lk136_eq (n + 59) K]
  exact (s136_39 w a b (n + 30) _ K).trans (resL_cons (c136_40 w a b n K))
theorem c136_38 : ev EC 0 (n + 61) x136 (S136 38 w a b) (lk136 (n + 61) K) = resL a b K (K (.exit 1) X136) (rowsT.drop 38) := by
  rw [lk136_eq (n + 60) K]
  exact (s136_38 w a b (n + 31) _ K).trans (resL_cons (c136_39 w a b n K))
theorem c136_37 : ev EC 0 (n + 62) x136 (S136 37 w a b) (lk136 (n + 62) K) = resL a b K (K (.exit 1) X136) (rowsT.drop 37) := by
  rw [lk136_eq (n + 61) K]
  exact (s136_37 w a b (n + 32) _ K).trans (resL_cons (c136_38 w a b n K))
theorem c136_36 : ev EC 0 (n + 63) x136 (S136 36 w a b) (lk136 (n + 63) K) = resL a b K (K (.exit 1) X136) (rowsT.drop 36) := by
  rw [lk136_eq (n + 62) K]
  exact (s136_36 w a b (n + 33) _ K).trans (resL_cons (c136_37 w a b n K))
theorem c136_35 : ev EC 0 (n + 64) x136 (S136 35 w a b) (lk136 (n + 64) K) = resL a b K (K (.exit 1) X136) (rowsT.drop 35) := by
  rw [lk136_eq (n + 63) K]
  exact (s136_35 w a b (n + 34) _ K).trans (resL_cons (c136_36 w a b n K))
theorem c136_34 : ev EC 0 (n + 65) x136 (S136 34 w a b) (lk136 (n + 65) K) = resL a b K (K (.exit 1) X136) (rowsT.drop 34) := by
  rw [lk136_eq (n + 64) K]
  exact (s136_34 w a b (n + 35) _ K).trans (resL_cons (c136_35 w a b n K))
theorem c136_33 : ev EC 0 (n + 66) x136 (S136 33 w a b) (lk136 (n + 66) K) = resL a b K (K (.exit 1) X136) (rowsT.drop 33) := by
  rw [lk136_eq (n + 65) K]
  exact (s136_33 w a b (n + 36) _ K).trans (resL_cons (c136_34 w a b n K))
theorem c136_32 : ev EC 0 (n + 67) x136 (S136 32 w a b) (lk136 (n + 67) K) = resL a b K (K (.exit 1) X136) (rowsT.drop 32) := by
  rw [lk136_eq (n + 66) K]
  exact (s136_32 w a b (n + 37) _ K).trans (resL_cons (c136_33 w a b n K))
theorem c136_31 : ev EC 0 (n + 68) x136 (S136 31 w a b) (lk136 (n + 68) K) = resL a b K (K (.exit 1) X136) (rowsT.drop 31) := by
  rw [lk136_eq (n + 67) K]
  exact (s136_31 w a b (n + 38) _ K).trans (resL_cons (c136_32 w a b n K))
theorem c136_30 : ev EC 0 (n + 69) x136 (S136 30 w a b) (lk136 (n + 69) K) = resL a b K (K (.exit 1) X136) (rowsT.drop 30) := by
  rw [lk136_eq (n + 68) K]
  exact (s136_30 w a b (n + 39) _ K).trans (resL_cons (c136_31 w a b n K))
theorem c136_29 : ev EC 0 (n + 70) x136 (S136 29 w a b) (lk136 (n + 70) K) = resL a b K (K (.exit 1) X136) (rowsT.drop 29) := by
  rw [lk136_eq (n + 69) K]
  exact (s136_29 w a b (n + 40) _ K).trans (resL_cons (c136_30 w a b n K))
theorem c136_28 : ev EC 0 (n + 71) x136 (S136 28 w a b) (lk136 (n + 71) K) = resL a b K (K (.exit 1) X136) (rowsT.drop 28) := by
  rw [lk136_eq (n + 70) K]
  exact (s136_28 w a b (n + 41) _ K).trans (resL_cons (c136_29 w a b n K))
theorem c136_27 : ev EC 0 (n + 72) x136 (S136 27 w a b) (lk136 (n + 72) K) = resL a b K (K (.exit 1) X136) (rowsT.drop 27) := by
  rw [lk136_eq (n + 71) K]
  exact (s136_27 w a b (n + 42) _ K).trans (resL_cons (c136_28 w a b n K))
theorem c136_26 : ev EC 0 (n + 73) x136 (S136 26 w a b) (lk136 (n + 73) K) = resL a b K (K (.exit 1) X136) (rowsT.drop 26) := by
  rw [lk136_eq (n + 72) K]
  exact (s136_26 w a b (n + 43) _ K).trans (resL_cons (c136_27 w a b n K))
theorem c136_25 : ev EC 0 (n + 74) x136 (S136 25 w a b) (lk136 (n + 74) K) = resL a b K (K (.exit 1) X136) (rowsT.drop 25) := by
  rw [lk136_eq (n + 73) K]
  exact (s136_25 w a b (n + 44) _ K).trans (resL_cons (c136_26 w a b n K))
theorem c136_24 : ev EC 0 (n + 75) x136 (S136 24 w a b) (lk136 (n + 75) K) = resL a b K (K (.exit 1) X136) (rowsT.drop 24) := by
  rw [lk136_eq (n + 74) K]
  exact (s136_24 w a b (n + 45) _ K).trans (resL_cons (c136_25 w a b n K))
theorem c136_23 : ev EC 0 (n + 76) x136 (S136 23 w a b) (lk136 (n + 76) K) = resL a b K (K (.exit 1) X136) (rowsT.drop 23) := by
  rw [lk136_eq (n + 75) K]
  exact (s136_23 w a b (n + 46) _ K).trans (resL_cons (c136_24 w a b n K))
theorem c136_22 : ev EC 0 (n + 77) x136 (S136 22 w a b) (lk136 (n + 77) K) = resL a b K (K (.exit 1) X136) (rowsT.drop 22) := by
  rw [lk136_eq (n + 76) K]
  exact (s136_22 w a b (n + 47) _ K).trans (resL_cons (c136_23 w a b n K))
theorem c136_21 : ev EC 0 (n + 78) x136 (S136 21 w a b) (lk136 (n + 78) K) = resL a b K (K (.exit 1) X136) (rowsT.drop 21) := by
  rw [lk136_eq (n + 77) K]
  exact (s136_21 w a b (n + 48) _ K).trans (resL_cons (c136_22 w a b n K))
theorem c136_20 : ev EC 0 (n + 79) x136 (S136 20 w a b) (lk136 (n + 79) K) = resL a b K (K (.exit 1) X136) (rowsT.drop 20) := by
  rw [lk136_eq (n + 78) K]
  exact (s136_20 w a b (n + 49) _ K).trans (resL_cons (c136_21 w a b n K))
theorem c136_19 : ev EC 0 (n + 80) x136 (S136 19 w a b) (lk136 (n + 80) K) = resL a b K (K (.exit 1) X136) (rowsT.drop 19) := by
  rw [lk136_eq (n + 79) K]
  exact (s136_19 w a b (n + 50) _ K).trans (resL_cons (c136_20 w a b n K))
theorem c136_18 : ev EC 0 (n + 81) x136 (S136 18 w a b) (lk136 (n + 81) K) = resL a b K (K (.exit 1) X136) (rowsT.drop 18) := by
  rw [lk136_eq (n + 80) K]
  exact (s136_18 w a b (n + 51) _ K).trans (resL_cons (c136_19 w a b n K))
theorem c136_17 : ev EC 0 (n + 82) x136 (S136 17 w a b) (lk136 (n + 82) K) = resL a b K (K (.exit 1) X136) (rowsT.drop 17) := by
  rw [lk136_eq (n + 81) K]
  exact (s136_17 w a b (n + 52) _ K).trans (resL_cons (c136_18 w a b n K))
theorem c136_16 : ev EC 0 (n + 83) x136 (S136 16 w a b) (lk136 (n + 83) K) = resL a b K (K (.exit 1) X136) (rowsT.drop 16) := by
  rw [lk136_eq (n + 82) K]
  exact (s136_16 w a b (n + 53) _ K).trans (resL_cons (c136_17 w a b n K))
theorem c136_15 : ev EC 0 (n + 84) x136 (S136 15 w a b) (lk136 (n + 84) K) = resL a b K (K (.exit 1) X136) (rowsT.drop 15) := by
  rw [lk136_eq (n + 83) K]
  exact (s136_15 w a b (n + 54) _ K).trans (resL_cons (c136_16 w a b n K))
theorem c136_14 : ev EC 0 (n + 85) x136 (S136 14 w a b) (lk136 (n + 85) K) = resL a b K (K (.exit 1) X136) (rowsT.drop 14) := by
  rw [lk136_eq (n + 84) K]
  exact (s136_14 w a b (n + 55) _ K).trans (resL_cons (c136_15 w a b n K))
theorem c136_13 : ev EC 0 (n + 86) x136 (S136 13 w a b) (lk136 (n + 86) K) = resL a b K (K (.exit 1) X136) (rowsT.drop 13) := by
  rw [lk136_eq (n + 85) K]
  exact (s136_13 w a b (n + 56) _ K).trans (resL_cons (c136_14 w a b n K))
theorem c136_12 : ev EC 0 (n + 87) x136 (S136 12 w a b) (lk136 (n + 87) K) = resL a b K (K (.exit 1) X136) (rowsT.drop 12) := by
  rw [lk136_eq (n + 86) K]
  exact (s136_12 w a b (n + 57) _ K).trans (resL_cons (c136_13 w a b n K))
theorem c136_11 : ev EC 0 (n + 88) x136 (S136 11 w a b) (lk136 (n + 88) K) = resL a b K (K (.exit 1) X136) (rowsT.drop 11) := by
  rw [lk136_eq (n + 87) K]
  exact (s136_11 w a b (n + 58) _ K).trans (resL_cons (c136_12 w a b n K))
theorem c136_10 : ev EC 0 (n + 89) x136 (S136 10 w a b) (lk136 (n + 89) K) = resL a b K (K (.exit 1) X136) (rowsT.drop 10) := by
  rw [lk136_eq (n + 88) K]
  exact (s136_10 w a b (n + 59) _ K).trans (resL_cons (c136_11 w a b n K))
theorem c136_9 : ev EC 0 (n + 90) x136 (S136 9 w a b) (lk136 (n + 90) K) = resL a b K (K (.exit 1) X136) (rowsT.drop 9) := by
  rw [lk136_eq (n + 89) K]
  exact (s136_9 w a b (n + 60) _ K).trans (resL_cons (c136_10 w a b n K))
theorem c136_8 : ev EC 0 (n + 91) x136 (S136 8 w a b) (lk136 (n + 91) K) = resL a b K (K (.exit 1) X136) (rowsT.drop 8) := by
  rw [lk136_eq (n + 90) K]
  exact (s136_8 w a b (n + 61) _ K).trans (resL_cons (c136_9 w a b n K))
theorem c136_7 : ev EC 0 (n + 92) x136 (S136 7 w a b) (lk136 (n + 92) K) = resL a b K (K (.exit 1) X136) (rowsT.drop 7) := by
  rw [lk136_eq (n + 91) K]
  exact (s136_7 w a b (n + 62) _ K).trans (resL_cons (c136_8 w a b n K))
theorem c136_6 : ev EC 0 (n + 93) x136 (S136 6 w a b) (lk136 (n + 93) K) = resL a b K (K (.exit 1) X136) (rowsT.drop 6) := by
  rw [lk136_eq (n + 92) K]
  exact (s136_6 w a b (n + 63) _ K).trans (resL_cons (c136_7 w a b n K))
theorem c136_5 : ev EC 0 (n + 94) x136 (S136 5 w a b) (lk136 (n + 94) K) = resL a b K (K (.exit 1) X136) (rowsT.drop 5) := by
  rw [lk136_eq (n + 93) K]
  exact (s136_5 w a b (n + 64) _ K).trans (resL_cons (c136_6 w a b n K))
theorem c136_4 : ev EC 0 (n + 95) x136 (S136 4 w a b) (lk136 (n + 95) K) = resL a b K (K (.exit 1) X136) (rowsT.drop 4) := by
  rw [lk136_eq (n + 94) K]
  exact (s136_4 w a b (n + 65) _ K).trans (resL_cons (c136_5 w a b n K))
theorem c136_3 : ev EC 0 (n + 96) x136 (S136 3 w a b) (lk136 (n + 96) K) = resL a b K (K (.exit 1) X136) (rowsT.drop 3) := by
  rw [lk136_eq (n + 95) K]
  exact (s136_3 w a b (n + 66) _ K).trans (resL_cons (c136_4 w a b n K))
theorem c136_2 : ev EC 0 (n + 97) x136 (S136 2 w a b) (lk136 (n + 97) K) = resL a b K (K (.exit 1) X136) (rowsT.drop 2) := by
  rw [lk136_eq (n + 96) K]
  exact (s136_2 w a b (n + 67) _ K).trans (resL_cons (c136_3 w a b n K))
theorem c136_1 : ev EC 0 (n + 98) x136 (S136 1 w a b) (lk136 (n + 98) K) = resL a b K (K (.exit 1) X136) (rowsT.drop 1) := by
  rw [lk136_eq (n + 97) K]
  exact (s136_1 w a b (n + 68) _ K).trans (resL_cons (c136_2 w a b n K))
theorem c136_0 : ev EC 0 (n + 99) x136 (S136 0 w a b) (lk136 (n + 99) K) = resL a b K (K (.exit 1) X136) (rowsT.drop 0) := by
  rw [lk136_eq (n + 98) K]
  exact (s136_0 w a b (n + 69) _ K).trans (resL_cons (c136_1 w a b n K))
end
theorem gcS136 (w a b : Int) (F : AS → Out) : gc 0 (EC.lv 10) (S136 0 w a b) F = F (S136 0 w a b) := by kernel_rfl
def eqIs : List Int → List Int → Bool
  | [], [] => true
  | x :: r, y :: s => decide (x = y) && eqIs r s
  | _, _ => false
theorem eqIs_eq : ∀ {l s : List Int}, eqIs l s = true → l = s
  | [], [], _ => rfl
  | x :: r, y :: s, h => by
    simp only [eqIs, Bool.and_eq_true, decide_eq_true_eq] at h
    rw [h.1, eqIs_eq h.2]
  | [], _ :: _, h => by cases h
  | _ :: _, [], h => by cases h
def rest136 : List Int := (datS (S136 0 0 0 0)).i.drop 5
def lp136 (m : Nat) (st : AS) (K : Exit → AS → Out) : Out := bif Nat.beq m 0 && likeS st (S136 0 0 0 0) then (match datS st with
  | ⟨_ :: l :: k :: a :: b :: r, [bb], [], [], [], [], []⟩ => bif eqIs (l :: k :: r) (69 :: 0 :: rest136) && !bb then
      (bif isHit a b then K .ret (R136 (rowA (rowOf a b).1 (rowOf a b).2.1 (rowOf a b).2.2.1 (rowOf a b).2.2.2)) else K (.exit 1) X136) else none
  | _ => none) else none
theorem ref136 (w a b : Int) : refS (S136 0 0 0 0) ⟨w :: 69 :: 0 :: a :: b :: rest136, [false], [], [], [], [], []⟩ = S136 0 w a b := by kernel_rfl
theorem lp136_ok : LoopS Try.prog x136 lp136 := by
  refine LoopS.of (E := EC) EC_s pfl (LpC.none fun _ => rfl) kp136 fun m st k out h => ?_
  unfold lp136 at h
  cases hl : (Nat.beq m 0 && likeS st (S136 0 0 0 0)) with
  | false => simp [hl] at h
  | true =>
    simp only [hl, cond_true] at h
    rw [Bool.and_eq_true] at hl
    have hm := Nat.eq_of_beq_eq_true hl.1
    have hst := likeS_ref hl.2
    split at h
    · rename_i w l kk a b r bb hd
      cases hc : (eqIs (l :: kk :: r) (69 :: 0 :: rest136) && !bb) with
      | false => simp [hc] at h
      | true =>
        simp only [hc, cond_true] at h
        simp only [Bool.and_eq_true, Bool.not_eq_true'] at hc
        have e1 := eqIs_eq hc.1
        simp only [List.cons.injEq] at e1
        obtain ⟨e1, e2, e3⟩ := e1
        rw [hd, e1, e2, e3, hc.2, ref136] at hst
        subst hst hm
        refine ⟨100, ?_⟩
        refine (loop136 99 (S136 0 w a b) k).trans ?_
        rw [gcS136]
        refine (c136_0 w a b 0 k).trans ?_
        rw [List.drop_zero, resL_eq]
        exact h
    · cases h
end Go.Proofs.Ytjpeplidbodjiaa
