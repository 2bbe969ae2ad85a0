/- Loops, round by round. -/
import Derived.Test.YtjpeplidbodjiaaSndT
namespace Go.Proofs.Ytjpeplidbodjiaa
variable {E : Env} {m : Nat} {kp : Exit → Option (List Nat)} {x : Code}
/-- What follows a round: on, by F; or out. -/
def rkG (m : Nat) (lv : Option (List Nat)) (kp : Exit → Option (List Nat)) (F : AS → Out) (K : Exit → AS → Out) (e : Exit) (st' : AS) : Out := match e with
  | .normal => gc m lv st' F
  | e => gc m (kp e) st' (K e)
/-- A loop from its head on. -/
def HeadK (E : Env) (m : Nat) (kp : Exit → Option (List Nat)) (x : Code) (n : Nat) (K : Exit → AS → Out) (st : AS) : Out :=
  ev E m n x st fun e st' => match e with
    | .normal => ev E m n (.loop x) st' fun e st' => gc m (kp e) st' (K e)
    | e => gc m (kp e) st' (K e)
theorem loop_head (h : E.lp (keyC x) = none) (n : Nat) (K : Exit → AS → Out) (st : AS) :
    (ev E m (n + 1) (.loop x) st fun e st' => gc m (kp e) st' (K e)) = gc m (E.lv (keyC x)) st (HeadK E m kp x n K) := by
  simp only [ev, h]
  congr 1
theorem HeadK_succ (h : E.lp (keyC x) = none) (n : Nat) (K : Exit → AS → Out) (st : AS) :
    HeadK E m kp x (n + 1) K st = ev E m (n + 1) x st (rkG m (E.lv (keyC x)) kp (HeadK E m kp x n K) K) := by
  unfold HeadK
  congr 1
  funext e st'
  cases e with
  | normal => exact loop_head h n K st'
  | _ => rfl
theorem LoopS.head (hE : E.Sound) (hm : E.P.follows .mixedOrders = true) (hl : LpC E (.loop x)) (h : E.lp (keyC x) = none) {f : Nat → AS → (Exit → AS → Out) → Out}
    (hf : ∀ (m : Nat) (st : AS) (k : Exit → AS → Out) (out : AV × AH), f m st k = some out → ∃ n, gc m (E.lv (keyC x)) st (HeadK E m kp x n k) = some out) : LoopS E.P x f := by
  refine LoopS.of hE hm hl kp fun m st k out ho => ?_
  obtain ⟨n, hn⟩ := hf m st k out ho
  exact ⟨n + 1, by rw [loop_head h]; exact hn⟩
end Go.Proofs.Ytjpeplidbodjiaa
