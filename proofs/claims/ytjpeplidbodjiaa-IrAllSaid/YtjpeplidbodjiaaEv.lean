/- An evaluator of a function's operations over what a call owns: values with places in its own blocks and lists. No program in sight. -/
import Derived.Test.YtjpeplidbodjiaaSLaw
import Derived.StillTail
namespace Go.Proofs.Ytjpeplidbodjiaa
open Go.RowKit
/-- The value of one cell. -/
inductive AC where
  | v (x : Value)
  | pt (id off : Nat)
  | el (l : Bool) (id sz k j : Nat)
  | ow (id : Nat)
  | sl (id sz s n c : Nat)
  | any
/-- The value of a temporary. -/
inductive AV where
  | one (x : AC)
  | agg (cs : List AC)
  | arr (n : Nat) (f : Nat → Bool)
  | tup (vs : List AV)
  | clo (f : FuncId) (vs : List AV)
inductive CK where
  | i (k : IntKind)
  | s
/-- A block's cells. -/
inductive BB where
  | cells (cs : List AC)
  | bools (m n : Nat) (f : Nat → Nat → Bool)
  | row (sh : List CK) (n : Nat) (f : Nat → Nat → Int) (o : Nat → Nat → ByteArray)
/-- A list's cells. -/
structure LB where
  own : Bool
  e : TypeId
  bb : BB
structure AH where
  b : List (Nat × TypeId × BB)
  l : List (Nat × LB)
  nx : Nat
structure AS where
  fr : List AV
  h : AH
def look {α : Type} (id : Nat) : List (Nat × α) → Option α
  | [] => none
  | (j, x) :: r => bif Nat.beq id j then some x else look id r
def over {α : Type} (id : Nat) (y : α) : List (Nat × α) → List (Nat × α)
  | [] => []
  | (j, x) :: r => bif Nat.beq id j then (j, y) :: r else (j, x) :: over id y r
def getA : List AV → Nat → AV
  | [], _ => .one .any
  | x :: _, 0 => x
  | _ :: r, n + 1 => getA r n
def putA : List AV → Nat → AV → List AV
  | [], _, _ => []
  | _ :: r, 0, y => y :: r
  | x :: r, n + 1, y => x :: putA r n y
def nthC : List AC → Nat → AC
  | [], _ => .any
  | x :: _, 0 => x
  | _ :: r, n + 1 => nthC r n
def constA : Value → AV
  | .agg cs => .agg (cs.toList.map .v)
  | v => .one (.v v)
def evA (st : AS) : Operand → AV
  | .tmp t => getA st.fr t
  | .const v => constA v
  | .global _ => .one .any
  | .func f => .one (.v (.func (.func f) #[] #[]))
/-- A value without places of the call's own. -/
def plainC : AC → Option Value
  | .v x => some x
  | _ => none
def plainL : List AC → Option (List Value)
  | [] => some []
  | c :: r => match plainC c with
    | none => none
    | some x => match plainL r with
      | none => none
      | some xs => some (x :: xs)
def plainA : AV → Option Value
  | .one c => plainC c
  | .agg cs => match plainL cs with
    | some xs => some (.agg xs.toArray)
    | none => none
  | _ => none
def plainE (st : AS) (x : Operand) : Value := match plainA (evA st x) with
  | some y => y
  | none => undef
def isPlain (st : AS) (x : Operand) : Bool := match plainA (evA st x) with
  | some _ => true
  | none => false
/-- A computation that asks nothing but the program. -/
def runP {α : Type} (P : Program) : Sem α → Option α
  | .pure a => some a
  | .program k => runP P (k P)
  | .mark _ k => runP P k
  | _ => none
def isRowT (P : Program) (t : TypeId) : Bool := match P.underlying t with
  | some (.struct _) | some (.array _ _) => true
  | _ => false
def sizeT (P : Program) (t : TypeId) : Nat := match P.info? t with
  | some i => i.size
  | none => 0
def shAt (f : Nat → Nat → Int) (o : Nat → Nat → ByteArray) (k : Nat) : List CK → Nat → Nat → AC
  | [], _, _ => .any
  | .i kd :: _, j, 0 => .v (.int kd (f k j))
  | .s :: _, j, 0 => .v (.string (o k j))
  | _ :: r, j, n + 1 => shAt f o k r (j + 1) n
def shAll (f : Nat → Nat → Int) (o : Nat → Nat → ByteArray) (k : Nat) : List CK → Nat → List AC
  | [], _ => []
  | .i kd :: r, j => .v (.int kd (f k j)) :: shAll f o k r (j + 1)
  | .s :: r, j => .v (.string (o k j)) :: shAll f o k r (j + 1)
def isOneT (P : Program) (t : TypeId) : Bool := one? (P.underlying t)
def ldBB (P : Program) (t : TypeId) (bb : BB) (k j : Nat) (viaEl : Bool) : Option AV :=
  match bb with
  | .cells cs => bif viaEl then none else bif isRowT P t then
      (bif Nat.blt 0 (sizeT P t) && Nat.ble (j + sizeT P t) cs.length then some (.agg ((cs.drop j).take (sizeT P t))) else none)
    else bif isOneT P t then some (.one (nthC cs j)) else none
  | .bools m n f => bif viaEl then (bif isRowT P t then (bif Nat.blt 0 (sizeT P t) && Nat.beq j 0 && Nat.beq (sizeT P t) m then some (.arr m (f k)) else none)
      else bif isOneT P t then some (.one (.v (.bool (f k j)))) else none)
    else (bif Nat.blt 0 (sizeT P t) && Nat.beq m 1 && Nat.beq (sizeT P t) n && isRowT P t && Nat.beq j 0 then some (.arr n (fun i => f i 0)) else none)
  | .row sh _ f o => bif viaEl then (bif isRowT P t then (bif Nat.blt 0 (sizeT P t) && Nat.beq j 0 && Nat.beq (sizeT P t) sh.length then some (.agg (shAll f o k sh 0)) else none)
      else bif isOneT P t then some (.one (shAt f o k sh 0 j)) else none)
    else none
/-- Where element k, cell j of a block lies: at k * sz + j. -/
def BB.sz : BB → Nat
  | .cells _ => 0
  | .bools m _ _ => m
  | .row sh _ _ _ => sh.length
def BB.n : BB → Nat
  | .cells _ => 0
  | .bools _ n _ => n
  | .row _ n _ _ => n
def okC : AC → Bool
  | .any => false
  | .v x => x.oneCell'
  | _ => true
def cellsA : AV → Option (List AC)
  | .one c => some [c]
  | .agg cs => some cs
  | _ => none
def spl (cs : List AC) (off : Nat) (vs : List AC) : List AC := cs.take off ++ vs ++ cs.drop (off + vs.length)
def updF (f : Nat → Nat → Int) (k j : Nat) (x : Int) : Nat → Nat → Int := fun k' j' => if k' = k ∧ j' = j then x else f k' j'
def updB (f : Nat → Nat → Bool) (k j : Nat) (x : Bool) : Nat → Nat → Bool := fun k' j' => if k' = k ∧ j' = j then x else f k' j'
def updB1 (f : Nat → Nat → Bool) (k : Nat) (g : Nat → Bool) : Nat → Nat → Bool := fun k' j' => if k' = k then g j' else f k' j'
/-- A list or block with one element turned. -/
def updRow (f : Nat → Nat → Int) (k : Nat) : List CK → List AC → Nat → Option (Nat → Nat → Int)
  | [], [], _ => some f
  | .i kd :: r, .v (.int kd' x) :: cs, j => bif decide (kd = kd') then updRow (updF f k j x) k r cs (j + 1) else none
  | _, _, _ => none
def stBB (P : Program) (t : TypeId) (bb : BB) (k j : Nat) (viaEl : Bool) (y : AV) : Option BB :=
  match bb with
  | .cells cs => bif viaEl then none else match cellsA y with
    | some vs => bif vs.all okC && Nat.blt 0 (sizeT P t) && Nat.beq vs.length (sizeT P t) && Nat.ble (j + vs.length) cs.length then some (.cells (spl cs j vs)) else none
    | none => none
  | .bools m n f => match y with
    | .one (.v (.bool x)) => bif viaEl && Nat.beq (sizeT P t) 1 then some (.bools m n (updB f k j x)) else none
    | .arr m' g => bif viaEl then (bif Nat.blt 0 (sizeT P t) && Nat.beq m m' && Nat.beq j 0 && Nat.beq (sizeT P t) m then some (.bools m n (updB1 f k g)) else none)
      else (bif Nat.blt 0 (sizeT P t) && Nat.beq m 1 && Nat.beq n m' && Nat.beq j 0 && Nat.beq (sizeT P t) n then some (.bools m n (fun i _ => g i)) else none)
    | _ => none
  | .row sh n f o => bif viaEl then match y with
      | .one (.v (.int kd x)) => (match sh[j]? with
        | some (.i kd') => bif decide (kd = kd') && Nat.beq (sizeT P t) 1 then some (.row sh n (updF f k j x) o) else none
        | _ => none)
      | .agg vs => bif Nat.blt 0 (sizeT P t) && Nat.beq j 0 && Nat.beq (sizeT P t) sh.length then (match updRow f k sh vs 0 with
        | some f' => some (.row sh n f' o)
        | none => none) else none
      | _ => none
    else none
def fieldOff (P : Program) (t : TypeId) (i : Nat) : Option (Nat × Nat) := match P.underlying t with
  | some (.struct fs) => match fs[i]? with
    | some f => some (f.offset, sizeT P f.type)
    | none => none
  | _ => none
def isAny : AV → Bool
  | .one .any => true
  | _ => false
def notTup : AV → Bool
  | .tup _ => false
  | _ => true
abbrev Out := Option (AV × AH)
structure Env where
  P : Program
  al : TypeId → Option BB
  /-- What must hold, the value, what is owned behind the call. -/
  ca : FuncId → List AV → AH → Option (Bool × AV × AH)
  /-- Calls that hand back a plain value and leave all as it was. -/
  q : FuncId → List AV → AH → Option (Bool × AV)
  qf : FuncId → Bool
  /-- Calls that add to what is owned, and turn nothing. -/
  kf : FuncId → Bool
  /-- Which slots count at a loop's head, by the number of its first region; behind a block, by its number. -/
  lv : Nat → Option (List Nat)
  bx : Nat → Option (List Nat)
  /-- Calls whose result (a number, a list's length) is told apart, one by one, below this. -/
  sp : FuncId → Option Nat
  /-- What a loop does, by the number of its first region. -/
  lp : Nat → Option (Nat → AS → (Exit → AS → Out) → Out)
  /-- Calls that are reckoned in place, what follows at each of their ends. -/
  cc : FuncId → Option (List AV → AH → (AV → AH → Out) → Out)
/-- The environment within what draws its order: nothing is made or turned. -/
def Env.still (E : Env) : Env := ⟨E.P, fun _ => none, fun f args h => match E.q f args h with
  | some (g, v) => some (g, v, h)
  | none => none, E.q, E.qf, fun _ => false, fun _ => none, fun _ => none, E.sp, fun _ => none, fun _ => none⟩
def placeT (P : Program) (t : TypeId) : Option (Nat → Option (Nat × Nat)) := match P.info? t, P.underlying t with
  | some _, some (.array _ e) => (match P.info? e with
    | some ie => some fun i => some (i * ie.size, ie.size)
    | none => none)
  | some _, some (.struct fields) => (match fields.toList.mapM (fun f => (P.info? f.type).map fun i => (f.offset, i.size)) with
    | some places => some fun i => places[i]?
    | none => none)
  | _, _ => none
def fillC (pl : Nat → Option (Nat × Nat)) : List AC → List (Nat × Option (List AC)) → Option (List AC)
  | cs, [] => some cs
  | cs, (i, some vs) :: r => match pl i with
    | some (off, sz) => bif Nat.beq vs.length sz && Nat.ble (off + vs.length) cs.length && vs.all okC then fillC pl (spl cs off vs) r else none
    | none => none
  | _, (_, none) :: _ => none
def partsA (st : AS) : List (Nat × Operand) → List (Nat × Option (List AC))
  | [] => []
  | (i, x) :: r => (i, cellsA (evA st x)) :: partsA st r
/-- An operation over plain values, by the model's own reckoning. -/
def runV (E : Env) (st : AS) (o : Oper) : Option (Bool × AV × AH) := match runP E.P (execOp (plainE st) o) with
  | some (.value v) => some (true, constA v, st.h)
  | _ => none
def eqK : CK → CK → Bool
  | .i a, .i b => decide (a = b)
  | .s, .s => true
  | _, _ => false
def eqSh : List CK → List CK → Bool
  | [], [] => true
  | a :: r, b :: s => eqK a b && eqSh r s
  | _, _ => false
def kindsV : List Value → Option (List CK)
  | [] => some []
  | .int k _ :: r => (match kindsV r with
    | some l => some (.i k :: l)
    | none => none)
  | .string _ :: r => (match kindsV r with
    | some l => some (.s :: l)
    | none => none)
  | _ => none
def shOfV : List Value → Option BB
  | .bool b :: r => some (.bools (r.length + 1) 0 fun _ _ => b)
  | vs => (match kindsV vs with
    | some sh => some (.row sh 0 (fun _ _ => 0) fun _ _ => ByteArray.empty)
    | none => none)
/-- An empty list of a type's rows. -/
def emptyB (P : Program) (e : TypeId) : Option BB := match zc P e with
  | some vs => shOfV vs
  | none => none
def catB : BB → BB → Option BB
  | .row sh n f o, .row sh' n' f' o' => bif eqSh sh sh' then some (.row sh (n + n') (fun k j => bif Nat.blt k n then f k j else f' (k - n) j) fun k j => bif Nat.blt k n then o k j else o' (k - n) j) else none
  | .bools m n f, .bools m' n' f' => bif Nat.beq m m' then some (.bools m (n + n') fun k j => bif Nat.blt k n then f k j else f' (k - n) j) else none
  | _, _ => none
def bytesT (P : Program) (t : TypeId) : Nat := match P.info? t with
  | some i => i.bytes
  | none => 0
/-- Another list in a list's stead. -/
def swap {α : Type} (id nx : Nat) (y : α) : List (Nat × α) → List (Nat × α)
  | [] => []
  | (j, x) :: r => bif Nat.beq id j then (nx, y) :: r else (j, x) :: swap id nx y r
def goodE (P : Program) (e : TypeId) (bb : BB) : Bool := match zc P e with
  | some z => Nat.blt 0 (sizeT P e) && Nat.beq bb.sz (sizeT P e) && Nat.beq z.length (sizeT P e) && Nat.ble (bytesT P e) 1048576
  | none => false
def allF : List Value → Bool
  | [] => true
  | .bool false :: r => allF r
  | _ => false
/-- append. -/
def appA (E : Env) (e : TypeId) (h : AH) (x y : AV) : Option (Bool × AV × AH) := match y with
  | .one (.ow idy) => (match look idy h.l with
    | some ly => (match x with
      | .one (.v (.slice none 0 0)) => (match emptyB E.P e, h with
        | some eb, ⟨b, l, nx⟩ => (match catB eb ly.bb with
          | some bb => bif goodE E.P e bb then some (Nat.ble ly.bb.n 1048576, .one (.ow nx), ⟨b, (nx, ⟨true, e, bb⟩) :: l, nx + 1⟩) else none
          | none => none)
        | none, _ => none)
      | .one (.ow idx) => (match look idx h.l, h with
        | some lx, ⟨b, l, nx⟩ => bif lx.own && Nat.beq lx.e e then (match catB lx.bb ly.bb with
          | some bb => bif goodE E.P e bb then some (Nat.ble (lx.bb.n + ly.bb.n) 1048576, .one (.ow nx), ⟨b, swap idx nx ⟨true, e, bb⟩ l, nx + 1⟩) else none
          | none => none) else none
        | none, _ => none)
      | _ => none)
    | none => none)
  | .one (.v (.slice none 0 0)) => (match x with
    | .one (.v (.slice none 0 0)) => bif Nat.blt 0 (sizeT E.P e) then some (true, .one (.v (.slice none 0 0)), h) else none
    | _ => none)
  | _ => none
def intAt (cs : List AC) (i : Nat) : Int := match nthC cs i with
  | .v (.int _ x) => x
  | _ => 0
def okC1 : CK → AC → Bool
  | .i k, .v (.int k' _) => decide (k = k')
  | _, _ => false
def okRow : List CK → List AC → Bool
  | [], cs => cs.isEmpty
  | c :: r, cs => match cs with
    | [] => false
    | d :: cs' => okC1 c d && okRow r cs'
def okRows (sh : List CK) (sz : Nat) : Nat → List AC → Bool
  | 0, [] => true
  | n + 1, cs => okRow sh (cs.take sz) && okRows sh sz n (cs.drop sz)
  | _, _ => false
/-- A list that is written out. -/
def buildA (E : Env) (st : AS) (t : TypeId) (len : Nat) (ps : List (Nat × Operand)) : Option (Bool × AV × AH) := match E.P.underlying t with
  | some (.slice e) => (match zc E.P e, emptyB E.P e, st.h with
    | some z, some (.row sh _ _ o), ⟨b, l, nx⟩ => bif goodE E.P e (.row sh 0 (fun _ _ => 0) o) && Nat.blt 0 len && Nat.ble (len * sizeT E.P e) 1000 && Nat.beq z.length (sizeT E.P e) then
        (match fillC (fun i => some (i * sizeT E.P e, sizeT E.P e)) ((List.range len).flatMap fun _ => z.map .v) (partsA st ps) with
        | some cs => bif okRows sh (sizeT E.P e) len cs then
            some (true, .one (.ow nx), ⟨b, (nx, ⟨true, e, .row sh len (bif Nat.beq len 1 then fun _ j => intAt cs j else fun k j => intAt cs (k * sizeT E.P e + j)) fun _ _ => ByteArray.empty⟩) :: l, nx + 1⟩) else none
        | none => none) else none
    | _, _, _ => none)
  | _ => none
def makeA (E : Env) (t : TypeId) (h : AH) (x : AV) : Option (Bool × AV × AH) := match E.P.underlying t, x, h with
  | some (.slice e), .one (.v (.int .i64 n)), ⟨b, l, nx⟩ => (match zc E.P e with
    | some z => bif goodE E.P e (.bools z.length 0 fun _ _ => false) && allF z then
        some (decide (0 ≤ n) && decide (n ≤ 100000), .one (.ow nx), ⟨b, (nx, ⟨true, e, .bools z.length n.toNat fun _ _ => false⟩) :: l, nx + 1⟩) else none
    | _ => none)
  | _, _, _ => none
def truncB (n : Nat) : BB → BB
  | .row sh _ f o => .row sh n f o
  | .bools m _ f => .bools m n f
  | b => b
/-- The first elements of a list of its own. -/
def firstA (E : Env) (t : TypeId) (h : AH) (x y : AV) : Option (Bool × AV × AH) := match E.P.underlying t, x, y, h with
  | some (.slice e), .one (.ow id), .one (.v (.int .i64 n)), ⟨b, l, nx⟩ => (match look id l with
    | some lb => bif lb.own && Nat.beq lb.e e && goodE E.P e lb.bb then
        some (decide (0 ≤ n) && decide (n ≤ (lb.bb.n : Int)), .one (.ow nx), ⟨b, swap id nx ⟨true, e, truncB n.toNat lb.bb⟩ l, nx + 1⟩) else none
    | none => none)
  | _, _, _, _ => none
/-- An array, from a place on. -/
def fromA (E : Env) (t : TypeId) (h : AH) (x y : AV) : Option (Bool × AV × AH) := match E.P.underlying t, x, y with
  | some (.array len e), .one (.pt id 0), .one (.v (.int .i64 (.ofNat l))) => bif Nat.blt 0 (sizeT E.P e) && Nat.blt l len then some (true, .one (.sl id (sizeT E.P e) l (len - l) (len - l)), h) else none
  | _, _, _ => none
/-- What makes or turns lists. -/
def evMore (E : Env) (st : AS) (o : Oper) : Option (Bool × AV × AH) := match o.op with
  | .call { callee := .builtin .append, args, argTypes } => (match args.toList, argTypes.toList with
    | [x, y], [t, t'] => bif Nat.beq t t' && Nat.beq t o.type then (match E.P.underlying t with
      | some (.slice e) => appA E e st.h (evA st x) (evA st y)
      | _ => none) else none
    | _, _ => none)
  | .buildSlice t len ps => buildA E st t len ps.toList
  | .makeSlice t x y => (match evA st y, evA st x with
    | .one (.v (.int .i64 m)), .one (.v (.int .i64 n)) => (match makeA E t st.h (evA st x) with
      | some (g, v, h) => some (decide (n = m) && g, v, h)
      | none => none)
    | _, _ => none)
  | .slice t x none (some y) none => firstA E t st.h (evA st x) (evA st y)
  | .slice t x (some y) none none => fromA E t st.h (evA st x) (evA st y)
  | _ => none
/-- Element n of a slice of a block. -/
def slAt (h : AH) (id sz s m : Nat) (n : Int) : Option (Bool × AC) := match look id h.b with
  | some (_, .cells _) => (match n with
    | .ofNat k => some (Nat.blt k m, .pt id ((s + k) * sz))
    | _ => none)
  | _ => some (decide (0 ≤ n) && decide (n < (m : Int)), .el false id sz (s + n.toNat) 0)
/-- Are two cells of a type the same? -/
def cellEq (P : Program) (e : TypeId) (x y : AC) : Option Bool := match P.underlying e, x, y with
  | some (.int _), .v (.int k a), .v (.int k' b) => bif decide (k = k') then some (a == b) else none
  | some .bool, .v (.bool a), .v (.bool b) => some (a == b)
  | _, _, _ => none
def itemsEq (P : Program) (e : TypeId) (xs ys : List AC) : List Nat → Option Bool
  | [] => some true
  | i :: is => match cellEq P e (nthC xs i) (nthC ys i), itemsEq P e xs ys is with
    | some r, some r' => some (r && r')
    | _, _ => none
def fieldsEq (P : Program) (xs ys : List AC) : List Field → Option Bool
  | [] => some true
  | f :: fs => bif f.name == "_" then none else match cellEq P f.type (nthC xs f.offset) (nthC ys f.offset), fieldsEq P xs ys fs with
    | some r, some r' => some (r && r')
    | _, _ => none
def aggEq (P : Program) (t : TypeId) (xs ys : List AC) : Option Bool := match P.underlying t with
  | some (.array n e) => bif Nat.beq (P.cellsOf e) 1 && !(P.eqGuardType P.depth t) && (match P.info? e with
    | some _ => true
    | none => false) then itemsEq P e xs ys (List.range n) else none
  | some (.struct fs) => bif !(P.stoodInHeld t) && !(P.eqGuardType P.depth t) then fieldsEq P xs ys fs.toList else none
  | _ => none
def baseA : AV → Bool
  | .one .any => false
  | .one _ => true
  | .agg _ => true
  | .arr _ _ => true
  | _ => false
/-- Which function is called. -/
def calleeF (st : AS) : Operand → Option (FuncId × List AV)
  | .func f => some (f, [])
  | x => match evA st x with
    | .one (.v (.func (.func f) a b)) => bif a.isEmpty && b.isEmpty then some (f, []) else none
    | .clo f vs => bif vs.all baseA then some (f, vs) else none
    | _ => none
def byteS (s : ByteArray) (k : Nat) : Int := ((s.data.toList.getD k 0).toNat : Int)
/-- One operation: what must hold of numbers, the value, what the call owns behind it. -/
def evOp (E : Env) (st : AS) (o : Oper) : Option (Bool × AV × AH) :=
  match o.op with
  | .move x => some (true, evA st x, st.h)
  | .assign x => some (true, evA st x, st.h)
  | .alloc t => match E.al t, st.h with
    | some bb, ⟨b, l, nx⟩ => some (true, .one (.pt nx 0), ⟨(nx, t, bb) :: b, l, nx + 1⟩)
    | none, _ => none
  | .box t x => match cellsA (evA st x) with
    | some cs => (match st.h with
      | ⟨b, l, nx⟩ => bif cs.all okC then some (true, .one (.pt nx 0), ⟨(nx, t, .cells cs) :: b, l, nx + 1⟩) else none)
    | none => none
  | .load t x => match evA st x with
    | .one (.pt id off) => (match look id st.h.b with
      | some (_, bb) => (match ldBB E.P t bb 0 off false with
        | some v => bif isAny v then none else some (true, v, st.h)
        | none => none)
      | none => none)
    | .one (.el false id sz k j) => (match look id st.h.b with
      | some (_, bb) => bif Nat.beq sz bb.sz then (match ldBB E.P t bb k j true with
        | some v => bif isAny v then none else some (decide (k < bb.n) && decide (j < bb.sz), v, st.h)
        | none => none) else none
      | none => none)
    | .one (.el true id sz k j) => (match look id st.h.l with
      | some lb => bif Nat.beq sz lb.bb.sz then (match ldBB E.P t lb.bb k j true with
        | some v => bif isAny v then none else some (decide (k < lb.bb.n) && decide (j < lb.bb.sz), v, st.h)
        | none => none) else none
      | none => none)
    | _ => none
  | .store t x y => match evA st x with
    | .one (.pt id off) => (match look id st.h.b with
      | some (bt, bb) => (match stBB E.P t bb 0 off false (evA st y) with
        | some bb' => some (true, .one .any, ⟨over id (bt, bb') st.h.b, st.h.l, st.h.nx⟩)
        | none => none)
      | none => none)
    | .one (.el false id sz k j) => (match look id st.h.b with
      | some (bt, bb) => bif Nat.beq sz bb.sz then (match stBB E.P t bb k j true (evA st y) with
        | some bb' => some (decide (k < bb.n) && decide (j < bb.sz), .one .any, ⟨over id (bt, bb') st.h.b, st.h.l, st.h.nx⟩)
        | none => none) else none
      | none => none)
    | .one (.el true id sz k j) => (match look id st.h.l with
      | some lb => bif lb.own && Nat.beq sz lb.bb.sz then (match stBB E.P t lb.bb k j true (evA st y) with
        | some bb' => some (decide (k < lb.bb.n) && decide (j < lb.bb.sz), .one .any, ⟨st.h.b, over id ⟨true, lb.e, bb'⟩ st.h.l, st.h.nx⟩)
        | none => none) else none
      | none => none)
    | _ => none
  | .fieldAddr t x i => match fieldOff E.P t i with
    | some (off, sz) => bif Nat.beq sz 0 then none else (match evA st x with
      | .one (.pt id o) => some (true, .one (.pt id (o + off)), st.h)
      | .one (.el l id s k j) => some (true, .one (.el l id s k (j + off)), st.h)
      | _ => none)
    | none => none
  | .indexAddr t x i => match evA st i with
    | .one (.v (.int _ n)) => (match E.P.underlying t with
      | some (.array len e) => bif Nat.blt 0 (sizeT E.P e) && Nat.blt 1 len then (match evA st x with
        | .one (.pt id 0) => (match look id st.h.b with
          | some (_, .cells _) => (match n with
            | .ofNat m => some (Nat.blt m len, .one (.pt id (m * sizeT E.P e)), st.h)
            | _ => none)
          | some (_, bb) => bif Nat.beq bb.sz (sizeT E.P e) then some (decide (0 ≤ n) && decide (n < (len : Int)), .one (.el false id (sizeT E.P e) n.toNat 0), st.h) else none
          | none => none)
        | .one (.pt id off) => (match n with
            | .ofNat m => some (Nat.blt m len, .one (.pt id (off + m * sizeT E.P e)), st.h)
            | _ => none)
        | .one (.el l id sz k 0) => bif Nat.beq (sizeT E.P e) 1 then some (decide (0 ≤ n) && decide (n < (len : Int)), .one (.el l id sz k n.toNat), st.h) else none
        | _ => none) else none
      | some (.slice e) => bif Nat.blt 0 (sizeT E.P e) then (match evA st x with
        | .one (.ow id) => (match look id st.h.l with
          | some lb => bif Nat.beq lb.bb.sz (sizeT E.P e) then some (decide (0 ≤ n) && decide (n < (lb.bb.n : Int)), .one (.el true id (sizeT E.P e) n.toNat 0), st.h) else none
          | none => none)
        | .one (.sl id sz s m _) => bif Nat.beq sz (sizeT E.P e) then (match slAt st.h id sz s m n with
          | some (g, c) => some (g, .one c, st.h)
          | none => none) else none
        | _ => none) else none
      | _ => none)
    | _ => none
  | .nilCheck x => match evA st x with
    | .one (.pt id o) => some (true, .one (.pt id o), st.h)
    | .one (.el l id s k j) => some (true, .one (.el l id s k j), st.h)
    | _ => none
  | .extract x i => match evA st x with
    | .tup vs => bif Nat.blt i vs.length && notTup (getA vs i) && !isAny (getA vs i) then some (true, getA vs i, st.h) else none
    | _ => none
  | .call { callee := .builtin .len, args, argTypes } => match args.toList, argTypes.toList with
    | [x], [t] => (match E.P.underlying t, evA st x with
      | some (.slice _), .one (.ow id) => (match look id st.h.l with
        | some lb => some (true, .one (.v (.int .i64 lb.bb.n)), st.h)
        | none => none)
      | some (.slice _), .one (.sl _ _ _ n _) => some (true, .one (.v (.int .i64 n)), st.h)
      | some (.slice _), .one (.v (.slice none n _)) => some (true, .one (.v (.int .i64 n)), st.h)
      | _, _ => none)
    | _, _ => none
  | .call { callee := .value x, args, .. } => match calleeF st x with
    | some (f, vs) => (match E.ca f (args.toList.map (evA st) ++ vs) st.h with
      | some (g, v, h) => some (g, v, h)
      | none => none)
    | none => none
  | .makeFunc (.func f) first caps => bif first.isEmpty && (caps.toList.map (evA st)).all baseA then some (true, .clo f (caps.toList.map (evA st)), st.h) else none
  | .binOp b t x y _ => bif isPlain st x && isPlain st y then (match b, evA st x, evA st y with
    | .eql, .agg xs, .agg ys => (match aggEq E.P t xs ys with
      | some r => some (true, .one (.v (.bool r)), st.h)
      | none => none)
    | .neq, .agg xs, .agg ys => (match aggEq E.P t xs ys with
      | some r => some (true, .one (.v (.bool (!r))), st.h)
      | none => none)
    | .shl, .one (.v (.int k m)), .one (.v (.int _ n)) => some (decide (0 ≤ n), .one (.v (.int k (k.wrap (m * 2 ^ min n.toNat k.bits)))), st.h)
    | .shr, .one (.v (.int k m)), .one (.v (.int _ n)) => some (decide (0 ≤ n), .one (.v (.int k (m.fdiv (2 ^ min n.toNat k.bits)))), st.h)
    | .quo, .one (.v (.int k m)), .one (.v (.int k' n)) => bif decide (k = k') then some (!(n == 0), .one (.v (.int k (k.wrap (m.tdiv n)))), st.h) else none
    | .rem, .one (.v (.int k m)), .one (.v (.int k' n)) => bif decide (k = k') then some (!(n == 0), .one (.v (.int k (m.tmod n))), st.h) else none
    | _, _, _ => runV E st o) else none
  | .unOp _ _ x => bif isPlain st x then runV E st o else none
  | .convert _ _ x => bif isPlain st x then runV E st o else none
  | .build t ps => match zc E.P t with
    | some z => (match placeT E.P t with
      | some pl => (match fillC pl (z.map .v) (partsA st ps.toList) with
        | some cs => some (true, .agg cs, st.h)
        | none => none)
      | none => none)
    | none => none
  | .field _ x _ => bif isPlain st x then runV E st o else none
  | .index t x y => (match evA st x, evA st y with
    | .one (.v (.string s)), .one (.v (.int _ n)) => (match E.P.underlying t with
      | some .string => some (decide (0 ≤ n) && decide (n < (s.size : Int)), .one (.v (.int .u8 (byteS s n.toNat))), st.h)
      | _ => none)
    | .arr m f, .one (.v (.int _ n)) => (match E.P.underlying t with
      | some (.array len e) => (match E.P.underlying e with
        | some .bool => bif Nat.beq len m && Nat.beq (sizeT E.P e) 1 then some (decide (0 ≤ n) && decide (n < (len : Int)), .one (.v (.bool (f n.toNat))), st.h) else none
        | _ => none)
      | _ => none)
    | _, _ => bif isPlain st x && isPlain st y then runV E st o else none)
  | .call { callee := .builtin .min, args, .. } => bif args.toList.all (isPlain st) then runV E st o else none
  | .call { callee := .builtin .max, args, .. } => bif args.toList.all (isPlain st) then runV E st o else none
  | _ => evMore E st o
/-- The same value, reckoned first. -/
def forceV (v : AV) (k : AV → Out) : Out := match v with
  | .one (.v (.int kd n)) => k (.one (.v (.int kd n)))
  | .one (.v (.bool b)) => k (.one (.v (.bool b)))
  | .one (.v x) => k (.one (.v x))
  | .one (.pt i o) => k (.one (.pt i o))
  | .one (.el l i s n j) => k (.one (.el l i s n j))
  | .one (.ow i) => k (.one (.ow i))
  | .one (.sl i s m n c) => k (.one (.sl i s m n c))
  | .one .any => k (.one .any)
  | .agg cs => k (.agg cs)
  | .arr n f => k (.arr n f)
  | .tup vs => k (.tup vs)
  | .clo f vs => k (.clo f vs)
def putS : List AV → Nat → AV → (List AV → Out) → Out
  | [], _, _, k => k []
  | _ :: r, 0, y, k => k (y :: r)
  | x :: r, n + 1, y, k => putS r n y fun r' => k (x :: r')
def putD (fr : List AV) (d : Option Tmp) (v : AV) (k : List AV → Out) : Out := match d with
  | some t => forceV v fun v' => putS fr t v' k
  | none => k fr
def splitI (kd : IntKind) (n : Int) (k : AV → Out) : Nat → Nat → Out
  | 0, _ => none
  | m + 1, j => bif n == .ofNat j then k (.one (.v (.int kd (.ofNat j)))) else splitI kd n k m (j + 1)
def splitL (sh : List CK) (n : Nat) (k : BB → Out) (f : Nat → Nat → Int) (o : Nat → Nat → ByteArray) : Nat → Nat → Out
  | 0, _ => none
  | m + 1, j => bif Nat.beq n j then k (.row sh j f o) else splitL sh n k f o m (j + 1)
/-- A number is told apart, or a list's length. -/
def splitV (s : Option Nat) (v : AV) (h : AH) (k : AV → AH → Out) : Out := match s with
  | none => k v h
  | some m => match v with
    | .one (.v (.int kd n)) => splitI kd n (fun v' => k v' h) m 0
    | .one (.ow id) => (match look id h.l with
      | some ⟨own, e, .row sh n f o⟩ => splitL sh n (fun bb => k (.one (.ow id)) ⟨h.b, over id ⟨own, e, bb⟩ h.l, h.nx⟩) f o m 0
      | _ => k (.one (.ow id)) h)
    | v => k v h
def spOf (E : Env) (op : Op) : Option Nat := match op with
  | .call { callee := .value (.func f), .. } => E.sp f
  | _ => none
/-- A call that is reckoned in place. -/
def ccOf (E : Env) (st : AS) : Op → Option ((List AV → AH → (AV → AH → Out) → Out) × List AV)
  | .call { callee := .value x, args, .. } => (match calleeF st x with
    | some (f, vs) => (match E.cc f with
      | some g => some (g, args.toList.map (evA st) ++ vs)
      | none => none)
    | none => none)
  | _ => none
def evVal (E : Env) (st : AS) (o : Oper) (k : AV → AH → Out) : Out := match ccOf E st o.op with
  | some (g, args) => g args st.h k
  | none => match evOp E st o with
    | some (g, v, ⟨b, l, nx⟩) => bif g then splitV (spOf E o.op) v ⟨b, l, nx⟩ k else none
    | none => none
def evOne (E : Env) (st : AS) (o : Oper) (k : AS → Out) : Out := evVal E st o fun v' h' => putD st.fr o.dst v' fun fr => k ⟨fr, h'⟩
/-- Values that were reckoned ahead of a guard: slot t holds v if slot d holds the Bool w, else nothing. -/
abbrev SP := List (Nat × Nat × Bool × AV)
def trimS (t : Nat) : SP → SP
  | [] => []
  | (t', d, w, v) :: r => bif Nat.beq t t' || Nat.beq t d then trimS t r else (t', d, w, v) :: trimS t r
def trimD (d : Option Tmp) (sp : SP) : SP := match d with
  | some t => trimS t sp
  | none => sp
def beqB : Bool → Bool → Bool
  | true, b => b
  | false, b => !b
def findS (t : Nat) : SP → Option (Nat × Bool × AV)
  | [] => none
  | (t', d, w, v) :: r => bif Nat.beq t t' then some (d, w, v) else findS t r
/-- What holds where slot d holds the Bool w. -/
def tags (sp : SP) : Nat → Nat → Bool → List (Nat × Bool)
  | 0, d, w => [(d, w)]
  | n + 1, d, w => (d, w) :: match findS d sp with
    | some (d', w', _) => tags sp n d' w'
    | none => []
def hasTag (d : Nat) (w : Bool) : List (Nat × Bool) → Bool
  | [] => false
  | (d', w') :: r => (Nat.beq d d' && beqB w w') || hasTag d w r
def layS (A : List (Nat × Bool)) : SP → List AV → List AV
  | [], fr => fr
  | (t, d, w, v) :: r, fr => bif hasTag d w A then putA (layS A r fr) t v else layS A r fr
/-- Split: the values of guard d, now that it is known. -/
def settle (d : Nat) (b : Bool) : SP → List AV → List AV
  | [], fr => fr
  | (t, d', w, v) :: r, fr => bif Nat.beq d d' then (bif beqB w b then putA (settle d b r fr) t v else putA (settle d b r fr) t (.one (.v undef))) else settle d b r fr
def dropD (d : Nat) : SP → SP
  | [] => []
  | (t, d', w, v) :: r => bif Nat.beq d d' then dropD d r else (t, d', w, v) :: dropD d r
/-- Operators that may stop. -/
def stopBin : BinOp → Bool
  | .shl | .shr | .quo | .rem => true
  | _ => false
def pureOp (st : AS) : Op → Bool
  | .binOp b .. => !(stopBin b)
  | .move _ | .unOp .. | .convert .. | .fieldAddr .. | .nilCheck _ | .field .. => true
  | .call { callee := .builtin .len, .. } => true
  | .load _ x => match evA st x with
    | .one (.pt _ _) => true
    | _ => false
  | _ => false
def asB : AV → Option Bool
  | .one (.v (.bool b)) => some b
  | _ => none
def underS (sp : SP) (st : AS) (c : Operand) (w : Bool) (x : Operand) : AV := match c, x with
  | .tmp d, .tmp t => (match findS t sp with
    | some (d', w', v) => bif Nat.beq d d' && beqB w w' then v else .one .any
    | none => getA st.fr t)
  | _, x => evA st x
def pickA (sp : SP) (st : AS) (c x y : Operand) : Option (Bool × AV) := match evA st c with
  | .one (.v (.bool b)) => (match asB (underS sp st c true x), asB (underS sp st c false y) with
    | some p, some q => some (true, .one (.v (.bool (bif b then p else q))))
    | some p, none => some (b, .one (.v (.bool p)))
    | none, some q => some (!b, .one (.v (.bool q)))
    | none, none => none)
  | _ => none
def specA (E : Env) (st : AS) (sp : SP) (d : Nat) (w : Bool) (o : Oper) : Option AV :=
  match o.op with
  | .pick c x y => match pickA sp ⟨layS (tags sp 5 d w) sp st.fr, st.h⟩ c x y with
    | some (true, v) => some v
    | _ => none
  | op => bif pureOp ⟨layS (tags sp 5 d w) sp st.fr, st.h⟩ op then (match evOp E ⟨layS (tags sp 5 d w) sp st.fr, st.h⟩ o with
    | some (_, v, _) => some v
    | none => none) else none
def guardSlot (ops : Array Oper) (j : Nat) : Option Nat := match ops[j]? with
  | some o => o.dst
  | none => none
/-- A guarded operation. -/
def evG (E : Env) (o : Oper) (d t : Nat) (w : Bool) (next : AS → SP → Out) : Nat → AS → SP → Out
  | 0, _, _ => none
  | r + 1, st, sp => match specA E st sp d w o with
    | some v => bif Nat.beq t d || Nat.ble st.fr.length t then none else forceV v fun v' => putS st.fr t (.one .any) fun fr => next ⟨fr, st.h⟩ ((t, d, w, v') :: trimS t sp)
    | none => match findS d sp with
      | some (d', _, _) => (match findS d' sp, getA st.fr d' with
        | none, .one (.v (.bool b)) => bif b then evG E o d t w next r ⟨settle d' true sp (putA st.fr d' (.one (.v (.bool true)))), st.h⟩ (dropD d' sp)
          else evG E o d t w next r ⟨settle d' false sp (putA st.fr d' (.one (.v (.bool false)))), st.h⟩ (dropD d' sp)
        | _, _ => none)
      | none => match getA st.fr d with
        | .one (.v (.bool b)) => bif b then
            (match settle d true sp (putA st.fr d (.one (.v (.bool true)))) with
            | fr => bif w then evOne E ⟨fr, st.h⟩ o fun st' => next st' (trimS t (dropD d sp))
              else putS fr t (.one (.v undef)) fun fr' => next ⟨fr', st.h⟩ (trimS t (dropD d sp)))
          else
            (match settle d false sp (putA st.fr d (.one (.v (.bool false)))) with
            | fr => bif w then putS fr t (.one (.v undef)) fun fr' => next ⟨fr', st.h⟩ (trimS t (dropD d sp))
              else evOne E ⟨fr, st.h⟩ o fun st' => next st' (trimS t (dropD d sp)))
        | .one (.v (.tuple _)) => putS st.fr t (.one (.v undef)) fun fr' => next ⟨fr', st.h⟩ (trimS t sp)
        | _ => none
def evOps (E : Env) (ops : Array Oper) : List Oper → AS → SP → (AS → Out) → Out
  | [], st, _, k => k st
  | o :: rest, st, sp, k => match o.guard with
    | none => (match o.op with
      | .pick c x y => (match pickA sp st c x y with
        | some (g, v) => bif g then putD st.fr o.dst v fun fr => evOps E ops rest ⟨fr, st.h⟩ (trimD o.dst sp) k else none
        | none => none)
      | _ => evOne E st o fun st' => evOps E ops rest st' (trimD o.dst sp) k)
    | some (j, w) => match guardSlot ops j, o.dst with
      | some d, some t => evG E o d t w (fun st' sp' => evOps E ops rest st' sp' k) 4 st sp
      | _, _ => none
/-- Operations that make or turn something. -/
def loudOp (qf : FuncId → Bool) : Op → Bool
  | .alloc _ | .box .. | .store .. => true
  | .call { callee := .value (.func f), .. } => !(qf f)
  | .call { callee := .value _, .. } => true
  | .call { callee := .builtin .append, .. } => true
  | .buildSlice .. | .makeSlice .. | .slice .. => true
  | _ => false
/-- How many operations stand ahead of the first one that makes or turns something. -/
def headN (qf : FuncId → Bool) : List Oper → Nat
  | [] => 0
  | o :: r => bif loudOp qf o.op then 0 else headN qf r + 1
/-- Does each operation lean on those ahead of it alone? -/
def backB : Nat → List Oper → Bool
  | _, [] => true
  | i, o :: r => o.after.toList.all (fun e => Nat.blt e.on i) && (match o.guard with | some (j, _) => Nat.blt j i | none => true) && backB (i + 1) r
/-- May the first n come in any order, the others one behind the other? -/
def tailOk (ops : Array Oper) (n : Nat) : Bool :=
  bif Nat.beq n ops.size then Region.lexB .any ops else
  Region.lexB .any (ops.toList.take n).toArray && Nat.blt n ops.size && backB 0 (ops.toList.take n) && Region.sinkB .any ops n && Region.chainB .any ops n &&
  Region.seqB .any ops (ops.size - n) n (((List.range ops.size).map (fun i => Nat.blt i n)).toArray)
/-- Reads and reckons alone, and is no call. -/
def quietNC (op : Op) : Bool := !(loudOp (fun _ => false) op)
/-- Turns nothing that is owned. -/
def keepsOp (kf : FuncId → Bool) : Op → Bool
  | .store .. | .slice .. => false
  | .call { callee := .value (.func f), .. } => kf f
  | .call { callee := .value _, .. } => false
  | .call { callee := .builtin .append, .. } => false
  | .alloc _ | .box .. | .buildSlice .. | .makeSlice .. => true
  | op => quietNC op
/-- Is a slot that of a variable that is made here? -/
def newAt (ops : Array Oper) (t : Nat) : Bool := ops.toList.any fun o => match o.op, o.guard, o.dst with
  | .alloc _, none, some d => Nat.beq d t
  | _, _, _ => false
/-- Turns nothing that was there ahead of the region. -/
def keepsO (kf : FuncId → Bool) (ops : Array Oper) (o : Oper) : Bool := match o.op, o.guard with
  | .store _ (.tmp t) _, none => newAt ops t
  | op, _ => keepsOp kf op
/-- A store into a variable that is made here leads to a new one. -/
def freshS (ops : Array Oper) (nx : Nat) (o : Oper) (fr : List AV) : Bool := match o.op, o.guard with
  | .store _ (.tmp t) _, none => bif newAt ops t then (match getA fr t with
    | .one (.pt id _) => Nat.ble nx id
    | _ => false) else true
  | _, _ => true
def keepsAt (kf : FuncId → Bool) (ops : Array Oper) (j : Nat) : Bool := match ops[j]? with
  | some o => keepsO kf ops o
  | none => true
def freeD (kf : FuncId → Bool) (ops : Array Oper) (listed : Array Bool) (i : Nat) : Bool :=
  (List.range ops.size).all fun j => j == i || listed.getD j true || match ops[j]? with
    | some oj => oj.after.any (fun e => Region.binds .any e && e.on == i) || keepsO kf ops oj
    | none => true
/-- The first one that may be taken first. -/
def pickH (kf : FuncId → Bool) (ops : Array Oper) (listed : Array Bool) : List Nat → Option Nat
  | [] => none
  | i :: r => match ops[i]? with
    | some o => bif quietNC o.op && keepsOp kf o.op && Region.free .any ops listed i && freeD kf ops listed i then some i else pickH kf ops listed r
    | none => pickH kf ops listed r
def consP (x : Nat × Bool) : Option (List (Nat × Bool)) → Option (List (Nat × Bool))
  | some l => some (x :: l)
  | none => none
def isAl (o : Oper) : Bool := match o.op, o.guard, o.dst with
  | .alloc _, none, some _ => true
  | _, _, _ => false
def isOne (i : Nat) : List Nat → Bool
  | [x] => Nat.beq x i
  | _ => false
/-- Two variables that are made, in either order. -/
def twoA (ops : Array Oper) (listed : Array Bool) (i j : Nat) : Bool := match ops[i]?, ops[j]? with
  | some oi, some oj => isAl oi && isAl oj && !(oi.dst == oj.dst) && isOne j (Region.ready .any ops (listed.setIfInBounds i true)) && isOne i (Region.ready .any ops (listed.setIfInBounds j true))
  | _, _ => false
/-- An order that stands for all: what reads and reckons is taken first; what is left comes one behind the other. -/
def planP (kf : FuncId → Bool) (ops : Array Oper) : Nat → Bool → Array Bool → Option (List (Nat × Bool))
  | 0, _, listed => bif (Region.ready .any ops listed).isEmpty then some [] else none
  | f + 1, c, listed => match Region.ready .any ops listed with
    | [] => some []
    | i :: rs => match (bif c then pickH kf ops listed (i :: rs) else none) with
      | some j => consP (j, true) (planP kf ops f c (listed.setIfInBounds j true))
      | none => match rs with
        | [] => consP (i, false) (planP kf ops f (c && keepsAt kf ops i) (listed.setIfInBounds i true))
        | [j] => bif twoA ops listed i j then consP (i, false) (planP kf ops f (c && keepsAt kf ops i) (listed.setIfInBounds i true)) else none
        | _ :: _ :: _ => none
/-- An operation that is carried out. -/
def evOne1 (E : Env) (o : Oper) (st : AS) (next : AS → Out) : Out := match o.op with
  | .pick c x y => (match pickA [] st c x y with
    | some (g, v) => bif g then putD st.fr o.dst v fun fr => next ⟨fr, st.h⟩ else none
    | none => none)
  | _ => evOne E st o next
/-- One operation; its guard is told apart. -/
def evStep1 (E : Env) (ops : Array Oper) (o : Oper) (st : AS) (next : AS → Out) : Out := match o.guard with
  | none => evOne1 E o st next
  | some (j, w) => match guardSlot ops j with
    | some d => (match getA st.fr d with
      | .one (.v (.bool b)) => bif b then
          (bif w then evOne1 E o ⟨putA st.fr d (.one (.v (.bool true))), st.h⟩ next else putD (putA st.fr d (.one (.v (.bool true)))) o.dst (.one (.v undef)) fun fr => next ⟨fr, st.h⟩)
        else
          (bif w then putD (putA st.fr d (.one (.v (.bool false)))) o.dst (.one (.v undef)) fun fr => next ⟨fr, st.h⟩ else evOne1 E o ⟨putA st.fr d (.one (.v (.bool false))), st.h⟩ next)
      | .one (.v (.tuple _)) => putD st.fr o.dst (.one (.v undef)) fun fr => next ⟨fr, st.h⟩
      | _ => none)
    | none => none
def evP (E : Env) (ops : Array Oper) (h0 : AH) (k : AS → Out) : List (Nat × Bool) → AS → Out
  | [], st => k st
  | (i, q) :: r, ⟨fr, b, l, nx⟩ => match ops[i]? with
    | some o => bif q then evStep1 E.still ops o ⟨fr, h0.b, h0.l, nx⟩ fun st' => evP E ops h0 k r ⟨st'.fr, b, l, nx⟩
      else bif freshS ops h0.nx o fr then evStep1 E ops o ⟨fr, b, l, nx⟩ fun st' => evP E ops h0 k r st' else none
    | none => none
def ltC (nx : Nat) : AC → Bool
  | .pt i _ => Nat.blt i nx
  | .el _ i _ _ _ => Nat.blt i nx
  | .ow i => Nat.blt i nx
  | .sl i _ _ _ _ => Nat.blt i nx
  | _ => true
def ltB (nx : Nat) : List (Nat × TypeId × BB) → Bool
  | [] => true
  | (i, _, .cells cs) :: r => Nat.blt i nx && cs.all (ltC nx) && ltB nx r
  | (i, _, _) :: r => Nat.blt i nx && ltB nx r
def ltL (nx : Nat) : List (Nat × LB) → Bool
  | [] => true
  | (i, _) :: r => Nat.blt i nx && ltL nx r
def evD (E : Env) (ops : Array Oper) (st : AS) (k : AS → Out) : Out :=
  bif tailOk ops (headN E.qf ops.toList) then
    evOps E.still (ops.toList.take (headN E.qf ops.toList)).toArray (ops.toList.take (headN E.qf ops.toList)) st [] fun st' => evOps E ops (ops.toList.drop (headN E.qf ops.toList)) st' [] k
  else bif Region.noSelect ops && ltB st.h.nx st.h.b && ltL st.h.nx st.h.l then (match planP E.kf ops ops.size true (Array.replicate ops.size false) with
    | some seq => evP E ops st.h k seq st
    | none => none) else none
def setO (st : AS) (c : Operand) (b : Bool) (k : List AV → Out) : Out := match c with
  | .tmp t => putS st.fr t (.one (.v (.bool b))) k
  | _ => k st.fr
def memN (i : Nat) : List Nat → Bool
  | [] => false
  | j :: r => bif Nat.beq i j then true else memN i r
def posN (i : Nat) : List Nat → Nat → Option Nat
  | [], _ => none
  | j :: r, p => bif Nat.beq i j then some p else posN i r (p + 1)
def addN (m : Nat) (acc : List Nat) (i : Nat) : List Nat := bif Nat.blt i m || memN i acc then acc else acc ++ [i]
def idC (m : Nat) (acc : List Nat) : AC → List Nat
  | .pt i _ => addN m acc i
  | .el _ i _ _ _ => addN m acc i
  | .ow i => addN m acc i
  | .sl i _ _ _ _ => addN m acc i
  | _ => acc
def idCs (m : Nat) : List Nat → List AC → List Nat
  | acc, [] => acc
  | acc, c :: r => idCs m (idC m acc c) r
def idV (m : Nat) (acc : List Nat) : AV → List Nat
  | .one c => idC m acc c
  | .agg cs => idCs m acc cs
  | _ => acc
def idVs (m : Nat) : List Nat → List AV → List Nat
  | acc, [] => acc
  | acc, v :: r => idVs m (idV m acc v) r
def idF (m : Nat) (keep : List Nat) : List Nat → Nat → List AV → List Nat
  | acc, _, [] => acc
  | acc, i, v :: r => idF m keep (bif memN i keep then (match v with
    | .one c => idC m acc c
    | .agg cs => idCs m acc cs
    | .clo _ vs => idVs m acc vs
    | _ => acc) else acc) (i + 1) r
def idB (m : Nat) : List Nat → List (Nat × TypeId × BB) → List Nat
  | acc, [] => acc
  | acc, (i, _, bb) :: r => idB m (bif Nat.blt i m || memN i acc then (match bb with
    | .cells cs => idCs m acc cs
    | _ => acc) else acc) r
def ren1 (m : Nat) (ord : List Nat) (i : Nat) : Option Nat := bif Nat.blt i m then some i else posN i ord m
def renC (m : Nat) (ord : List Nat) : AC → AC
  | .v x => .v x
  | .pt i o => (match ren1 m ord i with
    | some i' => .pt i' o
    | none => .any)
  | .el l i s k j => (match ren1 m ord i with
    | some i' => .el l i' s k j
    | none => .any)
  | .ow i => (match ren1 m ord i with
    | some i' => .ow i'
    | none => .any)
  | .sl i s a n c => (match ren1 m ord i with
    | some i' => .sl i' s a n c
    | none => .any)
  | .any => .any
def renCs (m : Nat) (ord : List Nat) : List AC → (List AC → Out) → Out
  | [], k => k []
  | c :: r, k => match renC m ord c with
    | .any => none
    | .v x => renCs m ord r fun l => k (.v x :: l)
    | .pt i o => renCs m ord r fun l => k (.pt i o :: l)
    | .el a i s q j => renCs m ord r fun l => k (.el a i s q j :: l)
    | .ow i => renCs m ord r fun l => k (.ow i :: l)
    | .sl i s a n q => renCs m ord r fun l => k (.sl i s a n q :: l)
def renA1 (m : Nat) (ord : List Nat) (v : AV) (k : AV → Out) : Out := match v with
  | .one c => (match renC m ord c with
    | .any => none
    | c' => forceV (.one c') k)
  | .agg cs => renCs m ord cs fun cs' => k (.agg cs')
  | .arr n f => k (.arr n f)
  | _ => none
def renVs (m : Nat) (ord : List Nat) : List AV → (List AV → Out) → Out
  | [], k => k []
  | v :: r, k => renA1 m ord v fun v' => renVs m ord r fun l => k (v' :: l)
def renF (m : Nat) (keep ord : List Nat) : Nat → List AV → (List AV → Out) → Out
  | _, [], k => k []
  | i, v :: r, k => bif memN i keep then (match v with
      | .one c => forceV (.one (renC m ord c)) fun v' => renF m keep ord (i + 1) r fun l => k (v' :: l)
      | .agg cs => renCs m ord cs fun cs' => renF m keep ord (i + 1) r fun l => k (.agg cs' :: l)
      | .arr n f => renF m keep ord (i + 1) r fun l => k (.arr n f :: l)
      | .clo f vs => renVs m ord vs fun vs' => renF m keep ord (i + 1) r fun l => k (.clo f vs' :: l)
      | .tup _ => renF m keep ord (i + 1) r fun l => k (.one .any :: l))
    else renF m keep ord (i + 1) r fun l => k (.one .any :: l)
def renB (m : Nat) (ord : List Nat) : List (Nat × TypeId × BB) → (List (Nat × TypeId × BB) → Out) → Out
  | [], k => k []
  | (i, t, bb) :: r, k => match ren1 m ord i with
    | some i' => (match bb with
      | .cells cs => renCs m ord cs fun cs' => renB m ord r fun l => k ((i', t, .cells cs') :: l)
      | .bools p n f => renB m ord r fun l => k ((i', t, .bools p n f) :: l)
      | .row sh n f o => renB m ord r fun l => k ((i', t, .row sh n f o) :: l))
    | none => renB m ord r k
def renL (m : Nat) (ord : List Nat) : List (Nat × LB) → (List (Nat × LB) → Out) → Out
  | [], k => k []
  | (i, lb) :: r, k => match ren1 m ord i with
    | some i' => renL m ord r fun l => k ((i', lb) :: l)
    | none => renL m ord r k
/-- What no counted slot leads to is let go; what the call itself made is numbered anew. -/
def gcO (m : Nat) (ord keep : List Nat) (st : AS) (k : AS → Out) : Out :=
  renF m keep ord 0 st.fr fun fr => renB m ord st.h.b fun b => renL m ord st.h.l fun l => k ⟨fr, ⟨b, l, m + ord.length⟩⟩
/-- Empty lists, by their elements' type. -/
def nilB : Nat → Option (TypeId × BB)
  | 3 => some (3, .row [.i .i64] 0 (fun _ _ => 0) fun _ _ => ByteArray.empty)
  | 22 => some (22, .row [.i .u32] 0 (fun _ _ => 0) fun _ _ => ByteArray.empty)
  | 31 => some (31, .row [.i .i64, .i .i64, .i .i64, .i .i64, .i .u32, .i .i64] 0 (fun _ _ => 0) fun _ _ => ByteArray.empty)
  | _ => none
/-- A nil slice is an empty list of its own: in slot i % 1000, the elements of type i / 1000 % 1000; or in cell i / 1000000 - 1 of the block that the slot leads to. -/
def nil1 (i : Nat) (st : AS) (k : AS → Out) : Out := match st, nilB (i / 1000 % 1000), i / 1000000 with
  | ⟨fr, b, l, nx⟩, some (e, bb), 0 => (match getA fr (i % 1000) with
    | .one (.v (.slice none 0 0)) => putS fr (i % 1000) (.one (.ow nx)) fun fr' => k ⟨fr', b, (nx, ⟨true, e, bb⟩) :: l, nx + 1⟩
    | _ => k ⟨fr, b, l, nx⟩)
  | ⟨fr, b, l, nx⟩, some (e, bb), j + 1 => (match getA fr (i % 1000) with
    | .one (.pt id 0) => (match look id b with
      | some (t, .cells cs) => (match nthC cs j with
        | .v (.slice none 0 0) => k ⟨fr, over id (t, .cells (spl cs j [.ow nx])) b, (nx, ⟨true, e, bb⟩) :: l, nx + 1⟩
        | _ => k ⟨fr, b, l, nx⟩)
      | _ => k ⟨fr, b, l, nx⟩)
    | _ => k ⟨fr, b, l, nx⟩)
  | ⟨fr, b, l, nx⟩, none, _ => k ⟨fr, b, l, nx⟩
def nilG : List Nat → AS → (AS → Out) → Out
  | [], st, k => k st
  | i :: r, st, k => bif Nat.blt i 1000 then nilG r st k else nil1 i st (nilG r · k)
def gc (m : Nat) (kp : Option (List Nat)) (st : AS) (k : AS → Out) : Out := match kp with
  | none => k st
  | some keep => nilG keep st fun st => gcO m (idB m (idB m (idB m (idF m keep [] 0 st.fr) st.h.b) st.h.b) st.h.b) keep st k
/-- The number of the first region. -/
def keyC : Code → Nat
  | .region i _ _ => i
  | .seq x _ => keyC x
  | .block _ x => keyC x
  | .loop x => keyC x
  | _ => 0
def ev (E : Env) (m : Nat) : Nat → Code → AS → (Exit → AS → Out) → Out
  | 0, _, _, _ => none
  | n + 1, c, st, k => match c with
    | .skip => k .normal st
    | .label _ => k .normal st
    | .region _ ops draw => bif draw then evD E ops st (k .normal) else evOps E ops ops.toList st [] (k .normal)
    | .seq x y => ev E m n x st fun e st' => match e with
      | .normal => ev E m n y st' k
      | e => k e st'
    | .cond c x y => match evA st c with
      | .one (.v (.bool b)) => bif b then setO st c true fun fr => ev E m n x ⟨fr, st.h⟩ k else setO st c false fun fr => ev E m n y ⟨fr, st.h⟩ k
      | _ => none
    | .block id x => ev E m n x st fun e st' => match e with
      | .exit id' => bif Nat.beq id' id then gc m (E.bx id) st' (k .normal) else k (.exit id') st'
      | e => k e st'
    | .loop x => match E.lp (keyC x) with
      | some f => gc m (E.lv (keyC x)) st fun st' => f m st' k
      | none => gc m (E.lv (keyC x)) st fun st' => ev E m n x st' fun e st' => match e with
        | .normal => ev E m n (.loop x) st' k
        | e => k e st'
    | .exit id => k (.exit id) st
    | .ret => k .ret st
    | _ => none
def keepB {α : Type} (m : Nat) : List (Nat × α) → List (Nat × α)
  | [] => []
  | (j, x) :: r => bif Nat.blt j m then (j, x) :: keepB m r else keepB m r
/-- Of what is owned at the end: the blocks that were lent (below m), the lists. -/
def keepH (m : Nat) (h : AH) : AH := ⟨keepB m h.b, h.l, h.nx⟩
def okR (v : AV) : Bool := notTup v && !isAny v
def resA (P : Program) (st : AS) : ResultVar → Option AV
  | .tmp t => some (getA st.fr t)
  | .cell p t => match getA st.fr p with
    | .one (.pt id 0) => (match look id st.h.b with
      | some (_, bb) => (match ldBB P t bb 0 0 false with
        | some v => bif isAny v then none else some v
        | none => none)
      | none => none)
    | _ => none
def resAs (P : Program) (st : AS) : List ResultVar → Option (List AV)
  | [] => some []
  | r :: rs => match resA P st r with
    | some v => bif okR v then (match resAs P st rs with
      | some l => some (v :: l)
      | none => none) else none
    | none => none
def retK (P : Program) (m : Nat) (rs : List ResultVar) (e : Exit) (st : AS) : Out :=
  match e with
  | .ret | .normal => (match rs with
    | [r] => (match resA P st r with
      | some v => some (v, keepH m st.h)
      | none => none)
    | rs => (match resAs P st rs with
      | some l => some (.tup l, keepH m st.h)
      | none => none))
  | _ => none
def frame (args : List AV) : Nat → List AV
  | 0 => args
  | n + 1 => match args with
    | [] => .one .any :: frame [] n
    | x :: r => x :: frame r n
def frameK (args : List AV) : Nat → (List AV → Out) → Out
  | 0, k => k args
  | n + 1, k => match args with
    | [] => frameK [] n fun l => k (.one .any :: l)
    | x :: r => frameK r n fun l => k (x :: l)
def evF (E : Env) (fn : Func) (fuel : Nat) (args : List AV) (h : AH) : Out := match fn.body with
  | some c => frameK args fn.ntmps fun fr => ev E h.nx fuel c ⟨fr, h⟩ (retK E.P h.nx fn.results.toList)
  | none => none
end Go.Proofs.Ytjpeplidbodjiaa
