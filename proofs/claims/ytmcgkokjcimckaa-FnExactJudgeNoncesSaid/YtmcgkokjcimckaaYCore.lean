/- An executor over typed abstract values of the code of a function; nothing is proved of it here. -/
import Derived.Test.YtmcgkokjcimckaaYTypes
import Derived.StillTail
import Derived.Below
import Derived.LoopN
import Derived.KernelRfl
import Derived.Laws.Sem
set_option linter.all false
namespace Go.X
open Go

inductive AV where
  | one (x : AC) | agg (l : List AC) | tup (l : List AV) | undef | any
  deriving Inhabited

inductive Blk where
  | box (cs : List AC)
  | rows (t : TypeId) (c : Cd) (l : List (den c))
  | map (c : Cd) (m : List (Int × den c))
  | dead
  deriving Inhabited

structure St where
  t : List (Nat × AV)
  b : List Blk

abbrev R := List AV × List Blk
abbrev Kont := List AV → List Blk → Bool
abbrev Tab := List (TypeId × Cd)

def size (c : Cd) : Nat := (cts c).length
def elem (c : Cd) (l : List (den c)) (i : Nat) : den c := l.getD i (dflt c)

/-- Rows of one kind as rows of another one, where these are the same. -/
def castL (c : Cd) (l : List (den c)) (d : Cd) : Option (List (den d)) := if h : c = d then some (h ▸ l) else none

def AV.cells : AV → Option (List AC)
  | .one x => some [x]
  | .agg l => some l
  | _ => none

def br {α : Type} (c : Bool) (x y : α) : α := match c with | true => x | false => y

def get : List (Nat × AV) → Nat → AV
  | [], _ => .any
  | (m, v) :: r, n => match Nat.beq m n with | true => v | false => get r n
def put : List (Nat × AV) → Nat → AV → List (Nat × AV)
  | [], n, v => [(n, v)]
  | (m, u) :: r, n, v => match Nat.beq m n with | true => (m, v) :: r | false => (m, u) :: put r n v

/-! types -/
def cdOf : Tab → TypeId → Option Cd
  | [], _ => none
  | (u, c) :: r, t => match Nat.beq u t with | true => some c | false => cdOf r t
def ctsIn (P : Program) (T : Tab) : Nat → TypeId → List CT
  | 0, _ => [.oth]
  | d + 1, t => match P.underlying t with
    | some .bool => [.bool]
    | some (.int k) => [.int k]
    | some .string => [.str]
    | some (.slice e) => match cdOf T e with | some c => [.sl c] | none => [.oth]
    | some (.struct fs) => fs.toList.flatMap fun f => ctsIn P T d f.type
    | some (.array n e) => (List.replicate n (ctsIn P T d e)).flatten
    | _ => [.oth]
def ctsOf (P : Program) (T : Tab) (t : TypeId) : List CT := ctsIn P T 8 t

def absCell : CT → Value → AC
  | _, .int k n => match (Lit.int k n).wf with | true => .int k n | false => .any
  | _, .bool b => .bool b
  | _, .string s => match Nat.ble s.size 1000000 with | true => .str s.data.toList | false => .any
  | .sl c, .slice none 0 0 => .nilS c
  | _, _ => .any

def zipCells : List CT → List Value → List AC
  | c :: cs, v :: vs => absCell c v :: zipCells cs vs
  | [], v :: vs => absCell .oth v :: zipCells [] vs
  | _, [] => []

def allOne (cs : Array Value) : Bool := cs.toList.all Value.oneCell'

def constAV (P : Program) (T : Tab) (t : TypeId) (v : Value) : AV :=
  match v with
  | .agg cs => match allOne cs with | true => .agg (zipCells (ctsOf P T t) cs.toList) | false => .any
  | .tuple _ => .any
  | v => .one (absCell ((ctsOf P T t).getD 0 .oth) v)

/-- The zero cells of a type. -/
def zeroOf (P : Program) (T : Tab) (t : TypeId) : Option (List AC) :=
  match P.info? t with
  | some i => match i.zero with
    | some v => match allOne v.cells with | true => some (zipCells (ctsOf P T t) v.cells.toList) | false => none
    | none => none
  | none => none

def aggTy (P : Program) (t : TypeId) : Option Bool :=
  match P.underlying t with | some (.struct _) => some true | some (.array _ _) => some true | some _ => some false | none => none

/-- A type of rows: its cells are those of c. -/
def rowTy (P : Program) (T : Tab) (t : TypeId) (c : Cd) : Bool :=
  decide (ctsOf P T t = cts c) && Nat.beq (P.cellsOf t) (size c) && Nat.ble 1 (P.bytesOf t) && Nat.ble (P.bytesOf t) 1000000 &&
  (match zeroOf P T t with | some z => Nat.beq z.length (size c) | none => false) && (match aggTy P t with | some _ => true | none => false)
def tabOk (P : Program) (T : Tab) : Bool := T.all fun x => rowTy P T x.1 x.2

/-! references -/
def AC.refs0 : AC → List Nat
  | .own j | .sub j _ _ | .ptr j _ _ | .map j => [j]
  | _ => []
def AC.refs : AC → List Nat
  | .fn _ cap => cap.flatMap AC.refs0
  | x => x.refs0
def AC.rn0 (g : Nat → Option Nat) : AC → AC
  | .own j => match g j with | some n => .own n | none => .any
  | .sub j a m => match g j with | some n => .sub n a m | none => .any
  | .ptr j i o => match g j with | some n => .ptr n i o | none => .any
  | .map j => match g j with | some n => .map n | none => .any
  | .fn _ _ => .any
  | x => x
def AC.rn (g : Nat → Option Nat) : AC → AC
  | .fn f cap => .fn f (cap.map (AC.rn0 g))
  | x => x.rn0 g
def AV.refs1 : AV → List Nat
  | .one x => x.refs
  | .agg l => l.flatMap AC.refs
  | _ => []
def AV.refs : AV → List Nat
  | .tup l => l.flatMap AV.refs1
  | x => x.refs1
def AV.rn1 (g : Nat → Option Nat) : AV → AV
  | .one x => .one (x.rn g)
  | .agg l => .agg (l.map (AC.rn g))
  | .tup _ => .any
  | x => x
def AV.rn (g : Nat → Option Nat) : AV → AV
  | .tup l => .tup (l.map (AV.rn1 g))
  | x => x.rn1 g
def Blk.rn (g : Nat → Option Nat) : Blk → Blk
  | .box cs => .box (cs.map (AC.rn g))
  | b => b
def addRefs (acc : List Nat) (l : List Nat) : List Nat := l.foldl (fun a j => match a.contains j with | true => a | false => a ++ [j]) acc
def blkRefs (B : List Blk) (j : Nat) : List Nat := match B[j]? with | some (.box cs) => cs.flatMap AC.refs | _ => []
def closeRefs (B : List Blk) : Nat → List Nat → List Nat
  | 0, acc => acc
  | n + 1, acc => closeRefs B n (addRefs acc (acc.flatMap (blkRefs B)))
/-- The place of j in ρ. -/
def placeOf : List Nat → Nat → Nat → Option Nat
  | [], _, _ => none
  | r :: rs, j, i => match Nat.beq r j with | true => some i | false => placeOf rs j (i + 1)
def rename (ρ : List Nat) (j : Nat) : Option Nat := placeOf ρ j 0
def newB (ρ : List Nat) (B : List Blk) : List Blk := ρ.map fun j => (B.getD j .dead).rn (rename ρ)
def upto : Nat → List Nat
  | 0 => []
  | n + 1 => upto n ++ [n]

/-- A type of such rows. -/
def tyOf : Tab → Cd → Option TypeId
  | [], _ => none
  | (t, d) :: r, c => match decide (d = c) with | true => some t | false => tyOf r c

/-- nil slices as empty rows of one's own. -/
def promC (T : Tab) : List AC → List Blk → List AC × List Blk
  | [], B => ([], B)
  | x :: r, B =>
    match x with
    | .nilS c => match tyOf T c with
      | some t => let q := promC T r (B ++ [.rows t c []]); (.own B.length :: q.1, q.2)
      | none => let q := promC T r B; (x :: q.1, q.2)
    | _ => let q := promC T r B; (x :: q.1, q.2)
def promV (T : Tab) (v : AV) (B : List Blk) : AV × List Blk :=
  match v with
  | .one x => match promC T [x] B with | ([y], B') => (.one y, B') | _ => (v, B)
  | .agg l => let q := promC T l B; (.agg q.1, q.2)
  | v => (v, B)
def promote (T : Tab) : List (Nat × AV) → List Blk → List (Nat × AV) × List Blk
  | [], B => ([], B)
  | (n, v) :: r, B => let p := promV T v B; let q := promote T r p.2; ((n, p.1) :: q.1, q.2)
/-- The same in the boxes i, i + 1, .. -/
def promB (T : Tab) : Nat → Nat → List Blk → List Blk
  | 0, _, B => B
  | n + 1, i, B => match B[i]? with
    | some (.box cs) => let q := promC T cs B; promB T n (i + 1) (q.2.set i (.box q.1))
    | _ => promB T n (i + 1) B

/-- At a loop's head: the slots that are kept, and the blocks that they lead to; the first n0 blocks stay. -/
def canon (T : Tab) (n0 : Nat) (keep : List Nat) (st : St) : St :=
  let q := promote T (keep.map fun n => (n, get st.t n)) st.b
  let ρ := closeRefs q.2 3 (addRefs (upto n0) (q.1.flatMap fun x => x.2.refs))
  let B := newB ρ q.2
  { t := q.1.map fun x => (x.1, x.2.rn (rename ρ)), b := promB T B.length 0 B }

/-- The same of results. -/
def promR (T : Tab) : List AV → List Blk → List AV × List Blk
  | [], B => ([], B)
  | v :: r, B => let p := promV T v B; let q := promR T r p.2; (p.1 :: q.1, q.2)
def plainN : AC → AC
  | .nilS c => .dat c []
  | x => x
def AV.plainN : AV → AV
  | .one x => .one (X.plainN x)
  | .agg l => .agg (l.map X.plainN)
  | v => v
def canonR (n0 : Nat) (rs : List AV) (B : List Blk) : R :=
  let ρ := closeRefs B 3 (addRefs (upto n0) (rs.flatMap AV.refs))
  (rs.map fun x => x.rn (rename ρ), newB ρ B)

/-- The rows that a slice shows. -/
def rowsV (B : List Blk) : AC → Option ((c : Cd) × List (den c))
  | .dat c l => some ⟨c, l⟩
  | .nilS c => some ⟨c, []⟩
  | .own j => match B[j]? with | some (.rows _ c l) => some ⟨c, l⟩ | _ => none
  | .sub j off n => match B[j]? with | some (.rows _ c l) => some ⟨c, (l.drop off).take n⟩ | _ => none
  | _ => none

/-- A value without what is one's own: own rows as plain data. -/
def AC.view (B : List Blk) : AC → Option AC
  | .int k n => some (.int k n)
  | .bool b => some (.bool b)
  | .str s => some (.str s)
  | x => match rowsV B x with | some ⟨c, l⟩ => some (.dat c l) | none => none
def viewL (B : List Blk) : List AC → Option (List AC)
  | [] => some []
  | x :: r => match x.view B, viewL B r with | some y, some s => some (y :: s) | _, _ => none
def AV.view (B : List Blk) : AV → Option AV
  | .one x => match x.view B with | some y => some (.one y) | none => none
  | .agg l => match viewL B l with | some y => some (.agg y) | none => none
  | _ => none
def viewA (B : List Blk) : List AV → Option (List AV)
  | [] => some []
  | x :: r => match x.view B, viewA B r with | some y, some s => some (y :: s) | _, _ => none
def shiftN (n j : Nat) : Option Nat := some (n + j)

/-- Results that lead to nothing that was handed in. -/
def flatC : AC → Bool
  | .int _ _ | .bool _ | .str _ | .own _ | .ptr _ _ _ | .map _ | .nilS _ => true
  | _ => false
def flatV : AV → Bool
  | .one x => flatC x
  | .agg l => l.all flatC
  | _ => false
def flatCt : CT → Bool
  | .int _ | .bool | .str => true
  | _ => false
def flatB : Blk → Bool
  | .rows _ c _ => (cts c).all flatCt
  | .box cs => cs.all flatC
  | _ => false
def noTup : List AV → Bool := fun l => l.all fun v => match v with | .tup _ => false | _ => true
def noRefs : List AV → Bool := fun l => l.all fun v => (v.refs).isEmpty

/-- Behind a test. -/
def grd (c : Bool) (x : Bool) : Bool := match c with | true => x | false => false

/-- What is known of a function: of arguments that fit; 'ref': which arguments keep what they lead to (the others are handed as plain data). -/
structure Ent where
  fits : List AV → Bool
  ref : List Bool
  go : List AV → List Blk → Kont → Bool

structure Env where
  P : Program
  T : Tab
  ann : FuncId → Nat → List Nat
  ent : FuncId → List Ent

/-- The arguments as they are handed on. -/
def handA (B : List Blk) : List Bool → List AV → Option (List AV)
  | _, [] => some []
  | true :: m, x :: r => match handA B m r with | some s => some (x :: s) | none => none
  | false :: m, x :: r => match x.view B, handA B m r with | some y, some s => some (y :: s) | _, _ => none
  | [], x :: r => match x.view B, handA B [] r with | some y, some s => some (y :: s) | _, _ => none
/-- What is looked at as plain data, and what is not. -/
def looked : List Bool → List AV → List Nat
  | _, [] => []
  | true :: m, _ :: r => looked m r
  | false :: m, x :: r => x.refs ++ looked m r
  | [], x :: r => x.refs ++ looked [] r
def kept : List Bool → List AV → List Nat
  | _, [] => []
  | true :: m, x :: r => x.refs ++ kept m r
  | false :: m, _ :: r => kept m r
  | [], _ :: r => kept [] r

/-- Where a block of the callee's lies. -/
def backN (ρ : List Nat) (n : Nat) (j : Nat) : Option Nat := match ρ[j]? with | some i => some i | none => some (n + (j - ρ.length))
def setAll : List Nat → List Blk → List Blk → List Blk
  | j :: ρ, b :: bs, B => setAll ρ bs (B.set j b)
  | _, _, B => B
def disj (a b : List Nat) : Bool := a.all fun j => !(b.contains j)

def inB (ρ : List Nat) (n : Nat) : Bool := ρ.all fun j => Nat.blt j n

def kBack (ρ : List Nat) (flat : Bool) (B : List Blk) (K : Kont) : Kont := fun rs B2 =>
  match noTup rs && (flat || (rs.all flatV && B2.all flatB)) with
  | true => K (rs.map fun x => x.rn (backN ρ B.length)) (setAll ρ (B2.map fun b => b.rn (backN ρ B.length)) B ++ (B2.drop ρ.length).map fun b => b.rn (backN ρ B.length))
  | false => false

def callEnt (en : Ent) (args : List AV) (B : List Blk) (K : Kont) : Bool :=
  match handA B en.ref args with
  | some args' =>
    let ρ := closeRefs B 3 (addRefs [] (kept en.ref args))
    match disj (looked en.ref args) ρ && inB ρ B.length with
    | true => en.go (args'.map fun x => x.rn (rename ρ)) (newB ρ B) (kBack ρ ((looked en.ref args).isEmpty) B K)
    | false => false
  | none => false

def entFor : List Ent → List AV → Option Ent
  | [], _ => none
  | e :: r, args => match e.fits args with | true => some e | false => entFor r args

/-! operations -/
section
variable (E : Env) (call : FuncId → List AV → List Blk → Kont → Bool)

def ev (t : TypeId) (st : St) : Operand → AV
  | .tmp n => get st.t n
  | .const v => constAV E.P E.T t v
  | .func f => .one (.fn f [])
  | .global _ => .any

def setT (st : St) (dst : Option Tmp) (v : AV) : St :=
  match dst with
  | some d => { st with t := put st.t d v }
  | none => st
def subT (st : St) (c : Operand) (b : Bool) : St :=
  match c with
  | .tmp n => { st with t := put st.t n (.one (.bool b)) }
  | _ => st

def splice (l : List AC) (o : Nat) (m : List AC) : List AC := l.take o ++ m ++ l.drop (o + m.length)

def fillA (place : Nat → Option (Nat × Nat)) (cells : List AC) : List (Nat × AV) → Option (List AC)
  | [] => some cells
  | (i, v) :: r =>
    match place i, v.cells with
    | some (off, size), some vc =>
      match Nat.beq vc.length size && Nat.ble (off + vc.length) cells.length with
      | true => fillA place (splice cells off vc) r
      | false => none
    | _, _ => none

def placeF (P : Program) (fs : Array Field) (i : Nat) : Option (Nat × Nat) :=
  match fs[i]? with
  | some f => some (f.offset, P.cellsOf f.type)
  | none => none

def boxOf (st : St) (dst : Option Tmp) (b : Blk) (x : AC) : St := setT { st with b := st.b ++ [b] } dst (.one x)

def repCells {α : Type} (z : List α) : Nat → List α
  | 0 => []
  | n + 1 => z ++ repCells z n

/-- Rows out of so many cells each. -/
def chop (c : Cd) : Nat → List AC → List (den c)
  | 0, _ => []
  | n + 1, l => mk c (l.take (size c)) :: chop c n (l.drop (size c))

def loadRow (P : Program) (t : TypeId) (cs : List AC) : Option AV :=
  match Nat.beq cs.length (P.cellsOf t), aggTy P t with
  | true, some true => some (.agg cs)
  | true, some false => match cs with | [x] => some (.one x) | _ => none
  | _, _ => none

def loadA (P : Program) (t : TypeId) (B : List Blk) : AV → Option AV
  | .one (.ptr j i o) => match B[j]? with
    | some (.box cs) => loadRow P t ((cs.drop o).take (P.cellsOf t))
    | some (.rows _ c l) => loadRow P t (((enc c (elem c l i)).drop o).take (P.cellsOf t))
    | _ => none
  | .one (.pdat c x o) => loadRow P t (((enc c x).drop o).take (P.cellsOf t))
  | _ => none

def toPlain : AC → AC
  | .nilS c => .dat c []
  | x => x

/-- Is a cell plain data of this type? -/
def plainC : CT → AC → Bool
  | .int k, .int k' _ => decide (k = k')
  | .bool, .bool _ => true
  | .str, .str _ => true
  | .sl c, .dat c' _ => decide (c = c')
  | _, _ => false
def plainL : List CT → List AC → Bool
  | [], [] => true
  | c :: cs, x :: xs => plainC c x && plainL cs xs
  | _, _ => false

/-- What is stored in rows is plain: own rows are not taken. -/
def storeA (P : Program) (t : TypeId) (B : List Blk) (a : AV) (v : AV) : Option (List Blk) :=
  match a, v.cells with
  | .one (.ptr j i o), some vc => match Nat.beq vc.length (P.cellsOf t) && Nat.ble 1 (P.cellsOf t) with
    | true => match B[j]? with
      | some (.box cs) => match Nat.ble (o + vc.length) cs.length with
        | true => some (B.set j (.box (splice cs o vc)))
        | false => none
      | some (.rows e c l) => match Nat.ble (o + vc.length) (size c) && plainL (((cts c).drop o).take vc.length) (vc.map toPlain) with
        | true => some (B.set j (.rows e c (l.set i (mk c (splice (enc c (elem c l i)) o (vc.map toPlain))))))
        | false => none
      | _ => none
    | false => none
  | _, _ => none

def lenA (P : Program) (t : TypeId) (B : List Blk) (x : AV) : Option Int :=
  match P.underlying t, x with
  | some .string, .one (.str s) => some s.length
  | some (.slice _), .one z => match rowsV B z with | some ⟨_, r⟩ => some r.length | none => none
  | _, _ => none

def eqFs (eq : TypeId → List AC → List AC → Option Bool) (P : Program) (l m : List AC) : List Field → Option Bool
  | [] => some true
  | f :: fs => match f.name == "_", eq f.type ((l.drop f.offset).take (P.cellsOf f.type)) ((m.drop f.offset).take (P.cellsOf f.type)) with
    | false, some a => match fs with
      | [] => some a
      | g :: gs => match eqFs eq P l m (g :: gs) with | some b => some (a && b) | none => none
    | _, _ => none

/-- '==' of two values of a type that is made of whole numbers, bools and strings. -/
def eqIn (P : Program) : Nat → TypeId → List AC → List AC → Option Bool
  | 0, _, _, _ => none
  | d + 1, t, l, m => match P.underlying t with
    | some .bool => match l, m with | [.bool a], [.bool b] => some (a == b) | _, _ => none
    | some (.int _) => match l, m with
      | [.int k a], [.int k' b] => match decide (k = k') with | true => some (a == b) | false => none
      | _, _ => none
    | some .string => match l, m with | [.str a], [.str b] => some (a == b) | _, _ => none
    | some (.struct fs) => match P.stoodInHeld t with
      | true => none
      | false => eqFs (eqIn P d) P l m fs.toList
    | _ => none

/-- A binary operation: a test that has to hold, and the value. -/
def binA (P : Program) (t : TypeId) (op : BinOp) (x y : AV) : Option (Bool × AV) :=
  match x, y with
  | .one (.int k a), .one (.int k' b) =>
    match op with
    | .shl => some (decide (0 ≤ b), .one (.int k (k.wrap (a * 2 ^ (min b.toNat k.bits)))))
    | .shr => some (decide (0 ≤ b), .one (.int k (a.fdiv (2 ^ (min b.toNat k.bits)))))
    | _ => match decide (k = k') with
      | false => none
      | true => match op with
        | .add => some (true, .one (.int k (k.wrap (a + b))))
        | .sub => some (true, .one (.int k (k.wrap (a - b))))
        | .mul => some (true, .one (.int k (k.wrap (a * b))))
        | .quo => some (!(b == 0), .one (.int k (k.wrap (a.tdiv b))))
        | .rem => some (!(b == 0), .one (.int k (a.tmod b)))
        | .and => some (true, .one (.int k (k.wrap (BitVec.ofInt k.bits a &&& BitVec.ofInt k.bits b).toNat)))
        | .or => some (true, .one (.int k (k.wrap (BitVec.ofInt k.bits a ||| BitVec.ofInt k.bits b).toNat)))
        | .xor => some (true, .one (.int k (k.wrap (BitVec.ofInt k.bits a ^^^ BitVec.ofInt k.bits b).toNat)))
        | .eql => some (true, .one (.bool (a == b)))
        | .neq => some (true, .one (.bool (a != b)))
        | .lss => some (true, .one (.bool (decide (a < b))))
        | .leq => some (true, .one (.bool (decide (a ≤ b))))
        | .gtr => some (true, .one (.bool (decide (b < a))))
        | .geq => some (true, .one (.bool (decide (b ≤ a))))
        | _ => none
  | .one (.str a), .one (.str b) =>
    match op with
    | .add => some (decide (((a.length + b.length : Nat) : Int) ≤ 9223372036854775807), .one (.str (a ++ b)))
    | .eql => some (true, .one (.bool (a == b)))
    | .neq => some (true, .one (.bool (!(a == b))))
    | _ => none
  | .one (.bool a), .one (.bool b) =>
    match op, P.underlying t with
    | .eql, some .bool => some (true, .one (.bool (a == b)))
    | .neq, some .bool => some (true, .one (.bool (!(a == b))))
    | _, _ => none
  | .agg l, .agg m =>
    match P.eqGuardType P.depth t, aggTy P t with
    | false, some true => match op, eqIn P 8 t l m with
      | .eql, some b => some (true, .one (.bool b))
      | .neq, some b => some (true, .one (.bool (!b)))
      | _, _ => none
    | _, _ => none
  | _, _ => none

def isNilC : Operand → Bool
  | .const (.slice none _ _) => true
  | _ => false
/-- Compared with nil: rows that are none may be nil or not. -/
def nilCmp (P : Program) (t : TypeId) (B : List Blk) (op : BinOp) (x : AV) (y : Operand) (F : Bool → Bool) : Bool :=
  match isNilC y, x, P.underlying t with
  | true, .one z, some (.slice _) => match rowsV B z with
    | some ⟨_, r⟩ => match op with
      | .eql => br (Nat.beq r.length 0) (F true && F false) (F false)
      | .neq => br (Nat.beq r.length 0) (F false && F true) (F true)
      | _ => false
    | none => false
  | _, _, _ => false

def unA (op : UnOp) (x : AV) : Option AV :=
  match op, x with
  | .neg, .one (.int k n) => some (.one (.int k (k.wrap (0 - n))))
  | .not, .one (.bool b) => some (.one (.bool (!b)))
  | _, _ => none

def isU8 (P : Program) (t : TypeId) : Bool := match P.underlying t with | some (.int .u8) => true | _ => false

def convA (P : Program) (T : Tab) (src dst : TypeId) (B : List Blk) (x : AV) : Option AV :=
  match P.underlying src, P.underlying dst, x with
  | some _, some (.int k), .one (.int _ n) => some (.one (.int k (k.wrap n)))
  | some .string, some .string, .one (.str s) => some (.one (.str s))
  | some (.slice e), some .string, .one x => match rowsV B x with
    | some ⟨.byte, l⟩ => match isU8 P e with | true => some (.one (.str l)) | false => none
    | _ => none
  | some .string, some (.slice e), .one (.str s) => match isU8 P e, cdOf T e with
    | true, some .byte => some (.one (.dat .byte s))
    | _, _ => none
  | _, _, _ => none

/-- Bounds of a slice expression: the test, low, high. -/
def hiOf (len : Nat) : Option AV → Option (Bool × Nat)
  | none => some (true, len)
  | some (.one (.int _ h)) => some (decide (0 ≤ h) && decide (h ≤ (len : Int)), h.toNat)
  | _ => none
def loOf (hh : Nat) : Option AV → Option (Bool × Nat)
  | none => some (true, 0)
  | some (.one (.int _ l)) => some (decide (0 ≤ l) && decide (l ≤ (hh : Int)), l.toNat)
  | _ => none
def bnd (len : Nat) (lo hi : Option AV) : Option (Bool × Nat × Nat) :=
  match hiOf len hi with
  | some (b1, hh) => match loOf hh lo with
    | some (b2, l) => some (b1 && b2, l, hh)
    | none => none
  | none => none

def sliceA (B : List Blk) (x : AV) (lo hi : Option AV) : Option (Bool × AV) :=
  match x with
  | .one (.str s) => match bnd s.length lo hi with
    | some (c, l, h) => some (c, .one (.str ((s.take h).drop l)))
    | none => none
  | .one (.dat t rows) => match bnd rows.length lo hi with
    | some (c, l, h) => some (c, .one (.dat t ((rows.take h).drop l)))
    | none => none
  | .one (.own j) => match B[j]? with
    | some (.rows _ _ rs) => match bnd rs.length lo hi with
      | some (c, l, h) => some (c, .one (.sub j l (h - l)))
      | none => none
    | _ => none
  | .one (.sub j 0 n) => match B[j]? with
    | some (.rows _ _ rs) => match hi with
      | some _ => match bnd rs.length lo hi with
        | some (c, l, h) => some (c, .one (.sub j l (h - l)))
        | none => none
      | none => match bnd n lo hi with
        | some (c, l, h) => some (c, .one (.sub j l (h - l)))
        | none => none
    | _ => none
  | _ => none

def zeroC : Operand → Bool
  | .const (.int _ 0) => true
  | _ => false
/-- x[lo:hi:max]: x[:0:0] has no room; of any other one nothing is told. -/
def sliceM (B : List Blk) (x : AV) (lo hi mx : Option AV) (zero : Bool) : Option (Bool × AV) :=
  match x, mx with
  | .one z, some (.one (.int k m)) => match rowsV B z with
    | some ⟨c, l⟩ => match zero with
      | true => some (true, .one (.nilS c))
      | false => match hi, bnd m.toNat lo hi with
        | some _, some (b, _, _) => some (decide (0 ≤ m) && decide (m ≤ (l.length : Int)) && b, .any)
        | _, _ => none
    | none => none
  | _, _ => none

/-- Where an element stands. -/
def iaddrA (B : List Blk) (x : AV) (i : Int) : Option (Bool × AV) :=
  match x with
  | .one (.dat c l) => some (decide (0 ≤ i) && decide (i < (l.length : Int)), .one (.pdat c (elem c l i.toNat) 0))
  | .one (.own j) => match B[j]? with
    | some (.rows _ _ rs) => some (decide (0 ≤ i) && decide (i < (rs.length : Int)), .one (.ptr j i.toNat 0))
    | _ => none
  | .one (.sub j off n) => match B[j]? with
    | some (.rows _ _ _) => some (decide (0 ≤ i) && decide (i < (n : Int)), .one (.ptr j (off + i.toNat) 0))
    | _ => none
  | _ => none

def elemC (B : List Blk) : AV → Option Cd
  | .one z => match rowsV B z with | some ⟨c, _⟩ => some c | none => none
  | _ => none

def sliceTy (P : Program) (T : Tab) (t : TypeId) (B : List Blk) (x : AV) : Bool :=
  match P.underlying t with
  | some .string => match x with | .one (.str _) => true | _ => false
  | some (.slice e) => match elemC B x, cdOf T e with | some c, some d => decide (c = d) | _, _ => false
  | _ => false

def byteAt (s : List UInt8) (i : Nat) : Int := ((s.getD i 0).toNat : Int)

/-- A cell out of a row of cells of one type. -/
def proj : CT → AC → AC
  | .int k, x => .int k x.toInt
  | .bool, x => .bool x.toBool
  | .str, x => .str x.toStr
  | _, _ => .any

def indexA (P : Program) (T : Tab) (t : TypeId) (x : AV) (i : Int) : Option (Bool × AV) :=
  match P.underlying t, x with
  | some .string, .one (.str s) => some (decide (0 ≤ i) && decide (i < (s.length : Int)), .one (.int .u8 (byteAt s i.toNat)))
  | some (.array n e), .agg cs => match ctsOf P T e, aggTy P e with
    | [c], some false => match Nat.beq cs.length n && Nat.beq (P.cellsOf e) 1 && flatCt c && plainL (repCells [c] n) cs with
      | true => some (decide (0 ≤ i) && decide (i < (n : Int)), .one (proj c (cs.getD i.toNat .any)))
      | false => none
    | _, _ => none
  | _, _ => none

def addO (n : Nat) : AV → Option AV
  | .one (.ptr j i o) => some (.one (.ptr j i (o + n)))
  | .one (.pdat c x o) => some (.one (.pdat c x (o + n)))
  | _ => none

/-- References to a block are forgotten. -/
def forget (j : Nat) (n : Nat) : Option Nat := match Nat.beq n j with | true => none | false => some n
def dropRef (j : Nat) (st : St) : St :=
  { t := st.t.map fun x => (x.1, x.2.rn (forget j)), b := st.b.map fun b => b.rn (forget j) }

/-- The rows that are appended. -/
def srcRows (c : Cd) (B : List Blk) : AV → Option (List (den c))
  | .one (.str s) => castL .byte s c
  | .one x => match rowsV B x with
    | some ⟨d, rs⟩ => castL d rs c
    | none => none
  | _ => none

def maxRows : Nat := 70368744177664

/-- append: the test, and what stands behind it. -/
def appendA (P : Program) (T : Tab) (n0 : Nat) (sT : TypeId) (st : St) (dst : Option Tmp) (s x : AV) : Option (Bool × St) :=
  match P.underlying sT with
  | some (.slice e) => match cdOf T e with
    | some c => match srcRows c st.b x, s with
      | some rs, .one (.nilS d) => match decide (d = c) with
        | true => some (decide (rs.length * P.bytesOf e ≤ maxRows), boxOf st dst (.rows e c rs) (.own st.b.length))
        | false => none
      | some rs, .one (.own j) => match st.b[j]?, Nat.ble n0 j with
        | some (.rows t d r0), true => match Nat.beq t e, castL d r0 c with
          | true, some r1 => some (decide ((r0.length + rs.length) * P.bytesOf e ≤ maxRows),
            let s1 := dropRef j st
            setT { s1 with b := s1.b.set j (.rows e c (r1 ++ rs)) } dst (.one (.own j)))
          | _, _ => none
        | _, _ => none
      | some rs, .one (.sub j 0 n) => match st.b[j]? with
        | some (.rows t d r0) => match Nat.beq t e, castL d r0 c with
          | true, some r1 => some (Nat.ble (n + rs.length) r1.length,
            setT { st with b := st.b.set j (.rows e c (r1.take n ++ rs ++ r1.drop (n + rs.length))) } dst (.one (.sub j 0 (n + rs.length))))
          | _, _ => none
        | _ => none
      | _, _ => none
    | none => none
  | _ => none

/-- clear of a part of one's own rows. -/
def clearA (P : Program) (T : Tab) (t : TypeId) (B : List Blk) (x : AV) : Option (List Blk) :=
  match P.underlying t, x with
  | some (.slice e), .one (.sub j off n) => match B[j]? with
    | some (.rows u c l) => match cdOf T e, zeroOf P T e with
      | some d, some z => match decide (c = d) && plainL (cts c) (z.map toPlain) with
        | true => some (B.set j (.rows u c (l.take off ++ List.replicate n (mk c (z.map toPlain)) ++ l.drop (off + n))))
        | false => none
      | _, _ => none
    | _ => none
  | some (.slice _), .one (.nilS _) => some B
  | _, _ => none

def optEv (st : St) : Option Operand → Option AV
  | some x => some (ev E 2 st x)
  | none => none

def minF (k : IntKind) (a : Int) : List AV → Option AV
  | [] => some (.one (.int k a))
  | .one (.int k' b) :: r => match decide (k = k') with
    | true => minF k (if b < a then b else a) r
    | false => none
  | _ => none
def maxF (k : IntKind) (a : Int) : List AV → Option AV
  | [] => some (.one (.int k a))
  | .one (.int k' b) :: r => match decide (k = k') with
    | true => maxF k (if b > a then b else a) r
    | false => none
  | _ => none

/-- Maps from whole numbers. -/
def findM {α : Type} (k : Int) : List (Int × α) → Option α
  | [] => none
  | (j, x) :: r => match k == j with | true => some x | false => findM k r
def putM {α : Type} (k : Int) (x : α) : List (Int × α) → List (Int × α)
  | [] => [(k, x)]
  | (j, y) :: r => match k == j with | true => (j, x) :: r | false => (j, y) :: putM k x r
def isI64 (P : Program) (t : TypeId) : Bool := match P.underlying t with | some (.int .i64) => true | _ => false

def builtinA (n0 : Nat) (o : Oper) (b : Builtin) (argTypes : List TypeId) (args : List AV) (st : St) (K : St → Bool) : Bool :=
  match b, args, argTypes with
  | .len, [x], [t] => match lenA E.P t st.b x with | some n => K (setT st o.dst (.one (.int .i64 n))) | none => false
  | .append, [s, x], [t, u] => match E.P.underlying u with
    | some .string | some (.slice _) => match appendA E.P E.T n0 t st o.dst s x with | some (c, st') => grd c (K st') | none => false
    | _ => false
  | .min, .one (.int k a) :: r, _ => match minF k a r with | some v => K (setT st o.dst v) | none => false
  | .max, .one (.int k a) :: r, _ => match maxF k a r with | some v => K (setT st o.dst v) | none => false
  | .clear, [x], [t] => match clearA E.P E.T t st.b x with | some B => K (setT { st with b := B } o.dst (.tup [])) | none => false
  | _, _, _ => false

def kRes (dst : Option Tmp) (st : St) (K : St → Bool) : Kont := fun rs B => K (setT { st with b := B } dst (match rs with | [v] => v | vs => .tup vs))
def callV (o : Oper) (f : FuncId) (args : List AV) (st : St) (K : St → Bool) : Bool :=
  call f args st.b (kRes o.dst st K)

def callable (P : Program) (f : FuncId) : Bool :=
  match P.funcs[f]? with
  | some fn => fn.body.isSome && !(fn.name == "runtime.NumGoroutine")
  | none => false

def capsOf : List AV → Option (List AC)
  | [] => some []
  | .one (.fn _ _) :: _ => none
  | .one x :: r => match capsOf r with | some s => some (x :: s) | none => none
  | _ => none

def evs (st : St) : List Operand → List TypeId → List AV
  | x :: xs, t :: ts => ev E t st x :: evs st xs ts
  | x :: xs, [] => ev E 0 st x :: evs st xs []
  | [], _ => []

/-- The element type of a map from int. -/
def zeroOne (P : Program) (e : TypeId) : Bool := match P.info? e with
  | some i => match i.zero with | some v => v.oneCell' | none => false
  | none => false
def mapOf (P : Program) (T : Tab) (t : TypeId) : Option (TypeId × Cd) :=
  match P.underlying t with
  | some (.map k e) => match isI64 P k && zeroOne P e, cdOf T e with
    | true, some c => match zeroOf P T e with
      | some z => match plainL (cts c) (z.map toPlain) with | true => some (e, c) | false => none
      | none => none
    | _, _ => none
  | _ => none
def zeroM (P : Program) (T : Tab) (e : TypeId) (c : Cd) : den c := match zeroOf P T e with | some z => mk c (z.map toPlain) | none => dflt c
def findD {α : Type} (k : Int) (m : List (Int × α)) (d : α) : α := match findM k m with | some x => x | none => d

def exOp (n0 : Nat) (o : Oper) (st : St) (K : St → Bool) : Bool :=
  match o.op with
  | .move x => K (setT st o.dst (ev E o.type st x))
  | .assign x => K (setT st o.dst (ev E o.type st x))
  | .pick c a b => match ev E 4 st c with
    | .one (.bool t) => br t (K (setT (subT st c true) o.dst (ev E o.type (subT st c true) a))) (K (setT (subT st c false) o.dst (ev E o.type (subT st c false) b)))
    | _ => false
  | .alloc t => match zeroOf E.P E.T t with | some z => K (boxOf st o.dst (.box z) (.ptr st.b.length 0 0)) | none => false
  | .box t x => match (ev E t st x).cells with | some cs => K (boxOf st o.dst (.box cs) (.ptr st.b.length 0 0)) | none => false
  | .build t parts => match E.P.underlying t, zeroOf E.P E.T t with
    | some (.struct fs), some z => match fs.toList.all (fun f => Nat.ble 1 (E.P.cellsOf f.type)) with
     | false => false
     | true => match fillA (placeF E.P fs) z (parts.toList.map fun x => (x.1, ev E (((fs[x.1]?).map (·.type)).getD 0) st x.2)) with
      | some cs => K (setT st o.dst (.agg cs))
      | none => false
    | some (.array _ e), some z => match Nat.ble 1 (E.P.cellsOf e) with
     | false => false
     | true => match fillA (fun i => some (i * E.P.cellsOf e, E.P.cellsOf e)) z (parts.toList.map fun x => (x.1, ev E e st x.2)) with
      | some cs => K (setT st o.dst (.agg cs))
      | none => false
    | _, _ => false
  | .buildSlice t len parts => match E.P.underlying t with
    | some (.slice e) => match cdOf E.T e, zeroOf E.P E.T e with
      | some c, some z => match fillA (fun i => some (i * E.P.cellsOf e, E.P.cellsOf e)) (repCells z len) (parts.toList.map fun x => (x.1, ev E e st x.2)) with
        | some cs => match plainL (repCells (cts c) len) (cs.map toPlain) && Nat.ble (len * E.P.cellsOf e) 16777216 with
          | true => K (boxOf st o.dst (.rows e c (chop c len (cs.map toPlain))) (.own st.b.length))
          | false => false
        | none => false
      | _, _ => false
    | _ => false
  | .load t a => match loadA E.P t st.b (ev E 2 st a) with | some v => K (setT st o.dst v) | none => false
  | .store t a v => match storeA E.P t st.b (ev E 2 st a) (ev E t st v) with | some B => K (setT { st with b := B } o.dst .undef) | none => false
  | .nilCheck x => match ev E 2 st x with
    | .one (.ptr j i p) => K (setT st o.dst (.one (.ptr j i p)))
    | .one (.pdat e r p) => K (setT st o.dst (.one (.pdat e r p)))
    | .one (.fn f cap) => K (setT st o.dst (.one (.fn f cap)))
    | _ => false
  | .binOp op xT x y yT => match binA E.P xT op (ev E xT st x) (ev E yT st y) with
      | some (c, v) => grd c (K (setT st o.dst v))
      | none => nilCmp E.P xT st.b op (ev E xT st x) y fun b => K (setT st o.dst (.one (.bool b)))
  | .unOp op xT x => match unA op (ev E xT st x) with | some v => K (setT st o.dst v) | none => false
  | .convert src dst x => match convA E.P E.T src dst st.b (ev E src st x) with | some v => K (setT st o.dst v) | none => false
  | .makeFunc fn first cap => match fn, first.toList, capsOf (cap.toList.map (ev E 2 st)) with
    | .func f, [], some cs => K (setT st o.dst (.one (.fn f cs)))
    | _, _, _ => false
  | .makeSlice t l c => match E.P.underlying t, ev E 3 st l, ev E 3 st c with
    | some (.slice e), .one (.int .i64 n), .one (.int .i64 m) => match cdOf E.T e, zeroOf E.P E.T e with
      | some d, some z => match plainL (cts d) (z.map toPlain) with
        | true => grd (decide (0 ≤ n) && decide (n ≤ m) && decide (m * E.P.bytesOf e ≤ maxRows))
            (K (boxOf st o.dst (.rows e d (List.replicate n.toNat (mk d (z.map toPlain)))) (.own st.b.length)))
        | false => false
      | _, _ => false
    | _, _, _ => false
  | .slice t x lo hi none => match sliceTy E.P E.T t st.b (ev E 2 st x), sliceA st.b (ev E 2 st x) (optEv E st lo) (optEv E st hi) with
    | true, some (c, v) => grd c (K (setT st o.dst v))
    | _, _ => false
  | .slice t x lo hi (some mx) => match sliceTy E.P E.T t st.b (ev E 2 st x), sliceM st.b (ev E 2 st x) (optEv E st lo) (optEv E st hi) (some (ev E 3 st mx)) (zeroC mx && (match hi with | some h => zeroC h | none => false) && (match lo with | some h => zeroC h | none => true)) with
    | true, some (c, v) => grd c (K (setT st o.dst v))
    | _, _ => false
  | .fieldAddr s x f => match E.P.underlying s with
    | some (.struct fs) => match fs[f]? with
      | some fd => match addO fd.offset (ev E 2 st x) with
        | some v => match Nat.beq (E.P.cellsOf fd.type) 0 with
          | true => false
          | false => K (setT st o.dst v)
        | none => false
      | none => false
    | _ => false
  | .field s x f => match E.P.underlying s, ev E s st x with
    | some (.struct fs), .agg cs => match fs[f]? with
      | some fd => match loadRow E.P fd.type ((cs.drop fd.offset).take (E.P.cellsOf fd.type)) with
        | some v => K (setT st o.dst v)
        | none => false
      | none => false
    | _, _ => false
  | .indexAddr t x i => match E.P.underlying t, ev E 3 st i with
    | some (.slice e), .one (.int _ n) => match elemC st.b (ev E 2 st x), cdOf E.T e, iaddrA st.b (ev E 2 st x) n with
      | some c, some d, some (b, v) => match decide (c = d) with
        | true => grd b (K (setT st o.dst v))
        | false => false
      | _, _, _ => false
    | _, _ => false
  | .index t x i => match ev E 3 st i with
    | .one (.int _ n) => match indexA E.P E.T t (ev E t st x) n with
      | some (c, v) => grd c (K (setT st o.dst v))
      | none => false
    | _ => false
  | .extract x i => match ev E 2 st x with
    | .tup vs => match vs[i]? with | some v => K (setT st o.dst v) | none => false
    | _ => false
  | .makeMap t none => match mapOf E.P E.T t with
    | some (_, c) => K (boxOf st o.dst (.map c []) (.map st.b.length))
    | none => false
  | .lookup t x k ok => match mapOf E.P E.T t, ev E 2 st x, ev E 3 st k with
    | some (e, c), .one (.map j), .one (.int .i64 n) => match st.b[j]? with
      | some (.map d m) => match decide (d = c) with
        | true => match enc d (findD n m (zeroM E.P E.T e d)) with
          | [x] => K (setT st o.dst (match ok with | true => .tup [.one x, .one (.bool (findM n m).isSome)] | false => .one x))
          | _ => false
        | false => false
      | _ => false
    | _, _, _ => false
  | .mapUpdate t x k v => match mapOf E.P E.T t, ev E 2 st x, ev E 3 st k with
    | some (e, c), .one (.map j), .one (.int .i64 n) => match st.b[j]?, ev E e st v with
      | some (.map d m), .one y => match decide (d = c) && plainL (cts d) [toPlain y] with
        | true => K (setT { st with b := st.b.set j (.map d (putM n (mk d [toPlain y]) m)) } o.dst .undef)
        | false => false
      | _, _ => false
    | _, _, _ => false
  | .call { callee := .builtin b, args, argTypes } => builtinA E n0 o b argTypes.toList (evs E st args.toList argTypes.toList) st K
  | .call { callee := .value f, args, argTypes } => match ev E 2 st f with
    | .one (.fn g cap) => match callable E.P g with
      | true => callV call o g (evs E st args.toList argTypes.toList ++ cap.map AV.one) st K
      | false => false
    | _ => false
  | _ => false

def exOps (n0 : Nat) (ops : Array Oper) : List Oper → St → (St → Bool) → Bool
  | [], st, K => K st
  | o :: rest, st, K =>
    match o.guard with
    | none => exOp E call n0 o st fun st' => exOps n0 ops rest st' K
    | some (j, want) => match (ops[j]?).bind (·.dst) with
      | none => false
      | some t => match get st.t t with
        | .one (.bool b) =>
          br b
            (match want with
              | true => exOp E call n0 o { st with t := put st.t t (.one (.bool true)) } fun st' => exOps n0 ops rest st' K
              | false => exOps n0 ops rest (setT { st with t := put st.t t (.one (.bool true)) } o.dst .undef) K)
            (match want with
              | false => exOp E call n0 o { st with t := put st.t t (.one (.bool false)) } fun st' => exOps n0 ops rest st' K
              | true => exOps n0 ops rest (setT { st with t := put st.t t (.one (.bool false)) } o.dst .undef) K)
        | .undef => exOps n0 ops rest (setT st o.dst .undef) K
        | _ => false

inductive X where
  | normal | exit (id : Nat) | ret

def kRec (T : Tab) (n0 : Nat) (keep : List Nat) (again : St → Bool) (K : X → St → Bool) : X → St → Bool
  | .normal, st => again (canon T n0 keep st)
  | .exit i, st => K (.exit i) st
  | .ret, st => K .ret st

def iter (T : Tab) (n0 : Nat) (body : St → (X → St → Bool) → Bool) (keep : List Nat) : Nat → St → (X → St → Bool) → Bool
  | 0, _, _ => false
  | k + 1, st, K => body st (kRec T n0 keep (fun s => iter T n0 body keep k s K) K)

def keyOf : Code → Nat
  | .region id _ _ => id
  | .seq a _ => keyOf a
  | .block _ a => keyOf a
  | .loop a => keyOf a
  | _ => 0

/-- Operations that neither write nor make memory, and do not call. -/
def stillOp : Op → Bool
  | .move _ | .assign _ | .pick .. | .load .. | .nilCheck _ | .binOp .. | .unOp .. | .fieldAddr .. | .field .. | .indexAddr .. | .index .. | .extract .. | .slice .. | .makeFunc .. | .lookup .. => true
  | .call { callee := .builtin .len, .. } | .call { callee := .builtin .min, .. } | .call { callee := .builtin .max, .. } => true
  | _ => false
/-- Operations that do not look at memory. -/
def pureOp : Op → Bool
  | .move _ | .assign _ | .pick .. | .binOp .. | .unOp .. | .fieldAddr .. | .field .. | .indexAddr .. | .index .. | .extract .. => true
  | .call { callee := .builtin .len, .. } => true
  | _ => false
def pureO (P : Program) (o : Oper) : Bool := pureOp o.op || match o.op with
  | .convert _ dst _ => match P.underlying dst with | some (.int _) => true | _ => false
  | _ => false
/-- An operation that may go first: it does not look at memory, and no other one minds. -/
def pickPure (P : Program) (ops : Array Oper) (listed : Array Bool) : List Nat → Option Nat
  | [] => none
  | i :: r => match ops[i]? with
    | some o => match pureO P o && Region.free .any ops listed i with
      | true => some i
      | false => pickPure P ops listed r
    | none => pickPure P ops listed r
/-- A load of what is not one's own may go first too. -/
def pickFar (st : St) (ops : Array Oper) (listed : Array Bool) : List Nat → Option Nat
  | [] => none
  | i :: r => match ops[i]? with
    | some o => match o.op, o.guard with
      | .load _ x, none => match ev E 2 st x with
        | .one (.pdat _ _ _) => match Region.free .any ops listed i with
          | true => some i
          | false => pickFar st ops listed r
        | _ => pickFar st ops listed r
      | _, _ => pickFar st ops listed r
    | none => pickFar st ops listed r
def allOf : List Nat → (Nat → Bool) → Bool
  | [], _ => true
  | [i], f => f i
  | i :: r, f => f i && allOf r f
/-- A region of no one order: whatever is ready next. -/
def exDraw (n0 : Nat) (ops : Array Oper) : Nat → Array Bool → St → (St → Bool) → Bool
  | 0, listed, st, K => match Region.ready .any ops listed with
    | [] => K st
    | _ => false
  | f + 1, listed, st, K => match Region.ready .any ops listed with
    | [] => K st
    | r => match pickPure E.P ops listed r with
      | some i => match ops[i]? with
        | some o => exOps E call n0 ops [o] st fun st' => exDraw n0 ops f (listed.setIfInBounds i true) st' K
        | none => false
      | none => match pickFar E st ops listed r with
       | some i => match ops[i]? with
        | some o => exOp E call n0 o st fun st' => exDraw n0 ops f (listed.setIfInBounds i true) st' K
        | none => false
       | none => allOf r fun i => match ops[i]? with
        | some o => exOps E call n0 ops [o] st fun st' => exDraw n0 ops f (listed.setIfInBounds i true) st' K
        | none => false

/-- What follows. -/
def kSeq (b : St → (X → St → Bool) → Bool) (K : X → St → Bool) : X → St → Bool
  | .normal, st => b st K
  | .exit i, st => K (.exit i) st
  | .ret, st => K .ret st
def kBlk (id : Nat) (K : X → St → Bool) : X → St → Bool
  | .normal, st => K .normal st
  | .exit i, st => match Nat.beq i id with | true => K .normal st | false => K (.exit i) st
  | .ret, st => K .ret st

/-- Operations ahead of the first one that may write. -/
def stillHead (P : Program) : List Oper → Nat
  | [] => 0
  | o :: r => match stillOp o.op || pureO P o with
    | true => stillHead P r + 1
    | false => 0
/-- A drawn region whose order does not matter. -/
def lexOk (P : Program) (ops : Array Oper) : Bool :=
  match Nat.beq (stillHead P ops.toList) ops.size with
  | true => Region.lexB .any ops
  | false => Region.lexTailB .any ops (stillHead P ops.toList)

def exC (n0 : Nat) (fid : FuncId) (k : Nat) : Code → St → (X → St → Bool) → Bool
  | .skip, st, K => K .normal st
  | .region _ ops draw, st, K => match draw with
    | false => exOps E call n0 ops ops.toList st (K .normal)
    | true => match lexOk E.P ops with
     | true => exOps E call n0 ops ops.toList st (K .normal)
     | false => match Region.noSelect ops with
      | true => exDraw E call n0 ops ops.size (Array.replicate ops.size false) st (K .normal)
      | false => false
  | .seq a b, st, K => exC n0 fid k a st (kSeq (exC n0 fid k b) K)
  | .cond c a b, st, K => match ev E 4 st c with
    | .one (.bool t) => br t (exC n0 fid k a (subT st c true) K) (exC n0 fid k b (subT st c false) K)
    | _ => false
  | .block id a, st, K => exC n0 fid k a st (kBlk id K)
  | .loop a, st, K => iter E.T n0 (exC n0 fid k a) (E.ann fid (keyOf a)) k (canon E.T n0 (E.ann fid (keyOf a)) st) K
  | .exit id, st, K => K (.exit id) st
  | .ret, st, K => K .ret st
  | _, _, _ => false

def resA (P : Program) (st : St) : List ResultVar → Option (List AV)
  | [] => some []
  | .tmp t :: r => match resA P st r with | some s => some (get st.t t :: s) | none => none
  | .cell a t :: r => match loadA P t st.b (get st.t a), resA P st r with | some v, some s => some (v :: s) | _, _ => none

def argsT : Nat → List AV → List (Nat × AV)
  | _, [] => []
  | n, v :: r => (n, v) :: argsT (n + 1) r

def dstOk (n : Nat) (o : Oper) : Bool := match o.dst with | some d => Nat.blt d n | none => true
/-- Every slot that is written is there. -/
def codeOk (n : Nat) : Code → Bool
  | .region _ ops _ => ops.toList.all (dstOk n)
  | .seq a b => codeOk n a && codeOk n b
  | .cond _ a b => codeOk n a && codeOk n b
  | .block _ a => codeOk n a
  | .loop a => codeOk n a
  | _ => true

def kBody (P : Program) (l : List ResultVar) (K : Kont) : X → St → Bool
  | .exit _, _ => false
  | _, st => match resA P st l with | some rs => K rs st.b | none => false

def bodyA (f : FuncId) (k : Nat) (args : List AV) (B : List Blk) (K : Kont) : Bool :=
  match E.P.funcs[f]? with
  | some fn => match fn.body with
    | some c => match codeOk fn.ntmps c && Nat.ble args.length fn.ntmps with
      | true => exC E call B.length f k c ⟨argsT 0 args, B⟩ (kBody E.P fn.results.toList K)
      | false => false
    | none => false
  | none => false
end

/-- A call: by what is known of the function, else by its code. -/
def run (E : Env) (k : Nat) : Nat → FuncId → List AV → List Blk → Kont → Bool
  | 0, f, args, B, K => match entFor (E.ent f) args with
    | some en => callEnt en args B K
    | none => false
  | d + 1, f, args, B, K => match entFor (E.ent f) args with
    | some en => callEnt en args B K
    | none => bodyA E (run E k d) f k args B K

/-- The slots that are kept, out of a list. -/
def annOf : List (Nat × Nat × List Nat) → FuncId → Nat → List Nat
  | [], _, _ => []
  | (f, n, l) :: r, g, m => match Nat.beq f g && Nat.beq n m with | true => l | false => annOf r g m

/-! places in the code -/
def fstC : Code → Code
  | .seq a _ => a | .cond _ a _ => a | .block _ a => a | .loop a => a | c => c
def sndC : Code → Code
  | .seq _ b => b | .cond _ _ b => b | c => c
def bodyC (P : Program) (f : FuncId) : Code := match P.funcs[f]? with | some fn => fn.body.getD .skip | none => .skip
def resC (P : Program) (f : FuncId) : List ResultVar := match P.funcs[f]? with | some fn => fn.results.toList | none => []

/-- Results, without the blocks that they do not lead to. 'dat': nil slices are plain data. -/
def trimC (n0 : Nat) : List AC → Option (Nat × Nat × List AC)
  | [] => none
  | x :: r => match x with
    | .sub j 0 n => match Nat.ble n0 j with
      | true => some (j, n, .own j :: r.map (AC.rn (forget j)))
      | false => match trimC n0 r with | some (i, m, s) => some (i, m, x.rn (forget i) :: s) | none => none
    | _ => match trimC n0 r with | some (i, m, s) => some (i, m, x.rn (forget i) :: s) | none => none
def trimV (n0 : Nat) : AV → Option (Nat × Nat × AV)
  | .one x => match trimC n0 [x] with | some (j, n, [y]) => some (j, n, .one y) | _ => none
  | .agg l => match trimC n0 l with | some (j, n, s) => some (j, n, .agg s) | none => none
  | _ => none
def trimL (n0 : Nat) : List AV → Option (Nat × Nat × List AV)
  | [] => none
  | v :: r => match trimV n0 v with
    | some (j, n, u) => some (j, n, u :: r.map (AV.rn (forget j)))
    | none => match trimL n0 r with | some (j, n, s) => some (j, n, v.rn (forget j) :: s) | none => none
def trim1 (n0 : Nat) (rs : List AV) (B : List Blk) : List AV × List Blk := match trimL n0 rs with
  | some (j, n, rs') => match B[j]? with
    | some (.rows t c l) => (rs', (B.map fun b => b.rn (forget j)).set j (.rows t c (l.take n)))
    | _ => (rs, B)
  | none => (rs, B)
def trim (n0 : Nat) (rs : List AV) (B : List Blk) : List AV × List Blk :=
  let q := trim1 n0 rs B
  trim1 n0 q.1 q.2
def clean (T : Tab) (dat : Bool) (n0 : Nat) (K : Kont) : Kont := fun rs B => match noTup rs with
  | true => match dat with
    | true =>
      let r := canonR n0 (rs.map AV.plainN) B
      K r.1 (promB T r.2.length 0 r.2)
    | false =>
      let q := trim n0 rs B
      let p := promR T q.1 q.2
      let r := canonR n0 p.1 p.2
      K r.1 (promB T r.2.length 0 r.2)
  | false => false

end Go.X
