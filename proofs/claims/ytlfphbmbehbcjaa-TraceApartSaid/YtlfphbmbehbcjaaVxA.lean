/- Vx, part A: an executor of Go code over symbolic values. It is written over an algebra of atoms, so that one text serves twice: over the model's own data (then its outcome is a statement; part C shows it sound) and over strings (then it prints that statement). -/
import Derived.OrdersHeld
import Derived.KernelRfl
namespace Go.Vx
open Go

/-- An operation that is carried out by the model itself, its operands as values. -/
inductive GOp (V : Type) where
  | lookup (t : TypeId) (x i : V) (ok : Bool)
  | mapUpdate (t : TypeId) (m k v : V)
  | mapEntry (t : TypeId) (m k : V)
  | entryStore (t : TypeId) (m s v : V)
  | slice (t : TypeId) (x : V) (lo hi mx : Option V)
  | indexAddr (t : TypeId) (x i : V)
  | index (t : TypeId) (x i : V)
  | makeSlice (t : TypeId) (l c : V)
  | makeMap (t : TypeId)
  | range (t : TypeId) (x : V)
  | next (x : V) (str : Bool) (ty : TypeId)
  | entry (x : V)
  | typeAssert (x : V) (xt t : TypeId) (ok : Bool)
  | convert (s d : TypeId) (x : V)
  | binOp (op : BinOp) (t : TypeId) (x y : V) (xc yc : Bool)
  | unOp (op : UnOp) (x : V)
  | builtin (b : Builtin) (ats : Array TypeId) (t : TypeId) (args : List V)

/-- The kinds of a cell. -/
inductive CK where
  | int (k : IntKind) | bool | str | ptr | slice | map | val
  deriving Inhabited

/-- The kinds of atoms. -/
inductive AK where
  | i | b | s | p | n | m | v | w
  deriving Inhabited

def CK.aks : CK → List AK
  | .int _ => [.i] | .bool => [.b] | .str => [.s] | .ptr => [.p] | .slice => [.p, .n, .n] | .map => [.m] | .val => [.v]

/-- An atom. -/
inductive At (I B S N P M V : Type) where
  | i (x : I) | b (x : B) | s (x : S) | p (x : P) | n (x : N) | m (x : M) | v (x : V)

/-- The atoms of data, values, worlds and statements. -/
structure Alg : Type 1 where
  I : Type
  B : Type
  S : Type
  N : Type
  A : Type
  P : Type
  M : Type
  V : Type
  W : Type
  Pr : Type
  iLit : Int → I
  iBin : BinOp → IntKind → I → I → I
  iNeg : IntKind → I → I
  iCmp : BinOp → I → I → B
  iWrap : IntKind → I → I
  iOfN : N → I
  bNot : B → B
  bAnd : B → B → B
  bEq : B → B → B
  bLit : Bool → B
  sLit : ByteArray → S
  sOp : BinOp → S → S → B
  sAdd : S → S → S
  sLen : S → I
  nLit : Nat → N
  aIdx : A → Nat → I → Nat → A
  aBlk : N → A
  pNil : P
  pNone : P → B
  pSome : A → Nat → P
  pLoc : N → Nat → P
  mNil : M
  mNone : M → B
  vInt : IntKind → I → V
  vBool : B → V
  vStr : S → V
  vPtr : P → V
  vSlice : P → N → N → V
  vMap : M → V
  vFunc : FuncId → List V → List V → V
  vNilFunc : V
  vIface : TypeId → V → V
  vNilIface : V
  vAgg : List V → V
  vTuple : List V → V
  tt : Pr
  ff : String → Pr
  and : Pr → Pr → Pr
  ifB : B → Bool → Pr → Pr
  all : AK → (At I B S N P M V → Pr) → Pr
  ex : AK → (At I B S N P M V → Pr) → Pr
  /-- 'there are cells of a type such that ..', their atoms told in a row -/
  exT : TypeId → List AK → (List (At I B S N P M V) → Pr) → Pr
  allW : (W → Pr) → Pr
  exW : (W → Pr) → Pr
  allN : (N → Pr) → Pr
  /-- 'the pointer is an address', and .. -/
  exA : P → (A → Pr) → Pr
  /-- a new block's number: at least this world's size, none of these; then .. -/
  fresh : W → List N → N → Pr → Pr
  /-- 'w is the world we but for the blocks listed', then .. -/
  framed : List N → W → W → Pr → Pr
  /-- 'the block holds these cells', then .. -/
  holds : W → N → List V → TypeId → Pr → Pr
  /-- the cells of an address on from an offset are these, and .. -/
  cells : W → A → Nat → List V → Pr → Pr
  /-- a store of cells at an address on from an offset: they are there and not frozen, none lies in a block of the list; then, in the next world, .. -/
  stores : List N → W → A → Nat → List V → (W → Pr) → Pr
  /-- the model's operation yields this value and leaves the world, in whatever world; and .. -/
  pure : GOp V → V → Pr → Pr
  /-- the model's operation yields this value and this world, the listed blocks kept, and .. -/
  runs : List N → W → GOp V → V → W → Pr → Pr
  /-- the same, its value one of two -/
  runsN : List N → W → GOp V → B → V → V → W → Pr → Pr
  /-- a call: it returns a value in a world, the listed blocks kept, such that .. -/
  calls : List N → W → FuncId → List V → (V → W → Pr) → Pr
  /-- 'this value is that one', and .. -/
  isV : V → V → Pr → Pr
  /-- an index in a length, and .. -/
  inLen : I → N → Pr → Pr
  /-- two strings' lengths go together, and .. -/
  sFits : S → S → Pr → Pr
  /-- a byte of a string, its place being in it -/
  sIdx : S → I → (I → Pr) → Pr
  sCut : S → Option I → Option I → (S → Pr) → Pr
  slCut : P → N → N → Nat → Option I → Option I → (P → N → N → Pr) → Pr
  /-- a loop's invariant and measure, of these atoms and a world -/
  loop : List AK → ((List (At I B S N P M V) → W → Pr) → (List (At I B S N P M V) → W → N) → Pr) → Pr
  hyp : Pr → Pr → Pr
  nLt : N → N → Pr
  /-- the blocks lie in the world, then .. -/
  within : List N → W → Pr → Pr
  /-- what is asked of the end -/
  done : V → W → Pr

abbrev Alg.At (𝔸 : Alg) := Go.Vx.At 𝔸.I 𝔸.B 𝔸.S 𝔸.N 𝔸.P 𝔸.M 𝔸.V

/-- A symbolic value. -/
inductive SVal (𝔸 : Alg) where
  | int (k : IntKind) (e : 𝔸.I)
  | lit (k : IntKind) (n : Int)
  | bool (b : 𝔸.B)
  | known (b : Bool)
  | str (s : 𝔸.S)
  | ptr (p : 𝔸.P)
  | addr (a : 𝔸.A) (off : Nat)
  | iter (p : 𝔸.P) (t : TypeId)
  | nilp
  | loc (i off : Nat)
  | slice (p : 𝔸.P) (len cap : 𝔸.N)
  | nils
  | lsl (i off len cap : Nat)
  | map (m : 𝔸.M)
  | nilm
  | func (f : FuncId) (first caps : List (SVal 𝔸))
  | nilf
  | iface (t : TypeId) (v : SVal 𝔸)
  | nili
  | agg (cs : List (SVal 𝔸))
  | tuple (cs : List (SVal 𝔸))
  | val (v : 𝔸.V)

variable {𝔸 : Alg}

mutual
/-- What a symbolic value stands for; 'β': the numbers of the call's own blocks. -/
def den (β : List 𝔸.N) : SVal 𝔸 → 𝔸.V
  | .int k e => 𝔸.vInt k e
  | .lit k n => 𝔸.vInt k (𝔸.iLit n)
  | .bool b => 𝔸.vBool b
  | .known b => 𝔸.vBool (𝔸.bLit b)
  | .str s => 𝔸.vStr s
  | .ptr p => 𝔸.vPtr p
  | .addr a off => 𝔸.vPtr (𝔸.pSome a off)
  | .iter p _ => 𝔸.vPtr p
  | .nilp => 𝔸.vPtr 𝔸.pNil
  | .loc i off => 𝔸.vPtr (𝔸.pLoc (β.getD i (𝔸.nLit 0)) off)
  | .slice p l c => 𝔸.vSlice p l c
  | .nils => 𝔸.vSlice 𝔸.pNil (𝔸.nLit 0) (𝔸.nLit 0)
  | .lsl i off l c => 𝔸.vSlice (𝔸.pLoc (β.getD i (𝔸.nLit 0)) off) (𝔸.nLit l) (𝔸.nLit c)
  | .map m => 𝔸.vMap m
  | .nilm => 𝔸.vMap 𝔸.mNil
  | .func f fs cs => 𝔸.vFunc f (denL β fs) (denL β cs)
  | .nilf => 𝔸.vNilFunc
  | .iface t v => 𝔸.vIface t (den β v)
  | .nili => 𝔸.vNilIface
  | .agg cs => 𝔸.vAgg (denL β cs)
  | .tuple cs => 𝔸.vTuple (denL β cs)
  | .val v => v
def denL (β : List 𝔸.N) : List (SVal 𝔸) → List 𝔸.V
  | [] => []
  | v :: vs => den β v :: denL β vs
end

/-- The cells of a symbolic value. -/
def SVal.cells : SVal 𝔸 → List (SVal 𝔸)
  | .agg cs => cs
  | v => [v]

/-- A constant of one cell as a symbolic value. -/
def lift1 : Value → Option (SVal 𝔸)
  | .bool b => some (.known b)
  | .int k n => some (.lit k n)
  | .string s => some (.str (𝔸.sLit s))
  | .pointer none => some .nilp
  | .slice none 0 0 => some .nils
  | .map none => some .nilm
  | .nilFunc => some .nilf
  | .nilIface => some .nili
  | _ => none
def liftL : List Value → Option (List (SVal 𝔸))
  | [] => some []
  | v :: vs =>
    match lift1 v, liftL vs with
    | some x, some xs => some (x :: xs)
    | _, _ => none
/-- A constant as a symbolic value. -/
def lift : Value → Option (SVal 𝔸)
  | .agg cs => (liftL cs.toList).map .agg
  | v => lift1 v

def memN : List Nat → Nat → Bool
  | [], _ => false
  | k :: r, n => Nat.beq k n || memN r n

def assoc {α : Type} : List (Nat × α) → Nat → Option α
  | [], _ => none
  | (k, v) :: r, n => if Nat.beq k n then some v else assoc r n

/-- A block of the call's own. -/
structure Blk (𝔸 : Alg) where
  cells : List (SVal 𝔸)
  elem : TypeId
  stamp : Nat

/-- The state of the executor: the slots that are known, the call's own blocks with their numbers, the last world that was spoken of. -/
structure St (𝔸 : Alg) where
  tmps : List (Nat × Option (SVal 𝔸))
  nt : Nat
  locs : List (Nat × Blk 𝔸)
  bases : List 𝔸.N
  ctr : Nat
  we : 𝔸.W
  /-- May the world have moved on since? -/
  dirty : Bool
  /-- The blocks that have been let go: others may lead to them. -/
  rel : List Nat

def St.get (st : St 𝔸) (t : Nat) : Option (SVal 𝔸) := (assoc st.tmps t).bind id
def St.loc? (st : St 𝔸) (i : Nat) : Option (Blk 𝔸) := if memN st.rel i then none else assoc st.locs i
def St.base (st : St 𝔸) (i : Nat) : 𝔸.N := st.bases.getD i (𝔸.nLit 0)
/-- The numbers of the blocks that are the call's own still; 'i': the first one's place. -/
def liveFrom (rel : List Nat) : Nat → List 𝔸.N → List 𝔸.N
  | _, [] => []
  | i, b :: r => if memN rel i then liveFrom rel (i + 1) r else b :: liveFrom rel (i + 1) r
def St.live (st : St 𝔸) : List 𝔸.N := liveFrom st.rel 0 st.bases
def St.put (st : St 𝔸) (dst : Option Tmp) (v : SVal 𝔸) : St 𝔸 :=
  match dst with
  | none => st
  | some d => { st with tmps := (d, some v) :: st.tmps }
/-- May the slot be written? -/
def St.has (st : St 𝔸) (dst : Option Tmp) : Bool :=
  match dst with
  | none => true
  | some d => Nat.blt d st.nt
def St.den (st : St 𝔸) (v : SVal 𝔸) : 𝔸.V := Go.Vx.den st.bases v

def undefS : SVal 𝔸 := .tuple []

mutual
/-- A value as it is to be read: what leads to a block that was let go leads to memory like any other. -/
def conv (rel : List Nat) (β : List 𝔸.N) : SVal 𝔸 → SVal 𝔸
  | .loc i off => if memN rel i then .addr (𝔸.aBlk (β.getD i (𝔸.nLit 0))) off else .loc i off
  | .lsl i off l c => if memN rel i then .slice (𝔸.pLoc (β.getD i (𝔸.nLit 0)) off) (𝔸.nLit l) (𝔸.nLit c) else .lsl i off l c
  | .func f a b => .func f (convL rel β a) (convL rel β b)
  | .iface t v => .iface t (conv rel β v)
  | .agg cs => .agg (convL rel β cs)
  | .tuple cs => .tuple (convL rel β cs)
  | v => v
def convL (rel : List Nat) (β : List 𝔸.N) : List (SVal 𝔸) → List (SVal 𝔸)
  | [] => []
  | v :: vs => conv rel β v :: convL rel β vs
end

/-- The value as it is to be read now. -/
def St.cv (st : St 𝔸) (v : SVal 𝔸) : SVal 𝔸 :=
  match st.rel with
  | [] => v
  | r => conv r st.bases v

def St.opd (st : St 𝔸) : Operand → Option (SVal 𝔸)
  | .tmp t => match st.get t with | some v => some (st.cv v) | none => none
  | .const v => lift v
  | .global _ => none
  | .func f => some (.func f [] [])

def isConstO : Operand → Bool
  | .const _ => true
  | _ => false

def opds (st : St 𝔸) : List Operand → Option (List (SVal 𝔸))
  | [] => some []
  | x :: xs =>
    match st.opd x, opds st xs with
    | some v, some vs => some (v :: vs)
    | _, _ => none

/-! ### Types -/
def isAggT (P : Program) (t : TypeId) : Bool :=
  match P.underlying t with
  | some (.struct _) => true
  | some (.array _ _) => true
  | _ => false

mutual
def cksT (P : Program) : Nat → TypeId → Option (List CK)
  | 0, _ => none
  | d + 1, t =>
    match P.underlying t with
    | some (.int k) => some [.int k]
    | some .bool => some [.bool]
    | some .string => some [.str]
    | some (.pointer _) => some [.ptr]
    | some (.slice _) => some [.slice]
    | some (.map _ _) => some [.map]
    | some (.interface _) => some [.val]
    | some (.func _ _ _) => some [.val]
    | some (.struct fs) => cksF P d fs.toList
    | some (.array n e) => (cksT P d e).map fun l => (List.replicate n l).flatten
    | _ => none
def cksF (P : Program) : Nat → List Field → Option (List CK)
  | 0, _ => none
  | _ + 1, [] => some []
  | d + 1, f :: fs =>
    match cksT P d f.type, cksF P d fs with
    | some a, some b => some (a ++ b)
    | _, _ => none
end

inductive Shape where
  | one (k : CK)
  | agg (t : TypeId) (ks : List CK)
  | tuple (cs : List Shape)
  deriving Inhabited

def shape1 (P : Program) (t : TypeId) : Option Shape :=
  match cksT P 60 t with
  | some ks => if Nat.beq ks.length (P.cellsOf t) then (if isAggT P t then some (.agg t ks) else match ks with
    | [k] => if (P.underlying t).isSome then some (.one k) else none
    | _ => none) else none
  | none => none

def shapes (P : Program) : List TypeId → Option (List Shape)
  | [] => some []
  | t :: ts =>
    match shape1 P t, shapes P ts with
    | some a, some b => some (a :: b)
    | _, _ => none

def shapeT (P : Program) (t : TypeId) : Option Shape :=
  match P.underlying t with
  | some (.tuple ts) => (shapes P ts.toList).map .tuple
  | _ => shape1 P t

/-! ### Values of a kind, under a quantifier -/
def mkC (q : AK → (𝔸.At → 𝔸.Pr) → 𝔸.Pr) : CK → (SVal 𝔸 → 𝔸.Pr) → 𝔸.Pr
  | .int k, K => q .i fun | .i x => K (.int k x) | _ => 𝔸.tt
  | .bool, K => q .b fun | .b x => K (.bool x) | _ => 𝔸.tt
  | .str, K => q .s fun | .s x => K (.str x) | _ => 𝔸.tt
  | .ptr, K => q .p fun | .p x => K (.ptr x) | _ => 𝔸.tt
  | .map, K => q .m fun | .m x => K (.map x) | _ => 𝔸.tt
  | .val, K => q .v fun | .v x => K (.val x) | _ => 𝔸.tt
  | .slice, K => q .p fun
    | .p x => q .n fun
      | .n l => q .n fun
        | .n c => K (.slice x l c)
        | _ => 𝔸.tt
      | _ => 𝔸.tt
    | _ => 𝔸.tt

def mkL (q : AK → (𝔸.At → 𝔸.Pr) → 𝔸.Pr) : List CK → (List (SVal 𝔸) → 𝔸.Pr) → 𝔸.Pr
  | [], K => K []
  | k :: ks, K => mkC q k fun v => mkL q ks fun vs => K (v :: vs)

/-- Values of these kinds, out of their atoms. -/
def ofAts : List CK → List 𝔸.At → Option (List (SVal 𝔸))
  | [], [] => some []
  | .int k :: ks, .i x :: r => match ofAts ks r with | some vs => some (.int k x :: vs) | none => none
  | .bool :: ks, .b x :: r => match ofAts ks r with | some vs => some (.bool x :: vs) | none => none
  | .str :: ks, .s x :: r => match ofAts ks r with | some vs => some (.str x :: vs) | none => none
  | .ptr :: ks, .p x :: r => match ofAts ks r with | some vs => some (.ptr x :: vs) | none => none
  | .map :: ks, .m x :: r => match ofAts ks r with | some vs => some (.map x :: vs) | none => none
  | .val :: ks, .v x :: r => match ofAts ks r with | some vs => some (.val x :: vs) | none => none
  | .slice :: ks, .p x :: .n l :: .n c :: r => match ofAts ks r with | some vs => some (.slice x l c :: vs) | none => none
  | _, _ => none

def aksL : List CK → List AK
  | [] => []
  | k :: ks => k.aks ++ aksL ks

mutual
def mkSh (q : AK → (𝔸.At → 𝔸.Pr) → 𝔸.Pr) (qt : TypeId → List AK → (List 𝔸.At → 𝔸.Pr) → 𝔸.Pr) : Shape → (SVal 𝔸 → 𝔸.Pr) → 𝔸.Pr
  | .one k, K => mkC q k K
  | .agg t ks, K => qt t (aksL ks) fun ats => match ofAts ks ats with | some vs => K (.agg vs) | none => 𝔸.ff "atoms of other kinds"
  | .tuple cs, K => mkShs q qt cs fun vs => K (.tuple vs)
def mkShs (q : AK → (𝔸.At → 𝔸.Pr) → 𝔸.Pr) (qt : TypeId → List AK → (List 𝔸.At → 𝔸.Pr) → 𝔸.Pr) : List Shape → (List (SVal 𝔸) → 𝔸.Pr) → 𝔸.Pr
  | [], K => K []
  | c :: cs, K => mkSh q qt c fun v => mkShs q qt cs fun vs => K (v :: vs)
end

/-- A value's atoms, as a kind has them. -/
def atomsC (β : List 𝔸.N) : CK → SVal 𝔸 → Option (List 𝔸.At)
  | .int k, .int k' e => if k = k' then some [.i e] else none
  | .int k, .lit k' n => if k = k' then some [.i (𝔸.iLit n)] else none
  | .bool, .bool b => some [.b b]
  | .bool, .known b => some [.b (𝔸.bLit b)]
  | .str, .str s => some [.s s]
  | .ptr, .ptr p => some [.p p]
  | .ptr, .addr a off => some [.p (𝔸.pSome a off)]
  | .ptr, .nilp => some [.p 𝔸.pNil]
  | .ptr, .loc i off => some [.p (𝔸.pLoc (β.getD i (𝔸.nLit 0)) off)]
  | .slice, .slice p l c => some [.p p, .n l, .n c]
  | .slice, .nils => some [.p 𝔸.pNil, .n (𝔸.nLit 0), .n (𝔸.nLit 0)]
  | .slice, .lsl i off l c => some [.p (𝔸.pLoc (β.getD i (𝔸.nLit 0)) off), .n (𝔸.nLit l), .n (𝔸.nLit c)]
  | .map, .map m => some [.m m]
  | .map, .nilm => some [.m 𝔸.mNil]
  | .val, .val v => some [.v v]
  | .val, .iface t x => some [.v (𝔸.vIface t (den β x))]
  | .val, .nili => some [.v 𝔸.vNilIface]
  | .val, .nilf => some [.v 𝔸.vNilFunc]
  | .val, .func f fs cs => some [.v (𝔸.vFunc f (denL β fs) (denL β cs))]
  | _, _ => none

def atomsL (β : List 𝔸.N) : List CK → List (SVal 𝔸) → Option (List 𝔸.At)
  | [], [] => some []
  | k :: ks, v :: vs =>
    match atomsC β k v, atomsL β ks vs with
    | some a, some b => some (a ++ b)
    | _, _ => none
  | _, _ => none

end Go.Vx
