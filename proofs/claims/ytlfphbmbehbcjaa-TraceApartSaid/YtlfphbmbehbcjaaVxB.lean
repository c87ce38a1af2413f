/- Vx, part B: the executor itself: from a function's code and symbolic arguments to a statement. -/
import Derived.Test.YtlfphbmbehbcjaaVxA
namespace Go.Vx
open Go
variable {𝔸 : Alg}

def asI : SVal 𝔸 → Option (IntKind × 𝔸.I)
  | .int k e => some (k, e)
  | .lit k n => some (k, 𝔸.iLit n)
  | _ => none
def asB : SVal 𝔸 → Option 𝔸.B
  | .bool b => some b
  | .known b => some (𝔸.bLit b)
  | _ => none

def eqI : SVal 𝔸 → SVal 𝔸 → Option 𝔸.B
  | x, y =>
    match asI x, asI y with
    | some (k, a), some (k', b) => if k = k' then some (𝔸.iCmp .eql a b) else none
    | _, _ => none

mutual
/-- Are two values of a type equal, cell by cell? Of types of numbers, bools, strings and structs of such. -/
def eqT (P : Program) : Nat → TypeId → List (SVal 𝔸) → List (SVal 𝔸) → Option 𝔸.B
  | 0, _, _, _ => none
  | d + 1, t, xs, ys =>
    match P.underlying t with
    | some (.int _) => match xs, ys with
      | [x], [y] => eqI x y
      | _, _ => none
    | some .bool => match xs, ys with
      | [x], [y] => match asB x, asB y with
        | some a, some b => some (𝔸.bEq a b)
        | _, _ => none
      | _, _ => none
    | some .string => match xs, ys with
      | [.str a], [.str b] => some (𝔸.sOp .eql a b)
      | _, _ => none
    | some (.struct fs) => if P.stoodInHeld t then none else eqF P d 0 fs.toList xs ys
    | _ => none
def eqF (P : Program) : Nat → Nat → List Field → List (SVal 𝔸) → List (SVal 𝔸) → Option 𝔸.B
  | 0, _, _, _, _ => none
  | _ + 1, _, [], _, _ => some (𝔸.bLit true)
  | d + 1, off, f :: fs, xs, ys =>
    if f.name != "_" && Nat.beq f.offset off && Nat.blt 0 (P.cellsOf f.type) && Nat.ble (P.cellsOf f.type) xs.length && Nat.ble (P.cellsOf f.type) ys.length then
      match eqT P d f.type (xs.take (P.cellsOf f.type)) (ys.take (P.cellsOf f.type)) with
      | none => none
      | some a =>
        match fs with
        | [] => some a
        | fs =>
          match eqF P d (off + P.cellsOf f.type) fs (xs.drop (P.cellsOf f.type)) (ys.drop (P.cellsOf f.type)) with
          | some b => some (𝔸.bAnd a b)
          | none => none
    else none
end

def litBin (op : BinOp) (k : IntKind) (a b : Int) : Option (SVal 𝔸) :=
  match op with
  | .add => some (.lit k (k.wrap (a + b)))
  | .sub => some (.lit k (k.wrap (a - b)))
  | .mul => some (.lit k (k.wrap (a * b)))
  | .eql => some (.known (a == b))
  | .neq => some (.known (a != b))
  | .lss => some (.known (decide (a < b)))
  | .leq => some (.known (decide (a ≤ b)))
  | .gtr => some (.known (decide (b < a)))
  | .geq => some (.known (decide (b ≤ a)))
  | _ => none

def eqn (op : BinOp) (r : Bool) : Option (SVal 𝔸) :=
  match op with
  | .eql => some (.known r)
  | .neq => some (.known !r)
  | _ => none
def eqb (op : BinOp) (r : 𝔸.B) : Option (SVal 𝔸) :=
  match op with
  | .eql => some (.bool r)
  | .neq => some (.bool (𝔸.bNot r))
  | _ => none

def isCmp : BinOp → Bool
  | .eql => true | .neq => true | .lss => true | .leq => true | .gtr => true | .geq => true
  | _ => false
def isArith : BinOp → Bool
  | .add => true | .sub => true | .mul => true | .and => true | .or => true | .xor => true | .andNot => true
  | _ => false

def isPtrT (P : Program) (t : TypeId) : Bool := match P.underlying t with | some (.pointer _) => true | _ => false
def isIfaceT (P : Program) (t : TypeId) : Bool := match P.underlying t with | some (.interface _) => true | _ => false
def isMapT (P : Program) (t : TypeId) : Bool := match P.underlying t with | some (.map _ _) => true | _ => false
def isSliceT (P : Program) (t : TypeId) : Bool := match P.underlying t with | some (.slice _) => true | _ => false
def isFuncT (P : Program) (t : TypeId) : Bool := match P.underlying t with | some (.func _ _ _) => true | _ => false
def isBoolT (P : Program) (t : TypeId) : Bool := match P.underlying t with | some .bool => true | _ => false

def binS (P : Program) (op : BinOp) (t : TypeId) (xc yc : Bool) : SVal 𝔸 → SVal 𝔸 → Option (SVal 𝔸)
  | .lit k a, .lit k' b => if k = k' then litBin op k a b else none
  | .str a, .str b => if isCmp op then some (.bool (𝔸.sOp op a b)) else none
  | .nilp, .nilp => if isPtrT P t then eqn op true else none
  | .nilp, .loc _ _ => if isPtrT P t then eqn op false else none
  | .loc _ _, .nilp => if isPtrT P t then eqn op false else none
  | .nilp, .addr _ _ => if isPtrT P t then eqn op false else none
  | .addr _ _, .nilp => if isPtrT P t then eqn op false else none
  | .ptr p, .nilp => if isPtrT P t then eqb op (𝔸.pNone p) else none
  | .nilp, .ptr p => if isPtrT P t then eqb op (𝔸.pNone p) else none
  | .nilm, .nilm => if isMapT P t then eqn op true else none
  | .map m, .nilm => if isMapT P t then eqb op (𝔸.mNone m) else none
  | .nils, .nils => if isSliceT P t then eqn op true else none
  | .lsl _ _ _ _, .nils => if isSliceT P t then eqn op false else none
  | .slice p _ _, .nils => if isSliceT P t then eqb op (𝔸.pNone p) else none
  | .nilf, .nilf => if isFuncT P t then eqn op true else none
  | .func _ _ _, .nilf => if isFuncT P t then eqn op false else none
  | .nili, .nili => if isIfaceT P t && (xc || yc) then eqn op true else none
  | .nili, .iface _ _ => if isIfaceT P t then eqn op false else none
  | .iface _ _, .nili => if isIfaceT P t then eqn op false else none
  | .agg xs, .agg ys =>
    if isAggT P t && !P.eqGuardType P.depth t && Nat.beq xs.length (P.cellsOf t) && Nat.beq ys.length (P.cellsOf t) then (eqT P 60 t xs ys).bind (eqb op) else none
  | x, y =>
    match asB x, asB y with
    | some a, some b => if isBoolT P t then eqb op (𝔸.bEq a b) else none
    | _, _ =>
      match asI x, asI y with
      | some (k, a), some (k', b) =>
        if isCmp op then (if k = k' then some (.bool (𝔸.iCmp op a b)) else none)
        else if isArith op then (if k = k' then some (.int k (𝔸.iBin op k a b)) else none)
        else match op, y with
          | .quo, .lit _ n => if k = k' && n != 0 then some (.int k (𝔸.iBin .quo k a b)) else none
          | .rem, .lit _ n => if k = k' && n != 0 then some (.int k (𝔸.iBin .rem k a b)) else none
          | .shl, .lit _ n => if decide (0 ≤ n) then some (.int k (𝔸.iBin .shl k a b)) else none
          | .shr, .lit _ n => if decide (0 ≤ n) then some (.int k (𝔸.iBin .shr k a b)) else none
          | _, _ => none
      | _, _ => none

def unS (op : UnOp) : SVal 𝔸 → Option (SVal 𝔸)
  | .known b => match op with | .not => some (.known !b) | _ => none
  | .bool b => match op with | .not => some (.bool (𝔸.bNot b)) | _ => none
  | .int k e => match op with | .neg => some (.int k (𝔸.iNeg k e)) | _ => none
  | .lit k n => match op with | .neg => some (.lit k (k.wrap (0 - n))) | _ => none
  | _ => none

def convS (P : Program) (d : TypeId) : SVal 𝔸 → Option (SVal 𝔸)
  | .int _ e => match P.underlying d with | some (.int k) => some (.int k (𝔸.iWrap k e)) | _ => none
  | .lit _ n => match P.underlying d with | some (.int k) => some (.lit k (k.wrap n)) | _ => none
  | .str s => match P.underlying d with | some .string => some (.str s) | _ => none
  | _ => none

/-- One value out of cells: as the type has it. -/
def ofCells (P : Program) (t : TypeId) (cs : List (SVal 𝔸)) : Option (SVal 𝔸) :=
  if Nat.beq cs.length (P.cellsOf t) then
    if isAggT P t then some (.agg cs) else match cs with
      | [c] => if (P.underlying t).isSome then some c else none
      | _ => none
  else none

def fieldOf (P : Program) (s : TypeId) (f : Nat) : Option Field :=
  match P.underlying s with
  | some (.struct fs) => fs[f]?
  | _ => none

def elemOfT (P : Program) (t : TypeId) : Option TypeId :=
  match P.underlying t with
  | some (.slice e) => if (P.info? e).isSome then some e else none
  | _ => none

def arrOfT (P : Program) (t : TypeId) : Option (Nat × TypeId) :=
  match P.underlying t with
  | some (.array n e) => if (P.info? e).isSome then some (n, e) else none
  | _ => none

/-- Parts laid over cells; 'place': where each part stands, and how long it is. -/
def fillS (place : Nat → Option (Nat × Nat)) : List (SVal 𝔸) → List (Nat × SVal 𝔸) → Option (List (SVal 𝔸))
  | cells, [] => some cells
  | cells, (i, v) :: rest =>
    match place i with
    | none => none
    | some (off, size) =>
      if Nat.beq v.cells.length size && Nat.ble (off + size) cells.length then fillS place (cells.take off ++ (v.cells ++ cells.drop (off + size))) rest else none

def zeroV (P : Program) (t : TypeId) : Option (SVal 𝔸) :=
  match P.info? t with
  | some i => match i.zero with
    | some z => match lift z with
      | some v => if Nat.beq v.cells.length (P.cellsOf t) then some v else none
      | none => none
    | none => none
  | none => none
def zeroS (P : Program) (t : TypeId) : Option (List (SVal 𝔸)) :=
  match zeroV P t with
  | some v => some v.cells
  | none => none

def partsS (st : St 𝔸) : List (Nat × Operand) → Option (List (Nat × SVal 𝔸))
  | [] => some []
  | (i, x) :: r =>
    match st.opd x, partsS st r with
    | some v, some vs => some ((i, v) :: vs)
    | _, _ => none

def buildS (P : Program) (t : TypeId) (parts : List (Nat × SVal 𝔸)) : Option (SVal 𝔸) :=
  match zeroS P t with
  | none => none
  | some z =>
    match P.underlying t with
    | some (.struct fs) => if fs.toList.all fun f => (P.info? f.type).isSome then (fillS (fun i => (fs[i]?).map fun f => (f.offset, P.cellsOf f.type)) z parts).map .agg else none
    | some (.array _ e) => if (P.info? e).isSome then (fillS (fun i => some (i * P.cellsOf e, P.cellsOf e)) z parts).map .agg else none
    | _ => none

/-- What an operation that leaves the world alone looks at. -/
inductive Cls where
  | pure | loc (i : Nat) | ext

abbrev Sil (𝔸 : Alg) := Cls × ((SVal 𝔸 → St 𝔸 → 𝔸.Pr) → 𝔸.Pr)

/-- The world at hand is spoken of. -/
def St.atWorld (st : St 𝔸) (K : St 𝔸 → 𝔸.Pr) : 𝔸.Pr :=
  if st.dirty then 𝔸.allW fun w => 𝔸.framed st.live st.we w (K { st with we := w, dirty := false }) else K st

def silV (st : St 𝔸) (v : Option (SVal 𝔸)) : Option (Sil 𝔸) := v.map fun v => (.pure, fun K => K v st)

def optI (st : St 𝔸) : Option Operand → Option (Option 𝔸.I)
  | none => some none
  | some x => match st.opd x with
    | some v => (asI v).map fun p => some p.2
    | none => none

def optV (st : St 𝔸) : Option Operand → Option (Option 𝔸.V)
  | none => some none
  | some x => (st.opd x).map fun v => some (st.den v)

/-- The operation as the model's own, its operands as values. -/
def gop (st : St 𝔸) : Op → Option (GOp 𝔸.V)
  | .lookup t x i ok => match st.opd x, st.opd i with | some a, some b => some (.lookup t (st.den a) (st.den b) ok) | _, _ => none
  | .mapUpdate t m k v => match st.opd m, st.opd k, st.opd v with | some a, some b, some c => some (.mapUpdate t (st.den a) (st.den b) (st.den c)) | _, _, _ => none
  | .insert t m k v => match st.opd m, st.opd k, st.opd v with | some a, some b, some c => some (.mapUpdate t (st.den a) (st.den b) (st.den c)) | _, _, _ => none
  | .mapEntry t m k => match st.opd m, st.opd k with | some a, some b => some (.mapEntry t (st.den a) (st.den b)) | _, _ => none
  | .entryStore t m k v => match st.opd m, st.opd k, st.opd v with | some a, some b, some c => some (.entryStore t (st.den a) (st.den b) (st.den c)) | _, _, _ => none
  | .slice t x l h m => match st.opd x, optV st l, optV st h, optV st m with | some a, some l, some h, some m => some (.slice t (st.den a) l h m) | _, _, _, _ => none
  | .indexAddr t x i => match st.opd x, st.opd i with | some a, some b => some (.indexAddr t (st.den a) (st.den b)) | _, _ => none
  | .index t x i => match st.opd x, st.opd i with | some a, some b => some (.index t (st.den a) (st.den b)) | _, _ => none
  | .makeSlice t x i => match st.opd x, st.opd i with | some a, some b => some (.makeSlice t (st.den a) (st.den b)) | _, _ => none
  | .makeMap t none => some (.makeMap t)
  | .range t x => (st.opd x).map fun a => .range t (st.den a)
  | .entry x => (st.opd x).map fun a => .entry (st.den a)
  | .typeAssert x xt t ok => (st.opd x).map fun a => .typeAssert (st.den a) xt t ok
  | .convert s d x => (st.opd x).map fun a => .convert s d (st.den a)
  | .binOp op t x y _ => match st.opd x, st.opd y with | some a, some b => some (.binOp op t (st.den a) (st.den b) (isConstO x) (isConstO y)) | _, _ => none
  | .unOp op _ x => (st.opd x).map fun a => .unOp op (st.den a)
  | _ => none

def gopO (st : St 𝔸) (o : Oper) : Option (GOp 𝔸.V) :=
  match o.op with
  | .next x s => (st.opd x).map fun a => .next (st.den a) s o.type
  | .call { callee := .builtin b, args, argTypes } =>
    if b = .recover || b = .print || b = .println || b = .panic then none else (opds st args.toList).map fun vs => .builtin b argTypes o.type (denL st.bases vs)
  | op => gop st op

def addrS (st : St 𝔸) (off : Nat) : SVal 𝔸 → Option ((SVal 𝔸 → St 𝔸 → 𝔸.Pr) → 𝔸.Pr)
  | .loc i o => some fun K => K (.loc i (o + off)) st
  | .addr a o => some fun K => K (.addr a (o + off)) st
  | .ptr p => some fun K => 𝔸.exA p fun a => K (.addr a off) st
  | _ => none

/-- An operation that only looks, where the executor knows it. -/
def silK (P : Program) (st : St 𝔸) : Op → Option (Sil 𝔸)
  | .move x => silV st (st.opd x)
  | .assign x => silV st (st.opd x)
  | .pick c a b =>
    match st.opd c with
    | some (.known true) => silV st (st.opd a)
    | some (.known false) => silV st (st.opd b)
    | some (.bool c) =>
      match st.opd a, st.opd b with
      | some x, some y => some (.pure, fun K => 𝔸.and (𝔸.ifB c true (K x st)) (𝔸.ifB c false (K y st)))
      | _, _ => none
    | _ => none
  | .load t a =>
    match st.opd a with
    | some (.loc i off) =>
      match st.loc? i with
      | some b => (ofCells P t ((b.cells.drop off).take (P.cellsOf t))).map fun v => (.loc i, fun K => K v st)
      | none => none
    | some (.addr a off) =>
      match shape1 P t with
      | some sh => some (.ext, fun K => st.atWorld fun st => mkSh 𝔸.ex 𝔸.exT sh fun v => 𝔸.cells st.we a off (denL st.bases v.cells) (K v st))
      | none => none
    | some (.ptr p) =>
      match shape1 P t with
      | some sh => some (.ext, fun K => 𝔸.exA p fun a => st.atWorld fun st => mkSh 𝔸.ex 𝔸.exT sh fun v => 𝔸.cells st.we a 0 (denL st.bases v.cells) (K v st))
      | none => none
    | _ => none
  | .nilCheck x =>
    match st.opd x with
    | some (.ptr p) => some (.pure, fun K => 𝔸.exA p fun a => K (.addr a 0) st)
    | some (.addr a o) => some (.pure, fun K => K (.addr a o) st)
    | some (.loc i o) => some (.pure, fun K => K (.loc i o) st)
    | some (.func f fs cs) => some (.pure, fun K => K (.func f fs cs) st)
    | _ => none
  | .binOp op t x y _ =>
    match st.opd x, st.opd y with
    | some (.str a), some (.str b) =>
      if op = .add then some (.pure, fun K => 𝔸.sFits a b (K (.str (𝔸.sAdd a b)) st)) else silV st (binS P op t (isConstO x) (isConstO y) (.str a) (.str b))
    | some a, some b => silV st (binS P op t (isConstO x) (isConstO y) a b)
    | _, _ => none
  | .unOp op _ x => match st.opd x with | some a => silV st (unS op a) | none => none
  | .convert s d x => match st.opd x with | some a => if (P.underlying s).isSome then silV st (convS P d a) else none | none => none
  | .fieldAddr s x f =>
    match fieldOf P s f, st.opd x with
    | some fd, some v => if Nat.beq (P.cellsOf fd.type) 0 then none else (addrS st fd.offset v).map fun φ => (.pure, φ)
    | _, _ => none
  | .field t x f =>
    match fieldOf P t f, st.opd x with
    | some fd, some (.agg cs) => silV st (ofCells P fd.type ((cs.drop fd.offset).take (P.cellsOf fd.type)))
    | _, _ => none
  | .extract x i =>
    match st.opd x with
    | some (.tuple cs) => silV st cs[i]?
    | _ => none
  | .makeInterface t x => match st.opd x with | some v => if isIfaceT P t then none else (if (P.underlying t).isSome then silV st (some (.iface t v)) else none) | none => none
  | .makeFunc (.func f) fs cs =>
    match opds st fs.toList, opds st cs.toList with
    | some fs, some cs => silV st (some (.func f fs cs))
    | _, _ => none
  | .build t parts => match partsS st parts.toList with | some ps => silV st (buildS P t ps) | none => none
  | .indexAddr t x ix =>
    match st.opd x, st.opd ix with
    | some (.slice p l _), some i =>
      match elemOfT P t, asI i with
      | some e, some (_, n) => some (.pure, fun K => 𝔸.exA p fun a => 𝔸.inLen n l (K (.addr (𝔸.aIdx a 0 n (P.cellsOf e)) 0) st))
      | _, _ => none
    | some (.lsl i off l _), some (.lit _ n) =>
      match elemOfT P t with
      | some e => if decide (0 ≤ n) && decide (n < (l : Int)) then silV st (some (.loc i (off + n.toNat * P.cellsOf e))) else none
      | _ => none
    | some (.loc i off), some (.lit _ n) =>
      match arrOfT P t with
      | some (l, e) => if decide (0 ≤ n) && decide (n < (l : Int)) then silV st (some (.loc i (off + n.toNat * P.cellsOf e))) else none
      | _ => none
    | some (.addr a off), some (.lit _ n) =>
      match arrOfT P t with
      | some (l, e) => if decide (0 ≤ n) && decide (n < (l : Int)) then silV st (some (.addr a (off + n.toNat * P.cellsOf e))) else none
      | _ => none
    | _, _ => none
  | .index t x ix =>
    match st.opd x, st.opd ix with
    | some (.str s), some i =>
      match P.underlying t, asI i with
      | some .string, some (_, n) => some (.pure, fun K => 𝔸.sIdx s n fun e => K (.int .u8 e) st)
      | _, _ => none
    | some (.agg cs), some (.lit _ n) =>
      match arrOfT P t with
      | some (l, e) => if decide (0 ≤ n) && decide (n < (l : Int)) then silV st (ofCells P e ((cs.drop (n.toNat * P.cellsOf e)).take (P.cellsOf e))) else none
      | _ => none
    | _, _ => none
  | .slice t x l h none =>
    match st.opd x, optI st l, optI st h with
    | some (.str s), some l, some h =>
      match P.underlying t with
      | some .string => some (.pure, fun K => 𝔸.sCut s l h fun r => K (.str r) st)
      | _ => none
    | some (.slice p n c), some l, some h =>
      match elemOfT P t with
      | some e => some (.pure, fun K => 𝔸.slCut p n c (P.cellsOf e) l h fun p n c => K (.slice p n c) st)
      | none => none
    | _, _, _ => none
  | .typeAssert x _ t ok =>
    if isIfaceT P t || !(P.underlying t).isSome then none else
    match st.opd x with
    | some (.iface u v) =>
      if Nat.beq u t then silV st (some (if ok then .tuple [v, .known true] else v))
      else if ok then match zeroV P t with
        | some v => silV st (some (.tuple [v, .known false]))
        | none => none
      else none
    | some .nili =>
      if ok then match zeroV P t with
        | some v => silV st (some (.tuple [v, .known false]))
        | none => none
      else none
    | _ => none
  | .call { callee := .builtin .len, args, argTypes } =>
    match argTypes.toList, args.toList with
    | [t], [x] =>
      match st.opd x, P.underlying t with
      | some (.str s), some .string => silV st (some (.int .i64 (𝔸.sLen s)))
      | some (.slice _ l _), some (.slice _) => silV st (some (.int .i64 (𝔸.iOfN l)))
      | some .nils, some (.slice _) => silV st (some (.lit .i64 0))
      | some (.lsl _ _ l _), some (.slice _) => silV st (some (.lit .i64 l))
      | some .nilm, some (.map _ _) => silV st (some (.lit .i64 0))
      | _, some (.array n _) => silV st (some (.lit .i64 n))
      | _, _ => none
    | _, _ => none
  | _ => none

/-- The kinds of operations that, where the executor doesn't know them, the model carries out in whatever world to the same end. -/
def isPureOp : Op → Bool
  | .slice .. => true
  | .index .. => true
  | .typeAssert .. => true
  | .unOp .. => true
  | .binOp .. => true
  | .call { callee := .builtin .max, .. } => true
  | .call { callee := .builtin .min, .. } => true
  | .call { callee := .builtin .cap, .. } => true
  | _ => false

def silS (P : Program) (st : St 𝔸) (o : Oper) : Option (Sil 𝔸) :=
  match silK P st o.op with
  | some r => some r
  | none =>
    if isPureOp o.op then
      match gopO st o, shapeT P o.type with
      | some g, some sh => some (.pure, fun K => mkSh 𝔸.ex 𝔸.exT sh fun v => 𝔸.pure g (st.den v) (K v st))
      | _, _ => none
    else none

/-! ### What changes the world -/
/-- How a run is to go: which functions are walked into; which blocks of the call's own a loop turns (by function, and the number of the loop's first region). -/
structure Cfg where
  P : Program
  inl : List FuncId
  hav : List (FuncId × Nat × List Nat)
  drop : List (FuncId × Nat × List Nat)
  let_ : List (FuncId × Nat × List Nat)

def look2 : List (FuncId × Nat × List Nat) → FuncId → Nat → List Nat
  | [], _, _ => []
  | (f, l, x) :: r, g, m => if Nat.beq f g && Nat.beq l m then x else look2 r g m

def St.grow (st : St 𝔸) (cells : List (SVal 𝔸)) (elem : TypeId) (b : 𝔸.N) : St 𝔸 :=
  { st with locs := (st.bases.length, { cells, elem, stamp := st.ctr }) :: st.locs, bases := st.bases ++ [b], ctr := st.ctr + 1, dirty := true }
def St.newBlk (st : St 𝔸) (cells : List (SVal 𝔸)) (elem : TypeId) (K : Nat → St 𝔸 → 𝔸.Pr) : 𝔸.Pr :=
  𝔸.allN fun b => 𝔸.fresh st.we st.bases b (K st.bases.length (st.grow cells elem b))

def St.setLoc (st : St 𝔸) (i : Nat) (b : Blk 𝔸) (off : Nat) (vs : List (SVal 𝔸)) : St 𝔸 :=
  { st with locs := (i, { cells := b.cells.take off ++ (vs ++ b.cells.drop (off + vs.length)), elem := b.elem, stamp := st.ctr }) :: st.locs, ctr := st.ctr + 1, dirty := true }

mutual
def locsOf : SVal 𝔸 → List Nat
  | .loc i _ => [i]
  | .lsl i _ _ _ => [i]
  | .func _ a b => locsOfL a ++ locsOfL b
  | .iface _ v => locsOf v
  | .agg cs => locsOfL cs
  | .tuple cs => locsOfL cs
  | _ => []
def locsOfL : List (SVal 𝔸) → List Nat
  | [] => []
  | v :: vs => locsOf v ++ locsOfL vs
end

def reach (st : St 𝔸) : Nat → List Nat → List Nat → List Nat
  | 0, _, seen => seen
  | _ + 1, [], seen => seen
  | n + 1, i :: todo, seen =>
    if memN seen i then reach st n todo seen else
    match st.loc? i with
    | some b => reach st n (locsOfL b.cells ++ todo) (i :: seen)
    | none => reach st n todo seen

def holdsS (st : St 𝔸) (w : 𝔸.W) : List Nat → 𝔸.Pr → 𝔸.Pr
  | [], K => K
  | i :: r, K =>
    match st.loc? i with
    | some b => 𝔸.holds w (st.base i) (denL st.bases b.cells) b.elem (holdsS st w r K)
    | none => holdsS st w r K

/-- What these values lead to is let go: what it holds is told, and it is memory like any other from then on. -/
def St.letGo (st : St 𝔸) (vs : List (SVal 𝔸)) (K : St 𝔸 → 𝔸.Pr) : 𝔸.Pr :=
  match locsOfL vs with
  | [] => K st
  | l => let r := reach st 1000 l []
    holdsS st st.we r.reverse (K { st with rel := r ++ st.rel })

/-- Blocks let go by their numbers. -/
def St.atWorldIf (st : St 𝔸) (l : List Nat) (K : St 𝔸 → 𝔸.Pr) : 𝔸.Pr :=
  match l with
  | [] => K st
  | l => st.atWorld fun st => st.letGo (l.map fun i => .loc i 0) K

def notAgg : SVal 𝔸 → Bool
  | .agg _ => false
  | .tuple _ => false
  | _ => true

def storeS (P : Program) (st : St 𝔸) (t : TypeId) (a v : SVal 𝔸) (K : St 𝔸 → 𝔸.Pr) : 𝔸.Pr :=
  if Nat.beq v.cells.length (P.cellsOf t) && !Nat.beq v.cells.length 0 && v.cells.all notAgg then
    match a with
    | .loc i off =>
      match st.loc? i with
      | some b => if Nat.ble (off + v.cells.length) b.cells.length then K (st.setLoc i b off v.cells) else 𝔸.ff "store: past the block's end"
      | none => 𝔸.ff "store: no such block"
    | .addr a off => st.atWorld fun st => st.letGo v.cells fun st => 𝔸.stores st.live st.we a off (denL st.bases v.cells) fun w' => K { st with we := w' }
    | .ptr p => 𝔸.exA p fun a => st.atWorld fun st => st.letGo v.cells fun st => 𝔸.stores st.live st.we a 0 (denL st.bases v.cells) fun w' => K { st with we := w' }
    | _ => 𝔸.ff "store: what address?"
  else 𝔸.ff "store: the value does not fit"

def opdVals (st : St 𝔸) : List Operand → List (SVal 𝔸)
  | [] => []
  | x :: xs => match st.opd x with | some v => v :: opdVals st xs | none => opdVals st xs

/-- What an iterator over a type brings. -/
def iterSh (P : Program) (t : TypeId) : Option (List Shape) :=
  match P.underlying t with
  | some (.map k e) => shapes P [k, e]
  | some .string => some [.one (.int .i64), .one (.int .i32)]
  | _ => none

/-- The kind of the result of an operation that the model carries out. -/
def shapeX (P : Program) (st : St 𝔸) (o : Oper) : Option Shape :=
  match o.op with
  | .range _ _ => some (.one .ptr)
  | .entry x => match st.opd x with
    | some (.iter _ t) => (iterSh P t).map .tuple
    | _ => none
  | .mapEntry t _ _ => match P.underlying t with
    | some (.map _ e) => (shape1 P e).map fun s => .tuple [s, .one (.int .i64)]
    | _ => none
  | _ => shapeT P o.type

/-- An iterator keeps the type that it goes over. -/
def wrapX : Op → SVal 𝔸 → SVal 𝔸
  | .range t _, .ptr p => .iter p t
  | _, v => v

def runsS (P : Program) (st : St 𝔸) (o : Oper) (K : SVal 𝔸 → St 𝔸 → 𝔸.Pr) : 𝔸.Pr :=
  match gopO st o with
  | none => 𝔸.ff ("not covered: operation at " ++ o.pos)
  | some g =>
    match o.op with
    | .next x _ =>
      match st.opd x with
      | some (.iter _ t) =>
        match iterSh P t with
        | some shs => st.atWorld fun st => 𝔸.ex .b fun
          | .b b => mkShs 𝔸.ex 𝔸.exT shs fun kv => 𝔸.exW fun w' => 𝔸.runsN st.live st.we g b (𝔸.vTuple (𝔸.vBool (𝔸.bLit true) :: denL st.bases kv)) (𝔸.vTuple [𝔸.vBool (𝔸.bLit false)]) w'
              (𝔸.and (𝔸.ifB b true (K (.tuple (.known true :: kv)) { st with we := w' })) (𝔸.ifB b false (K (.tuple [.known false]) { st with we := w' })))
          | _ => 𝔸.tt
        | none => 𝔸.ff "next: what is gone over?"
      | _ => 𝔸.ff "next: no iterator"
    | _ =>
    match o.dst with
    | none => st.atWorld fun st => st.letGo (opdVals st o.op.operands.toList) fun st => 𝔸.exW fun w' => 𝔸.runs st.live st.we g (𝔸.vTuple []) w' (K undefS { st with we := w' })
    | some _ =>
      match shapeX P st o with
      | none => 𝔸.ff ("no shape of the result at " ++ o.pos)
      | some sh => st.atWorld fun st => st.letGo (opdVals st o.op.operands.toList) fun st => mkSh 𝔸.ex 𝔸.exT sh fun v => 𝔸.exW fun w' => 𝔸.runs st.live st.we g (st.den v) w' (K (wrapX o.op v) { st with we := w' })

/-- How a piece of code ends. -/
inductive Ex where
  | normal | exit (i : Nat) | ret

def finishS (st : St 𝔸) (v : SVal 𝔸) : 𝔸.Pr := st.atWorld fun st => holdsS st st.we (reach st 1000 (locsOf v) []).reverse (𝔸.done (st.den v) st.we)

def resOne (P : Program) (st : St 𝔸) : ResultVar → Option (SVal 𝔸)
  | .tmp t => st.opd (.tmp t)
  | .cell a t =>
    match st.opd (.tmp a) with
    | some (.loc i off) =>
      match st.loc? i with
      | some b => ofCells P t ((b.cells.drop off).take (P.cellsOf t))
      | none => none
    | _ => none

def resAll (P : Program) (st : St 𝔸) : List ResultVar → Option (List (SVal 𝔸))
  | [] => some []
  | r :: rs =>
    match resOne P st r, resAll P st rs with
    | some v, some vs => some (v :: vs)
    | _, _ => none

def resS (P : Program) (st : St 𝔸) (fn : Func) : Option (SVal 𝔸) :=
  match resAll P st fn.results.toList with
  | some [v] => some v
  | some vs => some (.tuple vs)
  | none => none

def initT : Nat → List (SVal 𝔸) → List (Nat × Option (SVal 𝔸))
  | _, [] => []
  | i, v :: vs => (i, some v) :: initT (i + 1) vs

/-- The slots that a piece of code writes: the slot, the type, is it by a plain assignment? -/
def assigned : Code → List (Nat × TypeId × Bool)
  | .region _ ops _ => ops.toList.filterMap fun o => o.dst.map fun d => (d, o.type, match o.op with | .assign _ => true | _ => false)
  | .seq a b => assigned a ++ assigned b
  | .cond _ a b => assigned a ++ assigned b
  | .block _ b => assigned b
  | .loop b => assigned b
  | .scope b => assigned b
  | _ => []

def firstRegion : Code → Option Nat
  | .region i _ _ => some i
  | .seq a b => match firstRegion a with | some i => some i | none => firstRegion b
  | .cond _ a b => match firstRegion a with | some i => some i | none => firstRegion b
  | .block _ b => firstRegion b
  | .loop b => firstRegion b
  | .scope b => firstRegion b
  | _ => none

def usesO (s : Nat) : List Operand → Bool
  | [] => false
  | .tmp t :: r => Nat.beq t s || usesO s r
  | _ :: r => usesO s r
/-- Of a slot and a row of operations: may it be read before it is written; is it surely written? -/
def liveOps (s : Nat) : List Oper → Bool × Bool
  | [] => (false, false)
  | o :: r =>
    if usesO s o.op.operands.toList then (true, false) else
    match o.dst, o.guard with
    | some d, none => if Nat.beq d s then (false, true) else liveOps s r
    | _, _ => liveOps s r
/-- The same of a piece of code. It serves to choose what goes round a loop: nothing rests on it. -/
def liveIn (s : Nat) : Code → Bool × Bool
  | .region _ ops _ => liveOps s ops.toList
  | .seq a b => match liveIn s a with
    | (true, _) => (true, false)
    | (false, true) => (false, true)
    | (false, false) => liveIn s b
  | .cond c a b => if usesO s [c] then (true, false) else match liveIn s a, liveIn s b with
    | (x, p), (y, q) => (x || y, p && q)
  | .block _ b => liveIn s b
  | .loop b => ((liveIn s b).1, false)
  | .scope b => liveIn s b
  | _ => (false, false)

/-- The slots that go round a loop, with their kinds. -/
def carryS (P : Program) (fn : Func) (body : Code) (st : St 𝔸) (drop : List Nat) : List (Nat × TypeId × Bool) → List Nat → List (Nat × CK)
  | [], _ => []
  | (s, t, asg) :: r, seen =>
    if memN seen s || memN drop s || !((asg && (fn.tmpNames.getD s "") != "") || (liveIn s body).1) then carryS P fn body st drop r seen else
    match st.get s, shape1 P t with
    | some v, some (.one k) => match atomsC st.bases k v with
      | some _ => (s, k) :: carryS P fn body st drop r (s :: seen)
      | none => carryS P fn body st drop r seen
    | _, _ => carryS P fn body st drop r seen

def forget : List (Nat × TypeId × Bool) → List (Nat × Option (SVal 𝔸)) → List (Nat × Option (SVal 𝔸))
  | [], l => l
  | (s, _, _) :: r, l => (s, none) :: forget r l

def getAll (st : St 𝔸) : List (Nat × CK) → Option (List (SVal 𝔸))
  | [] => some []
  | (s, _) :: r =>
    match st.get s, getAll st r with
    | some v, some vs => some (v :: vs)
    | _, _ => none

def putAll : List (Nat × CK) → List (SVal 𝔸) → List (Nat × Option (SVal 𝔸)) → List (Nat × Option (SVal 𝔸))
  | (s, _) :: r, v :: vs, l => (s, some v) :: putAll r vs l
  | _, _, l => l

/-- The blocks that a loop turns. -/
def havBlks (st : St 𝔸) : List Nat → Option (List (Nat × Blk 𝔸))
  | [] => some []
  | i :: r =>
    match st.loc? i, havBlks st r with
    | some b, some rest => some ((i, b) :: rest)
    | _, _ => none

/-- The kinds of their cells. -/
def havKs (P : Program) : List (Nat × Blk 𝔸) → Option (List (List CK))
  | [] => some []
  | (_, b) :: r =>
    match cksT P 60 b.elem, havKs P r with
    | some ks, some rest => if Nat.beq ks.length 0 then none else some ((List.replicate (b.cells.length / ks.length) ks).flatten :: rest)
    | _, _ => none

def blkCells : List (Nat × Blk 𝔸) → List (List (SVal 𝔸))
  | [] => []
  | (_, b) :: r => b.cells :: blkCells r

def havSet (c : Nat) : List (Nat × Blk 𝔸) → List (List (SVal 𝔸)) → List (Nat × Blk 𝔸)
  | (i, b) :: r, ys :: yss => (i, { cells := ys, elem := b.elem, stamp := c }) :: havSet c r yss
  | _, _ => []

def mkLL (q : AK → (𝔸.At → 𝔸.Pr) → 𝔸.Pr) : List (List CK) → (List (List (SVal 𝔸)) → 𝔸.Pr) → 𝔸.Pr
  | [], K => K []
  | ks :: kss, K => mkL q ks fun vs => mkLL q kss fun vss => K (vs :: vss)

def atomsLL (β : List 𝔸.N) : List (List CK) → List (List (SVal 𝔸)) → Option (List 𝔸.At)
  | [], [] => some []
  | ks :: kss, vs :: vss =>
    match atomsL β ks vs, atomsLL β kss vss with
    | some a, some b => some (a ++ b)
    | _, _ => none
  | _, _ => none

def sameElems : List (Nat × Blk 𝔸) → List (Nat × Blk 𝔸) → Bool
  | [], [] => true
  | (_, b) :: r, (_, b') :: r' => Nat.beq b.elem b'.elem && sameElems r r'
  | _, _ => false

def memA : List (Nat × TypeId × Bool) → Nat → Bool
  | [], _ => false
  | (k, _, _) :: r, n => Nat.beq k n || memA r n

def keysIn (asg : List (Nat × TypeId × Bool)) : List (Nat × Option (SVal 𝔸)) → Bool
  | [] => true
  | (k, _) :: r => memA asg k && keysIn asg r

/-- Are all blocks below n but those listed as they were when the count stood at c? -/
def sameLocs (st st' : St 𝔸) (hav : List Nat) (c : Nat) : Nat → Bool
  | 0 => true
  | n + 1 =>
    (memN hav n || (match st.loc? n with
      | none => true
      | some _ => match st'.loc? n with
        | some b => Nat.blt b.stamp c
        | none => false)) && sameLocs st st' hav c n

/-- The block of the call's own that an address of a region's leads to: 'some none': none that was there; 'none': not known. -/
def rootS (st : St 𝔸) (ops : List Oper) : Nat → Nat → Option (Option Nat)
  | 0, _ => none
  | n + 1, t =>
    match ops.find? fun o => match o.dst with | some d => Nat.beq d t | none => false with
    | some o =>
      match o.op with
      | .fieldAddr _ (.tmp x) _ => rootS st ops n x
      | .nilCheck (.tmp x) => rootS st ops n x
      | .move (.tmp x) => rootS st ops n x
      | .indexAddr _ (.tmp x) _ => rootS st ops n x
      | .alloc _ => some none
      | .box _ _ => some none
      | .load _ _ => some none
      | _ => none
    | none =>
      match st.get t with
      | some (.loc i _) => some (some i)
      | some (.lsl i _ _ _) => some (some i)
      | some (.addr _ _) => some none
      | some (.ptr _) => some none
      | some (.slice _ _ _) => some none
      | _ => none

/-- The blocks of the call's own that operands lead to, where that is seen. -/
def rootsO (st : St 𝔸) (ops : List Oper) : List Operand → List Nat
  | [] => []
  | .tmp t :: r => match rootS st ops 50 t with
    | some (some i) => i :: rootsO st ops r
    | _ => rootsO st ops r
  | _ :: r => rootsO st ops r

/-- The blocks that a region's stores turn; 'none': not known. -/
def turnedS (st : St 𝔸) (ops : List Oper) : List Oper → Option (List Nat)
  | [] => some []
  | o :: r =>
    match o.op with
    | .store _ (.tmp a) v =>
      match rootS st ops 50 a, turnedS st ops r with
      | some (some i), some l => some (i :: (rootsO st ops [v] ++ l))
      | some none, some l => some (rootsO st ops [v] ++ l)
      | _, _ => none
    | .store _ _ _ => none
    | .call c => (turnedS st ops r).map fun l => rootsO st ops c.operands.toList ++ l
    | _ => turnedS st ops r

def opsOf : Code → List Oper
  | .region _ ops _ => ops.toList
  | .seq a b => opsOf a ++ opsOf b
  | .cond _ a b => opsOf a ++ opsOf b
  | .block _ b => opsOf b
  | .loop b => opsOf b
  | .scope b => opsOf b
  | _ => []

/-- May an operation of this kind change the world? -/
def isLoud (P : Program) : Op → Bool
  | .alloc _ => true
  | .box _ _ => true
  | .buildSlice _ _ _ => true
  | .store _ _ _ => true
  | .mapUpdate _ _ _ _ => true
  | .insert _ _ _ _ => true
  | .mapEntry _ _ _ => true
  | .entryStore _ _ _ _ => true
  | .makeSlice _ _ _ => true
  | .makeMap _ _ => true
  | .range _ _ => true
  | .next _ _ => true
  | .entry _ => true
  | .lookup _ _ _ _ => true
  | .convert s d _ =>
    match P.underlying s, P.underlying d with
    | some (.int _), some (.int _) => false
    | some .string, some .string => false
    | _, _ => true
  | .call { callee := .builtin .len, .. } => false
  | .call { callee := .builtin .max, .. } => false
  | .call { callee := .builtin .min, .. } => false
  | .call { callee := .builtin .cap, .. } => false
  | .call _ => true
  | _ => false

/-- Does an operation of this kind only add to the world? -/
def isGrow : Op → Bool
  | .alloc _ => true
  | .box _ _ => true
  | .buildSlice _ _ _ => true
  | _ => false

/-- Do all loud operations that have not come up, and do more than add to the world, wait for number i? 'bef': of each operation the set of those that come before it. -/
def loudWait (P : Program) (ops : Array Oper) (bef : Array Nat) (listed : Array Bool) (i : Nat) : Nat → Bool
  | 0 => true
  | j + 1 => (listed.getD j true || Nat.beq i j || !isLoud P (ops.getD j default).op || isGrow (ops.getD j default).op || (bef.getD j 0).testBit i) && loudWait P ops bef listed i j

/-- Are the blocks listed as they were in the other state? -/
def keptLocs (st st' : St 𝔸) : List Nat → Bool
  | [] => true
  | i :: r => (match st.loc? i with | none => true | some b => match st'.loc? i with | some b' => Nat.beq b.stamp b'.stamp | none => false) && keptLocs st st' r

/-- The guard of an operation: known, or to be parted on. -/
inductive Gd (𝔸 : Alg) where
  | yes | no | part (d : Nat) (b : 𝔸.B) (want : Bool) | bad

def guardS (ops : Array Oper) (st : St 𝔸) (o : Oper) : Gd 𝔸 :=
  match o.guard with
  | none => .yes
  | some (j, want) =>
    match (ops[j]?).bind (·.dst) with
    | none => .bad
    | some d =>
      match st.get d with
      | some (.known b) => if b == want then .yes else .no
      | some (.bool b) => .part d b want
      | some (.tuple []) => .no
      | _ => .bad

/-- May what an operation looks at be looked at first? -/
def allowed (P : Program) (ops : Array Oper) (bef : Array Nat) (stable : List Nat) (listed : Array Bool) (i : Nat) : Cls → Bool
  | .pure => true
  | .loc j => memN stable j
  | .ext => loudWait P ops bef listed i ops.size

/-- Number i taken first, if it may be. -/
def takeD (P : Program) (ops : Array Oper) (bef : Array Nat) (stable : List Nat) (listed : Array Bool) (st : St 𝔸) (i : Nat) : Option ((St 𝔸 → 𝔸.Pr) → 𝔸.Pr) :=
  if Region.free .any ops listed i then
    match ops[i]? with
    | none => none
    | some o =>
      if st.has o.dst then
        match guardS ops st o with
        | .bad => none
        | .no => some fun K => K (st.put o.dst undefS)
        | .yes =>
          match silS P st o with
          | some (c, φ) => if allowed P ops bef stable listed i c then some fun K => φ fun v st' => K (st'.put o.dst v) else none
          | none => none
        | .part d b want =>
          match silS P (st.put (some d) (.known want)) o with
          | some (c, φ) =>
            if allowed P ops bef stable listed i c then
              some fun K => 𝔸.and (𝔸.ifB b want (φ fun v st' => K (st'.put o.dst v))) (𝔸.ifB b (!want) (K ((st.put (some d) (.known !want)).put o.dst undefS)))
            else none
          | none => none
      else none
  else none

def firstTake (P : Program) (ops : Array Oper) (bef : Array Nat) (stable : List Nat) (listed : Array Bool) (st : St 𝔸) : List Nat → Option (Nat × ((St 𝔸 → 𝔸.Pr) → 𝔸.Pr))
  | [] => none
  | i :: r =>
    match takeD P ops bef stable listed st i with
    | some T => some (i, T)
    | none => firstTake P ops bef stable listed st r

def stableS (st : St 𝔸) (turned : Option (List Nat)) : List Nat :=
  match turned with
  | none => []
  | some l => (List.range st.bases.length).filter fun i => !memN l i && (st.loc? i).isSome

mutual
def exec (cfg : Cfg) (fid : FuncId) (fn : Func) : Nat → Code → St 𝔸 → (Ex → St 𝔸 → 𝔸.Pr) → 𝔸.Pr
  | 0, _, _, _ => 𝔸.ff "no fuel"
  | n + 1, c, st, K =>
    match c with
    | .skip => K .normal st
    | .label _ => K .normal st
    | .ret => K .ret st
    | .exit i => K (.exit i) st
    | .seq a b => exec cfg fid fn n a st fun e st' => match e with
      | .normal => exec cfg fid fn n b st' K
      | e => K e st'
    | .cond c a b =>
      match st.opd c with
      | some (.known true) => exec cfg fid fn n a st K
      | some (.known false) => exec cfg fid fn n b st K
      | some (.bool x) => 𝔸.and (𝔸.ifB x true (exec cfg fid fn n a st K)) (𝔸.ifB x false (exec cfg fid fn n b st K))
      | _ => 𝔸.ff "cond: no bool"
    | .block id b => exec cfg fid fn n b st fun e st' => match e with
      | .exit i => if Nat.beq i id then K .normal st' else K (.exit i) st'
      | e => K e st'
    | .region _ ops false => execOps cfg n ops ops.toList st fun st' => K .normal st'
    | .region _ ops true => if Region.noSelect ops then execD cfg n ops (Region.before ops) { st with dirty := true } (stableS st (turnedS st ops.toList ops.toList)) ops.size (Array.replicate ops.size false) { st with dirty := true } (fun st' => K .normal st') else 𝔸.ff "select"
    | .loop b =>
      let key := (firstRegion b).getD 0
      st.atWorldIf (look2 cfg.let_ fid key) fun st =>
      let asg := assigned b
      let hav := look2 cfg.hav fid key ++ ((turnedS st (opsOf b) (opsOf b)).getD [])
      let carry := carryS cfg.P fn b st (look2 cfg.drop fid key) asg []
      let kc := carry.map (·.2)
      match havBlks st hav, getAll st carry with
      | some blks, some vs =>
        match havKs cfg.P blks with
        | none => 𝔸.ff "loop: kinds of what is turned"
        | some kss =>
          match atomsL st.bases kc vs, atomsLL st.bases kss (blkCells blks) with
          | some i1, some i2 =>
            𝔸.loop ((kc ++ kss.flatten).flatMap CK.aks) fun inv μ =>
              𝔸.and (st.atWorld fun st => inv (i1 ++ i2) st.we)
                (mkL 𝔸.all kc fun xs => mkLL 𝔸.all kss fun yss => 𝔸.allW fun w => 𝔸.within st.live w
                  (match atomsL st.bases kc xs, atomsLL st.bases kss yss with
                  | some n1, some n2 =>
                    𝔸.hyp (inv (n1 ++ n2) w)
                      (exec cfg fid fn n b { st with tmps := putAll carry xs (forget asg st.tmps), locs := havSet st.ctr blks yss ++ st.locs, ctr := st.ctr + 1, we := w, dirty := false } fun e st' =>
                        match e with
                        | .normal =>
                          if keysIn asg (st'.tmps.take (st'.tmps.length - (putAll carry xs (forget asg st.tmps)).length)) && sameLocs st st' hav (st.ctr + 1) st.bases.length then
                            match getAll st' carry, havBlks st' hav with
                            | some vs', some blks' =>
                              if sameElems blks blks' then
                                match atomsL st'.bases kc vs', atomsLL st'.bases kss (blkCells blks') with
                                | some m1, some m2 => st'.atWorld fun st'' => 𝔸.and (inv (m1 ++ m2) st''.we) (𝔸.nLt (μ (m1 ++ m2) st''.we) (μ (n1 ++ n2) w))
                                | _, _ => 𝔸.ff "loop: the end does not fit"
                              else 𝔸.ff "loop: kinds of blocks"
                            | _, _ => 𝔸.ff "loop: a slot is not known at the end"
                          else 𝔸.ff "loop: a block or a slot was turned that is not listed"
                        | e => K e st')
                  | _, _ => 𝔸.ff "loop: kinds"))
          | _, _ => 𝔸.ff "loop: the start does not fit"
      | _, _ => 𝔸.ff "loop: what goes round is not known"
    | _ => 𝔸.ff "code that is not covered"
termination_by structural n _ _ _ => n
/-- The operations in their order. -/
def execOps (cfg : Cfg) : Nat → Array Oper → List Oper → St 𝔸 → (St 𝔸 → 𝔸.Pr) → 𝔸.Pr
  | 0, _, _, _, _ => 𝔸.ff "no fuel"
  | _ + 1, _, [], st, K => K st
  | n + 1, ops, o :: rest, st, K => execOp1 cfg n ops o st fun st' => execOps cfg n ops rest st' K
termination_by structural n _ _ _ _ => n
/-- One operation, with its guard. -/
def execOp1 (cfg : Cfg) : Nat → Array Oper → Oper → St 𝔸 → (St 𝔸 → 𝔸.Pr) → 𝔸.Pr
  | 0, _, _, _, _ => 𝔸.ff "no fuel"
  | n + 1, ops, o, st, K =>
    if st.has o.dst then
      match guardS ops st o with
      | .yes => execOpN cfg n o st K
      | .no => K (st.put o.dst undefS)
      | .part d b want =>
        𝔸.and (𝔸.ifB b want (execOpN cfg n o (st.put (some d) (.known want)) K))
          (𝔸.ifB b (!want) (K ((st.put (some d) (.known !want)).put o.dst undefS)))
      | .bad => 𝔸.ff ("guard at " ++ o.pos)
    else 𝔸.ff "no such slot"
termination_by structural n _ _ _ _ => n
/-- One operation, its guard passed. -/
def execOpN (cfg : Cfg) : Nat → Oper → St 𝔸 → (St 𝔸 → 𝔸.Pr) → 𝔸.Pr
  | 0, _, _, _ => 𝔸.ff "no fuel"
  | n + 1, o, st, K =>
    match silS cfg.P st o with
    | some (_, φ) => φ fun v st' => K (st'.put o.dst v)
    | none =>
      if !isLoud cfg.P o.op then 𝔸.ff ("not covered, or not known: the operation at " ++ o.pos) else
      match o.op with
      | .alloc t =>
        match zeroS cfg.P t with
        | some z => st.newBlk z t fun i st' => K (st'.put o.dst (.loc i 0))
        | none => 𝔸.ff "alloc: no zero"
      | .box t x =>
        match st.opd x with
        | some v => if v.cells.all notAgg then st.newBlk v.cells t fun i st' => K (st'.put o.dst (.loc i 0)) else 𝔸.ff "box: what value?"
        | none => 𝔸.ff "box: no value"
      | .buildSlice t len parts =>
        match elemOfT cfg.P t, partsS st parts.toList with
        | some e, some ps =>
          match zeroS cfg.P e with
          | some z =>
            if Nat.ble (len * cfg.P.cellsOf e) 16777216 && !Nat.beq (len * cfg.P.cellsOf e) 0 then
              match fillS (fun i => some (i * cfg.P.cellsOf e, cfg.P.cellsOf e)) ((List.replicate len z).flatten) ps with
              | some cells => if cells.all notAgg then st.newBlk cells e fun i st' => K (st'.put o.dst (.lsl i 0 len len)) else 𝔸.ff "buildSlice: what parts?"
              | none => 𝔸.ff "buildSlice: parts"
            else 𝔸.ff "buildSlice: size"
          | none => 𝔸.ff "buildSlice: no zero"
        | _, _ => 𝔸.ff "buildSlice: kinds"
      | .store t a x =>
        match st.opd a, st.opd x with
        | some a, some v => storeS cfg.P st t a v fun st' => K (st'.put o.dst undefS)
        | _, _ => 𝔸.ff ("store: not known at " ++ o.pos)
      | .call { callee := .value f, args, .. } =>
        match st.opd f, opds st args.toList with
        | some (.func g fs cs), some vs => callS cfg n g (fs ++ (vs ++ cs)) st fun v st' => K (st'.put o.dst v)
        | _, _ => 𝔸.ff ("call: not known at " ++ o.pos)
      | _ => runsS cfg.P st o fun v st' => K (st'.put o.dst v)
termination_by structural n _ _ _ => n
/-- A call: walked into, or by what is known of it. -/
def callS (cfg : Cfg) : Nat → FuncId → List (SVal 𝔸) → St 𝔸 → (SVal 𝔸 → St 𝔸 → 𝔸.Pr) → 𝔸.Pr
  | 0, _, _, _, _ => 𝔸.ff "no fuel"
  | n + 1, g, args, st, K =>
    match cfg.P.funcs[g]? with
    | none => 𝔸.ff "call: no such function"
    | some fn =>
      match fn.body with
      | none => 𝔸.ff ("call of a function without a body: " ++ fn.name)
      | some body =>
        if fn.name == "runtime.NumGoroutine" then 𝔸.ff "NumGoroutine" else
        if memN cfg.inl g then
          exec cfg g fn n body { st with tmps := initT 0 args, nt := args.length + (fn.ntmps - args.length) } fun e st' => match e with
            | .exit _ => 𝔸.ff "call: an exit"
            | _ =>
              match resS cfg.P st' fn with
              | some v => K v { st' with tmps := st.tmps, nt := st.nt }
              | none => 𝔸.ff ("call: the results are not known: " ++ fn.name)
        else
          match (match fn.resultTypes.toList with | [t] => shape1 cfg.P t | ts => (shapes cfg.P ts).map .tuple) with
          | none => 𝔸.ff "call: no shape of the results"
          | some sh => st.atWorld fun st => st.letGo args fun st => 𝔸.calls st.live st.we g (denL st.bases args) fun r w' => mkSh 𝔸.ex 𝔸.exT sh fun v => 𝔸.isV r (st.den v) (K v { st with we := w' })
termination_by structural n _ _ _ _ => n
/-- A region that draws its order. -/
def execD (cfg : Cfg) : Nat → Array Oper → Array Nat → St 𝔸 → List Nat → Nat → Array Bool → St 𝔸 → (St 𝔸 → 𝔸.Pr) → 𝔸.Pr
  | 0, _, _, _, _, _, _, _, _ => 𝔸.ff "no fuel"
  | n + 1, ops, bef, st0, stable, m, listed, st, K =>
    match m with
    | 0 => (match Region.ready .any ops listed with | [] => K st | _ => 𝔸.ff "region: rounds")
    | m + 1 =>
      match Region.ready .any ops listed with
      | [] => K st
      | rs =>
        match firstTake cfg.P ops bef stable listed st rs with
        | some (i, T) => T fun st' => execD cfg n ops bef st0 stable m (listed.setIfInBounds i true) st' K
        | none => execAll cfg n ops bef st0 stable m listed rs st K
termination_by structural n _ _ _ _ _ _ _ _ => n
/-- Whichever of those comes up. -/
def execAll (cfg : Cfg) : Nat → Array Oper → Array Nat → St 𝔸 → List Nat → Nat → Array Bool → List Nat → St 𝔸 → (St 𝔸 → 𝔸.Pr) → 𝔸.Pr
  | 0, _, _, _, _, _, _, _, _, _ => 𝔸.ff "no fuel"
  | _ + 1, _, _, _, _, _, _, [], _, _ => 𝔸.tt
  | n + 1, ops, bef, st0, stable, m, listed, i :: rs, st, K =>
    let one := match ops[i]? with
      | none => 𝔸.ff "region"
      | some o => execOp1 cfg n ops o st fun st' => if keptLocs st0 st' stable then execD cfg n ops bef st0 stable m (listed.setIfInBounds i true) st' K else 𝔸.ff "region: a block was turned"
    match rs with
    | [] => one
    | _ => 𝔸.and one (execAll cfg n ops bef st0 stable m listed rs st K)
termination_by structural n _ _ _ _ _ _ _ _ _ => n
end

/-- A function called with these arguments in a world. -/
def execF (cfg : Cfg) (f : FuncId) (args : List (SVal 𝔸)) (w : 𝔸.W) : 𝔸.Pr :=
  match cfg.P.funcs[f]? with
  | none => 𝔸.ff "no such function"
  | some fn =>
    match fn.body with
    | none => 𝔸.ff "no body"
    | some body =>
      exec cfg f fn 100000 body { tmps := initT 0 args, nt := args.length + (fn.ntmps - args.length), locs := [], bases := [], ctr := 0, we := w, dirty := false, rel := [] } fun e st' => match e with
        | .exit _ => 𝔸.ff "an exit"
        | _ =>
          match resS cfg.P st' fn with
          | some v => finishS st' v
          | none => 𝔸.ff "the results are not known"

end Go.Vx
