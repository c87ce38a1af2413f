/- Vx, part C: the executor's algebra over the model's own data; what symbolic values stand for. -/
import Derived.Test.YtlfphbmbehbcjaaVxB
import Derived.Laws.Sem
import Derived.Laws.IdiomCopy
import Derived.Laws.CopyRow
import Derived.Below
set_option linter.unusedSimpArgs false
set_option linter.unusedVariables false
namespace Go.Vx
open Go

/-- The value of one cell. -/
def Flat : Value → Prop
  | .agg _ => False
  | .tuple _ => False
  | _ => True

def cstO (c : Bool) (v : Value) : Operand := if c then .const v else .tmp 0

/-- The operation as the model carries it out. -/
def GOp.sem : GOp Value → Sem Value
  | .lookup t x i ok => Instr.lookup t x i ok
  | .mapUpdate t m k v => do Instr.mapUpdate t m k v; pure undef
  | .mapEntry t m k => Instr.mapEntry t m k
  | .entryStore t m s v => do Instr.entryStore t m s v; pure undef
  | .slice t x lo hi mx => Instr.sliceAt t x lo hi mx
  | .indexAddr t x i => Instr.indexAt t x i
  | .index t x i => Instr.index t x i
  | .makeSlice t l c => Instr.makeSlice t l c
  | .makeMap t => Instr.makeMap t none
  | .range t x => Instr.range t x
  | .next x s ty => Instr.next x s ty
  | .entry x => Instr.entry x
  | .typeAssert x xt t ok => Instr.typeAssert x xt t ok
  | .convert s d x => Go.convert s d x
  | .binOp op t x y xc yc => do eqGuard op t (cstO xc x) (cstO yc y) x y; Go.binOp op t x y
  | .unOp op x => Op.unary op x
  | .builtin b ats t args => do
    match ← Go.builtin b ats t #[] args.toArray with
    | .value v => pure v
    | _ => stuck "builtin: no value"

/-- Typed functions of atoms. -/
def AK.ty : AK → Type
  | .i => Int | .b => Bool | .s => ByteArray | .p => Option Addr | .n => Nat | .m => Option Nat | .v => Value | .w => Unit
def HF : List AK → Type → Type
  | [], R => R
  | k :: ks, R => k.ty → HF ks R
abbrev AtS := At Int Bool ByteArray Nat (Option Addr) (Option Nat) Value
def happ {R : Type} (d : R) : (ks : List AK) → HF ks R → List AtS → R
  | [], f, [] => f
  | .i :: ks, f, .i x :: r => happ d ks (f x) r
  | .b :: ks, f, .b x :: r => happ d ks (f x) r
  | .s :: ks, f, .s x :: r => happ d ks (f x) r
  | .p :: ks, f, .p x :: r => happ d ks (f x) r
  | .n :: ks, f, .n x :: r => happ d ks (f x) r
  | .m :: ks, f, .m x :: r => happ d ks (f x) r
  | .v :: ks, f, .v x :: r => happ d ks (f x) r
  | _, _, _ => d
/-- 'There is a typed function such that ..', its arguments named one by one. -/
def exHF {R : Type} : (ks : List AK) → (HF ks R → Prop) → Prop
  | ks, f => ∃ x : HF ks R, f x

/-- w is the world 'we' but for the blocks listed, and for what is new. -/
structure Framed (L : List Nat) (we w : World) : Prop where
  os : w.os = we.os
  tape : w.tape = we.tape
  output : w.output = we.output
  size : we.heap.size ≤ w.heap.size
  live : ∀ b ∈ L, b < w.heap.size
  same : ∀ k, k < we.heap.size → k ∉ L → w.heap[k]? = we.heap[k]?
structure Fresh (w : World) (L : List Nat) (b : Nat) : Prop where
  size : w.heap.size ≤ b
  new : b ∉ L
/-- The blocks listed are as they were. -/
structure Kept (L : List Nat) (w w' : World) : Prop where
  size : w.heap.size ≤ w'.heap.size
  same : ∀ b ∈ L, w'.heap[b]? = w.heap[b]?
def Within (L : List Nat) (w : World) : Prop := ∀ b ∈ L, b < w.heap.size
def CellsAt (w : World) (a : Addr) (off : Nat) (vs : List Value) : Prop := ∀ j v, vs[j]? = some v → w.cell? (a.add (off + j)) = some v
structure CanStore (L : List Nat) (w : World) (a : Addr) (off n : Nat) : Prop where
  spot : a.spot = none
  cell : ∀ j, j < n → (w.cell? ⟨a.block, a.off + off + j, none⟩).isSome = true
  free : ∀ j, j < n → w.frozen? ⟨a.block, a.off + off + j, none⟩ = false
  out : a.block ∉ L
def storeAt (w : World) (a : Addr) (off : Nat) (vs : List Value) : World := w.setCells a.block (a.off + off) vs
def CallsV (P : Program) (f : FuncId) (args : List Value) (w : World) (L : List Nat) (K : Value → World → Prop) : Prop :=
  Calls P f args.toArray w fun e w' => ∃ v, e = .returned v ∧ Kept L w w' ∧ K v w'
def StrFits (a b : ByteArray) : Prop := ((a.size + b.size : Nat) : Int) ≤ 9223372036854775807
def byteAt (s : ByteArray) (i : Int) : Int := ((s.data.getD i.toNat 0).toNat : Int)
def loOf (l : Option Int) : Int := match l with | none => 0 | some x => x
def hiOf (n : Nat) (h : Option Int) : Int := match h with | none => n | some x => x
def CutOk (s : ByteArray) (l h : Option Int) : Prop := 0 ≤ loOf l ∧ loOf l ≤ hiOf s.size h ∧ hiOf s.size h ≤ s.size
def cutStr (s : ByteArray) (l h : Option Int) : ByteArray := s.extract (loOf l).toNat (hiOf s.size h).toNat
def SlCutOk (n c : Nat) (l h : Option Int) : Prop := 0 ≤ loOf l ∧ loOf l ≤ hiOf n h ∧ hiOf n h ≤ c
def slCutP (p : Option Addr) (c sz : Nat) (l : Option Int) : Option Addr := if c = (loOf l).toNat then p else p.map (·.add ((loOf l).toNat * sz))
def slCutL (n : Nat) (l h : Option Int) : Nat := (hiOf n h).toNat - (loOf l).toNat
def slCutC (c : Nat) (l : Option Int) : Nat := c - (loOf l).toNat
def strB (op : BinOp) (a b : ByteArray) : Bool :=
  match op with
  | .eql => a.toList == b.toList
  | .neq => !(a.toList == b.toList)
  | .lss => Op.bytesLess a.toList b.toList
  | .leq => Op.bytesLess a.toList b.toList || a.toList == b.toList
  | .gtr => !(Op.bytesLess a.toList b.toList || a.toList == b.toList)
  | .geq => !Op.bytesLess a.toList b.toList
  | _ => false
def bitsI (op : BinOp) (k : IntKind) (x y : Int) : Int :=
  match op with
  | .and => k.wrap (BitVec.ofInt k.bits x &&& BitVec.ofInt k.bits y).toNat
  | .or => k.wrap (BitVec.ofInt k.bits x ||| BitVec.ofInt k.bits y).toNat
  | .xor => k.wrap (BitVec.ofInt k.bits x ^^^ BitVec.ofInt k.bits y).toNat
  | .andNot => k.wrap (BitVec.ofInt k.bits x &&& ~~~BitVec.ofInt k.bits y).toNat
  | _ => 0
def shlI (k : IntKind) (x y : Int) : Int := k.wrap (x * 2 ^ (min y.toNat k.bits))
def shrI (k : IntKind) (x y : Int) : Int := x.fdiv (2 ^ (min y.toNat k.bits))
def iBinS (op : BinOp) (k : IntKind) (a b : Int) : Int :=
  match op with
  | .add => k.wrap (a + b)
  | .sub => k.wrap (a - b)
  | .mul => k.wrap (a * b)
  | .quo => k.wrap (Int.tdiv a b)
  | .rem => Int.tmod a b
  | .shl => shlI k a b
  | .shr => shrI k a b
  | op => bitsI op k a b
def iCmpS (op : BinOp) (a b : Int) : Bool :=
  match op with
  | .eql => a == b
  | .neq => a != b
  | .lss => decide (a < b)
  | .leq => decide (a ≤ b)
  | .gtr => decide (b < a)
  | .geq => decide (b ≤ a)
  | _ => false

def allS : AK → (AtS → Prop) → Prop
  | .i, f => ∀ x : Int, f (.i x)
  | .b, f => ∀ x : Bool, f (.b x)
  | .s, f => ∀ x : ByteArray, f (.s x)
  | .p, f => ∀ x : Option Addr, f (.p x)
  | .n, f => ∀ x : Nat, f (.n x)
  | .m, f => ∀ x : Option Nat, f (.m x)
  | .v, f => ∀ x : Value, Flat x → f (.v x)
  | .w, _ => False
def exS : AK → (AtS → Prop) → Prop
  | .i, f => ∃ x : Int, f (.i x)
  | .b, f => ∃ x : Bool, f (.b x)
  | .s, f => ∃ x : ByteArray, f (.s x)
  | .p, f => ∃ x : Option Addr, f (.p x)
  | .n, f => ∃ x : Nat, f (.n x)
  | .m, f => ∃ x : Option Nat, f (.m x)
  | .v, f => ∃ x : Value, Flat x ∧ f (.v x)
  | .w, _ => False

def exAks : List AK → (List AtS → Prop) → Prop
  | [], f => f []
  | k :: ks, f => exS k fun x => exAks ks fun r => f (x :: r)
def flatB : List AtS → Bool
  | [] => true
  | .v _ :: _ => false
  | _ :: r => flatB r
/-- A type whose values' atoms are told by a Lean structure. -/
structure StT where
  Ty : Type
  atoms : Ty → List AtS
  flat : ∀ d, flatB (atoms d) = true
/-- Which structure tells a type's values. -/
abbrev TTab := TypeId → Option StT
def stOf : List (Nat × StT) → Nat → Option StT
  | [], _ => none
  | (k, s) :: r, t => if Nat.beq k t then some s else stOf r t
def exTS (𝕋 : TTab) (t : TypeId) (aks : List AK) (f : List AtS → Prop) : Prop :=
  match 𝕋 t with
  | some s => ∃ d : s.Ty, f (s.atoms d)
  | none => exAks aks f

/-- The algebra over the model's own data; 'R': what is asked of the value and the world at the end. -/
@[reducible] def Sh (𝕋 : TTab) (P : Program) (R : Value → World → Prop) : Alg where
  I := Int
  B := Bool
  S := ByteArray
  N := Nat
  A := Addr
  P := Option Addr
  M := Option Nat
  V := Value
  W := World
  Pr := Prop
  iLit n := n
  iBin := iBinS
  iNeg k a := k.wrap (0 - a)
  iCmp := iCmpS
  iWrap k a := k.wrap a
  iOfN n := (n : Int)
  bNot b := !b
  bAnd a b := a && b
  bEq a b := a == b
  bLit b := b
  sLit s := s
  sOp := strB
  sAdd a b := a ++ b
  sLen s := ((s.size : Nat) : Int)
  nLit n := n
  aIdx a o i z := a.add (o + i.toNat * z)
  aBlk b := ⟨b, 0, none⟩
  pNil := none
  pNone p := p.isNone
  pSome a o := some (a.add o)
  pLoc b o := some ⟨b, o, none⟩
  mNil := none
  mNone m := m.isNone
  vInt k n := .int k n
  vBool b := .bool b
  vStr s := .string s
  vPtr p := .pointer p
  vSlice p l c := .slice p l c
  vMap m := .map m
  vFunc f a b := .func (.func f) a.toArray b.toArray
  vNilFunc := .nilFunc
  vIface t v := .iface t v
  vNilIface := .nilIface
  vAgg l := .agg l.toArray
  vTuple l := .tuple l.toArray
  tt := True
  ff _ := False
  and p q := p ∧ q
  ifB b w p := b = w → p
  all := allS
  ex := exS
  exT := exTS 𝕋
  allW f := ∀ w, f w
  exW f := ∃ w, f w
  allN f := ∀ n, f n
  exA p f := ∃ a, p = some a ∧ f a
  fresh w L b p := Fresh w L b → p
  framed L we w p := Framed L we w → p
  holds w b cs t p := w.heap[b]? = some (.cells cs.toArray t (0, 0)) → p
  cells w a o vs p := CellsAt w a o vs ∧ p
  stores L w a o vs f := CanStore L w a o vs.length ∧ f (storeAt w a o vs)
  pure g v p := (∀ w, Sem.run P (GOp.sem g) w = .ok v w) ∧ p
  runs L w g v w' p := Sem.run P (GOp.sem g) w = .ok v w' ∧ Kept L w w' ∧ p
  runsN L w g b v1 v2 w' p := Sem.run P (GOp.sem g) w = .ok (if b then v1 else v2) w' ∧ Kept L w w' ∧ p
  calls L w f vs K := CallsV P f vs w L K
  isV a b p := a = b ∧ p
  inLen i l p := (0 ≤ i ∧ i < ((l : Nat) : Int)) ∧ p
  sFits a b p := StrFits a b ∧ p
  sIdx s i K := (0 ≤ i ∧ i < ((s.size : Nat) : Int)) ∧ K (byteAt s i)
  sCut s l h K := CutOk s l h ∧ K (cutStr s l h)
  slCut p n c z l h K := SlCutOk n c l h ∧ K (slCutP p c z l) (slCutL n l h) (slCutC c l)
  loop aks f := ∃ (J : HF aks (World → Prop)) (m : HF aks (World → Nat)), f (fun ats w => happ (fun _ => False) aks J ats w) (fun ats w => happ (fun _ => 0) aks m ats w)
  hyp p q := p → q
  nLt a b := a < b
  within L w p := Within L w → p
  done v w := R v w

section
variable {𝕋 : TTab} {P : Program} {R : Value → World → Prop}

mutual
/-- What leads to blocks of the call's own leads to one of the first n. -/
def wf (n : Nat) : SVal (Sh 𝕋 P R) → Prop
  | .loc i _ => i < n
  | .lsl i _ _ _ => i < n
  | .func _ a b => wfL n a ∧ wfL n b
  | .iface _ v => wf n v
  | .agg cs => wfL n cs
  | .tuple cs => wfL n cs
  | .val v => Flat v
  | _ => True
def wfL (n : Nat) : List (SVal (Sh 𝕋 P R)) → Prop
  | [] => True
  | v :: vs => wf n v ∧ wfL n vs
end

mutual
theorem wf_mono {n m : Nat} (h : n ≤ m) : (v : SVal (Sh 𝕋 P R)) → wf n v → wf m v
  | .loc i _, hv => by simp only [wf] at *; omega
  | .lsl i _ _ _, hv => by simp only [wf] at *; omega
  | .func _ a b, hv => ⟨wfL_mono h a hv.1, wfL_mono h b hv.2⟩
  | .iface _ v, hv => by simp only [wf] at *; exact wf_mono h v hv
  | .agg cs, hv => by simp only [wf] at *; exact wfL_mono h cs hv
  | .tuple cs, hv => by simp only [wf] at *; exact wfL_mono h cs hv
  | .val v, hv => hv
  | .int _ _, _ | .lit _ _, _ | .bool _, _ | .known _, _ | .str _, _ | .ptr _, _ | .iter _ _, _ | .addr _ _, _ | .nilp, _ | .slice _ _ _, _ | .nils, _ | .map _, _ | .nilm, _ | .nilf, _ | .nili, _ => trivial
theorem wfL_mono {n m : Nat} (h : n ≤ m) : (vs : List (SVal (Sh 𝕋 P R))) → wfL n vs → wfL m vs
  | [], _ => trivial
  | v :: vs, hv => ⟨wf_mono h v hv.1, wfL_mono h vs hv.2⟩
end

theorem getD_append_left {α : Type} (l e : List α) (i : Nat) (d : α) (h : i < l.length) : (l ++ e).getD i d = l.getD i d := by
  simp [List.getD, List.getElem?_append_left h]

mutual
theorem den_append (β e : List Nat) : (v : SVal (Sh 𝕋 P R)) → wf β.length v → den (𝔸 := Sh 𝕋 P R) (β ++ e) v = den (𝔸 := Sh 𝕋 P R) β v
  | .loc i _, hv => by simp only [den]; rw [getD_append_left _ _ _ _ hv]
  | .lsl i _ _ _, hv => by simp only [den]; rw [getD_append_left _ _ _ _ hv]
  | .func _ a b, hv => by simp only [den]; rw [denL_append β e a hv.1, denL_append β e b hv.2]
  | .iface _ v, hv => by simp only [den, wf] at *; rw [den_append β e v hv]
  | .agg cs, hv => by simp only [den, wf] at *; rw [denL_append β e cs hv]
  | .tuple cs, hv => by simp only [den, wf] at *; rw [denL_append β e cs hv]
  | .val v, hv => rfl
  | .int _ _, _ | .lit _ _, _ | .bool _, _ | .known _, _ | .str _, _ | .ptr _, _ | .iter _ _, _ | .addr _ _, _ | .nilp, _ | .slice _ _ _, _ | .nils, _ | .map _, _ | .nilm, _ | .nilf, _ | .nili, _ => rfl
theorem denL_append (β e : List Nat) : (vs : List (SVal (Sh 𝕋 P R))) → wfL β.length vs → denL (𝔸 := Sh 𝕋 P R) (β ++ e) vs = denL (𝔸 := Sh 𝕋 P R) β vs
  | [], _ => rfl
  | v :: vs, hv => by simp only [denL]; rw [den_append β e v hv.1, denL_append β e vs hv.2]
end

theorem denL_map (β : List Nat) (vs : List (SVal (Sh 𝕋 P R))) : denL (𝔸 := Sh 𝕋 P R) β vs = vs.map (den (𝔸 := Sh 𝕋 P R) β) := by
  induction vs with
  | nil => rfl
  | cons v vs ih => simp [denL, ih]
theorem denL_append' (β : List Nat) (a b : List (SVal (Sh 𝕋 P R))) : denL (𝔸 := Sh 𝕋 P R) β (a ++ b) = denL (𝔸 := Sh 𝕋 P R) β a ++ denL (𝔸 := Sh 𝕋 P R) β b := by simp [denL_map]
theorem denL_take (β : List Nat) (n : Nat) (a : List (SVal (Sh 𝕋 P R))) : denL (𝔸 := Sh 𝕋 P R) β (a.take n) = (denL (𝔸 := Sh 𝕋 P R) β a).take n := by simp [denL_map]
theorem denL_drop (β : List Nat) (n : Nat) (a : List (SVal (Sh 𝕋 P R))) : denL (𝔸 := Sh 𝕋 P R) β (a.drop n) = (denL (𝔸 := Sh 𝕋 P R) β a).drop n := by simp [denL_map]
theorem denL_length (β : List Nat) (a : List (SVal (Sh 𝕋 P R))) : (denL (𝔸 := Sh 𝕋 P R) β a).length = a.length := by simp [denL_map]
theorem denL_get (β : List Nat) (a : List (SVal (Sh 𝕋 P R))) (i : Nat) : (denL (𝔸 := Sh 𝕋 P R) β a)[i]? = (a[i]?).map (den (𝔸 := Sh 𝕋 P R) β) := by simp [denL_map]

theorem wfL_iff (n : Nat) (vs : List (SVal (Sh 𝕋 P R))) : wfL n vs ↔ ∀ v ∈ vs, wf n v := by
  induction vs with
  | nil => simp [wfL]
  | cons v vs ih => simp [wfL, ih]
theorem wfL_append {n : Nat} {a b : List (SVal (Sh 𝕋 P R))} (ha : wfL n a) (hb : wfL n b) : wfL n (a ++ b) := by
  rw [wfL_iff] at *; intro v hv
  rcases List.mem_append.1 hv with h | h
  · exact ha v h
  · exact hb v h
theorem wfL_take {n : Nat} {a : List (SVal (Sh 𝕋 P R))} (k : Nat) (ha : wfL n a) : wfL n (a.take k) := by
  rw [wfL_iff] at *; exact fun v hv => ha v (List.mem_of_mem_take hv)
theorem wfL_drop {n : Nat} {a : List (SVal (Sh 𝕋 P R))} (k : Nat) (ha : wfL n a) : wfL n (a.drop k) := by
  rw [wfL_iff] at *; exact fun v hv => ha v (List.mem_of_mem_drop hv)
theorem wf_cells {n : Nat} {v : SVal (Sh 𝕋 P R)} (h : wf n v) : wfL n v.cells := by
  cases v <;> first | exact h | exact ⟨h, trivial⟩

/-- The cells of what a value stands for. -/
theorem den_cells (β : List Nat) {n : Nat} {v : SVal (Sh 𝕋 P R)} (h : wf n v) : (den (𝔸 := Sh 𝕋 P R) β v).cells = (denL (𝔸 := Sh 𝕋 P R) β v.cells).toArray := by
  cases v <;> try rfl
  rename_i v
  cases v <;> first | rfl | exact h.elim

theorem den_oneCell (β : List Nat) {n : Nat} {v : SVal (Sh 𝕋 P R)} (h : wf n v) (hn : notAgg v = true) : (den (𝔸 := Sh 𝕋 P R) β v).oneCell' = true := by
  cases v <;> first | rfl | (simp [notAgg] at hn; done) | skip
  rename_i v
  cases v <;> first | rfl | exact h.elim

theorem add_zero (a : Addr) : a.add 0 = a := by simp [Addr.add]
theorem add_blk (b off : Nat) : (⟨b, 0, none⟩ : Addr).add off = ⟨b, off, none⟩ := by unfold Addr.add; split <;> simp_all
theorem add_mid (b o j : Nat) : (⟨b, o, none⟩ : Addr).add j = ⟨b, o + j, none⟩ := by unfold Addr.add; split <;> simp_all
theorem add_add (a : Addr) (x y : Nat) : (a.add x).add y = a.add (x + y) := by
  unfold Addr.add
  by_cases hx : x = 0
  · simp [hx]
  · by_cases hy : y = 0
    · simp [hx, hy]
    · have : ¬ x + y = 0 := by omega
      simp [hx, hy, this, Nat.add_assoc]

mutual
theorem den_conv (rel : List Nat) (β : List Nat) : (v : SVal (Sh 𝕋 P R)) → den (𝔸 := Sh 𝕋 P R) β (conv (𝔸 := Sh 𝕋 P R) rel β v) = den (𝔸 := Sh 𝕋 P R) β v
  | .loc i off => by
    simp only [conv]
    split
    · simp only [den, add_blk]
    · rfl
  | .lsl i off l c => by
    simp only [conv]
    split
    · simp only [den]
    · rfl
  | .func f a b => by simp only [conv, den]; rw [denL_conv rel β a, denL_conv rel β b]
  | .iface t v => by simp only [conv, den]; rw [den_conv rel β v]
  | .agg cs => by simp only [conv, den]; rw [denL_conv rel β cs]
  | .tuple cs => by simp only [conv, den]; rw [denL_conv rel β cs]
  | .val v => rfl
  | .int _ _ | .lit _ _ | .bool _ | .known _ | .str _ | .ptr _ | .iter _ _ | .addr _ _ | .nilp | .slice _ _ _ | .nils | .map _ | .nilm | .nilf | .nili => rfl
theorem denL_conv (rel : List Nat) (β : List Nat) : (vs : List (SVal (Sh 𝕋 P R))) → denL (𝔸 := Sh 𝕋 P R) β (convL (𝔸 := Sh 𝕋 P R) rel β vs) = denL (𝔸 := Sh 𝕋 P R) β vs
  | [] => rfl
  | v :: vs => by simp only [convL, denL]; rw [den_conv rel β v, denL_conv rel β vs]
end
mutual
theorem wf_conv (rel : List Nat) (β : List Nat) (n : Nat) : (v : SVal (Sh 𝕋 P R)) → wf n v → wf n (conv (𝔸 := Sh 𝕋 P R) rel β v)
  | .loc i off, h => by
    simp only [conv]
    split
    · trivial
    · exact h
  | .lsl i off l c, h => by
    simp only [conv]
    split
    · trivial
    · exact h
  | .func f a b, h => ⟨wfL_conv rel β n a h.1, wfL_conv rel β n b h.2⟩
  | .iface t v, h => by simp only [conv, wf] at *; exact wf_conv rel β n v h
  | .agg cs, h => by simp only [conv, wf] at *; exact wfL_conv rel β n cs h
  | .tuple cs, h => by simp only [conv, wf] at *; exact wfL_conv rel β n cs h
  | .val v, h => h
  | .int _ _, _ | .lit _ _, _ | .bool _, _ | .known _, _ | .str _, _ | .ptr _, _ | .iter _ _, _ | .addr _ _, _ | .nilp, _ | .slice _ _ _, _ | .nils, _ | .map _, _ | .nilm, _ | .nilf, _ | .nili, _ => trivial
theorem wfL_conv (rel : List Nat) (β : List Nat) (n : Nat) : (vs : List (SVal (Sh 𝕋 P R))) → wfL n vs → wfL n (convL (𝔸 := Sh 𝕋 P R) rel β vs)
  | [], _ => trivial
  | v :: vs, h => ⟨wf_conv rel β n v h.1, wfL_conv rel β n vs h.2⟩
end

theorem den_cv (st : St (Sh 𝕋 P R)) (v : SVal (Sh 𝕋 P R)) : den (𝔸 := Sh 𝕋 P R) st.bases (st.cv v) = den (𝔸 := Sh 𝕋 P R) st.bases v := by
  unfold St.cv
  split
  · rfl
  · exact den_conv _ _ _
theorem wf_cv (st : St (Sh 𝕋 P R)) {n : Nat} {v : SVal (Sh 𝕋 P R)} (h : wf n v) : wf n (st.cv v) := by
  unfold St.cv
  split
  · exact h
  · exact wf_conv _ _ _ _ h

/-! ### Constants -/
theorem lift1_ok {v : Value} {s : SVal (Sh 𝕋 P R)} (h : lift1 (𝔸 := Sh 𝕋 P R) v = some s) (β : List Nat) (n : Nat) : den (𝔸 := Sh 𝕋 P R) β s = v ∧ wf n s ∧ notAgg s = true := by
  unfold lift1 at h
  split at h <;> first | (simp only [Option.some.injEq] at h; subst h; exact ⟨rfl, trivial, rfl⟩) | simp at h
theorem liftL_ok (β : List Nat) (n : Nat) : ∀ {vs : List Value} {ss : List (SVal (Sh 𝕋 P R))}, liftL (𝔸 := Sh 𝕋 P R) vs = some ss → denL (𝔸 := Sh 𝕋 P R) β ss = vs ∧ wfL n ss ∧ ss.all notAgg = true
  | [], ss, h => by simp only [liftL, Option.some.injEq] at h; subst h; exact ⟨rfl, trivial, rfl⟩
  | v :: vs, ss, h => by
    simp only [liftL] at h
    split at h
    · rename_i x xs hx hxs
      simp only [Option.some.injEq] at h
      subst h
      obtain ⟨a, b, c⟩ := lift1_ok hx β n
      obtain ⟨d, e, f⟩ := liftL_ok β n hxs
      exact ⟨by simp only [denL, a, d], ⟨b, e⟩, by simp [c, f]⟩
    · simp at h
theorem lift_ok {v : Value} {s : SVal (Sh 𝕋 P R)} (h : lift (𝔸 := Sh 𝕋 P R) v = some s) (β : List Nat) (n : Nat) : den (𝔸 := Sh 𝕋 P R) β s = v ∧ wf n s ∧ s.cells.all notAgg = true := by
  unfold lift at h
  split at h
  · rename_i cs
    cases hl : liftL (𝔸 := Sh 𝕋 P R) cs.toList with
    | none => simp [hl] at h
    | some ss =>
      simp only [hl, Option.map_some, Option.some.injEq] at h
      subst h
      obtain ⟨d, e, f⟩ := liftL_ok β n hl
      exact ⟨by simp only [den, d], e, f⟩
  · obtain ⟨a, b, c⟩ := lift1_ok h β n
    refine ⟨a, b, ?_⟩
    cases s <;> simp_all [SVal.cells, notAgg]

end
end Go.Vx
