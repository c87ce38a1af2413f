/- The structures of the program's types, as rows of cells. -/
import Derived.Test.YtlfphbmbehbcjaaVxR
set_option linter.unusedVariables false
set_option linter.unusedSimpArgs false
set_option maxRecDepth 100000
set_option maxHeartbeats 4000000
namespace Go.Proofs.Ytlfphbmbehbcjaa
open Go Go.Vx

structure Sl where
  p : Option Addr
  l : Nat
  c : Nat
def Sl.val (s : Sl) : Value := .slice s.p s.l s.c
abbrev Ats := List AtS
abbrev Vals := List Value
abbrev Post := Value → World → Prop
abbrev Svs (𝕋 : TTab) (P : Program) (R : Post) := List (SVal (Sh 𝕋 P R))

structure GKey where
  Str : ByteArray
  Sym : Int
  deriving DecidableEq
def GKey.atoms (d : GKey) : Ats := [.s d.Str, .i d.Sym]
def GKey.cells (d : GKey) : Vals := [.string d.Str, .int .i64 d.Sym]
def GKey.val (d : GKey) : Go.Value := .agg (GKey.cells d).toArray
theorem GKey.flat (d : GKey) : flatB (GKey.atoms d) = true := by kernel_rfl

structure GValue where
  Kind : Int
  Num : Int
  Str : ByteArray
  deriving DecidableEq
def GValue.atoms (d : GValue) : Ats := [.i d.Kind, .i d.Num, .s d.Str]
def GValue.cells (d : GValue) : Vals := [.int .i64 d.Kind, .int .i64 d.Num, .string d.Str]
def GValue.val (d : GValue) : Go.Value := .agg (GValue.cells d).toArray
theorem GValue.flat (d : GValue) : flatB (GValue.atoms d) = true := by kernel_rfl

structure GDesc where
  HasValue : Bool
  HasGet : Bool
  HasSet : Bool
  HasWritable : Bool
  HasEnumerable : Bool
  HasConfigurable : Bool
  Value : GValue
  Get : GValue
  Set : GValue
  Writable : Bool
  Enumerable : Bool
  Configurable : Bool
  deriving DecidableEq
def GDesc.atoms (d : GDesc) : Ats := [.b d.HasValue, .b d.HasGet, .b d.HasSet, .b d.HasWritable, .b d.HasEnumerable, .b d.HasConfigurable] ++ GValue.atoms d.Value ++ GValue.atoms d.Get ++ GValue.atoms d.Set ++ [.b d.Writable, .b d.Enumerable, .b d.Configurable]
def GDesc.cells (d : GDesc) : Vals := [.bool d.HasValue, .bool d.HasGet, .bool d.HasSet, .bool d.HasWritable, .bool d.HasEnumerable, .bool d.HasConfigurable] ++ GValue.cells d.Value ++ GValue.cells d.Get ++ GValue.cells d.Set ++ [.bool d.Writable, .bool d.Enumerable, .bool d.Configurable]
def GDesc.val (d : GDesc) : Go.Value := .agg (GDesc.cells d).toArray
theorem GDesc.flat (d : GDesc) : flatB (GDesc.atoms d) = true := by kernel_rfl

structure GAsk where
  Key : GKey
  Value : GValue
  Receiver : GValue
  Desc : GDesc
  List : Sl
def GAsk.atoms (d : GAsk) : Ats := GKey.atoms d.Key ++ GValue.atoms d.Value ++ GValue.atoms d.Receiver ++ GDesc.atoms d.Desc ++ [.p d.List.p, .n d.List.l, .n d.List.c]
def GAsk.cells (d : GAsk) : Vals := GKey.cells d.Key ++ GValue.cells d.Value ++ GValue.cells d.Receiver ++ GDesc.cells d.Desc ++ [.slice d.List.p d.List.l d.List.c]
def GAsk.val (d : GAsk) : Go.Value := .agg (GAsk.cells d).toArray
theorem GAsk.flat (d : GAsk) : flatB (GAsk.atoms d) = true := by kernel_rfl

structure GReply where
  Flow : Int
  Value : GValue
  OK : Bool
  Has : Bool
  Desc : GDesc
  Keys : Sl
def GReply.atoms (d : GReply) : Ats := [.i d.Flow] ++ GValue.atoms d.Value ++ [.b d.OK, .b d.Has] ++ GDesc.atoms d.Desc ++ [.p d.Keys.p, .n d.Keys.l, .n d.Keys.c]
def GReply.cells (d : GReply) : Vals := [.int .i64 d.Flow] ++ GValue.cells d.Value ++ [.bool d.OK, .bool d.Has] ++ GDesc.cells d.Desc ++ [.slice d.Keys.p d.Keys.l d.Keys.c]
def GReply.val (d : GReply) : Go.Value := .agg (GReply.cells d).toArray
theorem GReply.flat (d : GReply) : flatB (GReply.atoms d) = true := by kernel_rfl

structure GSeen where
  Method : Int
  Thing : Int
  From : Int
  Ask : GAsk
  Reply : GReply
def GSeen.atoms (d : GSeen) : Ats := [.i d.Method, .i d.Thing, .i d.From] ++ GAsk.atoms d.Ask ++ GReply.atoms d.Reply
def GSeen.cells (d : GSeen) : Vals := [.int .i64 d.Method, .int .i64 d.Thing, .int .i64 d.From] ++ GAsk.cells d.Ask ++ GReply.cells d.Reply
def GSeen.val (d : GSeen) : Go.Value := .agg (GSeen.cells d).toArray
theorem GSeen.flat (d : GSeen) : flatB (GSeen.atoms d) = true := by kernel_rfl

structure GTraceFacts where
  closed : Int
  known : Int
  proto : GValue
  gone : Option Nat
  keys : Sl
  fast : Option Nat
def GTraceFacts.atoms (d : GTraceFacts) : Ats := [.i d.closed, .i d.known] ++ GValue.atoms d.proto ++ [.m d.gone, .p d.keys.p, .n d.keys.l, .n d.keys.c, .m d.fast]
def GTraceFacts.cells (d : GTraceFacts) : Vals := [.int .i64 d.closed, .int .i64 d.known] ++ GValue.cells d.proto ++ [.map d.gone, .slice d.keys.p d.keys.l d.keys.c, .map d.fast]
def GTraceFacts.val (d : GTraceFacts) : Go.Value := .agg (GTraceFacts.cells d).toArray
theorem GTraceFacts.flat (d : GTraceFacts) : flatB (GTraceFacts.atoms d) = true := by kernel_rfl

structure GTraceHeld where
  at_ : Int
  d : GDesc
  deriving DecidableEq
def GTraceHeld.atoms (d : GTraceHeld) : Ats := [.i d.at_] ++ GDesc.atoms d.d
def GTraceHeld.cells (d : GTraceHeld) : Vals := [.int .i64 d.at_] ++ GDesc.cells d.d
def GTraceHeld.val (d : GTraceHeld) : Go.Value := .agg (GTraceHeld.cells d).toArray
theorem GTraceHeld.flat (d : GTraceHeld) : flatB (GTraceHeld.atoms d) = true := by kernel_rfl

structure GTraceTold where
  at_ : Int
  keys : Sl
def GTraceTold.atoms (d : GTraceTold) : Ats := [.i d.at_, .p d.keys.p, .n d.keys.l, .n d.keys.c]
def GTraceTold.cells (d : GTraceTold) : Vals := [.int .i64 d.at_, .slice d.keys.p d.keys.l d.keys.c]
def GTraceTold.val (d : GTraceTold) : Go.Value := .agg (GTraceTold.cells d).toArray
theorem GTraceTold.flat (d : GTraceTold) : flatB (GTraceTold.atoms d) = true := by kernel_rfl

def tyTab : List (Nat × StT) := [(25, ⟨GKey, GKey.atoms, GKey.flat⟩), (27, ⟨GValue, GValue.atoms, GValue.flat⟩), (29, ⟨GDesc, GDesc.atoms, GDesc.flat⟩), (32, ⟨GAsk, GAsk.atoms, GAsk.flat⟩), (35, ⟨GReply, GReply.atoms, GReply.flat⟩), (37, ⟨GSeen, GSeen.atoms, GSeen.flat⟩), (48, ⟨GTraceFacts, GTraceFacts.atoms, GTraceFacts.flat⟩), (60, ⟨GTraceHeld, GTraceHeld.atoms, GTraceHeld.flat⟩), (63, ⟨GTraceTold, GTraceTold.atoms, GTraceTold.flat⟩)]
def tys : TTab := fun t => stOf tyTab t

def GKey.svs {𝕋 : TTab} {P : Program} {R : Post} (d : GKey) : Svs 𝕋 P R := [.str d.Str, .int .i64 d.Sym]
def GValue.svs {𝕋 : TTab} {P : Program} {R : Post} (d : GValue) : Svs 𝕋 P R := [.int .i64 d.Kind, .int .i64 d.Num, .str d.Str]
def GDesc.svs {𝕋 : TTab} {P : Program} {R : Post} (d : GDesc) : Svs 𝕋 P R := [.bool d.HasValue, .bool d.HasGet, .bool d.HasSet, .bool d.HasWritable, .bool d.HasEnumerable, .bool d.HasConfigurable] ++ GValue.svs d.Value ++ GValue.svs d.Get ++ GValue.svs d.Set ++ [.bool d.Writable, .bool d.Enumerable, .bool d.Configurable]
def GAsk.svs {𝕋 : TTab} {P : Program} {R : Post} (d : GAsk) : Svs 𝕋 P R := GKey.svs d.Key ++ GValue.svs d.Value ++ GValue.svs d.Receiver ++ GDesc.svs d.Desc ++ [.slice d.List.p d.List.l d.List.c]
def GReply.svs {𝕋 : TTab} {P : Program} {R : Post} (d : GReply) : Svs 𝕋 P R := [.int .i64 d.Flow] ++ GValue.svs d.Value ++ [.bool d.OK, .bool d.Has] ++ GDesc.svs d.Desc ++ [.slice d.Keys.p d.Keys.l d.Keys.c]
def GSeen.svs {𝕋 : TTab} {P : Program} {R : Post} (d : GSeen) : Svs 𝕋 P R := [.int .i64 d.Method, .int .i64 d.Thing, .int .i64 d.From] ++ GAsk.svs d.Ask ++ GReply.svs d.Reply
def GTraceFacts.svs {𝕋 : TTab} {P : Program} {R : Post} (d : GTraceFacts) : Svs 𝕋 P R := [.int .i64 d.closed, .int .i64 d.known] ++ GValue.svs d.proto ++ [.map d.gone, .slice d.keys.p d.keys.l d.keys.c, .map d.fast]
def GTraceHeld.svs {𝕋 : TTab} {P : Program} {R : Post} (d : GTraceHeld) : Svs 𝕋 P R := [.int .i64 d.at_] ++ GDesc.svs d.d
def GTraceTold.svs {𝕋 : TTab} {P : Program} {R : Post} (d : GTraceTold) : Svs 𝕋 P R := [.int .i64 d.at_, .slice d.keys.p d.keys.l d.keys.c]
def GKey.eqB (a b : GKey) : Bool := (strB .eql a.Str b.Str) && (a.Sym == b.Sym)
theorem GKey.eqB_iff (a b : GKey) : GKey.eqB a b = true ↔ a = b := by
  cases a; cases b
  simp only [GKey.eqB, Bool.and_eq_true, beq_iff_eq, strB_iff, GKey.mk.injEq]
theorem GKey.eqB_eq (a b : GKey) : GKey.eqB a b = decide (a = b) := by rw [Bool.eq_iff_iff, GKey.eqB_iff, decide_eq_true_eq]
def GValue.eqB (a b : GValue) : Bool := (a.Kind == b.Kind) && ((a.Num == b.Num) && (strB .eql a.Str b.Str))
theorem GValue.eqB_iff (a b : GValue) : GValue.eqB a b = true ↔ a = b := by
  cases a; cases b
  simp only [GValue.eqB, Bool.and_eq_true, beq_iff_eq, strB_iff, GValue.mk.injEq]
theorem GValue.eqB_eq (a b : GValue) : GValue.eqB a b = decide (a = b) := by rw [Bool.eq_iff_iff, GValue.eqB_iff, decide_eq_true_eq]
def GDesc.eqB (a b : GDesc) : Bool := (a.HasValue == b.HasValue) && ((a.HasGet == b.HasGet) && ((a.HasSet == b.HasSet) && ((a.HasWritable == b.HasWritable) && ((a.HasEnumerable == b.HasEnumerable) && ((a.HasConfigurable == b.HasConfigurable) && ((GValue.eqB a.Value b.Value) && ((GValue.eqB a.Get b.Get) && ((GValue.eqB a.Set b.Set) && ((a.Writable == b.Writable) && ((a.Enumerable == b.Enumerable) && (a.Configurable == b.Configurable)))))))))))
theorem GDesc.eqB_iff (a b : GDesc) : GDesc.eqB a b = true ↔ a = b := by
  cases a; cases b
  simp only [GDesc.eqB, Bool.and_eq_true, beq_iff_eq, strB_iff, GDesc.mk.injEq, GValue.eqB_iff]
theorem GDesc.eqB_eq (a b : GDesc) : GDesc.eqB a b = decide (a = b) := by rw [Bool.eq_iff_iff, GDesc.eqB_iff, decide_eq_true_eq]
def GTraceHeld.eqB (a b : GTraceHeld) : Bool := (a.at_ == b.at_) && (GDesc.eqB a.d b.d)
theorem GTraceHeld.eqB_iff (a b : GTraceHeld) : GTraceHeld.eqB a b = true ↔ a = b := by
  cases a; cases b
  simp only [GTraceHeld.eqB, Bool.and_eq_true, beq_iff_eq, strB_iff, GTraceHeld.mk.injEq, GDesc.eqB_iff]
theorem GTraceHeld.eqB_eq (a b : GTraceHeld) : GTraceHeld.eqB a b = decide (a = b) := by rw [Bool.eq_iff_iff, GTraceHeld.eqB_iff, decide_eq_true_eq]

end Go.Proofs.Ytlfphbmbehbcjaa
