/- A verification-condition generator for the program's code: 'comp' turns code into a plain predicate on worlds; 'comp_sound' ties it to the code's own steps. It speaks of no program. -/
import Derived.CallsIn
import Derived.OrdersIn
import Derived.OrdersHeld
import Derived.RangeFuncIn
import Derived.RangeFuncLeaves
import Derived.KernelRfl
import Derived.Laws.World
set_option linter.unusedVariables false
set_option linter.unusedSimpArgs false
namespace Go.Proofs.YtlpniinmomhkcaaDoor.V
open Go

abbrev WP := World → Prop

/-! ### Values by shape -/
inductive Lf where
  | int (k : IntKind) | bool | str | ptr | slc | any
abbrev Lf.T : Lf → Type
  | .int _ => Int | .bool => Bool | .str => ByteArray | .ptr => Option Addr | .slc => Option Addr × Nat × Nat | .any => Value
def Lf.val : (l : Lf) → l.T → Value
  | .int k, n => .int k n
  | .bool, b => .bool b
  | .str, s => .string s
  | .ptr, p => .pointer p
  | .slc, x => .slice x.1 x.2.1 x.2.2
  | .any, v => v
abbrev LT : List Lf → Type
  | [] => Unit
  | l :: r => l.T × LT r
def LT.vals : (ls : List Lf) → LT ls → List Value
  | [], _ => []
  | l :: r, x => l.val x.1 :: LT.vals r x.2
inductive Sh where
  | one (l : Lf) | agg (ls : List Lf) | arr (n : Nat)
abbrev Sh.T : Sh → Type
  | .one l => l.T | .agg ls => LT ls | .arr _ => Array Value
def Sh.val : (s : Sh) → s.T → Value
  | .one l, x => l.val x
  | .agg ls, x => .agg (LT.vals ls x).toArray
  | .arr _, x => .agg x
abbrev ST : List Sh → Type
  | [] => Unit
  | s :: r => s.T × ST r
def ST.vals : (ss : List Sh) → ST ss → List Value
  | [], _ => []
  | s :: r, x => s.val x.1 :: ST.vals r x.2
inductive Rs where
  | none | one (s : Sh) | many (ss : List Sh)
abbrev Rs.T : Rs → Type
  | .none => Unit | .one s => s.T | .many ss => ST ss
def Rs.val : (r : Rs) → r.T → Value
  | .none, _ => .tuple #[]
  | .one s, x => s.val x
  | .many ss, x => .tuple (ST.vals ss x).toArray

def leavesOf (P : Program) : Nat → TypeId → Option (List Lf)
  | 0, _ => none
  | d + 1, t => match P.underlying t with
    | some (.int k) => some [.int k]
    | some .bool => some [.bool]
    | some .string => some [.str]
    | some (.pointer _) => some [.ptr]
    | some (.slice _) => some [.slc]
    | some (.func _ _ _) => some [.any]
    | some (.map _ _) => some [.any]
    | some (.interface _) => some [.any]
    | some (.struct fs) => fs.toList.foldr (fun f acc => match leavesOf P d f.type, acc with
        | some a, some r => some (a ++ r)
        | _, _ => none) (some [])
    | some (.array n e) => (leavesOf P d e).map fun a => (List.replicate n a).flatten
    | _ => none
def shOf (P : Program) (t : TypeId) : Option Sh :=
  match P.underlying t with
  | some (.array n e) => some (.arr (n * P.cellsOf e))
  | some (.struct _) => (leavesOf P 8 t).map .agg
  | _ => match leavesOf P 1 t with
    | some [l] => some (.one l)
    | _ => none
def shsOf (P : Program) : List TypeId → Option (List Sh)
  | [] => some []
  | t :: r => match shOf P t, shsOf P r with
    | some s, some l => some (s :: l)
    | _, _ => none
def rsOf (P : Program) (t : TypeId) : Option Rs :=
  match P.underlying t with
  | some (.tuple ts) => if ts.toList.isEmpty then some .none else (shsOf P ts.toList).map .many
  | _ => (shOf P t).map .one

/-! ### The words of the conditions -/
def FalseW : WP := fun _ => False
def guardW (p : Prop) (K : WP) : WP := fun w => p ∧ K w
def splitW (b : Bool) (A B : WP) : WP := fun w => (b = true → A w) ∧ (b = false → B w)
def ptrW (p : Option Addr) (K : Addr → WP) : WP := fun w => ∃ a, p = some a ∧ K a w
def ldW (l : Lf) (a : Addr) (K : l.T → WP) : WP := fun w => ∃ x, w.cell? a = some (l.val x) ∧ K x w
def CellsAt (w : World) (a : Addr) : Nat → List Value → Prop
  | _, [] => True
  | i, v :: r => w.cell? (a.add i) = some v ∧ CellsAt w a (i + 1) r
def ldAW (ls : List Lf) (a : Addr) (K : LT ls → WP) : WP := fun w => ∃ x, CellsAt w a 0 (LT.vals ls x) ∧ K x w
def ldRW (n : Nat) (a : Addr) (K : Array Value → WP) : WP := fun w => ∃ cs : Array Value, cs.size = n ∧ CellsAt w a 0 cs.toList ∧ K cs w
def stW (a : Addr) (v : Value) (K : WP) : WP := fun w => (∃ u, w.cell? a = some u) ∧ w.frozen? a = false ∧ K (w.setCell a v)
def Storable (w : World) (a : Addr) : Nat → List Value → Prop
  | _, [] => True
  | i, v :: r => v.oneCell' = true ∧ (∃ u, w.cell? (a.add i) = some u) ∧ w.frozen? (a.add i) = false ∧ Storable w a (i + 1) r
def setCells (w : World) (a : Addr) : Nat → List Value → World
  | _, [] => w
  | i, v :: r => setCells (w.setCell (a.add i) v) a (i + 1) r
def stAW (a : Addr) (vs : List Value) (K : WP) : WP := fun w => Storable w a 0 vs ∧ K (setCells w a 0 vs)
def newW (o : Obj) (K : Nat → WP) : WP := fun w => K w.heap.size (w.alloc o)
def callW (P : Program) (f : FuncId) (args : List Value) (r : Rs) (K : r.T → WP) : WP := fun w =>
  Calls P f args.toArray w fun | .returned v, w' => ∃ x, v = r.val x ∧ K x w' | _, _ => False
def runW (P : Program) (s : Sem Value) (l : Lf) (K : l.T → WP) : WP := fun w => ∃ x w', s.run P w = .ok (l.val x) w' ∧ K x w'
def runRW (P : Program) (s : Sem Value) (r : Rs) (K : r.T → WP) : WP := fun w => ∃ x w', s.run P w = .ok (r.val x) w' ∧ K x w'
def runUW (P : Program) (s : Sem Unit) (K : WP) : WP := fun w => ∃ w', s.run P w = .ok () w' ∧ K w'
/-- '==' and '!=' as the model runs them. -/
def eqS (op : BinOp) (t : TypeId) (x y : Operand) (u v : Value) : Sem Value := do eqGuard op t x y u v; binOp op t u v
def eqW (P : Program) (s : Sem Value) (K : Bool → WP) : WP := fun w => ∃ b : Bool, (∀ w', s.run P w' = .ok (.bool b) w') ∧ K b w
def loopW (T : Type) (x0 : T) (B : T → (T → WP) → WP) : WP := fun w =>
  ∃ (I : T → WP) (μ : T → World → Nat), I x0 w ∧ ∀ x w, I x w → B x (fun x' w' => I x' w' ∧ μ x' w' < μ x w) w
def joinW (T : Type) (A : (T → WP) → WP) (B : T → WP) : WP := fun w => ∀ J : T → WP, (∀ x w, B x w → J x w) → A J w
def heldW (H : List (List (Addr × Value))) (K : WP) : WP := fun w => (∀ l ∈ H, ∀ p ∈ l, w.cell? p.1 = some p.2) ∧ K w
def bothW (A B : WP) : WP := fun w => A w ∧ B w
def drewW (K : WP) : WP := fun w => K w.drew
def allW : List WP → WP
  | [] => FalseW
  | [x] => x
  | x :: r => bothW x (allW r)
/-- A call of yield. -/
def YieldAt (P : Program) (l : Nat) (args : List Value) (w : World) (R : Value → World → Prop) : Prop :=
  ∃ fn tmps assign body, (Instr.yield l args.toArray).run P w = .ok (.round l fn tmps assign body) w ∧
    RoundIn Fence.wide 0 P l fn tmps assign body w fun | .returned v, w' => R v w' | _, _ => False
def yieldW (P : Program) (l : Nat) (args : List Value) (K : Bool → WP) : WP := fun w =>
  YieldAt P l args w fun v w' => ∃ b, v = .bool b ∧ K b w'

/-! ### The environment: what is known of a frame's slots -/
inductive EV where
  | t | f | u
  | v (x : Value)
  | d (ds : List Deferred)
def EV.val : EV → Value
  | .t => .bool true
  | .f => .bool false
  | .u => undef
  | .v x => x
  | .d _ => undef
abbrev Env := List (Nat × EV)
def Env.get : Env → Nat → Option EV
  | [], _ => none
  | (i, e) :: r, k => match Nat.beq i k with
    | true => some e
    | false => Env.get r k
/-- The place in the environment where the deferred calls stand. -/
def DS : Nat := 1000000
def ev (ρ : Env) : Operand → Option EV
  | .tmp k => match Env.get ρ k with
    | some (.d _) => none
    | r => r
  | .const (.bool true) => some .t
  | .const (.bool false) => some .f
  | .const v => some (.v v)
  | .global g => some (.v (.pointer (some ⟨g, 0, none⟩)))
  | .func f => some (.v (.func (.func f) #[] #[]))
def evT (ρ : Env) (x : Operand) : Value := match ev ρ x with
  | some e => e.val
  | none => undef
def known (ρ : Env) : List Operand → Bool
  | [] => true
  | x :: r => match ev ρ x with
    | some _ => known ρ r
    | none => false
def evs (ρ : Env) : List Operand → Option (List Value)
  | [] => some []
  | x :: r => match ev ρ x, evs ρ r with
    | some e, some l => some (e.val :: l)
    | _, _ => none
def memN (k : Nat) : List Nat → Bool
  | [] => false
  | i :: r => match Nat.beq i k with
    | true => true
    | false => memN k r
def keysOf : Env → List Nat
  | [] => []
  | (i, _) :: r => i :: keysOf r
def rmE (d : Nat) : Env → Env
  | [] => []
  | (i, e) :: r => match Nat.beq i d with
    | true => rmE d r
    | false => (i, e) :: rmE d r
def setE (N : Nat) (fz : Env) (ρ : Env) (d : Option Tmp) (e : EV) (k : Env → WP) : WP := match e with
  | .d _ => FalseW
  | e => match d with
    | none => k ρ
    | some d => match Nat.blt d N, memN d (keysOf fz) with
      | true, false => k ((d, e) :: rmE d ρ)
      | _, _ => FalseW

/-! ### One operation -/
def pureRun (P : Program) {α : Type} : Sem α → Option α
  | .pure a => some a
  | .program k => pureRun P (k P)
  | .mark _ k => pureRun P k
  | _ => none
def symRun (P : Program) : Sem Value → (Value → WP) → WP
  | .pure a, K => K a
  | .program f, K => symRun P (f P) K
  | .mark _ s, K => symRun P s K
  | .new o f, K => newW o fun r => symRun P (f r) K
  | _, _ => FalseW
def isConstOp : Operand → Bool
  | .const _ => true
  | _ => false
def iand (k : IntKind) (x y : Int) : Int := k.wrap (BitVec.ofInt k.bits x &&& BitVec.ofInt k.bits y).toNat
def ior (k : IntKind) (x y : Int) : Int := k.wrap (BitVec.ofInt k.bits x ||| BitVec.ofInt k.bits y).toNat
def ixor (k : IntKind) (x y : Int) : Int := k.wrap (BitVec.ofInt k.bits x ^^^ BitVec.ofInt k.bits y).toNat
def iandn (k : IntKind) (x y : Int) : Int := k.wrap (BitVec.ofInt k.bits x &&& ~~~(BitVec.ofInt k.bits y)).toNat
def inot (k : IntKind) (x : Int) : Int := ixor k (if k.signed then -1 else k.max) x
def ishl (k : IntKind) (x y : Int) : Int := k.wrap (x * 2 ^ (min y.toNat k.bits))
def ishr (k : IntKind) (x y : Int) : Int := x.fdiv (2 ^ (min y.toNat k.bits))
def zeroC (P : Program) (t : TypeId) : Array Value := match (P.info? t).bind (·.zero) with
  | some z => z.cells
  | none => #[]
def bt (s : ByteArray) (i : Int) : Int := ((s.data[i.toNat]?).map fun b => (b.toNat : Int)).getD 0
def pureDef (P : Program) (ρ : Env) (o : Oper) (k : EV → WP) : WP :=
  match known ρ o.op.operands.toList with
  | false => FalseW
  | true => match pureRun P (execOp (evT ρ) o) with
    | some (.value v) => k (.v v)
    | _ => FalseW
def binP (P : Program) (ρ : Env) (o : Oper) (op : BinOp) (t : TypeId) (x y : Operand) (k : EV → WP) : WP :=
  match op with
  | .quo | .rem => match isConstOp y with
    | true => pureDef P ρ o k
    | false => match ev ρ x, ev ρ y with
      | some (.v (.int a m)), some (.v (.int b n)) => match decide (a = b) with
        | true => guardW (n ≠ 0) (k (.v (.int a (match op with | .quo => a.wrap (m.tdiv n) | _ => m.tmod n))))
        | false => FalseW
      | _, _ => FalseW
  | .shl | .shr => match isConstOp y with
    | true => pureDef P ρ o k
    | false => match ev ρ x, ev ρ y with
      | some (.v (.int a m)), some (.v (.int _ n)) => guardW (0 ≤ n) (k (.v (.int a (match op with | .shl => a.wrap (m * 2 ^ (min n.toNat a.bits)) | _ => m.fdiv (2 ^ (min n.toNat a.bits))))))
      | _, _ => FalseW
  | .add => match ev ρ x, ev ρ y with
    | some (.v (.string s)), some (.v (.string u)) => guardW (((s.size + u.size : Nat) : Int) ≤ IntKind.i64.max) (k (.v (.string (s ++ u))))
    | _, _ => pureDef P ρ o k
  | .eql => match ev ρ x, ev ρ y with
    | some (.v (.pointer p)), some (.v (.pointer none)) => match P.underlying t with
      | some (.pointer _) => k (.v (.bool p.isNone))
      | _ => FalseW
    | some (.v (.slice a _ _)), some (.v (.slice none _ _)) => match P.underlying t with
      | some (.slice _) => k (.v (.bool a.isNone))
      | _ => FalseW
    | some (.v (.agg xs)), some (.v (.agg ys)) => eqW P (eqS op t x y (.agg xs) (.agg ys)) fun b => k (.v (.bool b))
    | _, _ => pureDef P ρ o k
  | .neq => match ev ρ x, ev ρ y with
    | some (.v (.pointer p)), some (.v (.pointer none)) => match P.underlying t with
      | some (.pointer _) => k (.v (.bool (!p.isNone)))
      | _ => FalseW
    | some (.v (.slice a _ _)), some (.v (.slice none _ _)) => match P.underlying t with
      | some (.slice _) => k (.v (.bool (!a.isNone)))
      | _ => FalseW
    | some (.v (.agg xs)), some (.v (.agg ys)) => eqW P (eqS op t x y (.agg xs) (.agg ys)) fun b => k (.v (.bool b))
    | _, _ => pureDef P ρ o k
  | _ => pureDef P ρ o k
/-- A slice expression's bound: none, or a whole number. -/
def boundOf (ρ : Env) : Option Operand → Option (Option Int)
  | none => some none
  | some x => match ev ρ x with
    | some (.v (.int _ n)) => some (some n)
    | _ => none
def sliceStr (s : ByteArray) : Option Int → Option Int → (EV → WP) → WP
  | none, none, k => k (.v (.string (s.extract 0 s.size)))
  | some l, none, k => guardW (0 ≤ l ∧ l ≤ (s.size : Int)) (k (.v (.string (s.extract l.toNat s.size))))
  | none, some h, k => guardW (0 ≤ h ∧ h ≤ (s.size : Int)) (k (.v (.string (s.extract 0 h.toNat))))
  | some l, some h, k => guardW (0 ≤ l ∧ l ≤ h ∧ h ≤ (s.size : Int)) (k (.v (.string (s.extract l.toNat h.toNat))))
def cutAddr (a : Option Addr) (l m size : Nat) : Option Addr := if m = l then a else a.map (·.add (l * size))
def sliceSlc (a : Option Addr) (n c size : Nat) : Option Int → Option Int → Option Int → (EV → WP) → WP
  | none, none, none, k => k (.v (.slice (cutAddr a 0 c size) n c))
  | some l, none, none, k => guardW (0 ≤ l ∧ l ≤ (n : Int)) (k (.v (.slice (cutAddr a l.toNat c size) (n - l.toNat) (c - l.toNat))))
  | none, some h, none, k => guardW (0 ≤ h ∧ h ≤ (c : Int)) (k (.v (.slice (cutAddr a 0 c size) h.toNat c)))
  | some l, some h, none, k => guardW (0 ≤ l ∧ l ≤ h ∧ h ≤ (c : Int)) (k (.v (.slice (cutAddr a l.toNat c size) (h.toNat - l.toNat) (c - l.toNat))))
  | none, some h, some m, k => guardW (0 ≤ h ∧ h ≤ m ∧ m ≤ (c : Int)) (k (.v (.slice (cutAddr a 0 m.toNat size) h.toNat m.toNat)))
  | some l, some h, some m, k => guardW (0 ≤ l ∧ l ≤ h ∧ h ≤ m ∧ m ≤ (c : Int)) (k (.v (.slice (cutAddr a l.toNat m.toNat size) (h.toNat - l.toNat) (m.toNat - l.toNat))))
  | _, none, some _, _ => FalseW
def intLike (P : Program) (t : TypeId) : Bool := match P.underlying t with
  | some (.int _) => true
  | _ => false
def strLike (P : Program) (t : TypeId) : Bool := match P.underlying t with
  | some .string => true
  | _ => false
def oneCellT (P : Program) (t : TypeId) : Bool := match P.info? t with
  | some i => match i.size, P.underlying t with
    | 1, some (.struct _) => false
    | 1, some (.array _ _) => false
    | 1, some _ => true
    | _, _ => false
  | none => false
def szOf (P : Program) (t : TypeId) : Option Nat := (P.info? t).map (·.size)
def isPure (P : Program) (o : Oper) : Bool := match o.op with
  | .move _ | .assign _ | .pick .. | .nilCheck _ | .unOp .. | .fieldAddr .. | .field .. | .indexAddr .. | .index .. | .extract .. | .slice .. | .makeInterface .. | .makeFunc .. | .build .. => true
  | .binOp .. => true
  | .convert s d _ => (intLike P s && intLike P d) || (strLike P s && strLike P d)
  | .call { callee := .builtin b, .. } => match b with
    | .len | .cap | .min | .max => true
    | _ => false
  | _ => false
def pureOp (P : Program) (ρ : Env) (o : Oper) (k : EV → WP) : WP := match o.op with
  | .move x | .assign x => match ev ρ x with
    | some e => k e
    | none => FalseW
  | .pick c a b => match ev ρ c with
    | some .t => match ev ρ a with
      | some e => k e
      | none => FalseW
    | some .f => match ev ρ b with
      | some e => k e
      | none => FalseW
    | _ => FalseW
  | .unOp .not _ x => match ev ρ x with
    | some .t => k .f
    | some .f => k .t
    | some (.v (.bool b)) => k (.v (.bool !b))
    | _ => FalseW
  | .binOp op t x y _ => binP P ρ o op t x y k
  | .nilCheck x => match ev ρ x with
    | some (.v (.pointer p)) => ptrW p fun a => k (.v (.pointer (some a)))
    | some (.v (.func (.func f) a b)) => k (.v (.func (.func f) a b))
    | some (.v (.func (.yield f) a b)) => k (.v (.func (.yield f) a b))
    | _ => FalseW
  | .indexAddr t x i => match P.underlying t, ev ρ x, ev ρ i with
    | some (.slice e), some (.v (.slice A n _)), some (.v (.int _ j)) => match szOf P e with
      | some z => guardW (0 ≤ j ∧ j < (n : Int)) (ptrW A fun a => k (.v (.pointer (some (a.add (j.toNat * z))))))
      | none => FalseW
    | some (.array n e), some (.v (.pointer (some a))), some (.v (.int _ j)) => match szOf P e with
      | some z => guardW (0 ≤ j ∧ j < (n : Int)) (k (.v (.pointer (some (a.add (j.toNat * z))))))
      | none => FalseW
    | _, _, _ => FalseW
  | .index t x i => match P.underlying t, ev ρ x, ev ρ i with
    | some .string, some (.v (.string s)), some (.v (.int _ j)) => guardW (0 ≤ j ∧ j < (s.size : Int)) (k (.v (.int .u8 (bt s j))))
    | some (.array n e), some (.v (.agg cs)), some (.v (.int _ j)) => match oneCellT P e with
      | true => guardW (0 ≤ j ∧ j < (n : Int) ∧ n = cs.size) (k (.v (cs.getD j.toNat undef)))
      | false => FalseW
    | _, _, _ => FalseW
  | .slice t x lo hi mx => match P.underlying t, ev ρ x, boundOf ρ lo, boundOf ρ hi, boundOf ρ mx with
    | some .string, some (.v (.string s)), some l, some h, some none => sliceStr s l h k
    | some (.slice e), some (.v (.slice A n c)), some l, some h, some m => match szOf P e with
      | some z => sliceSlc A n c z l h m k
      | none => FalseW
    | _, _, _, _, _ => FalseW
  | _ => pureDef P ρ o k
def cellList (a : Addr) : Nat → List Value → List (Addr × Value)
  | _, [] => []
  | i, v :: r => (a.add i, v) :: cellList a (i + 1) r
def sizeIs (P : Program) (t : TypeId) (n : Nat) : Bool := match szOf P t with
  | some z => Nat.beq z n
  | none => false
def loadOp (P : Program) (ρ : Env) (o : Oper) (k : EV → List (Addr × Value) → WP) : WP := match o.op with
  | .load t x => match ev ρ x, shOf P t with
    | some (.v (.pointer (some a))), some (.one l) => ldW l a fun x => k (.v (l.val x)) [(a, l.val x)]
    | some (.v (.pointer (some a))), some (.agg ls) => match sizeIs P t ls.length with
      | true => ldAW ls a fun x => k (.v (.agg (LT.vals ls x).toArray)) (cellList a 0 (LT.vals ls x))
      | false => FalseW
    | some (.v (.pointer (some a))), some (.arr n) => match sizeIs P t n with
      | true => ldRW n a fun cs => k (.v (.agg cs)) (cellList a 0 cs.toList)
      | false => FalseW
    | _, _ => FalseW
  | _ => FalseW
def enterable (P : Program) (f : FuncId) : Bool := match P.funcs[f]? with
  | some fn => match fn.body with
    | some _ => !(fn.name == "runtime.NumGoroutine")
    | none => false
  | none => false
/-- A call of a value that is a function. -/
def callVW (P : Program) (v : Value) (args : List Value) (r : Rs) (K : r.T → WP) : WP := fun w =>
  (∃ g cap, v = .func (.func g) #[] cap ∧ enterable P g = true ∧ callW P g (args ++ cap.toList) r K w) ∨
  (∃ l, v = .func (.yield l) #[] #[] ∧ YieldAt P l args w fun v w' => ∃ x, v = r.val x ∧ K x w')
def setO (w : World) (l : Nat) (o : Obj) : World := { w with heap := w.heap.setIfInBounds l o }
/-- The next rune of a string that is gone through. -/
def nextW (l : Nat) (K : Int → Int → WP) (K0 : WP) : WP := fun w => ∃ s pos, w.heap[l]? = some (.stringIter s pos) ∧
  (pos < s.size → K (pos : Int) (Utf8.decode s pos).1 (setO w l (.stringIter s (pos + (Utf8.decode s pos).2)))) ∧ (¬ pos < s.size → K0 w)
/-- A range over a function: 'B t begin next jump' is a round, 'done r p' what comes behind. -/
def rangeW (P : Program) (v : Value) (T : Type) (vals : T → List Value) (B : T → (WP → WP) → WP → (Code → WP) → WP) (done : Nat → Option Code → WP) : WP := fun w =>
  ∃ f cap, v = .func (.func f) #[] cap ∧ enterable P f = true ∧ ∀ rec : LoopState → Option Code → Obj,
    (∀ (t : T) (w' : World) (R : Bool → WP), w'.heap[w.heap.size + 1]? = some (rec .ready none) →
      B t (fun K w1 => w1.heap[w.heap.size + 1]? = some (rec .ready none) ∧ K (setO w1 (w.heap.size + 1) (rec .busy none)))
        (fun w2 => w2.heap[w.heap.size + 1]? = some (rec .busy none) ∧ R true (setO w2 (w.heap.size + 1) (rec .ready none)))
        (fun c w2 => w2.heap[w.heap.size + 1]? = some (rec .busy none) ∧ R false (setO w2 (w.heap.size + 1) (rec .done (some c)))) w' →
      YieldAt P (w.heap.size + 1) (vals t) w' fun v w'' => ∃ b, v = .bool b ∧ R b w'') →
    Calls P f (.func (.yield (w.heap.size + 1)) #[] #[] :: cap.toList).toArray ((w.alloc (.deferred (some []))).alloc (rec .ready none)) fun
      | .returned _, w3 => ∃ s p, s ≠ .busy ∧ w3.heap[w.heap.size + 1]? = some (rec s p) ∧ done w.heap.size p (setO w3 (w.heap.size + 1) (rec .exhausted p))
      | _, _ => False
def lfOf (P : Program) (t : TypeId) : Option Lf := match shOf P t with
  | some (.one l) => some l
  | _ => none
/-- An operation that may turn the world: 'k' gets what its slot holds. -/
def spineOp (P : Program) (ρ : Env) (o : Oper) (k : EV → WP) : WP := match o.op with
  | .store t x y => match ev ρ x, ev ρ y, shOf P t with
    | some (.v (.pointer (some a))), some e, some (.one _) => match sizeIs P t 1 with
      | true => match e.val with
        | .agg _ => FalseW
        | .tuple _ => FalseW
        | v => stW a v (k .u)
      | false => FalseW
    | some (.v (.pointer (some a))), some (.v (.agg cs)), some (.agg ls) => match sizeIs P t ls.length with
      | true => guardW (cs.size = ls.length) (stAW a cs.toList (k .u))
      | false => FalseW
    | some (.v (.pointer (some a))), some (.v (.agg cs)), some (.arr n) => match sizeIs P t n with
      | true => guardW (cs.size = n) (stAW a cs.toList (k .u))
      | false => FalseW
    | _, _, _ => FalseW
  | .alloc t => symRun P (Instr.alloc t true (.tuple #[])) fun v => k (.v v)
  | .box t x => match ev ρ x with
    | some e => symRun P (Instr.box t e.val) fun v => k (.v v)
    | none => FalseW
  | .buildSlice t n ps => match evs ρ (ps.toList.map (·.2)) with
    | some vs => symRun P (Instr.buildSlice t n ((ps.toList.map (·.1)).zip vs).toArray) fun v => k (.v v)
    | none => FalseW
  | .makeSlice t l c => match ev ρ l, ev ρ c, lfOf P o.type with
    | some a, some b, some lf => runW P (Instr.makeSlice t a.val b.val) lf fun x => k (.v (lf.val x))
    | _, _, _ => FalseW
  | .convert s d x => match P.underlying s, P.underlying d, ev ρ x, lfOf P d with
    | some _, some _, some e, some lf => runW P (convert s d e.val) lf fun x => k (.v (lf.val x))
    | _, _, _, _ => FalseW
  | .makeMap t none => runW P (Instr.makeMap t none) .any fun v => k (.v v)
  | .lookup t x i ok => match ev ρ x, ev ρ i, rsOf P o.type with
    | some m, some e, some r => runRW P (Instr.lookup t m.val e.val ok) r fun x => k (.v (r.val x))
    | _, _, _ => FalseW
  | .mapUpdate t m e x => match ev ρ m, ev ρ e, ev ρ x with
    | some a, some b, some c => runUW P (Instr.mapUpdate t a.val b.val c.val) (k .u)
    | _, _, _ => FalseW
  | .insert t m e x => match ev ρ m, ev ρ e, ev ρ x with
    | some a, some b, some c => runUW P (Instr.mapUpdate t a.val b.val c.val) (k .u)
    | _, _, _ => FalseW
  | .range t x => match P.underlying t, ev ρ x with
    | some .string, some (.v (.string s)) => newW (.stringIter s 0) fun r => k (.v (.pointer (some ⟨r, 0, none⟩)))
    | _, _ => FalseW
  | .next x true => match ev ρ x with
    | some (.v (.pointer (some ⟨r, 0, _⟩))) => nextW r (fun i c => k (.v (.tuple #[.bool true, .int .i64 i, .int .i32 c]))) (k (.v (.tuple #[.bool false])))
    | _ => FalseW
  | .call { callee := .builtin b, args, argTypes } => match evs ρ args.toList, lfOf P o.type with
    | some vs, some lf => match b with
      | .append => runW P (Builtin.append_ argTypes o.type vs.toArray) lf fun x => k (.v (lf.val x))
      | .copy => runW P (Builtin.copy_ argTypes o.type vs.toArray) lf fun x => k (.v (lf.val x))
      | _ => FalseW
    | _, _ => FalseW
  | .call { callee := .value f, args, .. } => match f with
    | .func g => match evs ρ args.toList, enterable P g, rsOf P o.type with
      | some vs, true, some r => callW P g vs r fun x => k (.v (r.val x))
      | _, _, _ => FalseW
    | f => match ev ρ f, evs ρ args.toList, rsOf P o.type with
      | some e, some vs, some r => callVW P e.val vs r fun x => k (.v (r.val x))
      | _, _, _ => FalseW
  | _ => FalseW

/-! ### A region -/
def gslot (ops : List Oper) (j : Nat) : Option Tmp := match ops[j]? with
  | some o => o.dst
  | none => none
/-- Is the operation to be carried out? -/
def wantE (ops : List Oper) (ρ : Env) (o : Oper) : Option Bool := match o.guard with
  | none => some true
  | some (j, want) => match gslot ops j with
    | none => none
    | some t => match Env.get ρ t, want with
      | some .t, b => some b
      | some .f, true => some false
      | some .f, false => some true
      | some .u, _ => some false
      | _, _ => none
def isGuard (i : Nat) : List Oper → Bool
  | [] => false
  | o :: r => match o.guard with
    | some (j, _) => match Nat.beq j i with
      | true => true
      | false => isGuard i r
    | none => isGuard i r
/-- What a slot gets is parted at once where later operations ask it. -/
def splitE (g : Bool) (e : EV) (k : EV → WP) : WP := match g with
  | false => k e
  | true => match e with
    | .v (.bool b) => splitW b (k .t) (k .f)
    | e => k e
def isLoad (o : Oper) : Bool := match o.op with
  | .load .. => true
  | _ => false
def anyOp (P : Program) (ρ : Env) (o : Oper) (k : EV → WP) : WP := match isPure P o with
  | true => pureOp P ρ o k
  | false => match isLoad o with
    | true => loadOp P ρ o fun e _ => k e
    | false => spineOp P ρ o k
/-- A region that draws no order. -/
def seqOps (P : Program) (N : Nat) (ops : List Oper) (fz : Env) : List Oper → Nat → Env → (Env → WP) → WP
  | [], _, ρ, k => k ρ
  | o :: r, i, ρ, k => match wantE ops (ρ ++ fz) o with
    | none => FalseW
    | some false => setE N fz ρ o.dst .u fun ρ => seqOps P N ops fz r (i + 1) ρ k
    | some true => anyOp P (ρ ++ fz) o fun e => splitE (isGuard i ops) e fun e => setE N fz ρ o.dst e fun ρ => seqOps P N ops fz r (i + 1) ρ k
/-- What comes behind operation i, by the edges. -/
def descOf (ops : List Oper) (i : Nat) : List Oper → Nat → List Nat → List Nat
  | [], _, acc => acc
  | o :: r, j, acc => match o.after.toList.any fun e => Region.binds .any e && (Nat.beq e.on i || memN e.on acc) with
    | true => descOf ops i r (j + 1) (j :: acc)
    | false => descOf ops i r (j + 1) acc
/-- A cell that was read, and the operations before which it need not be held. -/
structure Held where
  cells : List (Addr × Value)
  desc : List Nat
def heldFor (j : Nat) : List Held → List (List (Addr × Value))
  | [] => []
  | h :: r => match memN j h.desc with
    | true => heldFor j r
    | false => h.cells :: heldFor j r
def withHeld (H : List (List (Addr × Value))) (k : WP) : WP := match H with
  | [] => k
  | H => heldW H k
def isFloat (P : Program) (ops : List Oper) (ρ : Env) (i : Nat) : Bool := match ops[i]? with
  | none => false
  | some o => match wantE ops ρ o with
    | some false => true
    | some true => isPure P o || isLoad o
    | none => false
def firstFloat (P : Program) (ops : List Oper) (ρ : Env) : List Nat → Option Nat
  | [] => none
  | i :: r => match isFloat P ops ρ i with
    | true => some i
    | false => firstFloat P ops ρ r
def disjointL (listed : Array Bool) : List Nat → Bool
  | [] => true
  | j :: r => match listed.getD j true with
    | true => false
    | false => disjointL listed r
/-- A region that draws its order: what only reads is taken first; of the others each that may come up. -/
def drawOps (P : Program) (N : Nat) (A : Array Oper) (ops : List Oper) (fz : Env) : Nat → Array Bool → List Held → Env → (Env → WP) → WP
  | 0, _, _, _, _ => FalseW
  | fuel + 1, listed, H, ρ, k => match Region.ready .any A listed with
    | [] => k ρ
    | r0 :: rs => match firstFloat P ops (ρ ++ fz) (r0 :: rs) with
      | some i => match ops[i]?, Region.free .any A listed i with
        | some o, true => match wantE ops (ρ ++ fz) o with
          | some false => setE N fz ρ o.dst .u fun ρ => drawOps P N A ops fz fuel (listed.setIfInBounds i true) H ρ k
          | some true => match isPure P o with
            | true => pureOp P (ρ ++ fz) o fun e => splitE (isGuard i ops) e fun e => setE N fz ρ o.dst e fun ρ => drawOps P N A ops fz fuel (listed.setIfInBounds i true) H ρ k
            | false => match disjointL listed (descOf ops i ops 0 []) with
              | false => FalseW
              | true => loadOp P (ρ ++ fz) o fun e cs => splitE (isGuard i ops) e fun e => setE N fz ρ o.dst e fun ρ => drawOps P N A ops fz fuel (listed.setIfInBounds i true) (⟨cs, descOf ops i ops 0 []⟩ :: H) ρ k
          | none => FalseW
        | _, _ => FalseW
      | none => allW ((r0 :: rs).map fun i => match ops[i]? with
        | some o => match wantE ops (ρ ++ fz) o with
          | some true => spineOp P (ρ ++ fz) o fun e => withHeld (heldFor i H) (splitE (isGuard i ops) e fun e => setE N fz ρ o.dst e fun ρ => drawOps P N A ops fz fuel (listed.setIfInBounds i true) H ρ k)
          | _ => FalseW
        | none => FalseW)

/-! ### Code -/
/-- What a slot holds at a loop's head, or where ways meet. -/
inductive Lv where
  | sh (s : Sh) | ds
abbrev Lv.T : Lv → Type
  | .sh s => s.T | .ds => List Deferred
def Lv.ev : (l : Lv) → l.T → EV
  | .sh s, x => .v (s.val x)
  | .ds, x => .d x
abbrev VT : List (Nat × Lv) → Type
  | [] => Unit
  | l :: r => l.2.T × VT r
def envOf : (ls : List (Nat × Lv)) → VT ls → Env
  | [], _ => []
  | l :: r, x => (l.1, l.2.ev x.1) :: envOf r x.2
def deLf : (l : Lf) → Value → Option l.T
  | .int k, .int j n => if k = j then some n else none
  | .bool, .bool b => some b
  | .str, .string s => some s
  | .ptr, .pointer p => some p
  | .slc, .slice a n c => some (a, n, c)
  | .any, v => some v
  | _, _ => none
def deLT : (ls : List Lf) → List Value → Option (LT ls)
  | [], [] => some ()
  | l :: r, v :: vs => match deLf l v, deLT r vs with
    | some x, some y => some (x, y)
    | _, _ => none
  | _, _ => none
def deSh : (s : Sh) → Value → Option s.T
  | .one l, v => deLf l v
  | .agg ls, .agg cs => deLT ls cs.toList
  | .arr _, .agg cs => some cs
  | _, _ => none
def deLv : (l : Lv) → EV → Option l.T
  | .sh s, .v x => deSh s x
  | .sh s, .t => deSh s (.bool true)
  | .sh s, .f => deSh s (.bool false)
  | .ds, .d ds => some ds
  | _, _ => none
def deE : (ls : List (Nat × Lv)) → Env → Option (VT ls)
  | [], _ => some ()
  | l :: r, ρ => match Env.get ρ l.1 with
    | some e => match deLv l.2 e, deE r ρ with
      | some x, some y => some (x, y)
      | _, _ => none
    | none => none
def keepE (ρ : Env) : List Nat → Env
  | [] => []
  | k :: r => match Env.get ρ k with
    | some e => (k, e) :: keepE ρ r
    | none => keepE ρ r
/-! ### Regions in parts, by masks -/
/-- Of an operation: its place, its bit, on which it waits, which come behind it, what it writes, what it looks at. -/
structure Tab where
  i : Nat
  bit : Nat
  aft : Nat
  dsc : Nat
  dst : Option Nat
  lk : List Nat
structure HeldM where
  cells : List (Addr × Value)
  desc : Nat
def hasB (m b : Nat) : Bool := match Nat.beq (Nat.land m b) 0 with
  | true => false
  | false => true
def subB (a m : Nat) : Bool := Nat.beq (Nat.land a m) a
def aftM : List Edge → Nat
  | [] => 0
  | e :: r => match Region.binds .any e with
    | true => Nat.lor (Nat.pow 2 e.on) (aftM r)
    | false => aftM r
def eqNs : List Nat → List Nat → Bool
  | [], [] => true
  | a :: r, b :: q => match Nat.beq a b with
    | true => eqNs r q
    | false => false
  | _, _ => false
def eqON : Option Nat → Option Nat → Bool
  | none, none => true
  | some a, some b => Nat.beq a b
  | _, _ => false
def optIn : Option Nat → List Nat → Bool
  | none, _ => false
  | some d, l => memN d l
def optSame : Option Nat → Option Nat → Bool
  | some a, some b => Nat.beq a b
  | _, _ => false
/-- An edge between them, or apart. -/
def pairB (s t : Tab) : Bool := match hasB t.aft s.bit with
  | true => true
  | false => match hasB s.aft t.bit with
    | true => true
    | false => match optIn s.dst t.lk with
      | true => false
      | false => match optIn t.dst s.lk with
        | true => false
        | false => match optSame s.dst t.dst with
          | true => false
          | false => true
def pairsB (s : Tab) : List Tab → Bool
  | [] => true
  | t :: r => match pairB s t with
    | true => pairsB s r
    | false => false
def allPairs : List Tab → Bool
  | [] => true
  | t :: r => match pairsB t r with
    | true => allPairs r
    | false => false
def tabsB (A : Array Oper) : List Oper → Nat → List Tab → Bool
  | [], _, [] => true
  | o :: r, i, t :: ts => match Nat.beq t.i i with
    | false => false
    | true => match Nat.beq t.bit (Nat.pow 2 i) with
      | false => false
      | true => match Nat.beq t.aft (aftM o.after.toList) with
        | false => false
        | true => match eqON t.dst o.dst with
          | false => false
          | true => match eqNs t.lk (o.looksAt A) with
            | false => false
            | true => tabsB A r (i + 1) ts
  | _, _, _ => false
def descB (bd d : Nat) : List Tab → Bool
  | [] => true
  | t :: r => match hasB d t.bit with
    | false => descB bd d r
    | true => match Nat.beq (Nat.land t.aft bd) 0 with
      | true => false
      | false => descB bd d r
def allDesc (ts : List Tab) : List Tab → Bool
  | [] => true
  | t :: r => match Nat.beq t.dsc 0 with
    | true => allDesc ts r
    | false => match Nat.beq (Nat.shiftRight t.dsc ts.length) 0 with
      | false => false
      | true => match descB (Nat.lor t.bit t.dsc) t.dsc ts with
        | true => allDesc ts r
        | false => false
def readyM : List Tab → Nat → List Tab
  | [], _ => []
  | t :: r, m => match hasB m t.bit with
    | true => readyM r m
    | false => match subB t.aft m with
      | true => t :: readyM r m
      | false => readyM r m
def heldM (b : Nat) : List HeldM → List (List (Addr × Value))
  | [] => []
  | h :: r => match hasB h.desc b with
    | true => heldM b r
    | false => h.cells :: heldM b r
def coverM (rng : Nat) : List HeldM → Bool
  | [] => true
  | h :: r => match subB rng h.desc with
    | true => coverM rng r
    | false => false
def floatM (P : Program) (ops : List Oper) (ρ : Env) : List Tab → Option Tab
  | [] => none
  | t :: r => match isFloat P ops ρ t.i with
    | true => some t
    | false => floatM P ops ρ r
/-- A region that draws its order, from what is listed to what is to be (st). -/
def drawM (P : Program) (N : Nat) (ops : List Oper) (tabs : List Tab) (fz : Env) (st rng : Nat) : Nat → Nat → List HeldM → Env → (Env → WP) → WP
  | 0, _, _, _, _ => FalseW
  | fuel + 1, m, H, ρ, k => match Nat.beq m st with
    | true => match coverM rng H with
      | true => k ρ
      | false => FalseW
    | false => match readyM tabs m with
      | [] => FalseW
      | t0 :: ts => match floatM P ops (ρ ++ fz) (t0 :: ts) with
        | some t => match ops[t.i]? with
          | none => FalseW
          | some o => match wantE ops (ρ ++ fz) o with
            | some false => setE N fz ρ o.dst .u fun ρ => drawM P N ops tabs fz st rng fuel (Nat.lor m t.bit) H ρ k
            | some true => match isPure P o with
              | true => pureOp P (ρ ++ fz) o fun e => splitE (isGuard t.i ops) e fun e => setE N fz ρ o.dst e fun ρ => drawM P N ops tabs fz st rng fuel (Nat.lor m t.bit) H ρ k
              | false => match Nat.beq (Nat.land t.dsc m) 0 with
                | false => FalseW
                | true => loadOp P (ρ ++ fz) o fun e cs => splitE (isGuard t.i ops) e fun e => setE N fz ρ o.dst e fun ρ => drawM P N ops tabs fz st rng fuel (Nat.lor m t.bit) (⟨cs, t.dsc⟩ :: H) ρ k
            | none => FalseW
        | none => allW ((t0 :: ts).map fun t => match ops[t.i]? with
          | some o => match wantE ops (ρ ++ fz) o with
            | some true => spineOp P (ρ ++ fz) o fun e => withHeld (heldM t.bit H) (splitE (isGuard t.i ops) e fun e => setE N fz ρ o.dst e fun ρ => drawM P N ops tabs fz st rng fuel (Nat.lor m t.bit) H ρ k)
            | _ => FalseW
          | none => FalseW)
/-- Truths are parted. -/
def splitV : Env → (Env → WP) → WP
  | [], k => k []
  | p :: r, k => splitE true p.2 fun e => splitV r fun r => k ((p.1, e) :: r)
/-- A part: what is listed at its end; what is live there, and what is kept. -/
structure Part where
  st : Nat
  live : List (Nat × Lv)
  keep : List Nat
/-- A region in parts. -/
def drawC (P : Program) (N : Nat) (ops : List Oper) (tabs : List Tab) (full : Nat) (fz : Env) : List Part → Nat → Env → Env → (Env → WP) → WP
  | [], m, pre, ρ, k => splitV pre fun pre' => drawM P N ops tabs fz full 0 (ops.length + 1) m [] (pre' ++ ρ) k
  | c :: cs, m, pre, ρ, k => joinW (VT c.live) (fun J => splitV pre fun pre' => drawM P N ops tabs (keepE (pre ++ ρ) c.keep ++ fz) c.st (Nat.xor full c.st) (ops.length + 1) m [] (pre' ++ ρ) (fun ρ' => match deE c.live ρ' with
      | some t => J t
      | none => FalseW))
    (fun t => drawC P N ops tabs full fz cs c.st (envOf c.live t) (keepE (pre ++ ρ) c.keep) k)
inductive Ann where
  | nil
  | cuts (ts : List Tab) (l : List Part)
  | seq (a b : Ann)
  | join (live : List (Nat × Lv)) (keep : List Nat) (a b : Ann)
  | cond (a b : Ann)
  | block (a : Ann)
  | loop (live : List (Nat × Lv)) (keep : List Nat) (a : Ann)
def memE (k : Nat) : List Nat → Bool
  | [] => false
  | x :: r => match Nat.beq k x with
    | true => true
    | false => memE k r
def isD : EV → Bool
  | .d _ => true
  | _ => false
def noD : Env → Bool
  | [] => true
  | p :: r => match isD p.2 with
    | true => false
    | false => noD r
def dropE (ks : List Nat) : Env → Env
  | [] => []
  | p :: r => match memE p.1 ks, isD p.2 with
    | false, false => p :: dropE ks r
    | _, _ => dropE ks r
def nodupN : List Nat → Bool
  | [] => true
  | x :: r => match memE x r with
    | true => false
    | false => nodupN r
def ltN (N : Nat) : List Nat → Bool
  | [] => true
  | x :: r => match Nat.ble (x + 1) N with
    | true => ltN N r
    | false => false
def keysB : List (Nat × Lv) → List Nat → Bool
  | [], [] => true
  | (k, .sh _) :: r, x :: q => match Nat.beq k x with
    | true => keysB r q
    | false => false
  | _, _ => false
def valsOf : (ls : List (Nat × Lv)) → VT ls → List Value
  | [], _ => []
  | l :: r, x => (l.2.ev x.1).val :: valsOf r x.2
/-- No range over a function in it. -/
def flat : Code → Bool
  | .rangeFunc _ _ _ _ => false
  | .seq x y => match flat x with
    | true => flat y
    | false => false
  | .cond _ x y => match flat x with
    | true => flat y
    | false => false
  | .block _ x => flat x
  | .loop x => flat x
  | .scope x => flat x
  | _ => true
def selW (b : Bool) (x y : WP) : WP := match b with
  | true => x
  | false => y
def exsOf : List Nat → (Nat → WP) → List (Nat × WP)
  | [], _ => []
  | i :: r, f => (i, f i) :: exsOf r f
def lookW : Nat → List (Nat × WP) → WP
  | _, [] => FalseW
  | i, p :: r => selW (Nat.beq i p.1) p.2 (lookW i r)
/-- What comes behind a range over a function, by the way in which a round was left. -/
def jumpK (nx rt : WP) (exs : List (Nat × WP)) : Option Code → WP
  | none => nx
  | some .ret => rt
  | some (.exit i) => lookW i exs
  | _ => FalseW
structure Kn where
  next : Env → WP
  exit : Nat → Env → WP
  ret : Env → WP
def Ann.fst : Ann → Ann
  | .seq a _ => a | .join _ _ a _ => a | .cond a _ => a | .block a => a | .loop _ _ a => a | .nil => .nil | .cuts _ _ => .nil
def Ann.snd : Ann → Ann
  | .seq _ b => b | .join _ _ _ b => b | .cond _ b => b | _ => .nil
def comp (P : Program) (N : Nat) : Code → Ann → Env → Env → Kn → WP
  | .skip, _, _, ρ, K => K.next ρ
  | .label _, _, _, ρ, K => K.next ρ
  | .exit i, _, _, ρ, K => K.exit i ρ
  | .ret, _, _, ρ, K => K.ret ρ
  | .region _ A draw, an, fz, ρ, K => match draw with
    | false => seqOps P N A.toList fz A.toList 0 ρ K.next
    | true => match Region.noSelect A with
      | true => match an with
        | .cuts ts l => match tabsB A A.toList 0 ts with
          | false => FalseW
          | true => match allPairs ts with
            | false => FalseW
            | true => match allDesc ts ts with
              | false => FalseW
              | true => drewW (drawC P N A.toList ts (Nat.sub (Nat.pow 2 A.toList.length) 1) fz l 0 [] ρ K.next)
        | _ => drewW (drawOps P N A A.toList fz (A.toList.length + 1) (Array.replicate A.size false) [] ρ K.next)
      | false => FalseW
  | .seq x y, an, fz, ρ, K => match an with
    | .join live keep a b => joinW (VT live) (fun J => comp P N x a (keepE ρ keep ++ fz) ρ
        { next := fun ρ' => match deE live ρ' with
            | some t => J t
            | none => FalseW
          exit := fun i ρ' => K.exit i (ρ' ++ keepE ρ keep), ret := fun ρ' => K.ret (ρ' ++ keepE ρ keep) })
        (fun t => comp P N y b fz (envOf live t ++ keepE ρ keep) K)
    | an => comp P N x an.fst fz ρ { K with next := fun ρ' => comp P N y an.snd fz ρ' K }
  | .cond c x y, an, fz, ρ, K => match ev (ρ ++ fz) c with
    | some .t => comp P N x an.fst fz ρ K
    | some .f => comp P N y an.snd fz ρ K
    | some (.v (.bool b)) => splitW b (comp P N x an.fst fz ρ K) (comp P N y an.snd fz ρ K)
    | _ => FalseW
  | .block i x, an, fz, ρ, K => comp P N x an.fst fz ρ { K with exit := fun j ρ' => match Nat.beq j i with
      | true => K.next ρ'
      | false => K.exit j ρ' }
  | .loop x, an, fz, ρ, K => match an with
    | .loop live keep a => match deE live ρ with
      | some t0 => loopW (VT live) t0 fun t I => comp P N x a (keepE ρ keep ++ fz) (envOf live t)
        { next := fun ρ' => match deE live ρ' with
            | some t' => I t'
            | none => FalseW
          exit := fun i ρ' => K.exit i (ρ' ++ keepE ρ keep), ret := fun ρ' => K.ret (ρ' ++ keepE ρ keep) }
      | none => FalseW
    | _ => FalseW
  | .scope x, an, fz, ρ, K => comp P N x an fz ρ K
  | .rangeFunc g ps x y, an, fz, ρ, K => match an with
    | .loop live keep a => match ev (ρ ++ fz) g, Env.get ρ DS with
      | some e, some (.d ds) => match keysB live ps.toList, nodupN (DS :: ps.toList), ltN N ps.toList, flat x, flat y, noD fz with
        | true, true, true, true, true, true => rangeW P e.val (VT live) (valsOf live)
          (fun t begin next jump => comp P N x a.fst [] ((DS, .d []) :: (envOf live t ++ dropE (DS :: ps.toList) (ρ ++ fz)))
            { next := fun ρ1 => begin (comp P N y a.snd [] ρ1 { next := fun _ => next, exit := fun i _ => jump (.exit i), ret := fun _ => jump .ret })
              exit := fun _ _ => FalseW, ret := fun _ => FalseW })
          (fun r p => jumpK (K.next ((DS, .d (⟨.collected r, #[]⟩ :: ds)) :: dropE [DS] ρ)) (K.ret ((DS, .d (⟨.collected r, #[]⟩ :: ds)) :: dropE [DS] ρ))
            (exsOf keep fun i => K.exit i ((DS, .d (⟨.collected r, #[]⟩ :: ds)) :: dropE [DS] ρ)) p)
        | _, _, _, _, _, _ => FalseW
      | _, _ => FalseW
    | _ => FalseW
  | _, _, _, _, _ => FalseW
def retVs (P : Program) (ρ : Env) : List ResultVar → (List Value → WP) → WP
  | [], K => K []
  | .tmp t :: r, K => match ev ρ (.tmp t) with
    | some e => retVs P ρ r fun vs => K (e.val :: vs)
    | none => FalseW
  | .cell a t :: r, K => match ev ρ (.tmp a), shOf P t with
    | some (.v (.pointer (some ad))), some (.one l) => ldW l ad fun x => retVs P ρ r fun vs => K (l.val x :: vs)
    | some (.v (.pointer (some ad))), some (.agg ls) => match sizeIs P t ls.length with
      | true => ldAW ls ad fun x => retVs P ρ r fun vs => K (.agg (LT.vals ls x).toArray :: vs)
      | false => FalseW
    | some (.v (.pointer (some ad))), some (.arr n) => match sizeIs P t n with
      | true => ldRW n ad fun cs => retVs P ρ r fun vs => K (.agg cs :: vs)
      | false => FalseW
    | _, _ => FalseW
def oneOf : List Value → Value
  | [v] => v
  | vs => .tuple vs.toArray
def leaveW (P : Program) : List Deferred → WP → WP
  | [], K => K
  | d :: ds, K => fun w => ∃ r w', d.target = .collected r ∧ (Instr.takeDeferred r).run P w = .ok [] w' ∧ leaveW P ds K w'
def args0 : Nat → List Value → Env
  | _, [] => []
  | i, v :: r => (i, .v v) :: args0 (i + 1) r
def retK (P : Program) (marks : Bool) (rs : List ResultVar) (K : Value → WP) (ρ : Env) : WP :=
  match Env.get ρ DS with
  | some (.d ds) => match marks with
    | true => leaveW P ds (retVs P ρ rs fun vs => K (oneOf vs))
    | false => match ds with
      | [] => retVs P ρ rs fun vs => K (oneOf vs)
      | _ => FalseW
  | _ => FalseW
/-- A function's body, its arguments given. -/
def bodyW (P : Program) (fn : Func) (an : Ann) (marks : Bool) (args : List Value) (K : Value → WP) : WP :=
  match fn.body with
  | some c => comp P fn.ntmps c an [] ((DS, .d []) :: args0 0 args) { next := retK P marks fn.results.toList K, exit := fun _ _ => FalseW, ret := retK P marks fn.results.toList K }
  | none => FalseW
end Go.Proofs.YtlpniinmomhkcaaDoor.V
