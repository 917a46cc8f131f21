/- The shallow reading of operations, of regions that keep their order, and of code without loops. -/
import Derived.Test.YtnhjcjnjpciifaaDoorShCore
namespace Go.Sh

/- New memory, under names. -/
def AL (w : World) (o : Obj) (K : Addr → World → Prop) : Prop := K ⟨w.heap.size, 0, none⟩ (w.alloc o)
def ALM (w : World) (o : Obj) (K : Nat → World → Prop) : Prop := K w.heap.size (w.alloc o)
def LetW (w : World) (K : World → Prop) : Prop := K w
def bAnd (k : IntKind) (a b : Int) : Int := k.wrap ((BitVec.ofInt k.bits a &&& BitVec.ofInt k.bits b).toNat)
def bOr (k : IntKind) (a b : Int) : Int := k.wrap ((BitVec.ofInt k.bits a ||| BitVec.ofInt k.bits b).toNat)
def bXor (k : IntKind) (a b : Int) : Int := k.wrap ((BitVec.ofInt k.bits a ^^^ BitVec.ofInt k.bits b).toNat)
def bAndNot (k : IntKind) (a b : Int) : Int := k.wrap ((BitVec.ofInt k.bits a &&& ~~~(BitVec.ofInt k.bits b)).toNat)

def knGet : Kn → Nat → Option Bool
  | [], _ => none
  | (i, b) :: t, j => match Nat.beq i j with | true => some b | false => knGet t j
def knDel : Kn → Nat → Kn
  | [], _ => []
  | (i, b) :: t, j => match Nat.beq i j with | true => knDel t j | false => (i, b) :: knDel t j
def knownOf (kn : Kn) : Operand → Option Bool
  | .tmp t => knGet kn t
  | .const (.bool b) => some b
  | _ => none

def mNth : List Value → Nat → (Value → Prop) → Prop
  | [], _, _ => False
  | x :: _, 0, K => K x
  | _ :: t, i + 1, K => mNth t i K
def mTys (P : Program) : List TypeId → List Value → (List Value → Prop) → Prop
  | [], l, K => mNil l (K [])
  | t :: ts, l, K => mCons l fun x rest => tyV P t x fun y => mTys P ts rest fun ys => K (y :: ys)
/-- A result's value by its type: of a tuple each part. -/
def tyR (P : Program) (t : TypeId) (v : Value) (K : Value → Prop) : Prop :=
  match P.underlying t with
  | some (.tuple ts) => mTup v fun l => mTys P ts.toList l fun ys => K (.tuple ys.toArray)
  | _ => tyV P t v K

def EqP (p q : Option Addr) (K : Bool → Prop) : Prop := match q with | none => K p.isNone | some _ => (match p with | none => K false | some _ => False)
def EqNilS (a : Option Addr) (K : Bool → Prop) : Prop := K a.isNone
def EqI (v : Value) (K : Bool → Prop) : Prop := match v with | .nilIface => K true | .iface _ _ => K false | _ => False

def rBinO (P : Program) (op : BinOp) (t : TypeId) (xo yo : Operand) (x y : Value) (w : World) (K : Value → World → Prop) : Prop :=
  match x, y with
  | .int k a, .int k' b => (match op with
    | .shl => Req (0 ≤ b) (K (.int k (k.wrap (a * 2 ^ (min b.toNat k.bits)))) w)
    | .shr => Req (0 ≤ b) (K (.int k (a.fdiv (2 ^ (min b.toNat k.bits)))) w)
    | .quo => onlyIf (decide (k = k')) (Req (b ≠ 0) (K (.int k (k.wrap (a.tdiv b))) w))
    | .rem => onlyIf (decide (k = k')) (Req (b ≠ 0) (K (.int k (a.tmod b)) w))
    | _ => rRun P (binOp op t x y) w K)
  | .string a, .string b => (match op with
    | .add => Req (a.size + b.size ≤ 9223372036854775807) (K (.string (a ++ b)) w)
    | _ => rRun P (binOp op t x y) w K)
  | .pointer p, .pointer q => (match op with
    | .eql => onlyIf (match P.underlying t with | some (.pointer _) => true | _ => false) (EqP p q fun b => K (.bool b) w)
    | .neq => onlyIf (match P.underlying t with | some (.pointer _) => true | _ => false) (EqP p q fun b => K (.bool (!b)) w)
    | _ => False)
  | .slice a _ _, .slice none _ _ => (match op with
    | .eql => onlyIf (match P.underlying t with | some (.slice _) => true | _ => false) (K (.bool a.isNone) w)
    | .neq => onlyIf (match P.underlying t with | some (.slice _) => true | _ => false) (K (.bool (!a.isNone)) w)
    | _ => False)
  | v, .nilIface => (match op, yo with
    | .eql, .const _ => onlyIf (match P.underlying t with | some (.interface _) => true | _ => false) (EqI v fun b => K (.bool b) w)
    | .neq, .const _ => onlyIf (match P.underlying t with | some (.interface _) => true | _ => false) (EqI v fun b => K (.bool (!b)) w)
    | _, _ => False)
  | x, y => rRun P (do eqGuard op t xo yo x y; binOp op t x y) w fun v w' => mBool v fun b => K (.bool b) w'

/-- A comparison with nil is read by what stands at its right. -/
def rBin (P : Program) (op : BinOp) (t : TypeId) (xo yo : Operand) (x y : Value) (w : World) (K : Value → World → Prop) : Prop :=
  match y with
  | .nilIface => (match op, yo with
    | .eql, .const _ => onlyIf (match P.underlying t with | some (.interface _) => true | _ => false) (EqI x fun b => K (.bool b) w)
    | .neq, .const _ => onlyIf (match P.underlying t with | some (.interface _) => true | _ => false) (EqI x fun b => K (.bool (!b)) w)
    | _, _ => False)
  | y => rBinO P op t xo yo x y w K
theorem rBin_old (P : Program) (op : BinOp) (t : TypeId) (xo yo : Operand) (x y : Value) (w : World) (K : Value → World → Prop) : rBin P op t xo yo x y w K = rBinO P op t xo yo x y w K := by
  cases y <;> first | rfl | (cases x <;> rfl)

def bSem (b : Builtin) (argTypes : Array TypeId) (type : TypeId) (args : Array Value) : Sem Value :=
  match b with
  | .append => Builtin.append_ argTypes type args
  | .cap => Builtin.cap_ argTypes type args
  | .clear => Builtin.clear_ argTypes type args
  | .copy => Builtin.copy_ argTypes type args
  | .delete => Builtin.delete_ argTypes type args
  | .len => Builtin.len_ argTypes type args
  | .max => Builtin.max_ argTypes type args
  | .min => Builtin.min_ argTypes type args
  | _ => stuck "no such builtin here"

/-- The operations that come to a value by a run of their own. -/
def opSem (r : Operand → Value) (o : Oper) : Sem Value :=
  match o.op with
  | .alloc e => Instr.alloc e true (.tuple #[])
  | .box e x => Instr.box e (r x)
  | .build t parts => Instr.build t (parts.map fun (i, x) => (i, r x))
  | .buildSlice t len parts => Instr.buildSlice t len (parts.map fun (i, x) => (i, r x))
  | .unOp op _ x => Op.unary op (r x)
  | .convert s d x => convert s d (r x)
  | .makeInterface t x => Instr.makeInterface t (r x)
  | .makeFunc fn first captured => Instr.makeFunc fn (first.map r) (captured.map r)
  | .makeMap t h => Instr.makeMap t (h.map r)
  | .makeSlice t l c => Instr.makeSlice t (r l) (r c)
  | .slice t x lo hi mx => Instr.sliceAt t (r x) (lo.map r) (hi.map r) (mx.map r)
  | .fieldAddr s x f => Instr.fieldAt s (r x) f
  | .field t x f => Instr.field t (r x) f
  | .lookup t x i ok => Instr.lookup t (r x) (r i) ok
  | .mapEntry t m k => Instr.mapEntry t (r m) (r k)
  | .range t x => Instr.range t (r x)
  | .next it s => Instr.next (r it) s o.type
  | .entry it => Instr.entry (r it)
  | .typeAssert x t a ok => Instr.typeAssert (r x) t a ok
  | _ => stuck "no such operation here"
def opUnit (r : Operand → Value) (o : Oper) : Sem Unit :=
  match o.op with
  | .mapUpdate t m k x => Instr.mapUpdate t (r m) (r k) (r x)
  | .insert t m k x => Instr.mapUpdate t (r m) (r k) (r x)
  | .entryStore t m s x => Instr.entryStore t (r m) (r s) (r x)
  | _ => stuck "no such operation here"

def elemSize (P : Program) (t : TypeId) : Option Nat :=
  match P.underlying t with | some (.slice e) => (P.info? e).map (·.size) | _ => none
def arrSize (P : Program) (t : TypeId) : Option (Nat × Nat) :=
  match P.underlying t with | some (.array n e) => (P.info? e).map fun i => (n, i.size) | _ => none

def fieldOff (P : Program) (t : TypeId) (f : Nat) : Option Nat :=
  match P.underlying t with
  | some (.struct fs) => (match fs[f]? with
    | some fd => (match (P.info? fd.type).map (·.size) with | some (_ + 1) => some fd.offset | _ => none)
    | none => none)
  | _ => none

def rOp (P : Program) (o : Oper) (kn : Kn) (r : Regs) (w : World) (K : Option Bool → Value → World → Prop) : Prop :=
  match o.op with
  | .move x => K (knownOf kn x) (rho r x) w
  | .assign x => K (knownOf kn x) (rho r x) w
  | .pick c a b => (match knownOf kn c with
    | some true => onlyIf (match rho r c with | .bool _ => true | _ => false) (K (knownOf kn a) (rho r a) w)
    | some false => onlyIf (match rho r c with | .bool _ => true | _ => false) (K (knownOf kn b) (rho r b) w)
    | none => mBool (rho r c) fun t => Br t (K (knownOf kn a) (rho r a) w) (K (knownOf kn b) (rho r b) w))
  | .load t a => (match rho r a with | .pointer (some ad) => ldVar P t ad w fun v => K none v w | _ => False)
  | .store t a x => (match rho r a with | .pointer (some ad) => stVar P t ad (rho r x) w fun w' => K none undef w' | _ => False)
  | .nilCheck x => (match rho r x with
    | .pointer p => NN p fun a => K none (.pointer (some a)) w
    | .func (.func g) first captured => K none (.func (.func g) first captured) w
    | _ => False)
  | .indexAddr t x ix => (match rho r x, rho r ix with
    | .slice base len _, .int _ i => (match elemSize P t with
      | some sz => IX base len i sz fun a => K none (.pointer (some a)) w
      | none => False)
    | .pointer (some a), .int _ i => (match arrSize P t with
      | some (n, sz) => Req (0 ≤ i ∧ i < (n : Int)) (K none (.pointer (some (a.add (i.toNat * sz)))) w)
      | none => False)
    | _, _ => False)
  | .index t x ix => (match rho r x, rho r ix with
    | .string s, .int _ i => onlyIf (match P.underlying t with | some .string => true | _ => false) (SIX s i fun c => K none (.int .u8 c.toNat) w)
    | v, i => rRun P (Instr.index t v i) w fun v w' => tyV P o.type v fun v => K none v w')
  | .binOp op t x y _ => rBin P op t x y (rho r x) (rho r y) w (K none)
  | .extract t i => mTup (rho r t) fun l => mNth l i fun v => tyV P o.type v fun v => K none v w
  | .call { callee := .value f, args, .. } => CallV P (rho r f) (args.toList.map (rho r)) w fun v w' => tyR P o.type v fun v => K none v w'
  | .call { callee := .invoke x name, args, .. } => CallI P (rho r x) name (args.toList.map (rho r)) w fun v w' => tyR P o.type v fun v => K none v w'
  | .call { callee := .builtin b, args, argTypes } => rRun P (bSem b argTypes o.type (args.toList.map (rho r)).toArray) w fun v w' => tyR P o.type v fun v => K none v w'
  | .mapUpdate .. => rRun P (opUnit (rho r) o) w fun _ w' => K none undef w'
  | .insert .. => rRun P (opUnit (rho r) o) w fun _ w' => K none undef w'
  | .entryStore .. => rRun P (opUnit (rho r) o) w fun _ w' => K none undef w'
  | .fieldAddr t x f => (match rho r x, fieldOff P t f with
    | .pointer (some a), some off => K none (.pointer (some (a.add off))) w
    | _, _ => False)
  | .next .. => rRun P (opSem (rho r) o) w fun v w' => K none v w'
  | .entry .. => rRun P (opSem (rho r) o) w fun v w' => K none v w'
  | .range .. => rRun P (opSem (rho r) o) w fun v w' => K none v w'
  | .mapEntry .. => rRun P (opSem (rho r) o) w fun v w' => K none v w'
  | .alloc _ => rRun P (opSem (rho r) o) w fun v w' => K none v w'
  | .box .. => rRun P (opSem (rho r) o) w fun v w' => K none v w'
  | _ => rRun P (opSem (rho r) o) w fun v w' => tyR P o.type v fun v => K none v w'

def setDst (n : Nat) (dst : Option Tmp) (info : Option Bool) (v : Value) (kn : Kn) (r : Regs) (K : Kn → Regs → Prop) : Prop :=
  match dst with
  | none => K kn r
  | some d => onlyIf (Nat.blt d n) (K (match info with | some b => (d, b) :: knDel kn d | none => knDel kn d) (upd r d v))

def gslot (ops : Array Oper) (j : Nat) : Option Tmp := (ops[j]?).bind (·.dst)
def rGuard (n : Nat) (ops : Array Oper) (g : Option (Nat × Bool)) (kn : Kn) (r : Regs) (yes no : Kn → Regs → Prop) : Prop :=
  match g with
  | none => yes kn r
  | some (j, want) => match gslot ops j with
    | none => no kn r
    | some s => onlyIf (Nat.blt s n) (match knGet kn s with
      | some b => onlyIf (match r s with | .bool _ => true | _ => false) (match decide (b = want) with | true => yes kn r | false => no kn r)
      | none => match r s with
        | .bool b => Br b (match want with | true => yes ((s, true) :: kn) (upd r s (.bool true)) | false => no ((s, true) :: kn) (upd r s (.bool true)))
            (match want with | true => no ((s, false) :: kn) (upd r s (.bool false)) | false => yes ((s, false) :: kn) (upd r s (.bool false)))
        | .tuple _ => no kn r
        | _ => False)

def rOps (P : Program) (n : Nat) (ops : Array Oper) : List Oper → Kn → Regs → World → (Kn → Regs → World → Prop) → Prop
  | [], kn, r, w, K => K kn r w
  | o :: rest, kn, r, w, K => rGuard n ops o.guard kn r
      (fun kn r => rOp P o kn r w fun info v w' => setDst n o.dst info v kn r fun kn r => rOps P n ops rest kn r w' K)
      (fun kn r => setDst n o.dst none undef kn r fun kn r => rOps P n ops rest kn r w K)

end Go.Sh
