/- A shallow reading of the operations of one Go function, register by register: what it asks of the world, and that it is sound for the walk's own rules. -/
import Derived.WalkKit
namespace Go.Sh

abbrev Regs := Nat → Value
abbrev Kn := List (Nat × Bool)

/-- One register turned. -/
def upd (r : Regs) (i : Nat) (v : Value) : Regs := fun j => match Nat.beq j i with | true => v | false => r j
def regs0 (l : List Value) : Regs := fun i => l.getD i undef
def rho (r : Regs) : Operand → Value
  | .tmp t => r t
  | .const v => v
  | .global g => .pointer (some ⟨g, 0, none⟩)
  | .func f => .func (.func f) #[] #[]

def onlyIf (b : Bool) (p : Prop) : Prop := match b with | true => p | false => False

/- Words of the shallow text. -/
def Br (c : Bool) (a b : Prop) : Prop := (c = true → a) ∧ (c = false → b)
def NN (p : Option Addr) (K : Addr → Prop) : Prop := match p with | some a => K a | none => False
def IX (base : Option Addr) (len : Nat) (i : Int) (sz : Nat) (K : Addr → Prop) : Prop := ∃ a, base = some a ∧ 0 ≤ i ∧ i < (len : Int) ∧ K (a.add (i.toNat * sz))
def SIX (s : ByteArray) (i : Int) (K : UInt8 → Prop) : Prop := ∃ c, 0 ≤ i ∧ s[i.toNat]? = some c ∧ K c
def Req (c : Prop) (K : Prop) : Prop := c ∧ K
def mInt (k : IntKind) (v : Value) (K : Int → Prop) : Prop := match v with | .int k' n => (match decide (k' = k) with | true => K n | false => False) | _ => False
def mBool (v : Value) (K : Bool → Prop) : Prop := match v with | .bool b => K b | _ => False
def mStr (v : Value) (K : ByteArray → Prop) : Prop := match v with | .string s => K s | _ => False
def mPtr (v : Value) (K : Option Addr → Prop) : Prop := match v with | .pointer p => K p | _ => False
def mSlice (v : Value) (K : Option Addr → Nat → Nat → Prop) : Prop := match v with | .slice a l c => K a l c | _ => False
def mMap (v : Value) (K : Option Nat → Prop) : Prop := match v with | .map m => K m | _ => False
def mAgg (v : Value) (K : List Value → Prop) : Prop := match v with | .agg cs => K cs.toList | _ => False
def mTup (v : Value) (K : List Value → Prop) : Prop := match v with | .tuple cs => K cs.toList | _ => False
def mCons (l : List Value) (K : Value → List Value → Prop) : Prop := match l with | x :: t => K x t | [] => False
def mNil (l : List Value) (K : Prop) : Prop := match l with | [] => K | _ :: _ => False

def rRun {α : Type} (P : Program) (s : Sem α) (w : World) (K : α → World → Prop) : Prop :=
  match s.run P w with | .ok v w' => K v w' | .halt _ _ => False

def CallR (P : Program) (f : FuncId) (args : Array Value) (w : World) (K : Value → World → Prop) : Prop :=
  Calls P f args w fun e w' => match e with | .returned v => K v w' | _ => False

/-- A function's value is called. -/
def callable (P : Program) (f : FuncId) : Bool := match P.funcs[f]? with | some fn => !(fn.name == "runtime.NumGoroutine") && fn.body.isSome | none => false
def CallV (P : Program) (f : Value) (args : List Value) (w : World) (K : Value → World → Prop) : Prop :=
  match f with
  | .func (.func g) first captured => onlyIf (callable P g) (CallR P g (first.toList ++ args ++ captured.toList).toArray w K)
  | _ => False
def CallI (P : Program) (recv : Value) (name : String) (args : List Value) (w : World) (K : Value → World → Prop) : Prop :=
  ∃ f v, callable P f = true ∧ recv ≠ .nilIface ∧
    (match recv with | .iface t x => (method (P.types.size + Made.depth) t x name).run P w = .ok (f, v) w | _ => False) ∧ CallR P f (v :: args).toArray w K

/- The cells of a type, each by its kind. -/
inductive CellTy where
  | int (k : IntKind) | bool | str | ptr | slice | map | raw

def cellOf : Option TypeDesc → CellTy
  | some (.int k) => .int k
  | some .bool => .bool
  | some .string => .str
  | some (.pointer _) => .ptr
  | some (.slice _) => .slice
  | some (.map _ _) => .map
  | _ => .raw
def cellsOf (P : Program) : Nat → TypeId → List CellTy
  | 0, _ => []
  | n + 1, t => match P.underlying t with
    | some (.struct fs) => fs.toList.flatMap fun f => cellsOf P n f.type
    | some (.array k e) => (List.replicate k (cellsOf P n e)).flatten
    | d => [cellOf d]
/-- A value of one cell is of its kind. -/
def mCell (c : CellTy) (v : Value) (K : Value → Prop) : Prop :=
  match c with
  | .int k => mInt k v fun n => K (.int k n)
  | .bool => mBool v fun b => K (.bool b)
  | .str => mStr v fun s => K (.string s)
  | .ptr => mPtr v fun p => K (.pointer p)
  | .slice => mSlice v fun a l c => K (.slice a l c)
  | .map => mMap v fun m => K (.map m)
  | .raw => K v
def mCells : List CellTy → List Value → (List Value → Prop) → Prop
  | [], l, K => mNil l (K [])
  | c :: cs, l, K => mCons l fun x t => mCell c x fun y => mCells cs t fun ys => K (y :: ys)
/-- Whether a type is a struct or a small array. -/
def aggOf (P : Program) (t : TypeId) : Bool := match P.underlying t with | some (.struct _) => true | some (.array k _) => Nat.ble k 4 | _ => false
def isRawArr (P : Program) (t : TypeId) : Bool := match P.underlying t with | some (.array k _) => !(Nat.ble k 4) | _ => false
def tyV (P : Program) (t : TypeId) (v : Value) (K : Value → Prop) : Prop :=
  match P.underlying t with
  | some (.tuple _) => K v
  | d => match aggOf P t with
    | true => mAgg v fun cs => mCells (cellsOf P 8 t) cs fun ys => K (.agg ys.toArray)
    | false => mCell (cellOf d) v K
def mPA (v : Value) (K : Addr → Prop) : Prop := match v with | .pointer p => NN p K | _ => False

/- Loads and stores. -/
def LD (w : World) (a : Addr) (K : Value → Prop) : Prop := ∃ v, w.cell? a = some v ∧ K v
def LDI (k : IntKind) (w : World) (a : Addr) (K : Int → Prop) : Prop := ∃ n, w.cell? a = some (.int k n) ∧ K n
def LDB (w : World) (a : Addr) (K : Bool → Prop) : Prop := ∃ n, w.cell? a = some (.bool n) ∧ K n
def LDS (w : World) (a : Addr) (K : ByteArray → Prop) : Prop := ∃ n, w.cell? a = some (.string n) ∧ K n
def LDP (w : World) (a : Addr) (K : Option Addr → Prop) : Prop := ∃ n, w.cell? a = some (.pointer n) ∧ K n
def LDSl (w : World) (a : Addr) (K : Option Addr → Nat → Nat → Prop) : Prop := ∃ b l c, w.cell? a = some (.slice b l c) ∧ K b l c
def LDM (w : World) (a : Addr) (K : Option Nat → Prop) : Prop := ∃ n, w.cell? a = some (.map n) ∧ K n
def ldCell (c : CellTy) (w : World) (a : Addr) (K : Value → Prop) : Prop :=
  match c with
  | .int k => LDI k w a fun n => K (.int k n)
  | .bool => LDB w a fun b => K (.bool b)
  | .str => LDS w a fun s => K (.string s)
  | .ptr => LDP w a fun p => K (.pointer p)
  | .slice => LDSl w a fun a l c => K (.slice a l c)
  | .map => LDM w a fun m => K (.map m)
  | .raw => LD w a K
def ldCells (w : World) (a : Addr) : List CellTy → Nat → (List Value → Prop) → Prop
  | [], _, K => K []
  | c :: cs, i, K => ldCell c w (a.add i) fun x => ldCells w a cs (i + 1) fun xs => K (x :: xs)
def ldVar (P : Program) (t : TypeId) (a : Addr) (w : World) (K : Value → Prop) : Prop :=
  match isRawArr P t with
  | true => rRun P (Instr.loadAt t (.pointer (some a))) w fun v w' => w' = w ∧ K v
  | false => match aggOf P t with
    | true => (match (P.info? t).map (·.size) with
      | some n => onlyIf (Nat.beq (cellsOf P 8 t).length n) (ldCells w a (cellsOf P 8 t) 0 fun xs => K (.agg xs.toArray))
      | none => False)
    | false => (match P.underlying t with
      | some d => ldCell (cellOf (some d)) w a K
      | none => False)
def ST (w : World) (a : Addr) (v : Value) (K : World → Prop) : Prop := (∃ o, w.cell? a = some o) ∧ w.frozen? a = false ∧ K (w.setCell a v)
def stCells (w : World) (a : Addr) : List Value → Nat → (World → Prop) → Prop
  | [], _, K => K w
  | v :: vs, i, K => onlyIf v.oneCell' (ST w (a.add i) v fun w' => stCells w' a vs (i + 1) K)
def stVar (P : Program) (t : TypeId) (a : Addr) (v : Value) (w : World) (K : World → Prop) : Prop :=
  match (P.info? t).map (·.size), v.cells.toList with
  | some n, l => onlyIf (Nat.beq l.length n) (stCells w a l 0 K)
  | none, _ => False

end Go.Sh
