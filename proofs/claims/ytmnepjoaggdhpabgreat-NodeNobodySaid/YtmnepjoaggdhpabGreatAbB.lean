/-
  THE ABSTRACT MACHINE's VALUES, MEMORY AND OPERATIONS.
-/
import Derived.Test.YtmnepjoaggdhpabGreatAbA
set_option linter.unusedVariables false
namespace Go.Ab

abbrev Id := Nat

/-- Values. raw: a plain value, as it stands. ptr: a cell of a block. sl: a slice of a block: where it begins, its length, how much room there is at least (just so much, if ex), an element's size. any: whatever one cell may hold. sl0: a slice that is not nil, empty, without room (if ex). -/
inductive AV where
  | raw (v : Value)
  | ptr (i : Id) (off : Nat)
  | sl (i : Id) (off len lo : Nat) (ex : Bool) (es : Nat)
  | sl0 (ex : Bool)
  | map (i : Id)
  | fn (f : Fn) (first captured : List AV)
  | iface (t : TypeId) (v : AV)
  | agg (cells : List AV)
  | tup (vs : List AV)
  | any
  deriving Inhabited

/-- What is known of a block: nothing; that a string may share it; that it is a variable of a type; that it is a row of a type, from its head on. -/
inductive Kd where
  | any
  | str
  | var (t : TypeId)
  | row (t : TypeId)
  deriving Inhabited

/-- What is known of a block that goes on from a place of it, or in a new row of e. -/
def Kd.grow (off : Nat) (e : TypeId) : Kd → Kd
  | .str => .str
  | .row t => match Nat.beq off 0, Nat.beq t e with
    | true, true => .row e
    | _, _ => .any
  | _ => .any

inductive AObj where
  | cells (n : Nat) (st : Kd) (t : Tr AV)
  | map (es : List (AV × AV × Nat)) (clock : Nat)
  | miter (m : Option Id)
  deriving Inhabited

structure Hp where
  h : Tr AObj
  next : Nat

/-- What is known of a type. -/
structure TyI where
  und : TypeDesc
  agg : Bool
  size : Nat
  bytes : Nat
  zero : Option (List AV)
  plain : Bool

/-- A program, and what the machine looks up of it. -/
structure Tab where
  P : Program
  fns : Tr Func
  tys : Tr TyI
  /-- functions of the outside that answer what they are given -/
  ext : FuncId → Bool := fun _ => false

def undefA : AV := .tup []

/-! ### Forcing -/

noncomputable def forceN {β : Type} (n : Nat) (k : Nat → β) : β := Nat.rec (motive := fun _ => β) (k 0) (fun m _ => k (Nat.succ m)) n
noncomputable def forceB {β : Type} (b : Bool) (k : Bool → β) : β := Bool.rec (motive := fun _ => β) (k false) (k true) b
noncomputable def forceI {β : Type} (n : Int) (k : Int → β) : β :=
  Int.rec (motive := fun _ => β) (fun m => forceN m fun m => k (.ofNat m)) (fun m => forceN m fun m => k (.negSucc m)) n

theorem forceN_eq {β : Type} (n : Nat) (k : Nat → β) : forceN n k = k n := by cases n <;> rfl
theorem forceB_eq {β : Type} (b : Bool) (k : Bool → β) : forceB b k = k b := by cases b <;> rfl
theorem forceI_eq {β : Type} (n : Int) (k : Int → β) : forceI n k = k n := by
  cases n with
  | ofNat m => exact forceN_eq m (fun m => k (.ofNat m))
  | negSucc m => exact forceN_eq m (fun m => k (.negSucc m))

/-! ### Operands -/

def leaf : Value → Option AV
  | .bool b => some (.raw (.bool b))
  | .int k n => some (.raw (.int k n))
  | .float k n => some (.raw (.float k n))
  | .complex k a b => some (.raw (.complex k a b))
  | .string s => some (.raw (.string s))
  | .pointer none => some (.raw (.pointer none))
  | .map none => some (.raw (.map none))
  | .nilFunc => some (.raw .nilFunc)
  | .nilIface => some (.raw .nilIface)
  | .slice none 0 0 => some (.raw (.slice none 0 0))
  | _ => none

def leaves : List Value → Option (List AV)
  | [] => some []
  | v :: vs =>
    match leaf v with
    | some a => match leaves vs with
      | some as => some (a :: as)
      | none => none
    | none => none

def ofConst : Value → Option AV
  | .agg cs => match leaves cs.toList with
    | some l => some (.agg l)
    | none => none
  | v => leaf v

def AV.cells : AV → List AV
  | .agg cs => cs
  | v => [v]

noncomputable def eval : Operand → Tr AV → Option AV
  | .tmp t => fun env => env.get t
  | .const v => fun _ => ofConst v
  | .func f => fun _ => some (.fn (.func f) [] [])
  | .global _ => fun _ => none

noncomputable def consO (x : Option AV) (k : Option (List AV)) : Option (List AV) :=
  match x with
  | some a => match k with
    | some l => some (a :: l)
    | none => none
  | none => none

noncomputable def evals (l : List Operand) (env : Tr AV) : Option (List AV) :=
  List.rec (motive := fun _ => Option (List AV)) (some []) (fun x _ ih => consO (eval x env) ih) l

noncomputable def evalParts : List (Nat × Operand) → Tr AV → Option (List (Nat × AV))
  | [], _ => some []
  | (i, x) :: xs, env =>
    match eval x env with
    | some (.tup _) => none
    | some a => match evalParts xs env with
      | some as => some ((i, a) :: as)
      | none => none
    | none => none

/-! ### Cells -/

noncomputable def readCells (t : Tr AV) (n : Nat) : Nat → Option (List AV) :=
  Nat.rec (motive := fun _ => Nat → Option (List AV)) (fun _ => some []) (fun _ ih off => consO (t.get off) (ih (Nat.succ off))) n

noncomputable def writeCells {β : Type} (l : List AV) : Tr AV → Nat → (Tr AV → β) → β :=
  List.rec (motive := fun _ => Tr AV → Nat → (Tr AV → β) → β) (fun t _ k => k t) (fun v _ ih t off k => t.set off v fun t => forceN (Nat.succ off) fun off => ih t off k) l

noncomputable def ofList {β : Type} (l : List AV) (k : Tr AV → β) : β := writeCells l .nil 0 k
noncomputable def lenK {α β : Type} (l : List α) (k : Nat → β) : β := forceN l.length k

inductive ARes where
  | val (v : AV) (hp : Hp)
  | call (f : FuncId) (args : List AV)

noncomputable def newObj {β : Type} (hp : Hp) (o : AObj) (k : Id → Hp → β) : β :=
  hp.h.set hp.next o fun h => forceN (Nat.succ hp.next) fun nx => k hp.next ⟨h, nx⟩

noncomputable def newCellsK {β : Type} (kd : Kd) (hp : Hp) (l : List AV) (k : Id → Hp → β) : β :=
  ofList l fun t => lenK l fun n => newObj hp (.cells n kd t) k

noncomputable def putObj {β : Type} (hp : Hp) (i : Id) (o : AObj) (k : Hp → β) : β :=
  hp.h.set i o fun h => k ⟨h, hp.next⟩

def rep {α : Type} (l : List α) : Nat → List α
  | 0 => []
  | n + 1 => l ++ rep l n

def overwrite (cells : List AV) (off : Nat) (vs : List AV) : List AV :=
  cells.take off ++ vs ++ cells.drop (off + vs.length)

def fillA (place : Nat → Option (Nat × Nat)) : List AV → List (Nat × AV) → Option (List AV)
  | cells, [] => some cells
  | cells, (i, v) :: rest =>
    match place i with
    | none => none
    | some (off, size) =>
      match Nat.beq v.cells.length size, Nat.ble (off + size) cells.length with
      | true, true => fillA place (overwrite cells off v.cells) rest
      | _, _ => none

/-! ### Integers, strings -/

def blt (a b : Nat) : Bool := Nat.ble (Nat.succ a) b

def intEq : Int → Int → Bool
  | .ofNat a, .ofNat b => Nat.beq a b
  | .negSucc a, .negSucc b => Nat.beq a b
  | _, _ => false

def intLt : Int → Int → Bool
  | .ofNat a, .ofNat b => blt a b
  | .negSucc a, .negSucc b => blt b a
  | .negSucc _, .ofNat _ => true
  | .ofNat _, .negSucc _ => false

def wrapF (k : IntKind) (n : Int) : Int :=
  match k, n with
  | .i64, .ofNat m => match blt m 9223372036854775808 with
    | true => .ofNat m
    | false => IntKind.wrap .i64 (.ofNat m)
  | k, n => IntKind.wrap k n

def kindEq (a b : IntKind) : Bool := Nat.beq a.ctorIdx b.ctorIdx

noncomputable def retI {β : Type} (k : IntKind) (n : Int) (ret : Value → β) : β := forceI n fun n => ret (.int k n)
noncomputable def retB {β : Type} (b : Bool) (ret : Value → β) : β := forceB b fun b => ret (.bool b)

/-- A binary operation of two integers. -/
noncomputable def intBin {β : Type} (bad : β) : BinOp → IntKind → Int → IntKind → Int → (Value → β) → β
  | .add => fun k a k' b ret => Bool.rec (motive := fun _ => β) bad (retI k (wrapF k (Int.add a b)) ret) (kindEq k k')
  | .sub => fun k a k' b ret => Bool.rec (motive := fun _ => β) bad (retI k (wrapF k (Int.sub a b)) ret) (kindEq k k')
  | .mul => fun k a k' b ret => Bool.rec (motive := fun _ => β) bad (retI k (wrapF k (Int.mul a b)) ret) (kindEq k k')
  | .quo => fun k a k' b ret => Bool.rec (motive := fun _ => β) bad (Bool.rec (motive := fun _ => β) (retI k (wrapF k (Int.tdiv a b)) ret) bad (intEq b 0)) (kindEq k k')
  | .rem => fun k a k' b ret => Bool.rec (motive := fun _ => β) bad (Bool.rec (motive := fun _ => β) (retI k (Int.tmod a b) ret) bad (intEq b 0)) (kindEq k k')
  | .eql => fun k a k' b ret => Bool.rec (motive := fun _ => β) bad (retB (intEq a b) ret) (kindEq k k')
  | .neq => fun k a k' b ret => Bool.rec (motive := fun _ => β) bad (retB (!intEq a b) ret) (kindEq k k')
  | .lss => fun k a k' b ret => Bool.rec (motive := fun _ => β) bad (retB (intLt a b) ret) (kindEq k k')
  | .leq => fun k a k' b ret => Bool.rec (motive := fun _ => β) bad (retB (!intLt b a) ret) (kindEq k k')
  | .gtr => fun k a k' b ret => Bool.rec (motive := fun _ => β) bad (retB (intLt b a) ret) (kindEq k k')
  | .geq => fun k a k' b ret => Bool.rec (motive := fun _ => β) bad (retB (!intLt a b) ret) (kindEq k k')
  | _ => fun _ _ _ _ _ => bad

def u8Eq : List UInt8 → List UInt8 → Bool
  | [], [] => true
  | a :: as, b :: bs => match Nat.beq a.toNat b.toNat with
    | true => u8Eq as bs
    | false => false
  | _, _ => false

def strEq (a b : ByteArray) : Bool := u8Eq a.data.toList b.data.toList

noncomputable def strBin {β : Type} (bad : β) : BinOp → ByteArray → ByteArray → (Value → β) → β
  | .eql => fun a b ret => retB (strEq a b) ret
  | .neq => fun a b ret => retB (!strEq a b) ret
  | .add => fun a b ret => match blt (a.data.toList.length + b.data.toList.length) 1048576 with
    | true => ret (.string ⟨(a.data.toList ++ b.data.toList).toArray⟩)
    | false => bad
  | _ => fun _ _ _ => bad

/-- Are two plain values of one kind the same? -/
def scalEq : Value → Value → Option Bool
  | .int k a, .int k' b => match kindEq k k' with
    | true => some (intEq a b)
    | false => none
  | .string a, .string b => some (strEq a b)
  | .bool a, .bool b => some (a == b)
  | _, _ => none

/-- Are two integers of one kind the same? -/
def intsEq : Value → Value → Option Bool
  | .int k a, .int k' b => match kindEq k k' with
    | true => some (intEq a b)
    | false => none
  | _, _ => none

def keysEq : List AV → List AV → Option Bool
  | [], [] => some true
  | .raw a :: as, .raw b :: bs =>
    match intsEq a b with
    | some true => keysEq as bs
    | some false => match keysEq as bs with
      | some _ => some false
      | none => none
    | none => none
  | _, _ => none

/-- A block of cells that no string shares. -/
noncomputable def plainBlock (hp : Hp) (i : Id) : Bool :=
  match hp.h.get i with
  | some (.cells _ .str _) => false
  | some (.cells _ _ _) => true
  | _ => false

/-- Nil, or the same reference. -/
noncomputable def refEq (hp : Hp) (T : Tab) : TypeDesc → AV → AV → Option Bool
  | .pointer _, .raw (.pointer none), .raw (.pointer none) => some true
  | .pointer _, .raw (.pointer none), .ptr _ _ => some false
  | .pointer _, .ptr _ _, .raw (.pointer none) => some false
  | .pointer e, .ptr i a, .ptr j b => match plainBlock hp i, plainBlock hp j, T.tys.get e with
    | true, true, some ti => match Nat.beq ti.size 0 with
      | true => none
      | false => some (Nat.beq i j && Nat.beq a b)
    | _, _, _ => none
  | .slice _, .raw (.slice none 0 0), .raw (.slice none 0 0) => some true
  | .slice _, .sl .., .raw (.slice none 0 0) => some false
  | .slice _, .sl0 _, .raw (.slice none 0 0) => some false
  | .func .., .raw .nilFunc, .fn _ _ _ => some false
  | .func .., .fn _ _ _, .raw .nilFunc => some false
  | .func .., .raw .nilFunc, .raw .nilFunc => some true
  | .map .., .raw (.map none), .map _ => some false
  | .map .., .map _, .raw (.map none) => some false
  | .map .., .raw (.map none), .raw (.map none) => some true
  | _, _, _ => none

noncomputable def opBin (op : BinOp) (t : TypeId) (x y : Operand) (T : Tab) (env : Tr AV) (hp : Hp) : Option ARes :=
  match eval x env, eval y env with
  | some (.raw (.int k a)), some (.raw (.int k' b)) => intBin none op k a k' b fun v => some (.val (.raw v) hp)
  | some (.raw (.string a)), some (.raw (.string b)) => strBin none op a b fun v => some (.val (.raw v) hp)
  | some (.raw (.bool a)), some (.raw (.bool b)) => match T.tys.get t with
    | some ti => match ti.und, op with
      | .bool, .eql => retB (a == b) fun v => some (.val (.raw v) hp)
      | .bool, .neq => retB (!(a == b)) fun v => some (.val (.raw v) hp)
      | _, _ => none
    | none => none
  | some (.raw (.complex k a b)), some (.raw (.complex k' c d)) => match op with
    | .eql => match k, k' with
      | .f64, .f64 => retB ((FloatKind.f64.format.order a c == some .eq) && (FloatKind.f64.format.order b d == some .eq)) fun v => some (.val (.raw v) hp)
      | _, _ => none
    | .neq => match k, k' with
      | .f64, .f64 => retB (!((FloatKind.f64.format.order a c == some .eq) && (FloatKind.f64.format.order b d == some .eq))) fun v => some (.val (.raw v) hp)
      | _, _ => none
    | _ => none
  | some (.agg as), some (.agg bs) => match T.tys.get t with
    | some ti => match ti.plain && Nat.beq as.length ti.size, keysEq as bs, op with
      | true, some r, .eql => retB r fun v => some (.val (.raw v) hp)
      | true, some r, .neq => retB (!r) fun v => some (.val (.raw v) hp)
      | _, _, _ => none
    | none => none
  | some a, some b => match T.tys.get t with
    | some ti => match refEq hp T ti.und a b, op with
      | some r, .eql => retB r fun v => some (.val (.raw v) hp)
      | some r, .neq => retB (!r) fun v => some (.val (.raw v) hp)
      | _, _ => none
    | none => none
  | _, _ => none

end Go.Ab
