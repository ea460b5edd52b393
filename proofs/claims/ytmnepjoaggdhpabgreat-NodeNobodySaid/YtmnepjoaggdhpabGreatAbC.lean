/-
  THE ABSTRACT MACHINE's OPERATIONS (the rest), REGIONS AND RUNS.
-/
import Derived.Test.YtmnepjoaggdhpabGreatAbB
set_option linter.unusedVariables false
namespace Go.Ab

def natOf : Int → Option Nat
  | .ofNat m => some m
  | .negSucc _ => none

/-- n, if 0 ≤ n ≤ y. -/
def within (n : Int) (y : Nat) : Option Nat :=
  match n with
  | .ofNat m => match Nat.ble m y with
    | true => some m
    | false => none
  | .negSucc _ => none

noncomputable def val1 (hp : Hp) (v : AV) : Option ARes := some (.val v hp)

noncomputable def opMove (x : Operand) (T : Tab) (env : Tr AV) (hp : Hp) : Option ARes :=
  match eval x env with
  | some v => some (.val v hp)
  | none => none

noncomputable def opPick (c a b : Operand) (T : Tab) (env : Tr AV) (hp : Hp) : Option ARes :=
  match eval c env with
  | some (.raw (.bool true)) => opMove a T env hp
  | some (.raw (.bool false)) => opMove b T env hp
  | _ => none

noncomputable def opAlloc (t : TypeId) (T : Tab) (env : Tr AV) (hp : Hp) : Option ARes :=
  match T.tys.get t with
  | some ti => match ti.zero with
    | some z => newCellsK (.var t) hp z fun i hp => some (.val (.ptr i 0) hp)
    | none => none
  | none => none

noncomputable def opBox (t : TypeId) (x : Operand) (T : Tab) (env : Tr AV) (hp : Hp) : Option ARes :=
  match eval x env with
  | some (.tup _) => none
  | some v => newCellsK .any hp v.cells fun i hp => some (.val (.ptr i 0) hp)
  | none => none

noncomputable def placeOf (T : Tab) (fields : Array Field) (i : Nat) : Option (Nat × Nat) :=
  match fields.toList[i]? with
  | some f => match T.tys.get f.type with
    | some ti => some (f.offset, ti.size)
    | none => none
  | none => none

/-- Are all fields' types known? -/
noncomputable def fieldsOk (T : Tab) : List Field → Bool
  | [] => true
  | f :: fs => match T.tys.get f.type with
    | some _ => fieldsOk T fs
    | none => false

def placeAt (size : Nat) (i : Nat) : Option (Nat × Nat) := some (i * size, size)

noncomputable def opBuild (t : TypeId) (parts : Array (Nat × Operand)) (T : Tab) (env : Tr AV) (hp : Hp) : Option ARes :=
  match T.tys.get t with
  | none => none
  | some ti => match ti.zero with
    | none => none
    | some z => match evalParts parts.toList env with
      | none => none
      | some ps => match ti.und with
        | .struct fields => match fieldsOk T fields.toList, fillA (placeOf T fields) z ps with
          | true, some cs => some (.val (.agg cs) hp)
          | _, _ => none
        | .array _ e => match T.tys.get e with
          | some te => match fillA (placeAt te.size) z ps with
            | some cs => some (.val (.agg cs) hp)
            | none => none
          | none => none
        | _ => none

def mkSl (i : Id) (off len lo : Nat) (ex : Bool) (es : Nat) : AV :=
  match lo with
  | 0 => .sl0 ex
  | lo + 1 => .sl i off len (lo + 1) ex es

noncomputable def opBuildSlice (t : TypeId) (n : Nat) (parts : Array (Nat × Operand)) (T : Tab) (env : Tr AV) (hp : Hp) : Option ARes :=
  match T.tys.get t with
  | none => none
  | some ti => match ti.und with
    | .slice e => match T.tys.get e with
      | none => none
      | some te => match te.zero, Nat.ble (n * te.size) 16777216 with
        | some z, true => match Nat.beq z.length te.size, Nat.beq te.size 0, evalParts parts.toList env with
          | true, false, some ps => match fillA (placeAt te.size) (rep z n) ps with
            | some cs => newCellsK .any hp cs fun i hp => some (.val (mkSl i 0 n n true te.size) hp)
            | none => none
          | _, _, _ => none
        | _, _ => none
    | _ => none

noncomputable def opLoad (t : TypeId) (x : Operand) (T : Tab) (env : Tr AV) (hp : Hp) : Option ARes :=
  match eval x env with
  | some (.ptr i off) => match hp.h.get i with
    | some (.cells _ _ tr) => match T.tys.get t with
      | some ti => match ti.agg with
        | false => match tr.get off with
          | some v => some (.val v hp)
          | none => none
        | true => match readCells tr ti.size off with
          | some l => some (.val (.agg l) hp)
          | none => none
      | none => none
    | _ => none
  | _ => none

noncomputable def opStore (t : TypeId) (x y : Operand) (T : Tab) (env : Tr AV) (hp : Hp) : Option ARes :=
  match eval x env with
  | some (.ptr i off) => match eval y env with
    | some (.tup _) => none
    | some v => match hp.h.get i with
      | some (.cells n st tr) => match T.tys.get t with
        | some ti => lenK v.cells fun m => match Nat.beq ti.size m, Nat.ble (off + m) n with
          | true, true => writeCells v.cells tr off fun tr => putObj hp i (.cells n st tr) fun hp => some (.val undefA hp)
          | _, _ => none
        | none => none
      | _ => none
    | none => none
  | _ => none

noncomputable def opNilCheck (x : Operand) (T : Tab) (env : Tr AV) (hp : Hp) : Option ARes :=
  match eval x env with
  | some (.ptr i off) => some (.val (.ptr i off) hp)
  | some (.fn (.func f) a b) => some (.val (.fn (.func f) a b) hp)
  | _ => none

noncomputable def opUn (op : UnOp) (x : Operand) (T : Tab) (env : Tr AV) (hp : Hp) : Option ARes :=
  match eval x env with
  | some (.raw (.bool b)) => match op with
    | .not => retB (!b) fun v => some (.val (.raw v) hp)
    | _ => none
  | some (.raw (.int k n)) => match op with
    | .neg => retI k (wrapF k (Int.sub 0 n)) fun v => some (.val (.raw v) hp)
    | _ => none
  | _ => none

def bytesOf : List AV → Option (List UInt8)
  | [] => some []
  | .raw (.int .u8 (.ofNat n)) :: l => match blt n 256 with
    | true => match bytesOf l with
      | some bs => some (UInt8.ofNat n :: bs)
      | none => none
    | false => none
  | _ :: _ => none

/-- A pointer, to unsafe.Pointer and back. -/
noncomputable def convPtr (T : Tab) (s d : TypeDesc) (i : Id) (off : Nat) (hp : Hp) : Option ARes :=
  match hp.h.get i with
  | some (.cells n kd _) => match s, d with
    | .pointer e, .unsafePointer => match T.tys.get e, blt off n with
      | some te, true => match Nat.beq te.size 0 with
        | false => some (.val (.ptr i off) hp)
        | true => none
      | _, _ => none
    | .unsafePointer, .pointer u => match kd, off with
      | .var t, 0 => match Nat.beq t u, T.tys.get u with
        | true, some tu => match Nat.beq tu.size 0, Nat.beq tu.size n with
          | false, true => some (.val (.ptr i 0) hp)
          | _, _ => none
        | _, _ => none
      | _, _ => none
    | _, _ => none
  | _ => none

noncomputable def opConvert (s d : TypeId) (x : Operand) (T : Tab) (env : Tr AV) (hp : Hp) : Option ARes :=
  match T.tys.get s, T.tys.get d with
  | some ts, some td => match eval x env with
    | some (.raw (.int k n)) => match td.und with
      | .int k' => retI k' (wrapF k' n) fun v => some (.val (.raw v) hp)
      | .float k' => some (.val (.raw (.float k' (k'.nearest n))) hp)
      | _ => none
    | some (.ptr i off) => convPtr T ts.und td.und i off hp
    | _ => none
  | _, _ => none

noncomputable def opMakeFunc (fn : Fn) (first captured : Array Operand) (T : Tab) (env : Tr AV) (hp : Hp) : Option ARes :=
  match evals first.toList env, evals captured.toList env with
  | some a, some b => some (.val (.fn fn a b) hp)
  | _, _ => none

noncomputable def opMakeMap (t : TypeId) (r : Option Operand) (T : Tab) (env : Tr AV) (hp : Hp) : Option ARes :=
  match r with
  | none => newObj hp (.map [] 0) fun i hp => some (.val (.map i) hp)
  | some _ => none

def most : Nat := 1099511627776

noncomputable def opMakeSlice (t : TypeId) (l c : Operand) (T : Tab) (env : Tr AV) (hp : Hp) : Option ARes :=
  match eval l env, eval c env, T.tys.get t with
  | some (.raw (.int .i64 l)), some (.raw (.int .i64 c)), some ti => match ti.und with
    | .slice e => match T.tys.get e, natOf l, natOf c with
      | some te, some l, some c => match te.zero, Nat.ble l c, Nat.ble (c * te.bytes) most, Nat.ble c most, Nat.beq te.size 0 with
        | some z, true, true, true, false => match Nat.beq z.length te.size with
          | true => newCellsK .any hp (rep z c) fun i hp => some (.val (mkSl i 0 l c true te.size) hp)
          | false => none
        | _, _, _, _, _ => none
      | _, _, _ => none
    | _ => none
  | _, _, _ => none

noncomputable def optInt (env : Tr AV) (d : Nat) : Option Operand → Option Int
  | none => some (.ofNat d)
  | some x => match eval x env with
    | some (.raw (.int _ n)) => some n
    | _ => none

/-- low ≤ high ≤ max ≤ cap. -/
noncomputable def bounds3 (env : Tr AV) (len cap : Nat) (lo hi mx : Option Operand) : Option (Nat × Nat × Nat) :=
  match optInt env cap mx with
  | none => none
  | some m => match within m cap with
    | none => none
    | some m => match optInt env len hi with
      | none => none
      | some h => match within h m with
        | none => none
        | some h => match optInt env 0 lo with
          | none => none
          | some l => match within l h with
            | none => none
            | some l => some (l, h, m)

noncomputable def opSlice (t : TypeId) (x : Operand) (lo hi mx : Option Operand) (T : Tab) (env : Tr AV) (hp : Hp) : Option ARes :=
  match eval x env, T.tys.get t, (hi.isNone && mx.isSome) with
  | some v, some ti, false => match v, ti.und with
    | .raw (.string s), .string => match mx, bounds3 env s.size s.size lo hi none with
      | none, some (l, h, _) => some (.val (.raw (.string (s.extract l h))) hp)
      | _, _ => none
    | .sl i off len cap ex es, .slice e => match T.tys.get e, bounds3 env len cap lo hi mx with
      | some te, some (l, h, m) => match Nat.beq te.size es with
        | true => forceN (off + l * es) fun off => forceN (h - l) fun len => forceN (m - l) fun c => some (.val (mkSl i off len c (ex || mx.isSome) es) hp)
        | false => none
      | _, _ => none
    | .sl0 ex, .slice e => match T.tys.get e, bounds3 env 0 0 lo hi mx with
      | some _, some _ => some (.val (.sl0 (ex || mx.isSome)) hp)
      | _, _ => none
    | .raw (.slice none 0 0), .slice e => match T.tys.get e, bounds3 env 0 0 lo hi mx with
      | some _, some _ => some (.val (.raw (.slice none 0 0)) hp)
      | _, _ => none
    | _, _ => none
  | _, _, _ => none

noncomputable def opFieldAddr (s : TypeId) (x : Operand) (f : Nat) (T : Tab) (env : Tr AV) (hp : Hp) : Option ARes :=
  match eval x env with
  | some (.ptr i off) => match T.tys.get s with
    | some ti => match ti.und with
      | .struct fields => match placeOf T fields f with
        | some (fo, size) => match Nat.beq size 0 with
          | false => forceN (off + fo) fun o => some (.val (.ptr i o) hp)
          | true => none
        | none => none
      | _ => none
    | none => none
  | _ => none

noncomputable def partA (T : Tab) (t : TypeId) (cs : List AV) (off : Nat) : Option AV :=
  match T.tys.get t with
  | some ti => match ti.agg with
    | true => match Nat.ble (off + ti.size) cs.length with
      | true => some (.agg ((cs.drop off).take ti.size))
      | false => none
    | false => cs[off]?
  | none => none

noncomputable def opField (t : TypeId) (x : Operand) (f : Nat) (T : Tab) (env : Tr AV) (hp : Hp) : Option ARes :=
  match eval x env with
  | some (.agg cs) => match T.tys.get t with
    | some ti => match ti.und with
      | .struct fields => match fields.toList[f]? with
        | some fd => match partA T fd.type cs fd.offset with
          | some v => some (.val v hp)
          | none => none
        | none => none
      | _ => none
    | none => none
  | _ => none

/-- n, if 0 ≤ n < y. -/
def below (n : Int) (y : Nat) : Option Nat :=
  match n with
  | .ofNat m => match blt m y with
    | true => some m
    | false => none
  | .negSucc _ => none

noncomputable def opIndexAddr (t : TypeId) (x ix : Operand) (T : Tab) (env : Tr AV) (hp : Hp) : Option ARes :=
  match eval x env, eval ix env, T.tys.get t with
  | some v, some (.raw (.int _ n)), some ti => match v, ti.und with
    | .ptr i off, .array len e => match T.tys.get e, below n len with
      | some te, some m => forceN (off + m * te.size) fun o => some (.val (.ptr i o) hp)
      | _, _ => none
    | .sl i off len _ _ es, .slice e => match T.tys.get e, below n len with
      | some te, some m => match Nat.beq te.size es with
        | true => forceN (off + m * es) fun o => some (.val (.ptr i o) hp)
        | false => none
      | _, _ => none
    | _, _ => none
  | _, _, _ => none

noncomputable def opIndex (t : TypeId) (x ix : Operand) (T : Tab) (env : Tr AV) (hp : Hp) : Option ARes :=
  match eval x env, eval ix env, T.tys.get t with
  | some v, some (.raw (.int _ n)), some ti => match v, ti.und with
    | .agg cs, .array len e => match T.tys.get e, below n len with
      | some te, some m => match partA T e cs (m * te.size) with
        | some v => some (.val v hp)
        | none => none
      | _, _ => none
    | .raw (.string s), .string => match below n s.data.toList.length with
      | some m => match s.data.toList[m]? with
        | some b => forceN b.toNat fun b => some (.val (.raw (.int .u8 (.ofNat b))) hp)
        | none => none
      | none => none
    | _, _ => none
  | _, _, _ => none

noncomputable def opExtract (x : Operand) (i : Nat) (T : Tab) (env : Tr AV) (hp : Hp) : Option ARes :=
  match eval x env with
  | some (.tup vs) => match vs[i]? with
    | some v => some (.val v hp)
    | none => none
  | _ => none

/-! ### Maps -/

def keyEq : AV → AV → Option Bool
  | .raw a, .raw b => scalEq a b
  | .agg as, .agg bs => keysEq as bs
  | _, _ => none

/-- Where a key stands: its place, its value, when it came. -/
def findA (k : AV) : List (AV × AV × Nat) → Nat → Option (Option (Nat × AV × Nat))
  | [], _ => some none
  | (k', v, b) :: es, i =>
    match keyEq k k' with
    | some true => some (some (i, v, b))
    | some false => findA k es (i + 1)
    | none => none

def setVal : List (AV × AV × Nat) → Nat → AV → List (AV × AV × Nat)
  | [], _, _ => []
  | (k, _, b) :: es, 0, v => (k, v, b) :: es
  | e :: es, i + 1, v => e :: setVal es i v

noncomputable def keyOk (T : Tab) (kt : TypeId) (k : AV) : Bool :=
  match T.tys.get kt with
  | some ti => match ti.und, k with
    | .int _, .raw (.int _ _) => true
    | .string, .raw (.string _) => true
    | .struct _, .agg as => match keysEq as as with
      | some _ => ti.plain && Nat.beq as.length ti.size
      | none => false
    | _, _ => false
  | none => false

noncomputable def zeroA (T : Tab) (t : TypeId) : Option AV :=
  match T.tys.get t with
  | some ti => match ti.agg, ti.zero with
    | true, some z => some (.agg z)
    | false, some [v] => some v
    | _, _ => none
  | none => none

noncomputable def opLookup (t : TypeId) (x ix : Operand) (ok : Bool) (T : Tab) (env : Tr AV) (hp : Hp) : Option ARes :=
  match eval x env, eval ix env, T.tys.get t with
  | some (.map i), some k, some ti => match ti.und with
    | .map kt et => match keyOk T kt k, hp.h.get i with
      | true, some (.map es _) => match findA k es 0 with
        | some (some (_, v, _)) => match ok with
          | true => some (.val (.tup [v, .raw (.bool true)]) hp)
          | false => some (.val v hp)
        | some none => match zeroA T et, ok with
          | some z, true => some (.val (.tup [z, .raw (.bool false)]) hp)
          | some z, false => some (.val z hp)
          | none, _ => none
        | none => none
      | _, _ => none
    | _ => none
  | _, _, _ => none

noncomputable def opMapUpdate (t : TypeId) (x k v : Operand) (T : Tab) (env : Tr AV) (hp : Hp) : Option ARes :=
  match eval x env, eval k env, eval v env, T.tys.get t with
  | some (.map i), some k, some v, some ti => match ti.und with
    | .map kt _ => match keyOk T kt k, hp.h.get i with
      | true, some (.map es clock) => match findA k es 0 with
        | some (some (j, _)) => putObj hp i (.map (setVal es j v) clock) fun hp => some (.val undefA hp)
        | some none => forceN (Nat.succ clock) fun c => putObj hp i (.map (es ++ [(k, v, clock)]) c) fun hp => some (.val undefA hp)
        | none => none
      | _, _ => none
    | _ => none
  | _, _, _, _ => none

noncomputable def opMapEntry (t : TypeId) (x k : Operand) (T : Tab) (env : Tr AV) (hp : Hp) : Option ARes :=
  match eval x env, eval k env, T.tys.get t with
  | some (.map i), some k, some ti => match ti.und with
    | .map kt et => match keyOk T kt k, hp.h.get i with
      | true, some (.map es clock) => match findA k es 0 with
        | some (some (_, v, b)) => some (.val (.tup [v, .raw (.int .i64 (.ofNat b))]) hp)
        | some none => match zeroA T et with
          | some z => forceN (Nat.succ clock) fun c => putObj hp i (.map (es ++ [(k, z, clock)]) c) fun hp => some (.val (.tup [z, .raw (.int .i64 (.ofNat clock))]) hp)
          | none => none
        | none => none
      | _, _ => none
    | _ => none
  | _, _, _ => none

def bornAt (b : Nat) : List (AV × AV × Nat) → Nat → Option Nat
  | [], _ => none
  | (_, _, c) :: es, i => match Nat.beq c b with
    | true => some i
    | false => bornAt b es (i + 1)

noncomputable def opEntryStore (x s v : Operand) (T : Tab) (env : Tr AV) (hp : Hp) : Option ARes :=
  match eval x env, eval s env, eval v env with
  | some (.map i), some (.raw (.int .i64 (.ofNat b))), some v => match hp.h.get i with
    | some (.map es clock) => match bornAt b es 0 with
      | some j => putObj hp i (.map (setVal es j v) clock) fun hp => some (.val undefA hp)
      | none => none
    | _ => none
  | _, _, _ => none

noncomputable def opRange (t : TypeId) (x : Operand) (T : Tab) (env : Tr AV) (hp : Hp) : Option ARes :=
  match eval x env, T.tys.get t with
  | some (.map m), some ti => match ti.und, hp.h.get m with
    | .map _ _, some (.map [] _) => newObj hp (.miter (some m)) fun i hp => some (.val (.ptr i 0) hp)
    | _, _ => none
  | _, _ => none

noncomputable def opNext (x : Operand) (isS : Bool) (T : Tab) (env : Tr AV) (hp : Hp) : Option ARes :=
  match eval x env, isS with
  | some (.ptr r 0), false => match hp.h.get r with
    | some (.miter (some m)) => match hp.h.get m with
      | some (.map [] _) => some (.val (.tup [.raw (.bool false)]) hp)
      | _ => none
    | _ => none
  | _, _ => none

/-! ### Builtins, calls -/

noncomputable def lenS : AV → Option Nat
  | .sl _ _ len _ _ _ => some len
  | .sl0 _ => some 0
  | .raw (.slice none 0 0) => some 0
  | _ => none

noncomputable def lenA : AV → Option Nat
  | .raw (.string s) => some s.data.toList.length
  | a => lenS a

/-- The cells of the first n elements. -/
noncomputable def firstA (hp : Hp) (es n : Nat) : AV → Option (List AV)
  | .sl i off len _ _ es' => match Nat.ble n len, Nat.beq es es' with
    | true, true => match hp.h.get i with
      | some (.cells _ _ t) => readCells t (n * es) off
      | _ => none
    | _, _ => none
  | .sl0 _ => match n with
    | 0 => some []
    | _ => none
  | .raw (.slice none 0 0) => match n with
    | 0 => some []
    | _ => none
  | _ => none

noncomputable def opLen (tys : List TypeId) (args : List AV) (T : Tab) (hp : Hp) : Option ARes :=
  match args, tys with
  | [x], [t] => match T.tys.get t with
    | none => none
    | some ti => match ti.und with
      | .map _ _ => match x with
        | .map i => match hp.h.get i with
          | some (.map es _) => lenK es fun n => some (.val (.raw (.int .i64 (.ofNat n))) hp)
          | _ => none
        | _ => none
      | .slice _ => match lenS x with
        | some n => forceN n fun n => some (.val (.raw (.int .i64 (.ofNat n))) hp)
        | none => none
      | .string => match x with
        | .raw (.string s) => forceN s.data.toList.length fun n => some (.val (.raw (.int .i64 (.ofNat n))) hp)
        | _ => none
      | _ => none
  | _, _ => none

noncomputable def fits (need bytes : Nat) : Bool := Nat.ble (need * bytes) most && Nat.ble need most && Nat.ble bytes 1048576 && Nat.ble 1 bytes

noncomputable def appendTo (e : TypeId) (es : Nat) (bytes : Nat) (s : AV) (n : Nat) (new : List AV) (hp : Hp) : Option ARes :=
  match s with
  | .raw (.slice none 0 0) => match n with
    | 0 => some (.val (.raw (.slice none 0 0)) hp)
    | n + 1 => match fits (n + 1) bytes with
      | true => newCellsK (.row e) hp new fun i hp => some (.val (.sl i 0 (n + 1) (n + 1) false es) hp)
      | false => none
  | .sl0 ex => match n with
    | 0 => some (.val (.sl0 ex) hp)
    | n + 1 => match ex, fits (n + 1) bytes with
      | true, true => newCellsK (.row e) hp new fun i hp => some (.val (.sl i 0 (n + 1) (n + 1) false es) hp)
      | _, _ => none
  | .sl i off len lo ex es' => match Nat.beq es es', hp.h.get i with
    | true, some (.cells c st t) => forceN (len + n) fun need => match Nat.ble need lo with
      | true => match Nat.ble (off + need * es) c with
        | true => writeCells new t (off + len * es) fun t => putObj hp i (.cells c st t) fun hp => some (.val (.sl i off need lo ex es) hp)
        | false => none
      | false => match fits need bytes, readCells t (len * es) off with
        | true, some old => match ex with
          | true => newCellsK (.row e) hp (old ++ new) fun j hp => some (.val (.sl j 0 need need false es) hp)
          | false => match Nat.beq off 0, Nat.beq c (len * es) with
            | true, true => hp.h.del i fun h => writeCells new t (len * es) fun t => forceN (need * es) fun c' => newObj ⟨h, hp.next⟩ (.cells c' (st.grow off e) t) fun j hp => some (.val (.sl j 0 need need false es) hp)
            | _, _ => hp.h.del i fun h => ofList (old ++ new) fun t => lenK (old ++ new) fun c' => newObj ⟨h, hp.next⟩ (.cells c' (st.grow off e) t) fun j hp => some (.val (.sl j 0 need need false es) hp)
        | _, _ => none
    | _, _ => none
  | _ => none

/-- A byte, as a cell. -/
def byteA (b : UInt8) : AV := .raw (.int .u8 b.toNat)

noncomputable def opAppendStr (s : AV) (b : ByteArray) (ts tx : TypeId) (T : Tab) (hp : Hp) : Option ARes :=
  match T.tys.get ts, T.tys.get tx with
  | some ti, some tj => match ti.und, tj.und with
    | .slice e, .string => match T.tys.get e with
      | some te => match te.zero, Nat.beq te.size 1 with
        | some z, true => match Nat.beq z.length te.size with
          | true => appendTo e te.size te.bytes s b.data.toList.length (b.data.toList.map byteA) hp
          | false => none
        | _, _ => none
      | none => none
    | _, _ => none
  | _, _ => none

noncomputable def opAppend (tys : List TypeId) (args : List AV) (T : Tab) (hp : Hp) : Option ARes :=
  match args, tys with
  | [s, .raw (.string b)], [ts, tx] => opAppendStr s b ts tx T hp
  | [s, x], [ts, tx] => match T.tys.get ts, T.tys.get tx with
    | some ti, some tj => match ti.und, (match tj.und with | .slice _ => true | _ => false) with
      | .slice e, true => match T.tys.get e with
        | some te => match Nat.beq te.size 0, lenS x with
          | false, some n => match firstA hp te.size n x with
            | some new => match Nat.beq new.length (n * te.size), te.zero with
              | true, some z => match Nat.beq z.length te.size with
                | true => appendTo e te.size te.bytes s n new hp
                | false => none
              | _, _ => none
            | none => none
          | _, _ => none
        | none => none
      | _, _ => none
    | _, _ => none
  | _, _ => none

noncomputable def opCopy (tys : List TypeId) (args : List AV) (T : Tab) (hp : Hp) : Option ARes :=
  match args, tys with
  | [d, s], ts :: _ => match T.tys.get ts, lenS d, lenS s with
    | some ti, some dl, some sl => match ti.und with
      | .slice e => match T.tys.get e with
        | some te => forceN (Nat.min sl dl) fun n => match firstA hp te.size n s with
          | some cs => match d with
            | .sl i off _ _ _ es => match hp.h.get i, Nat.beq te.size es with
              | some (.cells c st t), true => match Nat.ble (off + cs.length) c with
                | true => writeCells cs t off fun t => putObj hp i (.cells c st t) fun hp => some (.val (.raw (.int .i64 (.ofNat n))) hp)
                | false => none
              | _, _ => none
            | .sl0 _ => match cs with
              | [] => some (.val (.raw (.int .i64 (.ofNat n))) hp)
              | _ => none
            | _ => none
          | none => none
        | none => none
      | _ => none
    | _, _, _ => none
  | _, _ => none

/-- unsafe.String: the bytes at the head of a row; the row is not looked at any more. -/
noncomputable def opUnsafeString (tys : List TypeId) (args : List AV) (T : Tab) (hp : Hp) : Option ARes :=
  match args, tys with
  | [p, .raw (.int .i64 (.ofNat n))], [pt, _] => match n with
    | 0 => match p with
      | .raw (.pointer none) => some (.val (.raw (.string ⟨#[]⟩)) hp)
      | .ptr _ _ => some (.val (.raw (.string ⟨#[]⟩)) hp)
      | _ => none
    | n + 1 => match p with
      | .ptr i 0 => match hp.h.get i, T.tys.get pt with
        | some (.cells c (.row e) t), some tp => match tp.und with
          | .pointer e' => match Nat.beq e e', T.tys.get e with
            | true, some te => match Nat.beq te.size 1, Nat.ble (n + 1) c, Nat.ble (n + 1) 1048576, readCells t (n + 1) 0 with
              | true, true, true, some l => match bytesOf l with
                | some bs => hp.h.del i fun h => some (.val (.raw (.string ⟨bs.toArray⟩)) ⟨h, hp.next⟩)
                | none => none
              | _, _, _, _ => none
            | _, _ => none
          | _ => none
        | _, _ => none
      | _ => none
  | _, _ => none

noncomputable def opBuiltin : Builtin → List TypeId → List AV → Tab → Hp → Option ARes
  | .len => opLen
  | .append => opAppend
  | .unsafeSliceData => fun _ args _ hp => match args with
    | [.sl i off _ (_ + 1) _ _] => some (.val (.ptr i off) hp)
    | [.raw (.slice none 0 0)] => some (.val (.raw (.pointer none)) hp)
    | _ => none
  | .unsafeString => opUnsafeString
  | .copy => opCopy
  | .min => fun _ args _ hp => match args with
    | [.raw (.int k a), .raw (.int _ b)] => match intLt b a with
      | true => some (.val (.raw (.int k b)) hp)
      | false => some (.val (.raw (.int k a)) hp)
    | _ => none
  | .max => fun _ args _ hp => match args with
    | [.raw (.int k a), .raw (.int _ b)] => match intLt a b with
      | true => some (.val (.raw (.int k b)) hp)
      | false => some (.val (.raw (.int k a)) hp)
    | _ => none
  | .complex => fun _ args _ hp => match args with
    | [.raw (.float .f64 a), .raw (.float .f64 b)] => some (.val (.raw (.complex .f64 a b)) hp)
    | _ => none
  | .real => fun _ args _ hp => match args with
    | [.raw (.complex k a _)] => some (.val (.raw (.float k a)) hp)
    | _ => none
  | .imag => fun _ args _ hp => match args with
    | [.raw (.complex k _ b)] => some (.val (.raw (.float k b)) hp)
    | _ => none
  | _ => fun _ _ _ _ => none

noncomputable def opCallee : Callee → Array TypeId → List AV → Tab → Tr AV → Hp → Option ARes
  | .builtin b => fun tys args T _ hp => opBuiltin b tys.toList args T hp
  | .value f => fun _ args T env hp => match eval f env with
    | some (.fn (.func f) first captured) => match T.ext f with
      | false => some (.call f (first ++ args ++ captured))
      | true => match first ++ args ++ captured with
        | [a] => some (.val a hp)
        | _ => none
    | _ => none
  | .invoke .. => fun _ _ _ _ _ => none

noncomputable def opCall (c : Call) (T : Tab) (env : Tr AV) (hp : Hp) : Option ARes :=
  match evals c.args.toList env with
  | some args => opCallee c.callee c.argTypes args T env hp
  | none => none

noncomputable def opA : Op → Tab → Tr AV → Hp → Option ARes
  | .move x => opMove x
  | .assign x => opMove x
  | .pick c a b => opPick c a b
  | .alloc t => opAlloc t
  | .box t x => opBox t x
  | .build t ps => opBuild t ps
  | .buildSlice t n ps => opBuildSlice t n ps
  | .load t x => opLoad t x
  | .store t x y => opStore t x y
  | .nilCheck x => opNilCheck x
  | .binOp op t x y _ => opBin op t x y
  | .unOp op _ x => opUn op x
  | .convert s d x => opConvert s d x
  | .makeFunc f a b => opMakeFunc f a b
  | .makeMap t r => opMakeMap t r
  | .makeSlice t l c => opMakeSlice t l c
  | .slice t x l h m => opSlice t x l h m
  | .fieldAddr s x f => opFieldAddr s x f
  | .field t x f => opField t x f
  | .indexAddr t x i => opIndexAddr t x i
  | .index t x i => opIndex t x i
  | .lookup t x i ok => opLookup t x i ok
  | .mapUpdate t x k v => opMapUpdate t x k v
  | .mapEntry t x k => opMapEntry t x k
  | .entryStore _ x s v => opEntryStore x s v
  | .range t x => opRange t x
  | .next x s => opNext x s
  | .extract x i => opExtract x i
  | .call c => opCall c
  | _ => fun _ _ _ => none

end Go.Ab
