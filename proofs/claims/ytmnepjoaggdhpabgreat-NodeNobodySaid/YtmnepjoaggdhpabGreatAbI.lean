/-
  THE ABSTRACT MACHINE, QUICK: operations made ready (instructions): what hangs on the text alone is worked out once.
-/
import Derived.Test.YtmnepjoaggdhpabGreatAbQ3
set_option linter.unusedVariables false
namespace Go.Ab

/-! ### Registers -/

noncomputable def getR (p : Pa) (env : Tr AV) : Option AV := gA6 p env.lo
noncomputable def setR (p : Pa) (v : AV) (env : Tr AV) (k : Tr AV → Out) : Out := Tr.rec (motive := fun _ => Out) (fun lo hi => sAW6 p v lo fun lo => k ⟨lo, hi⟩) env

theorem getR_eq {t : Tmp} {p : Pa} (h : path t = .lo p) (env : Tr AV) : getR p env = env.get t := by
  rw [← getA_eq, h]; rfl
theorem setR_eq {t : Tmp} {p : Pa} (h : path t = .lo p) (v : AV) (env : Tr AV) (k : Tr AV → Out) : setR p v env k = k (env.put t v) := by
  rw [← setAW_eq env t v k, h]; rfl

inductive Src where
  | tmp (p : Pa)
  | con (v : AV)

noncomputable def srcV (s : Src) : Tr AV → Option AV := Src.rec (motive := fun _ => Tr AV → Option AV) getR (fun v _ => some v) s

/-- An operand made ready. -/
noncomputable def srcOf : Operand → Option Src
  | .tmp t => match path t with
    | .lo p => some (.tmp p)
    | .hi _ => none
  | .const v => match ofConst v with
    | some a => some (.con a)
    | none => none
  | .func f => some (.con (.fn (.func f) [] []))
  | .global _ => none

theorem srcOf_eq {x : Operand} {s : Src} (h : srcOf x = some s) (env : Tr AV) : srcV s env = eval x env := by
  cases x with
  | tmp t =>
    unfold srcOf at h
    dsimp only at h
    split at h
    · rename_i p hp
      cases h
      exact getR_eq hp env
    · cases h
  | const v =>
    unfold srcOf at h
    dsimp only at h
    split at h
    · rename_i a ha
      cases h
      show some a = ofConst v
      rw [ha]
    · cases h
  | func f => cases h; rfl
  | global g => cases h

noncomputable def srcsOf : List Operand → Option (List Src)
  | [] => some []
  | x :: l => match srcOf x, srcsOf l with
    | some s, some l => some (s :: l)
    | _, _ => none

noncomputable def srcsV (l : List Src) : Tr AV → Option (List AV) := List.rec (motive := fun _ => Tr AV → Option (List AV)) (fun _ => some []) (fun s _ ih env => consC (srcV s env) (ih env)) l

theorem srcsOf_eq : ∀ {l : List Operand} {s : List Src}, srcsOf l = some s → ∀ env, srcsV s env = evals l env
  | [], s, h, env => by cases h; rfl
  | x :: l, s, h, env => by
    unfold srcsOf at h
    split at h
    · rename_i a b ha hb
      cases h
      show consC (srcV a env) (srcsV b env) = consO (eval x env) (evals l env)
      rw [consC_eq, srcOf_eq ha, srcsOf_eq hb]
    · cases h

noncomputable def regOf (t : Tmp) (nt : Nat) : Option Pa :=
  match path t, blt t nt with
  | .lo p, true => some p
  | _, _ => none

theorem regOf_eq {t : Tmp} {nt : Nat} {p : Pa} (h : regOf t nt = some p) : path t = .lo p ∧ blt t nt = true := by
  unfold regOf at h
  split at h
  · rename_i h1 h2
    cases h
    exact ⟨h1, h2⟩
  · cases h

/-! ### Instructions -/

abbrev StepT := Rec → Tr AV → Hp → KT → Out

inductive Ins where
  | mov (s : Pa) (d : Pa)
  | con (v : AV) (d : Pa)
  | lod (s : Pa) (b : Bool) (n : Nat) (d : Pa)
  | fad (s : Pa) (fo : Nat) (d : Pa)
  | chk (s : Pa) (d : Pa)
  | iad (x : Pa) (ix : Src) (size : Nat) (d : Pa)
  | bin (op : BinOp) (x y : Src) (t : TypeId) (T : Tab) (d : Pa)
  | sto (x : Pa) (y : Src) (size : Nat)
  | cal (f : FuncId) (args : List Src) (d : Option Tmp) (nt : Nat)
  | ext (s : Pa) (i : Nat) (d : Pa)
  | len (s : Pa) (d : Pa)
  | alc (o : AObj) (d : Pa)
  | pic (c a b : Src) (d : Pa)
  | gen (f : StepT)

noncomputable def putI (v : AV) (d : Pa) (env : Tr AV) (hp : Hp) (k : KT) : Out := setR d v env fun env => k env hp

abbrev ContT := Pa → Tr AV → Hp → KT → Out

noncomputable def movK (o : Option AV) : ContT := Option.rec (motive := fun _ => ContT) (fun _ _ _ _ => .bad) (fun v => putI v) o
noncomputable def aggK (o : Option (List AV)) : ContT := Option.rec (motive := fun _ => ContT) (fun _ _ _ _ => .bad) (fun l => putI (.agg l)) o

/-- The answer of an operation that calls nothing. -/
noncomputable def oaK (o : OA) : Pa → Tr AV → KT → Out :=
  Option.rec (motive := fun _ => Pa → Tr AV → KT → Out) (fun _ _ _ => .bad) (fun r => ARes.rec (motive := fun _ => Pa → Tr AV → KT → Out) (fun v hp d env k => putI v d env hp k) (fun _ _ _ _ _ => .bad) r) o

noncomputable def lodB (b : Bool) : Nat → Tr AV → Nat → ContT := Bool.rec (motive := fun _ => Nat → Tr AV → Nat → ContT) (fun _ tr off => movK (getA (path off) tr)) (fun n tr off => aggK (readQ n tr off)) b
noncomputable def lodOb (o : AObj) : Bool → Nat → Nat → ContT := AObj.rec (motive := fun _ => Bool → Nat → Nat → ContT) (fun _ _ tr b n off => lodB b n tr off) (fun _ _ _ _ _ _ _ _ _ => .bad) (fun _ _ _ _ _ _ _ _ => .bad) o
noncomputable def lodP (o : Option AObj) : Bool → Nat → Nat → ContT := Option.rec (motive := fun _ => Bool → Nat → Nat → ContT) (fun _ _ _ _ _ _ _ => .bad) lodOb o
noncomputable def lodA (a : AV) : Bool → Nat → ContT := AV.casePtr (fun i off b n d env hp => lodP (getO (path i) hp.h) b n off d env hp) (fun _ _ _ _ _ _ _ => .bad) a
noncomputable def lodK (o : Option AV) : Bool → Nat → ContT := Option.rec (motive := fun _ => Bool → Nat → ContT) (fun _ _ _ _ _ _ => .bad) lodA o

noncomputable def fadA (a : AV) : Nat → ContT := AV.casePtr (fun i off fo d env hp k => forceN (Nat.add off fo) fun o => putI (.ptr i o) d env hp k) (fun _ _ _ _ _ _ => .bad) a
noncomputable def fadK (o : Option AV) : Nat → ContT := Option.rec (motive := fun _ => Nat → ContT) (fun _ _ _ _ _ => .bad) fadA o

noncomputable def chkA (a : AV) : ContT := AV.casePtr (fun i off => putI (.ptr i off)) (fun a d env hp k => match a with
    | .fn (.func f) x y => putI (.fn (.func f) x y) d env hp k
    | _ => .bad) a
noncomputable def chkK (o : Option AV) : ContT := Option.rec (motive := fun _ => ContT) (fun _ _ _ _ => .bad) chkA o

noncomputable def iadN (n : Int) : Nat → Id → Nat → Nat → Nat → ContT :=
  Int.rec (motive := fun _ => Nat → Id → Nat → Nat → Nat → ContT)
    (fun m size i off len es d env hp k => Bool.rec (motive := fun _ => Out) .bad (forceN (Nat.add off (Nat.mul m es)) fun o => putI (.ptr i o) d env hp k) (Bool.rec (motive := fun _ => Bool) false (Nat.beq size es) (Nat.ble (Nat.succ m) len)))
    (fun _ _ _ _ _ _ _ _ _ _ => .bad) n
noncomputable def iadX (ix : AV) : Nat → Id → Nat → Nat → Nat → ContT := AV.caseInt iadN (fun _ _ _ _ _ _ _ _ _ => .bad) ix
noncomputable def iadO (o : Option AV) : Nat → Id → Nat → Nat → Nat → ContT := Option.rec (motive := fun _ => Nat → Id → Nat → Nat → Nat → ContT) (fun _ _ _ _ _ _ _ _ _ => .bad) iadX o
noncomputable def iadA (a : AV) : Option AV → Nat → ContT :=
  AV.rec (motive_1 := fun _ => Option AV → Nat → ContT) (motive_2 := fun _ => PUnit) (fun _ _ _ _ _ _ _ => .bad) (fun _ _ _ _ _ _ _ _ => .bad) (fun i off len _ _ es ix size => iadO ix size i off len es) (fun _ _ _ _ _ _ _ => .bad)
    (fun _ _ _ _ _ _ _ => .bad) (fun _ _ _ _ _ _ _ _ _ _ _ => .bad) (fun _ _ _ _ _ _ _ _ _ => .bad) (fun _ _ _ _ _ _ _ _ => .bad) (fun _ _ _ _ _ _ _ _ => .bad) (fun _ _ _ _ _ _ => .bad) ⟨⟩ (fun _ _ _ _ => ⟨⟩) a
noncomputable def iadK (o : Option AV) : Option AV → Nat → ContT := Option.rec (motive := fun _ => Option AV → Nat → ContT) (fun _ _ _ _ _ _ => .bad) iadA o

/-! Two integers -/

abbrev BinK := BinOp → TypeId → Tab → ContT

noncomputable def binS (a b : AV) : BinK := fun op t T d env hp k => oaK (binOld a b op t T hp) d env k

noncomputable def rawK (v : Value) : ContT := putI (.raw v)
noncomputable def tru : AV := .raw (.bool true)
noncomputable def fls : AV := .raw (.bool false)
noncomputable def boolK (b : Bool) : ContT := Bool.rec (motive := fun _ => ContT) (putI (.raw (.bool false))) (putI (.raw (.bool true))) b
noncomputable def notK (b : Bool) : ContT := Bool.rec (motive := fun _ => ContT) (putI (.raw (.bool true))) (putI (.raw (.bool false))) b
noncomputable def addK (m n : Nat) : ContT := fun d env hp k =>
  Bool.rec (motive := fun _ => Out) (oaK (old64 .add (.ofNat m) (.ofNat n) hp) d env k) (forceN (Nat.add m n) fun n => putI (.raw (.int .i64 (.ofNat n))) d env hp k) (Nat.ble (Nat.succ (Nat.add m n)) 9223372036854775808)
noncomputable def subK (m n : Nat) : ContT := fun d env hp k =>
  Bool.rec (motive := fun _ => Out) (oaK (old64 .sub (.ofNat m) (.ofNat n) hp) d env k)
    (Bool.rec (motive := fun _ => Out) (oaK (old64 .sub (.ofNat m) (.ofNat n) hp) d env k) (forceN (Nat.sub m n) fun n => putI (.raw (.int .i64 (.ofNat n))) d env hp k) (Nat.ble (Nat.succ (Nat.sub m n)) 9223372036854775808)) (Nat.ble n m)

/-- Two natural numbers. -/
noncomputable def natK (op : BinOp) : Nat → Nat → ContT :=
  BinOp.rec (motive := fun _ => Nat → Nat → ContT) addK subK
    (fun m n d env hp k => oaK (op64 .mul (.ofNat m) (.ofNat n) hp) d env k) (fun m n d env hp k => oaK (op64 .quo (.ofNat m) (.ofNat n) hp) d env k) (fun m n d env hp k => oaK (op64 .rem (.ofNat m) (.ofNat n) hp) d env k)
    (fun _ _ _ _ _ _ => .bad) (fun _ _ _ _ _ _ => .bad) (fun _ _ _ _ _ _ => .bad) (fun _ _ _ _ _ _ => .bad) (fun _ _ _ _ _ _ => .bad) (fun _ _ _ _ _ _ => .bad)
    (fun m n => boolK (Nat.beq m n)) (fun m n => notK (Nat.beq m n)) (fun m n => boolK (Nat.ble (Nat.succ m) n)) (fun m n => boolK (Nat.ble m n)) (fun m n => boolK (Nat.ble (Nat.succ n) m)) (fun m n => boolK (Nat.ble n m)) op

noncomputable def intI (b : Int) : Int → BinK :=
  Int.rec (motive := fun _ => Int → BinK)
    (fun n a => Int.rec (motive := fun _ => BinK) (fun m op _ _ => natK op m n) (fun m op _ _ d env hp k => oaK (old64 op (.negSucc m) (.ofNat n) hp) d env k) a)
    (fun n a op _ _ d env hp k => oaK (old64 op a (.negSucc n) hp) d env k) b

noncomputable def kindI (k' : IntKind) : IntKind → Int → Int → BinK :=
  IntKind.rec (motive := fun _ => IntKind → Int → Int → BinK)
    (fun k n n' => binS (.raw (.int k n)) (.raw (.int .i8 n'))) (fun k n n' => binS (.raw (.int k n)) (.raw (.int .i16 n'))) (fun k n n' => binS (.raw (.int k n)) (.raw (.int .i32 n')))
    (fun k => IntKind.rec (motive := fun _ => Int → Int → BinK)
      (fun n n' => binS (.raw (.int .i8 n)) (.raw (.int .i64 n'))) (fun n n' => binS (.raw (.int .i16 n)) (.raw (.int .i64 n'))) (fun n n' => binS (.raw (.int .i32 n)) (.raw (.int .i64 n')))
      (fun n n' => intI n' n)
      (fun n n' => binS (.raw (.int .u8 n)) (.raw (.int .i64 n'))) (fun n n' => binS (.raw (.int .u16 n)) (.raw (.int .i64 n'))) (fun n n' => binS (.raw (.int .u32 n)) (.raw (.int .i64 n'))) (fun n n' => binS (.raw (.int .u64 n)) (.raw (.int .i64 n'))) k)
    (fun k n n' => binS (.raw (.int k n)) (.raw (.int .u8 n'))) (fun k n n' => binS (.raw (.int k n)) (.raw (.int .u16 n'))) (fun k n n' => binS (.raw (.int k n)) (.raw (.int .u32 n'))) (fun k n n' => binS (.raw (.int k n)) (.raw (.int .u64 n'))) k'

/-- The first is an integer. -/
noncomputable def bI (w : Value) : IntKind → Int → BinK :=
  Value.rec (motive_1 := fun _ => IntKind → Int → BinK) (motive_2 := fun _ => PUnit) (motive_3 := fun _ => PUnit)
    (fun b k n => binS (.raw (.int k n)) (.raw (.bool b)))
    (fun k' n' k n => kindI k' k n n')
    (fun k' b k n => binS (.raw (.int k n)) (.raw (.float k' b)))
    (fun k' a b k n => binS (.raw (.int k n)) (.raw (.complex k' a b)))
    (fun s k n => binS (.raw (.int k n)) (.raw (.string s)))
    (fun a k n => binS (.raw (.int k n)) (.raw (.pointer a)))
    (fun a l c k n => binS (.raw (.int k n)) (.raw (.slice a l c)))
    (fun r k n => binS (.raw (.int k n)) (.raw (.map r)))
    (fun r k n => binS (.raw (.int k n)) (.raw (.chan r)))
    (fun f x y _ _ k n => binS (.raw (.int k n)) (.raw (.func f x y)))
    (fun k n => binS (.raw (.int k n)) (.raw .nilFunc))
    (fun t v _ k n => binS (.raw (.int k n)) (.raw (.iface t v)))
    (fun k n => binS (.raw (.int k n)) (.raw .nilIface))
    (fun c _ k n => binS (.raw (.int k n)) (.raw (.agg c)))
    (fun c _ k n => binS (.raw (.int k n)) (.raw (.tuple c)))
    (fun _ _ => ⟨⟩) ⟨⟩ (fun _ _ _ _ => ⟨⟩) w

noncomputable def bV (v : Value) : Value → BinK :=
  Value.rec (motive_1 := fun _ => Value → BinK) (motive_2 := fun _ => PUnit) (motive_3 := fun _ => PUnit)
    (fun b w => binS (.raw (.bool b)) (.raw w))
    (fun k n w => bI w k n)
    (fun k b w => binS (.raw (.float k b)) (.raw w))
    (fun k a b w => binS (.raw (.complex k a b)) (.raw w))
    (fun s w => binS (.raw (.string s)) (.raw w))
    (fun a w => binS (.raw (.pointer a)) (.raw w))
    (fun a l c w => binS (.raw (.slice a l c)) (.raw w))
    (fun r w => binS (.raw (.map r)) (.raw w))
    (fun r w => binS (.raw (.chan r)) (.raw w))
    (fun f x y _ _ w => binS (.raw (.func f x y)) (.raw w))
    (fun w => binS (.raw .nilFunc) (.raw w))
    (fun t v _ w => binS (.raw (.iface t v)) (.raw w))
    (fun w => binS (.raw .nilIface) (.raw w))
    (fun c _ w => binS (.raw (.agg c)) (.raw w))
    (fun c _ w => binS (.raw (.tuple c)) (.raw w))
    (fun _ _ => ⟨⟩) ⟨⟩ (fun _ _ _ _ => ⟨⟩) v

noncomputable def bB (b : AV) : Value → BinK := AV.caseRaw (fun w v => bV v w) (fun b v => binS (.raw v) b) b
noncomputable def bA (a : AV) : AV → BinK := AV.caseRaw (fun v b => bB b v) (fun a b => binS a b) a
noncomputable def bO2 (b : Option AV) : AV → BinK := Option.rec (motive := fun _ => AV → BinK) (fun _ _ _ _ _ _ _ _ => .bad) (fun b a => bA a b) b
noncomputable def bO (a : Option AV) : Option AV → BinK := Option.rec (motive := fun _ => Option AV → BinK) (fun _ _ _ _ _ _ _ _ => .bad) (fun a b => bO2 b a) a

/-! Stores -/

abbrev StoT := Nat → Tr AV → Hp → KT → Out

noncomputable def sto1 (v : AV) (n : Nat) (st : Kd) (tr : Tr AV) (i : Id) (off : Nat) : StoT := fun size env hp k =>
  Bool.rec (motive := fun _ => Out) .bad (setAW (path off) v tr fun tr => setOW (path i) (.cells n st tr) hp.h fun h => k env ⟨h, hp.next⟩) (Bool.rec (motive := fun _ => Bool) false (Nat.ble (Nat.succ off) n) (Nat.beq size 1))

noncomputable def stoN (v : AV) (n : Nat) (st : Kd) (tr : Tr AV) (i : Id) (off : Nat) : StoT := fun size env hp k =>
  (match storeNQ v size n st tr i off hp with
    | some (.val _ hp) => k env hp
    | _ => .bad)

noncomputable def stoW (v : AV) : Nat → Kd → Tr AV → Id → Nat → StoT :=
  AV.rec (motive_1 := fun _ => Nat → Kd → Tr AV → Id → Nat → StoT) (motive_2 := fun _ => PUnit) (fun v => sto1 (.raw v)) (fun i o => sto1 (.ptr i o)) (fun i o l lo ex es => sto1 (.sl i o l lo ex es)) (fun ex => sto1 (.sl0 ex))
    (fun i => sto1 (.map i)) (fun f x y _ _ => sto1 (.fn f x y)) (fun t v _ => sto1 (.iface t v)) (fun l _ => stoN (.agg l)) (fun l _ _ _ _ _ _ _ _ _ _ => .bad) (sto1 .any) ⟨⟩ (fun _ _ _ _ => ⟨⟩) v

noncomputable def stoOb (o : AObj) : AV → Id → Nat → StoT := AObj.rec (motive := fun _ => AV → Id → Nat → StoT) (fun n st tr v i off => stoW v n st tr i off) (fun _ _ _ _ _ _ _ _ _ => .bad) (fun _ _ _ _ _ _ _ _ => .bad) o
noncomputable def stoP (o : Option AObj) : AV → Id → Nat → StoT := Option.rec (motive := fun _ => AV → Id → Nat → StoT) (fun _ _ _ _ _ _ _ => .bad) stoOb o
noncomputable def stoV (o : Option AV) : Id → Nat → StoT := Option.rec (motive := fun _ => Id → Nat → StoT) (fun _ _ _ _ _ _ => .bad) (fun v i off size env hp => stoP (getO (path i) hp.h) v i off size env hp) o
noncomputable def stoA (a : AV) : Option AV → StoT := AV.casePtr (fun i off o => stoV o i off) (fun _ _ _ _ _ _ => .bad) a
noncomputable def stoO (o : Option AV) : Option AV → StoT := Option.rec (motive := fun _ => Option AV → StoT) (fun _ _ _ _ _ => .bad) stoA o

/-! Others -/

noncomputable def calK (o : Option (List AV)) : FuncId → Option Tmp → Nat → StepT :=
  Option.rec (motive := fun _ => FuncId → Option Tmp → Nat → StepT) (fun _ _ _ _ _ _ _ => .bad) (fun args f d nt rec env hp k => retQ (rec (.call f args) hp) d nt env k) o

noncomputable def extK (o : Option AV) : Nat → ContT := Option.rec (motive := fun _ => Nat → ContT) (fun _ _ _ _ _ => .bad) (fun a => AV.caseTup (fun l i => movK (nthQ i l)) (fun _ _ _ _ _ => .bad) a) o

noncomputable def lenA' (x : AV) : ContT :=
  AV.rec (motive_1 := fun _ => ContT) (motive_2 := fun _ => PUnit)
    (fun v d env hp k => oaK (lenQ (.raw v) hp) d env k) (fun _ _ _ _ _ _ => .bad) (fun _ _ len _ _ _ => putI (.raw (.int .i64 (.ofNat len)))) (fun _ => putI (.raw (.int .i64 (.ofNat 0)))) (fun _ _ _ _ _ => .bad) (fun _ _ _ _ _ _ _ _ _ => .bad)
    (fun _ _ _ _ _ _ _ => .bad) (fun _ _ _ _ _ _ => .bad) (fun _ _ _ _ _ _ => .bad) (fun _ _ _ _ => .bad) ⟨⟩ (fun _ _ _ _ => ⟨⟩) x
noncomputable def lenK' (o : Option AV) : ContT := Option.rec (motive := fun _ => ContT) (fun _ _ _ _ => .bad) lenA' o

noncomputable def picV (v : Value) : Src → Src → ContT := boolV (fun a _ d env => movK (srcV a env) d env) (fun _ b d env => movK (srcV b env) d env) (fun _ _ _ _ _ _ => .bad) v
noncomputable def picA (a : AV) : Src → Src → ContT := AV.caseRaw picV (fun _ _ _ _ _ _ _ => .bad) a
noncomputable def picK (o : Option AV) : Src → Src → ContT := Option.rec (motive := fun _ => Src → Src → ContT) (fun _ _ _ _ _ _ => .bad) picA o

noncomputable def alcK (o : AObj) (d : Pa) (env : Tr AV) (hp : Hp) (k : KT) : Out :=
  setOW (path hp.next) o hp.h fun h => forceN (Nat.succ hp.next) fun nx => putI (.ptr hp.next 0) d env ⟨h, nx⟩ k

noncomputable def stepI (i : Ins) : StepT :=
  Ins.rec (motive := fun _ => StepT)
    (fun s d _ env hp k => movK (getR s env) d env hp k)
    (fun v d _ env hp k => putI v d env hp k)
    (fun s b n d _ env hp k => lodK (getR s env) b n d env hp k)
    (fun s fo d _ env hp k => fadK (getR s env) fo d env hp k)
    (fun s d _ env hp k => chkK (getR s env) d env hp k)
    (fun x ix size d _ env hp k => iadK (getR x env) (srcV ix env) size d env hp k)
    (fun op x y t T d _ env hp k => bO (srcV x env) (srcV y env) op t T d env hp k)
    (fun x y size _ env hp k => stoO (getR x env) (srcV y env) size env hp k)
    (fun f args d nt rec env hp k => calK (srcsV args env) f d nt rec env hp k)
    (fun s i d _ env hp k => extK (getR s env) i d env hp k)
    (fun s d _ env hp k => lenK' (getR s env) d env hp k)
    (fun o d _ env hp k => alcK o d env hp k)
    (fun c a b d _ env hp k => picK (srcV c env) a b d env hp k)
    (fun f => f) i

end Go.Ab
