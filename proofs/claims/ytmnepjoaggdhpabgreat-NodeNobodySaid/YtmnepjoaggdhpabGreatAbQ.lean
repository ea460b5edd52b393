/-
  THE ABSTRACT MACHINE, QUICK: the same answers, written so that the kernel has little to copy: each branch is closed.
-/
import Derived.Test.YtmnepjoaggdhpabGreatAbM
set_option linter.unusedVariables false
namespace Go.Ab

noncomputable def evalQ (x : Operand) : Tr AV → Option AV :=
  Operand.rec (motive := fun _ => Tr AV → Option AV) (fun t => getA (path t)) (fun v _ => ofConst v) (fun _ _ => none) (fun f _ => some (.fn (.func f) [] [])) x

theorem evalQ_eq (x : Operand) (env : Tr AV) : evalQ x env = eval x env := by
  cases x with
  | tmp t => exact getA_eq env t
  | _ => rfl

/-! ### Results -/

noncomputable def valO (o : Option AV) : Hp → OA := Option.rec (motive := fun _ => Hp → OA) (fun _ => none) (fun v hp => some (.val v hp)) o
noncomputable def aggO (o : Option (List AV)) : Hp → OA := Option.rec (motive := fun _ => Hp → OA) (fun _ => none) (fun l hp => some (.val (.agg l) hp)) o
noncomputable def boolR (b : Bool) : Hp → OA := Bool.rec (motive := fun _ => Hp → OA) (fun hp => some (.val (.raw (.bool false)) hp)) (fun hp => some (.val (.raw (.bool true)) hp)) b
noncomputable def notR (b : Bool) : Hp → OA := Bool.rec (motive := fun _ => Hp → OA) (fun hp => some (.val (.raw (.bool true)) hp)) (fun hp => some (.val (.raw (.bool false)) hp)) b

theorem boolR_eq (b : Bool) (hp : Hp) : boolR b hp = retB b fun v => some (.val (.raw v) hp) := by cases b <;> rfl
theorem notR_eq (b : Bool) (hp : Hp) : notR b hp = retB (!b) fun v => some (.val (.raw v) hp) := by cases b <;> rfl

/-! ### Two integers -/

/-- The old ways. -/
noncomputable def binOld (a b : AV) (op : BinOp) (t : TypeId) (T : Tab) (hp : Hp) : OA :=
  match some a, some b with
  | some (.raw (.int k a)), some (.raw (.int k' b)) => intBin none op k a k' b fun v => some (.val (.raw v) hp)
  | some (.raw (.string a)), some (.raw (.string b)) => strBin none op a b fun v => some (.val (.raw v) hp)
  | some (.raw (.bool a)), some (.raw (.bool b)) => match T.tys.get t with
    | some ti => match ti.und, op with
      | .bool, .eql => retB (a == b) fun v => some (.val (.raw v) hp)
      | .bool, .neq => retB (!(a == b)) fun v => some (.val (.raw v) hp)
      | _, _ => none
    | none => none
  | some (.raw (.complex k a b)), some (.raw (.complex k' c d)) => match op with
    | .eql => match k, k' with
      | .f64, .f64 => retB ((FloatKind.f64.format.order a c == some .eq) && (FloatKind.f64.format.order b d == some .eq)) fun v => some (.val (.raw v) hp)
      | _, _ => none
    | .neq => match k, k' with
      | .f64, .f64 => retB (!((FloatKind.f64.format.order a c == some .eq) && (FloatKind.f64.format.order b d == some .eq))) fun v => some (.val (.raw v) hp)
      | _, _ => none
    | _ => none
  | some (.agg as), some (.agg bs) => match T.tys.get t with
    | some ti => match ti.plain && Nat.beq as.length ti.size, keysEq as bs, op with
      | true, some r, .eql => retB r fun v => some (.val (.raw v) hp)
      | true, some r, .neq => retB (!r) fun v => some (.val (.raw v) hp)
      | _, _, _ => none
    | none => none
  | some a, some b => match T.tys.get t with
    | some ti => match refEq hp T ti.und a b, op with
      | some r, .eql => retB r fun v => some (.val (.raw v) hp)
      | some r, .neq => retB (!r) fun v => some (.val (.raw v) hp)
      | _, _ => none
    | none => none
  | _, _ => none

theorem opBin_old (op : BinOp) (t : TypeId) (x y : Operand) (T : Tab) (env : Tr AV) (hp : Hp) :
    opBin op t x y T env hp = Option.rec (motive := fun _ => OA) none (fun a => Option.rec (motive := fun _ => OA) none (fun b => binOld a b op t T hp) (eval y env)) (eval x env) := by
  unfold opBin
  cases eval x env with
  | none => rfl
  | some a => cases eval y env with
    | none => cases a <;> first | rfl | (rename_i v; cases v <;> rfl)
    | some b => rfl

noncomputable def mk64 (n : Nat) (hp : Hp) : OA :=
  Bool.rec (motive := fun _ => OA) (retI .i64 (wrapF .i64 (.ofNat n)) fun v => some (.val (.raw v) hp)) (forceN n fun n => some (.val (.raw (.int .i64 (.ofNat n))) hp)) (blt n 9223372036854775808)

theorem mk64_eq (n : Nat) (hp : Hp) : mk64 n hp = retI .i64 (wrapF .i64 (.ofNat n)) fun v => some (.val (.raw v) hp) := by
  unfold mk64
  cases h : blt n 9223372036854775808 with
  | false => rfl
  | true =>
    unfold retI wrapF
    simp only [h, forceI_eq, forceN_eq]

noncomputable def natOp (f : Nat → Nat → Hp → OA) (g : Int → Int → Hp → OA) (a : Int) : Int → Hp → OA :=
  Int.rec (motive := fun _ => Int → Hp → OA) (fun m b => Int.rec (motive := fun _ => Hp → OA) (fun n => f m n) (fun n => g (.ofNat m) (.negSucc n)) b) (fun m b => g (.negSucc m) b) a

theorem natOp_eq {f : Nat → Nat → Hp → OA} {g : Int → Int → Hp → OA} (h : ∀ m n hp, f m n hp = g (.ofNat m) (.ofNat n) hp) (a b : Int) (hp : Hp) : natOp f g a b hp = g a b hp := by
  cases a with
  | ofNat m => cases b with
    | ofNat n => exact h m n hp
    | negSucc n => rfl
  | negSucc m => rfl

noncomputable def old64 (op : BinOp) (a b : Int) (hp : Hp) : OA := intBin none op .i64 a .i64 b fun v => some (.val (.raw v) hp)

noncomputable def subN (m n : Nat) (hp : Hp) : OA :=
  Bool.rec (motive := fun _ => OA) (old64 .sub (.ofNat m) (.ofNat n) hp) (mk64 (Nat.sub m n) hp) (Nat.ble n m)

noncomputable def quoN (m n : Nat) (hp : Hp) : OA :=
  Bool.rec (motive := fun _ => OA) (mk64 (Nat.div m n) hp) none (Nat.beq n 0)

noncomputable def remN (m n : Nat) (hp : Hp) : OA :=
  Bool.rec (motive := fun _ => OA) (forceN (Nat.mod m n) fun n => some (.val (.raw (.int .i64 (.ofNat n))) hp)) none (Nat.beq n 0)

noncomputable def op64 (op : BinOp) : Int → Int → Hp → OA :=
  BinOp.rec (motive := fun _ => Int → Int → Hp → OA)
    (natOp (fun m n => mk64 (Nat.add m n)) (old64 .add))
    (natOp subN (old64 .sub))
    (natOp (fun m n => mk64 (Nat.mul m n)) (old64 .mul))
    (natOp quoN (old64 .quo))
    (natOp remN (old64 .rem))
    (fun _ _ _ => none) (fun _ _ _ => none) (fun _ _ _ => none) (fun _ _ _ => none) (fun _ _ _ => none) (fun _ _ _ => none)
    (natOp (fun m n => boolR (Nat.beq m n)) (old64 .eql))
    (natOp (fun m n => notR (Nat.beq m n)) (old64 .neq))
    (natOp (fun m n => boolR (Nat.ble (Nat.succ m) n)) (old64 .lss))
    (natOp (fun m n => boolR (Nat.ble m n)) (old64 .leq))
    (natOp (fun m n => boolR (Nat.ble (Nat.succ n) m)) (old64 .gtr))
    (natOp (fun m n => boolR (Nat.ble n m)) (old64 .geq)) op

theorem not_blt (m n : Nat) : (!blt n m) = Nat.ble m n := by
  unfold blt
  rw [Bool.eq_iff_iff, Bool.not_eq_true', ← Bool.not_eq_true, Nat.ble_eq, Nat.ble_eq]
  omega

theorem op64_eq (op : BinOp) (a b : Int) (hp : Hp) : op64 op a b hp = old64 op a b hp := by
  cases op with
  | add => exact natOp_eq (fun m n hp => by rw [mk64_eq]; rfl) a b hp
  | sub =>
    refine natOp_eq (fun m n hp => ?_) a b hp
    unfold subN
    cases h : Nat.ble n m with
    | false => rfl
    | true =>
      show mk64 (Nat.sub m n) hp = old64 .sub (.ofNat m) (.ofNat n) hp
      rw [mk64_eq]
      have hle := Nat.le_of_ble_eq_true h
      have e : Int.sub (.ofNat m) (.ofNat n) = .ofNat (Nat.sub m n) := by
        show (m : Int) - (n : Int) = ((m - n : Nat) : Int)
        omega
      show _ = (retI .i64 (wrapF .i64 (Int.sub (.ofNat m) (.ofNat n))) fun v => (some (.val (.raw v) hp) : OA))
      rw [e]
  | mul => exact natOp_eq (fun m n hp => by rw [mk64_eq]; rfl) a b hp
  | quo =>
    refine natOp_eq (fun m n hp => ?_) a b hp
    unfold quoN
    cases n with
    | zero => rfl
    | succ n => show mk64 _ hp = _; rw [mk64_eq]; rfl
  | rem =>
    refine natOp_eq (fun m n hp => ?_) a b hp
    unfold remN
    cases n with
    | zero => rfl
    | succ n => rfl
  | eql => exact natOp_eq (fun m n hp => by rw [boolR_eq]; rfl) a b hp
  | neq => exact natOp_eq (fun m n hp => by rw [notR_eq]; rfl) a b hp
  | lss => exact natOp_eq (fun m n hp => by rw [boolR_eq]; rfl) a b hp
  | leq => exact natOp_eq (fun m n hp => by rw [boolR_eq, ← not_blt]; rfl) a b hp
  | gtr => exact natOp_eq (fun m n hp => by rw [boolR_eq]; rfl) a b hp
  | geq => exact natOp_eq (fun m n hp => by rw [boolR_eq, ← not_blt]; rfl) a b hp
  | _ => rfl

/-! ### Binary operations -/

noncomputable def int2 (k : IntKind) : IntKind → BinOp → Int → Int → Hp → OA :=
  IntKind.rec (motive := fun _ => IntKind → BinOp → Int → Int → Hp → OA)
    (fun k' op a b hp => intBin none op .i8 a k' b fun v => some (.val (.raw v) hp))
    (fun k' op a b hp => intBin none op .i16 a k' b fun v => some (.val (.raw v) hp))
    (fun k' op a b hp => intBin none op .i32 a k' b fun v => some (.val (.raw v) hp))
    (IntKind.rec (motive := fun _ => BinOp → Int → Int → Hp → OA)
      (fun op a b hp => intBin none op .i64 a .i8 b fun v => some (.val (.raw v) hp))
      (fun op a b hp => intBin none op .i64 a .i16 b fun v => some (.val (.raw v) hp))
      (fun op a b hp => intBin none op .i64 a .i32 b fun v => some (.val (.raw v) hp))
      op64
      (fun op a b hp => intBin none op .i64 a .u8 b fun v => some (.val (.raw v) hp))
      (fun op a b hp => intBin none op .i64 a .u16 b fun v => some (.val (.raw v) hp))
      (fun op a b hp => intBin none op .i64 a .u32 b fun v => some (.val (.raw v) hp))
      (fun op a b hp => intBin none op .i64 a .u64 b fun v => some (.val (.raw v) hp)))
    (fun k' op a b hp => intBin none op .u8 a k' b fun v => some (.val (.raw v) hp))
    (fun k' op a b hp => intBin none op .u16 a k' b fun v => some (.val (.raw v) hp))
    (fun k' op a b hp => intBin none op .u32 a k' b fun v => some (.val (.raw v) hp))
    (fun k' op a b hp => intBin none op .u64 a k' b fun v => some (.val (.raw v) hp)) k

theorem int2_eq (k k' : IntKind) (op : BinOp) (a b : Int) (hp : Hp) : int2 k k' op a b hp = intBin none op k a k' b fun v => some (.val (.raw v) hp) := by
  cases k with
  | i64 => cases k' with
    | i64 => exact op64_eq op a b hp
    | _ => rfl
  | _ => rfl

abbrev BinT := BinOp → TypeId → Tab → Hp → OA

noncomputable def slowB (w v : Value) : BinT := fun op t T hp => binOld (.raw v) (.raw w) op t T hp

/-- The first is an integer. -/
noncomputable def binI (w : Value) : IntKind → Int → BinT :=
  Value.rec (motive_1 := fun _ => IntKind → Int → BinT) (motive_2 := fun _ => PUnit) (motive_3 := fun _ => PUnit)
    (fun b k n => slowB (.bool b) (.int k n))
    (fun k' n' k n op _ _ hp => int2 k k' op n n' hp)
    (fun k' b k n => slowB (.float k' b) (.int k n))
    (fun k' a b k n => slowB (.complex k' a b) (.int k n))
    (fun s k n => slowB (.string s) (.int k n))
    (fun a k n => slowB (.pointer a) (.int k n))
    (fun a l c k n => slowB (.slice a l c) (.int k n))
    (fun r k n => slowB (.map r) (.int k n))
    (fun r k n => slowB (.chan r) (.int k n))
    (fun f x y _ _ k n => slowB (.func f x y) (.int k n))
    (fun k n => slowB .nilFunc (.int k n))
    (fun t v _ k n => slowB (.iface t v) (.int k n))
    (fun k n => slowB .nilIface (.int k n))
    (fun c _ k n => slowB (.agg c) (.int k n))
    (fun c _ k n => slowB (.tuple c) (.int k n))
    (fun _ _ => ⟨⟩) ⟨⟩ (fun _ _ _ _ => ⟨⟩) w

theorem binI_eq (w : Value) (k : IntKind) (n : Int) (op : BinOp) (t : TypeId) (T : Tab) (hp : Hp) : binI w k n op t T hp = binOld (.raw (.int k n)) (.raw w) op t T hp := by
  cases w with
  | int k' n' => exact int2_eq k k' op n n' hp
  | _ => rfl

noncomputable def binV (v : Value) : Value → BinT :=
  Value.rec (motive_1 := fun _ => Value → BinT) (motive_2 := fun _ => PUnit) (motive_3 := fun _ => PUnit)
    (fun b w => slowB w (.bool b))
    (fun k n w => binI w k n)
    (fun k b w => slowB w (.float k b))
    (fun k a b w => slowB w (.complex k a b))
    (fun s w => slowB w (.string s))
    (fun a w => slowB w (.pointer a))
    (fun a l c w => slowB w (.slice a l c))
    (fun r w => slowB w (.map r))
    (fun r w => slowB w (.chan r))
    (fun f x y _ _ w => slowB w (.func f x y))
    (fun w => slowB w .nilFunc)
    (fun t v _ w => slowB w (.iface t v))
    (fun w => slowB w .nilIface)
    (fun c _ w => slowB w (.agg c))
    (fun c _ w => slowB w (.tuple c))
    (fun _ _ => ⟨⟩) ⟨⟩ (fun _ _ _ _ => ⟨⟩) v

theorem binV_eq (v w : Value) (op : BinOp) (t : TypeId) (T : Tab) (hp : Hp) : binV v w op t T hp = binOld (.raw v) (.raw w) op t T hp := by
  cases v with
  | int k n => exact binI_eq w k n op t T hp
  | _ => rfl

/-- By what a value is: plain, or not. -/
noncomputable def AV.caseRaw {β : Type} (f : Value → β) (g : AV → β) (a : AV) : β :=
  AV.rec (motive_1 := fun _ => β) (motive_2 := fun _ => PUnit) f (fun i o => g (.ptr i o)) (fun i o l lo ex es => g (.sl i o l lo ex es)) (fun ex => g (.sl0 ex)) (fun i => g (.map i)) (fun f x y _ _ => g (.fn f x y))
    (fun t v _ => g (.iface t v)) (fun l _ => g (.agg l)) (fun l _ => g (.tup l)) (g .any) ⟨⟩ (fun _ _ _ _ => ⟨⟩) a

noncomputable def binB (b : AV) : Value → BinT :=
  AV.caseRaw (fun w v => binV v w) (fun b v op t T hp => binOld (.raw v) b op t T hp) b

noncomputable def binA (a : AV) : AV → BinT :=
  AV.caseRaw (fun v b => binB b v) (fun a b op t T hp => binOld a b op t T hp) a

theorem binA_eq (a b : AV) (op : BinOp) (t : TypeId) (T : Tab) (hp : Hp) : binA a b op t T hp = binOld a b op t T hp := by
  cases a with
  | raw v => cases b with
    | raw w => exact binV_eq v w op t T hp
    | _ => rfl
  | _ => rfl

noncomputable def binO2 (b : Option AV) : AV → BinT := Option.rec (motive := fun _ => AV → BinT) (fun _ _ _ _ _ => none) (fun b a => binA a b) b
noncomputable def binO (a : Option AV) : Option AV → BinT := Option.rec (motive := fun _ => Option AV → BinT) (fun _ _ _ _ _ => none) (fun a b => binO2 b a) a

noncomputable def opBinQ (op : BinOp) (t : TypeId) (x y : Operand) (T : Tab) (env : Tr AV) (hp : Hp) : OA := binO (evalQ x env) (evalQ y env) op t T hp

theorem opBinQ_eq (op : BinOp) (t : TypeId) (x y : Operand) (T : Tab) (env : Tr AV) (hp : Hp) : opBinQ op t x y T env hp = opBin op t x y T env hp := by
  rw [opBin_old]
  unfold opBinQ
  rw [evalQ_eq, evalQ_eq]
  cases eval x env with
  | none => rfl
  | some a => cases eval y env with
    | none => rfl
    | some b => exact binA_eq a b op t T hp

/-! ### Moves -/

noncomputable def opMoveQ (x : Operand) (T : Tab) (env : Tr AV) (hp : Hp) : OA := valO (evalQ x env) hp

theorem opMoveQ_eq (x : Operand) (T : Tab) (env : Tr AV) (hp : Hp) : opMoveQ x T env hp = opMove x T env hp := by
  unfold opMoveQ opMove
  rw [evalQ_eq]
  cases eval x env <;> rfl

/-! ### Loads -/

noncomputable def loadB (b : Bool) : Tr AV → Nat → Nat → Hp → OA :=
  Bool.rec (motive := fun _ => Tr AV → Nat → Nat → Hp → OA) (fun tr off _ => valO (getA (path off) tr)) (fun tr off n => aggO (readQ n tr off)) b

noncomputable def loadT (o : Option TyI) : Tr AV → Nat → Hp → OA :=
  Option.rec (motive := fun _ => Tr AV → Nat → Hp → OA) (fun _ _ _ => none) (fun ti tr off => loadB ti.agg tr off ti.size) o

noncomputable def loadOb (o : AObj) : Nat → TypeId → Tab → Hp → OA :=
  AObj.rec (motive := fun _ => Nat → TypeId → Tab → Hp → OA) (fun _ _ tr off t T => loadT (T.tys.get t) tr off) (fun _ _ _ _ _ _ => none) (fun _ _ _ _ _ => none) o

noncomputable def loadP (o : Option AObj) : Nat → TypeId → Tab → Hp → OA :=
  Option.rec (motive := fun _ => Nat → TypeId → Tab → Hp → OA) (fun _ _ _ _ => none) loadOb o

noncomputable def AV.casePtr {β : Type} (f : Id → Nat → β) (g : AV → β) (a : AV) : β :=
  AV.rec (motive_1 := fun _ => β) (motive_2 := fun _ => PUnit) (fun v => g (.raw v)) f (fun i o l lo ex es => g (.sl i o l lo ex es)) (fun ex => g (.sl0 ex)) (fun i => g (.map i)) (fun f x y _ _ => g (.fn f x y))
    (fun t v _ => g (.iface t v)) (fun l _ => g (.agg l)) (fun l _ => g (.tup l)) (g .any) ⟨⟩ (fun _ _ _ _ => ⟨⟩) a

noncomputable def loadA (a : AV) : TypeId → Tab → Hp → OA :=
  AV.casePtr (fun i off t T hp => loadP (getO (path i) hp.h) off t T hp) (fun _ _ _ _ => none) a

noncomputable def loadO (o : Option AV) : TypeId → Tab → Hp → OA := Option.rec (motive := fun _ => TypeId → Tab → Hp → OA) (fun _ _ _ => none) loadA o

noncomputable def opLoadQ (t : TypeId) (x : Operand) (T : Tab) (env : Tr AV) (hp : Hp) : OA := loadO (evalQ x env) t T hp

theorem opLoadQ_eq (t : TypeId) (x : Operand) (T : Tab) (env : Tr AV) (hp : Hp) : opLoadQ t x T env hp = opLoad t x T env hp := by
  unfold opLoadQ opLoad
  rw [evalQ_eq]
  cases eval x env with
  | none => rfl
  | some a => cases a with
    | ptr i off =>
      show loadP (getO (path i) hp.h) off t T hp = _
      rw [getO_eq]
      dsimp only
      cases hp.h.get i with
      | none => rfl
      | some o => cases o with
        | cells n st tr =>
          show loadT (T.tys.get t) tr off hp = _
          dsimp only
          cases T.tys.get t with
          | none => rfl
          | some ti =>
            show loadB ti.agg tr off ti.size hp = _
            dsimp only
            cases ti.agg with
            | false => show valO (getA (path off) tr) hp = _; rw [getA_eq]; dsimp only; cases tr.get off <;> rfl
            | true => show aggO (readQ ti.size tr off) hp = _; rw [readQ_eq]; dsimp only; cases readCells tr ti.size off <;> rfl
        | _ => rfl
    | _ => rfl

/-! ### Stores -/

noncomputable def store1 (v : AV) (size n : Nat) (st : Kd) (tr : Tr AV) (i : Id) (off : Nat) (hp : Hp) : OA :=
  Bool.rec (motive := fun _ => OA) none (setAR (path off) v tr fun tr => setOR (path i) (.cells n st tr) hp.h fun h => some (.val undefA ⟨h, hp.next⟩)) (Bool.rec (motive := fun _ => Bool) false (Nat.ble (Nat.succ off) n) (Nat.beq size 1))

noncomputable def storeN (v : AV) (size n : Nat) (st : Kd) (tr : Tr AV) (i : Id) (off : Nat) (hp : Hp) : OA :=
  lenK v.cells fun m => match Nat.beq size m, Nat.ble (off + m) n with
          | true, true => writeCells v.cells tr off fun tr => putObj hp i (.cells n st tr) fun hp => some (.val undefA hp)
          | _, _ => none

noncomputable def storeNQ (v : AV) (size n : Nat) (st : Kd) (tr : Tr AV) (i : Id) (off : Nat) (hp : Hp) : OA :=
  Bool.rec (motive := fun _ => OA) none (writeR v.cells tr off fun tr => setOR (path i) (.cells n st tr) hp.h fun h => some (.val undefA ⟨h, hp.next⟩)) (Bool.rec (motive := fun _ => Bool) false (Nat.ble (Nat.add off size) n) (Nat.beq size v.cells.length))

theorem storeNQ_eq (v : AV) (size n : Nat) (st : Kd) (tr : Tr AV) (i : Id) (off : Nat) (hp : Hp) : storeNQ v size n st tr i off hp = storeN v size n st tr i off hp := by
  unfold storeNQ storeN lenK
  rw [forceN_eq]
  cases hs : Nat.beq size v.cells.length with
  | false => rfl
  | true =>
    have e := Nat.eq_of_beq_eq_true hs
    show Bool.rec (motive := fun _ => OA) none _ (Nat.ble (off + size) n) = _
    rw [← e]
    cases Nat.ble (off + size) n with
    | false => rfl
    | true =>
      show (writeR v.cells tr off fun tr => setOR (path i) (.cells n st tr) hp.h fun h => (some (.val undefA ⟨h, hp.next⟩) : OA)) = writeCells v.cells tr off fun tr => putObj hp i (.cells n st tr) fun hp => (some (.val undefA hp) : OA)
      rw [writeR_eq, writeCells_eq, writeCells_eq, setOR_eq]
      unfold putObj
      rw [Tr.set_eq]

theorem store1_eq (v : AV) (size n : Nat) (st : Kd) (tr : Tr AV) (i : Id) (off : Nat) (hp : Hp) (h : v.cells = [v]) : store1 v size n st tr i off hp = storeN v size n st tr i off hp := by
  unfold store1 storeN
  rw [h]
  unfold lenK
  rw [forceN_eq]
  show _ = (match Nat.beq size 1, Nat.ble (off + 1) n with
          | true, true => writeCells [v] tr off fun tr => putObj hp i (.cells n st tr) fun hp => (some (.val undefA hp) : OA)
          | _, _ => (none : OA))
  cases Nat.beq size 1 with
  | false => rfl
  | true =>
    show Bool.rec (motive := fun _ => OA) none _ (Nat.ble (off + 1) n) = _
    cases Nat.ble (off + 1) n with
    | false => rfl
    | true =>
      show (setAR (path off) v tr fun tr => setOR (path i) (.cells n st tr) hp.h fun h => (some (.val undefA ⟨h, hp.next⟩) : OA)) = tr.set off v fun t => forceN (Nat.succ off) fun _ => putObj hp i (.cells n st t) fun hp => (some (.val undefA hp) : OA)
      rw [setAR_eq, setOR_eq]
      have e := Tr.set_eq tr off v (fun t => forceN (Nat.succ off) fun _ => putObj hp i (.cells n st t) fun hp => (some (.val undefA hp) : OA))
      rw [e, forceN_eq]
      unfold putObj
      rw [Tr.set_eq]

noncomputable def storeW (v : AV) : Nat → Nat → Kd → Tr AV → Id → Nat → Hp → OA :=
  AV.rec (motive_1 := fun _ => Nat → Nat → Kd → Tr AV → Id → Nat → Hp → OA) (motive_2 := fun _ => PUnit) (fun v => store1 (.raw v)) (fun i o => store1 (.ptr i o)) (fun i o l lo ex es => store1 (.sl i o l lo ex es)) (fun ex => store1 (.sl0 ex))
    (fun i => store1 (.map i)) (fun f x y _ _ => store1 (.fn f x y)) (fun t v _ => store1 (.iface t v)) (fun l _ => storeNQ (.agg l)) (fun l _ _ _ _ _ _ _ _ => none) (store1 .any) ⟨⟩ (fun _ _ _ _ => ⟨⟩) v

noncomputable def storeT (o : Option TyI) : AV → Nat → Kd → Tr AV → Id → Nat → Hp → OA :=
  Option.rec (motive := fun _ => AV → Nat → Kd → Tr AV → Id → Nat → Hp → OA) (fun _ _ _ _ _ _ _ => none) (fun ti v => storeW v ti.size) o

noncomputable def storeOb (o : AObj) : AV → Id → Nat → TypeId → Tab → Hp → OA :=
  AObj.rec (motive := fun _ => AV → Id → Nat → TypeId → Tab → Hp → OA) (fun n st tr v i off t T => storeT (T.tys.get t) v n st tr i off) (fun _ _ _ _ _ _ _ _ => none) (fun _ _ _ _ _ _ _ => none) o

noncomputable def storeP (o : Option AObj) : AV → Id → Nat → TypeId → Tab → Hp → OA :=
  Option.rec (motive := fun _ => AV → Id → Nat → TypeId → Tab → Hp → OA) (fun _ _ _ _ _ _ => none) storeOb o

noncomputable def storeV (o : Option AV) : Id → Nat → TypeId → Tab → Hp → OA :=
  Option.rec (motive := fun _ => Id → Nat → TypeId → Tab → Hp → OA) (fun _ _ _ _ _ => none) (fun v i off t T hp => storeP (getO (path i) hp.h) v i off t T hp) o

noncomputable def storeA (a : AV) : Option AV → TypeId → Tab → Hp → OA :=
  AV.casePtr (fun i off o => storeV o i off) (fun _ _ _ _ _ => none) a

noncomputable def storeO (o : Option AV) : Option AV → TypeId → Tab → Hp → OA :=
  Option.rec (motive := fun _ => Option AV → TypeId → Tab → Hp → OA) (fun _ _ _ _ => none) storeA o

noncomputable def opStoreQ (t : TypeId) (x y : Operand) (T : Tab) (env : Tr AV) (hp : Hp) : OA := storeO (evalQ x env) (evalQ y env) t T hp

theorem opStoreQ_eq (t : TypeId) (x y : Operand) (T : Tab) (env : Tr AV) (hp : Hp) : opStoreQ t x y T env hp = opStore t x y T env hp := by
  unfold opStoreQ opStore
  rw [evalQ_eq, evalQ_eq]
  cases eval x env with
  | none => rfl
  | some a => cases a with
    | ptr i off =>
      show storeV (eval y env) i off t T hp = _
      dsimp only
      cases eval y env with
      | none => rfl
      | some v =>
        show storeP (getO (path i) hp.h) v i off t T hp = _
        rw [getO_eq]
        have key : ∀ v : AV, (∀ l, v ≠ .tup l) → storeP (hp.h.get i) v i off t T hp = (match hp.h.get i with
            | some (.cells n st tr) => match T.tys.get t with
              | some ti => storeN v ti.size n st tr i off hp
              | none => none
            | _ => none) := by
          intro v hv
          cases hp.h.get i with
          | none => rfl
          | some o => cases o with
            | cells n st tr =>
              show storeT (T.tys.get t) v n st tr i off hp = _
              dsimp only
              cases T.tys.get t with
              | none => rfl
              | some ti =>
                show storeW v ti.size n st tr i off hp = storeN v ti.size n st tr i off hp
                cases v with
                | tup l => exact absurd rfl (hv l)
                | agg l => exact storeNQ_eq _ _ _ _ _ _ _ _
                | _ => exact store1_eq _ _ _ _ _ _ _ _ rfl
            | _ => rfl
        cases v with
        | tup l =>
          dsimp only
          cases hp.h.get i with
          | none => rfl
          | some o => cases o with
            | cells n st tr =>
              show storeT (T.tys.get t) _ n st tr i off hp = _
              cases T.tys.get t <;> rfl
            | _ => rfl
        | _ => exact key _ (fun l h => by cases h)
    | _ => rfl

end Go.Ab
