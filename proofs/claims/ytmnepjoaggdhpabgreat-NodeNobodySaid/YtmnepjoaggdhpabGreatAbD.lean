/-
  THE ABSTRACT MACHINE's REGIONS AND RUNS. A region that draws its order is run in one canonical order (effects in their chain, each behind what must come ahead of it and behind nothing else), under checks: the chain, the temporaries, and that each load tells the same wherever it may come.
-/
import Derived.Test.YtmnepjoaggdhpabGreatAbC
set_option linter.unusedVariables false
namespace Go.Ab

inductive AExit where
  | normal
  | exit (id : Nat)
  | goto (l : Nat)
  | ret
  deriving DecidableEq, Inhabited

inductive Out where
  | fin (e : AExit) (env : Tr AV) (hp : Hp)
  | ret (v : AV) (hp : Hp)
  | bad

inductive Task where
  | code (c : Code) (nt : Nat) (env : Tr AV)
  | scope (c at_ : Code) (nt : Nat) (env : Tr AV)
  | call (f : FuncId) (args : List AV)

/-! ### One operation -/

noncomputable def wantedA (g : Option (Nat × Bool)) (ops : List Oper) (env : Tr AV) : Option Bool :=
  match g with
  | none => some true
  | some (j, want) => match ops[j]? with
    | some oj => match oj.dst with
      | some d => match env.get d with
        | some (.raw (.bool b)) => forceB (b == want) fun r => some r
        | some (.tup []) => some false
        | _ => none
      | none => none
    | none => none

noncomputable def putDst (nt : Nat) (env : Tr AV) (dst : Option Tmp) (v : AV) (k : Tr AV → Out) : Out :=
  match dst with
  | none => k env
  | some d => match blt d nt with
    | true => env.set d v k
    | false => .bad

noncomputable def onRes (rec : Task → Hp → Out) (r : Option ARes) (k : AV → Hp → Out) : Out :=
  match r with
  | some (.val v hp) => k v hp
  | _ => .bad

noncomputable def stepText (rec : Task → Hp → Out) (T : Tab) (nt : Nat) (all : List Oper) (o : Oper) (env : Tr AV) (hp : Hp) (k : Tr AV → Hp → Out) : Out :=
  match wantedA o.guard all env with
  | some true => match opA o.op T env hp with
    | some (.val v hp) => putDst nt env o.dst v fun env => k env hp
    | some (.call f args) => match rec (.call f args) hp with
      | .ret v hp => putDst nt env o.dst v fun env => k env hp
      | _ => .bad
    | none => .bad
  | some false => putDst nt env o.dst undefA fun env => k env hp
  | none => .bad

noncomputable def runText (rec : Task → Hp → Out) (T : Tab) (nt : Nat) (all : List Oper) (l : List Oper) : Tr AV → Hp → Out :=
  List.rec (motive := fun _ => Tr AV → Hp → Out) (fun env hp => .fin .normal env hp) (fun o _ ih env hp => stepText rec T nt all o env hp ih) l

/-! ### Regions that draw -/

noncomputable def isEff (T : Tab) : Op → Bool
  | .move _ | .assign _ | .pick .. | .alloc _ | .box .. | .build .. | .buildSlice .. | .load .. | .nilCheck _ | .binOp .. | .unOp .. | .makeFunc .. | .makeMap .. | .makeSlice ..
  | .slice .. | .fieldAddr .. | .field .. | .indexAddr .. | .index .. | .lookup .. | .extract .. => false
  | .convert _ d _ => match T.tys.get d with
    | some ti => match ti.und with
      | .slice _ => true
      | .pointer _ => true
      | .unsafePointer => true
      | _ => false
    | none => true
  | .call { callee := .builtin b, .. } => match b with
    | .len | .min | .max | .real | .imag | .complex => false
    | _ => true
  | _ => true

/-- Does it read memory? -/
noncomputable def isLoad (T : Tab) : Op → Bool
  | .load .. | .lookup .. => true
  | .convert _ d _ => match T.tys.get d with
    | some ti => match ti.und with
      | .int _ => false
      | .float _ => false
      | _ => true
    | none => true
  | .binOp _ t .. => match T.tys.get t with
    | some ti => match ti.und with
      | .pointer _ => true
      | _ => false
    | none => true
  | .call { callee := .builtin .len, .. } => true
  | _ => false

def preds (o : Oper) : List Nat := o.after.toList.filterMap fun e => if Region.binds .any e then some e.on else none

def looks (ops : List Oper) (o : Oper) : List Tmp :=
  (o.op.operands.toList.filterMap fun | .tmp t => some t | _ => none) ++
  (match o.guard with
   | some (g, _) => ((ops[g]?).bind (·.dst)).toList
   | none => [])

noncomputable def effAt (T : Tab) (ops : List Oper) (i : Nat) : Bool :=
  match ops[i]? with
  | some o => isEff T o.op
  | none => false

/-! Plans: an order, computed, then checked. -/

noncomputable def tb (m i : Nat) : Bool := Nat.beq (Nat.land (Nat.shiftRight m i) 1) 1
noncomputable def bit (i : Nat) : Nat := Nat.shiftLeft 1 i

def bindsAny (e : Edge) : Bool :=
  match e.ground with
  | .textOnly _ => false
  | .gcOnly _ => false
  | _ => true

/-- Of some edges: what they come behind, and all that is ahead of that. -/
noncomputable def maskE {β : Type} (A : Tr Nat) (bad : β) (l : List Edge) : Nat → (Nat → β) → β :=
  List.rec (motive := fun _ => Nat → (Nat → β) → β) (fun m k => k m)
    (fun e _ ih m k => Bool.rec (motive := fun _ => β) (ih m k)
      (Option.rec (motive := fun _ => β) bad (fun x => forceN (Nat.lor (Nat.lor m x) (bit e.on)) fun m => ih m k) (A.get e.on)) (bindsAny e)) l

/-- The masks of all operations, and who writes each temporary. -/
noncomputable def scan {β : Type} (bad : β) (k : Tr Nat → Tr Nat → Tr Oper → β) (l : List Oper) : Nat → Tr Nat → Tr Nat → Tr Oper → β :=
  List.rec (motive := fun _ => Nat → Tr Nat → Tr Nat → Tr Oper → β) (fun _ A W O => k A W O)
    (fun o _ ih j A W O => maskE A bad o.after.toList 0 fun m => A.set j m fun A => O.set j o fun O => forceN (Nat.succ j) fun j' =>
      Option.rec (motive := fun _ => β) (ih j' A W O) (fun d => Option.rec (motive := fun _ => β) (W.set d j fun W => ih j' A W O) (fun _ => bad) (W.get d)) o.dst) l

/-- A list in two. -/
noncomputable def parts {β : Type} (m : Nat) (l : List Nat) : List Nat → List Nat → (List Nat → List Nat → β) → β :=
  List.rec (motive := fun _ => List Nat → List Nat → (List Nat → List Nat → β) → β) (fun x y k => k x y)
    (fun i _ ih x y k => Bool.rec (motive := fun _ => β) (ih x (i :: y) k) (ih (i :: x) y k) (tb m i)) l

/-- The order, from behind: for each effect, what must come ahead of it, then it. acc: what is listed, the last first. -/
noncomputable def orderE {β : Type} (A : Tr Nat) (effs : List Nat) : List Nat → List Nat → (List Nat → β) → β :=
  List.rec (motive := fun _ => List Nat → List Nat → (List Nat → β) → β) (fun R acc k => k (R.reverse ++ acc))
    (fun e _ ih R acc k => Option.rec (motive := fun _ => β) (k []) (fun m => parts m R [] [] fun x y => parts (bit e) y.reverse [] [] fun _ y' => ih y'.reverse (e :: (x ++ acc)) k) (A.get e)) effs

/-- All edges' ends are listed. -/
noncomputable def edgesOk (done : Nat) (l : List Edge) : Bool :=
  List.rec (motive := fun _ => Bool) true (fun e _ ih => Bool.rec (motive := fun _ => Bool) ih (Bool.rec (motive := fun _ => Bool) false ih (tb done e.on)) (bindsAny e)) l

/-- Which effect, of those listed, is the last that comes ahead: how many there are up to it. -/
noncomputable def lastIn (m : Nat) (es : List Nat) : Nat → Nat :=
  List.rec (motive := fun _ => Nat → Nat) (fun _ => 0) (fun e _ ih k => Bool.rec (motive := fun _ => Nat) (ih (Nat.pred k)) k (tb m e)) es

/-- Is this temporary written by what is tied to the operation? -/
noncomputable def tmpOk (A W : Tr Nat) (j m : Nat) (t : Tmp) : Bool :=
  Option.rec (motive := fun _ => Bool) true (fun i => Bool.rec (motive := fun _ => Bool)
    (Bool.rec (motive := fun _ => Bool) (Option.rec (motive := fun _ => Bool) false (fun m' => tb m' j) (A.get i)) true (tb m i)) true (Nat.beq i j)) (W.get t)

noncomputable def operandOk (A W : Tr Nat) (j m : Nat) : Operand → Bool
  | .tmp t => tmpOk A W j m t
  | _ => true

noncomputable def operandsOk (A W : Tr Nat) (j m : Nat) (l : List Operand) : Bool :=
  List.rec (motive := fun _ => Bool) true (fun x _ ih => Bool.rec (motive := fun _ => Bool) false ih (operandOk A W j m x)) l

noncomputable def guardOk (A W : Tr Nat) (O : Tr Oper) (j m : Nat) : Option (Nat × Bool) → Bool
  | none => true
  | some (g, _) => match O.get g with
    | some o => match o.dst with
      | some t => tmpOk A W j m t
      | none => true
    | none => true

/-- An order's slots, if it is one. -/
noncomputable def check (T : Tab) (A W : Tr Nat) (O : Tr Oper) (n : Nat) (l : List Nat) : Nat → Nat → List Nat → (List (Nat × Nat) → List (Nat × Nat)) → Option (List (Nat × Nat)) :=
  List.rec (motive := fun _ => Nat → Nat → List Nat → (List (Nat × Nat) → List (Nat × Nat)) → Option (List (Nat × Nat)))
    (fun done _ _ out => Bool.rec (motive := fun _ => Option (List (Nat × Nat))) none (some (out [])) (Nat.beq (Nat.succ done) (Nat.shiftLeft 1 n)))
    (fun i _ ih done k es out => Option.rec (motive := fun _ => Option (List (Nat × Nat))) none (fun o => Option.rec (motive := fun _ => Option (List (Nat × Nat))) none (fun m =>
      Bool.rec (motive := fun _ => Option (List (Nat × Nat))) none
        (forceN (Nat.lor done (bit i)) fun done' => Bool.rec (motive := fun _ => Option (List (Nat × Nat)))
          (forceN (Bool.rec (motive := fun _ => Nat) 0 (lastIn m es k) (isLoad T o.op)) fun lo => ih done' k es fun r => out ((i, lo) :: r))
          (Bool.rec (motive := fun _ => Option (List (Nat × Nat))) none (forceN (Nat.succ k) fun k' => ih done' k' (i :: es) fun r => out ((i, 0) :: r)) (Nat.beq (Nat.land done m) done))
          (isEff T o.op))
        (Bool.rec (motive := fun _ => Bool) (Bool.rec (motive := fun _ => Bool) false (Bool.rec (motive := fun _ => Bool) false (guardOk A W O i m o.guard) (operandsOk A W i m o.op.operands.toList)) (edgesOk done o.after.toList)) false (tb done i)))
      (A.get i)) (O.get i)) l

noncomputable def effsIn (T : Tab) (l : List Oper) : Nat → List Nat :=
  List.rec (motive := fun _ => Nat → List Nat) (fun _ => []) (fun o _ ih j => Bool.rec (motive := fun _ => List Nat) (ih (Nat.succ j)) (j :: ih (Nat.succ j)) (isEff T o.op)) l

noncomputable def upTo (l : List Oper) : Nat → List Nat :=
  List.rec (motive := fun _ => Nat → List Nat) (fun _ => []) (fun _ _ ih j => j :: ih (Nat.succ j)) l

noncomputable def planOf (T : Tab) (ops : List Oper) : Option (List (Nat × Nat)) :=
  scan none (fun A W O => orderE A (effsIn T ops 0) (upTo ops 0) [] fun acc => check T A W O ops.length acc.reverse 0 0 [] fun r => r) ops 0 .nil .nil .nil


mutual
def avEq : AV → AV → Bool
  | .raw a, .raw b => match scalEq a b with
    | some r => r
    | none => match a, b with
      | .pointer none, .pointer none => true
      | .slice none 0 0, .slice none 0 0 => true
      | .map none, .map none => true
      | .nilFunc, .nilFunc => true
      | .nilIface, .nilIface => true
      | .complex .f64 a b, .complex .f64 c d => Nat.beq a c && Nat.beq b d
      | _, _ => false
  | .ptr i a, .ptr j b => Nat.beq i j && Nat.beq a b
  | .sl i o l c x e, .sl i' o' l' c' x' e' => Nat.beq i i' && Nat.beq o o' && Nat.beq l l' && Nat.beq c c' && (x == x') && Nat.beq e e'
  | .sl0 a, .sl0 b => a == b
  | .map i, .map j => Nat.beq i j
  | .fn (.func f) [] a, .fn (.func g) [] b => Nat.beq f g && avsEq a b
  | .agg a, .agg b => avsEq a b
  | .tup a, .tup b => avsEq a b
  | .any, .any => true
  | _, _ => false
def avsEq : List AV → List AV → Bool
  | [], [] => true
  | a :: as, b :: bs => match avEq a b with
    | true => avsEq as bs
    | false => false
  | _, _ => false
end

/-- Would it tell the same in each of these memories? -/
noncomputable def stable (T : Tab) (o : Op) (v : AV) (env : Tr AV) : List (Tr AObj) → Bool
  | [] => true
  | h :: hs => match opA o T env ⟨h, 0⟩ with
    | some (.val v' _) => match avEq v' v with
      | true => stable T o v env hs
      | false => false
    | _ => false

noncomputable def stepSlot (rec : Task → Hp → Out) (T : Tab) (nt : Nat) (all : List Oper) (s : Nat × Nat) (env : Tr AV) (hp : Hp) (snaps : List (Tr AObj))
    (k : Tr AV → Hp → List (Tr AObj) → Out) : Out :=
  match all[s.1]? with
  | none => .bad
  | some o => match wantedA o.guard all env, isEff T o.op with
    | some true, true => match opA o.op T env hp with
      | some (.val v hp) => putDst nt env o.dst v fun env => k env hp (hp.h :: snaps)
      | some (.call f args) => match rec (.call f args) hp with
        | .ret v hp => putDst nt env o.dst v fun env => k env hp (hp.h :: snaps)
        | _ => .bad
      | none => .bad
    | some true, false => match opA o.op T env hp with
      | some (.val v hp) => match isLoad T o.op with
        | false => putDst nt env o.dst v fun env => k env hp snaps
        | true => match stable T o.op v env (snaps.take (snaps.length - s.2)) with
          | true => putDst nt env o.dst v fun env => k env hp snaps
          | false => .bad
      | _ => .bad
    | some false, true => putDst nt env o.dst undefA fun env => k env hp (hp.h :: snaps)
    | some false, false => putDst nt env o.dst undefA fun env => k env hp snaps
    | none, _ => .bad

noncomputable def runSlots (rec : Task → Hp → Out) (T : Tab) (nt : Nat) (all : List Oper) (l : List (Nat × Nat)) : Tr AV → Hp → List (Tr AObj) → Out :=
  List.rec (motive := fun _ => Tr AV → Hp → List (Tr AObj) → Out) (fun env hp _ => .fin .normal env hp) (fun s _ ih env hp snaps => stepSlot rec T nt all s env hp snaps ih) l

/-! ### Results -/

noncomputable def resultA (T : Tab) (env : Tr AV) (hp : Hp) : ResultVar → Option AV
  | .tmp t => env.get t
  | .cell a t => match env.get a with
    | some (.ptr i off) => match hp.h.get i, T.tys.get t with
      | some (.cells _ _ tr), some ti => match ti.agg with
        | true => match readCells tr ti.size off with
          | some l => some (.agg l)
          | none => none
        | false => tr.get off
      | _, _ => none
    | _ => none

noncomputable def resultsA (T : Tab) (env : Tr AV) (hp : Hp) : List ResultVar → Option (List AV)
  | [] => some []
  | r :: rs => consO (resultA T env hp r) (resultsA T env hp rs)

def tupA : List AV → AV
  | [v] => v
  | vs => .tup vs

noncomputable def leave (T : Tab) (fn : Func) (env : Tr AV) (hp : Hp) : Out :=
  match resultsA T env hp fn.results.toList with
  | some vs => .ret (tupA vs) hp
  | none => .bad

/-! ### Code -/

noncomputable def Out.thenN (o : Out) (k : Tr AV → Hp → Out) : Out :=
  match o with
  | .fin .normal env hp => k env hp
  | o => o

noncomputable def Out.unblock (id : Nat) (o : Out) : Out :=
  match o with
  | .fin (.exit id') env hp => match Nat.beq id' id with
    | true => .fin .normal env hp
    | false => .fin (.exit id') env hp
  | o => o

abbrev Rec := Task → Hp → Out

noncomputable def runCond (c : Operand) (a b : Code) (rec : Rec) (T : Tab) (nt : Nat) (env : Tr AV) (hp : Hp) : Out :=
  match eval c env with
  | some (.raw (.bool true)) => rec (.code a nt env) hp
  | some (.raw (.bool false)) => rec (.code b nt env) hp
  | _ => .bad

noncomputable def runRegion (ops : List Oper) (draw : Bool) (rec : Rec) (T : Tab) (nt : Nat) (env : Tr AV) (hp : Hp) : Out :=
  match draw with
  | false => runText rec T nt ops ops env hp
  | true => match planOf T ops with
    | some slots => runSlots rec T nt ops slots env hp [hp.h]
    | none => .bad

noncomputable def runCode : Code → Rec → Tab → Nat → Tr AV → Hp → Out
  | .skip => fun _ _ _ env hp => .fin .normal env hp
  | .label _ => fun _ _ _ env hp => .fin .normal env hp
  | .exit id => fun _ _ _ env hp => .fin (.exit id) env hp
  | .goto l => fun _ _ _ env hp => .fin (.goto l) env hp
  | .ret => fun _ _ _ env hp => .fin .ret env hp
  | .seq a b => fun rec _ nt env hp => (rec (.code a nt env) hp).thenN fun env hp => rec (.code b nt env) hp
  | .cond c a b => runCond c a b
  | .block id b => fun rec _ nt env hp => (rec (.code b nt env) hp).unblock id
  | .loop b => fun rec _ nt env hp => (rec (.code b nt env) hp).thenN fun env hp => rec (.code (.loop b) nt env) hp
  | .scope c => fun rec _ nt env hp => rec (.scope c c nt env) hp
  | .region _ ops draw => runRegion ops.toList draw
  | _ => fun _ _ _ _ _ => .bad

noncomputable def argsEnv (args : List AV) : Tr AV → Nat → (Tr AV → Out) → Out :=
  List.rec (motive := fun _ => Tr AV → Nat → (Tr AV → Out) → Out) (fun t _ k => k t) (fun a _ ih t i k => t.set i a fun t => forceN (Nat.succ i) fun i => ih t i k) args

noncomputable def runCall (f : FuncId) (args : List AV) (rec : Rec) (T : Tab) (hp : Hp) : Out :=
  match T.fns.get f with
  | none => .bad
  | some fn => match fn.body with
    | none => .bad
    | some c => match Nat.ble args.length fn.ntmps with
      | false => .bad
      | true => argsEnv args .nil 0 fun env => match rec (.code c fn.ntmps env) hp with
        | .fin .normal env hp => leave T fn env hp
        | .fin .ret env hp => leave T fn env hp
        | _ => .bad

noncomputable def runScope (c at_ : Code) (nt : Nat) (env : Tr AV) (rec : Rec) (hp : Hp) : Out :=
  match rec (.code at_ nt env) hp with
  | .fin (.goto l) env hp => match findLabel c l with
    | some rest => rec (.scope c rest nt env) hp
    | none => .fin (.goto l) env hp
  | o => o

noncomputable def runF (T : Tab) (rec : Rec) (t : Task) (hp : Hp) : Out :=
  match t with
  | .code c nt env => runCode c rec T nt env hp
  | .scope c at_ nt env => runScope c at_ nt env rec hp
  | .call f args => runCall f args rec T hp

noncomputable def run (T : Tab) (n : Nat) : Task → Hp → Out :=
  Nat.rec (motive := fun _ => Task → Hp → Out) (fun _ _ => .bad) (fun _ ih t hp => runF T ih t hp) n

end Go.Ab
