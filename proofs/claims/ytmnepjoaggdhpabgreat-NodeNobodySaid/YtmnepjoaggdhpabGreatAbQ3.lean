/-
  THE ABSTRACT MACHINE, QUICK: steps, regions, code, runs.
-/
import Derived.Test.YtmnepjoaggdhpabGreatAbQ2
set_option linter.unusedVariables false
namespace Go.Ab

abbrev KT := Tr AV → Hp → Out

/-! ### One step -/

noncomputable def putQ (dst : Option Tmp) : Nat → Tr AV → AV → Hp → KT → Out :=
  Option.rec (motive := fun _ => Nat → Tr AV → AV → Hp → KT → Out) (fun _ env _ hp k => k env hp)
    (fun d nt env v hp k => Bool.rec (motive := fun _ => Out) .bad (setAW (path d) v env fun env => k env hp) (blt d nt)) dst

theorem putQ_eq (dst : Option Tmp) (nt : Nat) (env : Tr AV) (v : AV) (hp : Hp) (k : KT) : putQ dst nt env v hp k = putDst nt env dst v fun env => k env hp := by
  cases dst with
  | none => rfl
  | some d =>
    show Bool.rec (motive := fun _ => Out) .bad (setAW (path d) v env fun env => k env hp) (blt d nt) = _
    unfold putDst
    rw [setAW_eq]
    simp only [Tr.set_eq]
    cases blt d nt <;> rfl

noncomputable def retQ (o : Out) : Option Tmp → Nat → Tr AV → KT → Out :=
  Out.rec (motive := fun _ => Option Tmp → Nat → Tr AV → KT → Out) (fun _ _ _ _ _ _ _ => .bad) (fun v hp dst nt env k => putQ dst nt env v hp k) (fun _ _ _ _ => .bad) o

noncomputable def resQ (r : ARes) : Rec → Hp → Option Tmp → Nat → Tr AV → KT → Out :=
  ARes.rec (motive := fun _ => Rec → Hp → Option Tmp → Nat → Tr AV → KT → Out) (fun v hp _ _ dst nt env k => putQ dst nt env v hp k) (fun f args rec hp dst nt env k => retQ (rec (.call f args) hp) dst nt env k) r

noncomputable def resO (o : OA) : Rec → Hp → Option Tmp → Nat → Tr AV → KT → Out :=
  Option.rec (motive := fun _ => Rec → Hp → Option Tmp → Nat → Tr AV → KT → Out) (fun _ _ _ _ _ _ => .bad) resQ o

theorem resO_eq (o : OA) (rec : Rec) (hp : Hp) (dst : Option Tmp) (nt : Nat) (env : Tr AV) (k : KT) : resO o rec hp dst nt env k = (match o with
    | some (.val v hp) => putDst nt env dst v fun env => k env hp
    | some (.call f args) => match rec (.call f args) hp with
      | .ret v hp => putDst nt env dst v fun env => k env hp
      | _ => .bad
    | none => .bad) := by
  cases o with
  | none => rfl
  | some r => cases r with
    | val v hp => exact putQ_eq dst nt env v hp k
    | call f args =>
      show retQ (rec (.call f args) hp) dst nt env k = _
      dsimp only
      cases rec (.call f args) hp with
      | ret v hp => exact putQ_eq dst nt env v hp k
      | _ => rfl

noncomputable def wantV (v : Value) : Bool → Option Bool :=
  Value.rec (motive_1 := fun _ => Bool → Option Bool) (motive_2 := fun _ => PUnit) (motive_3 := fun _ => PUnit)
    (fun b want => Bool.rec (motive := fun _ => Option Bool) (Bool.rec (motive := fun _ => Option Bool) (some true) (some false) want) (Bool.rec (motive := fun _ => Option Bool) (some false) (some true) want) b)
    (fun _ _ _ => none) (fun _ _ _ => none) (fun _ _ _ _ => none) (fun _ _ => none) (fun _ _ => none) (fun _ _ _ _ => none) (fun _ _ => none) (fun _ _ => none) (fun _ _ _ _ _ _ => none) (fun _ => none) (fun _ _ _ _ => none) (fun _ => none) (fun _ _ _ => none) (fun _ _ _ => none)
    (fun _ _ => ⟨⟩) ⟨⟩ (fun _ _ _ _ => ⟨⟩) v

noncomputable def wantA (a : AV) : Bool → Option Bool :=
  AV.rec (motive_1 := fun _ => Bool → Option Bool) (motive_2 := fun _ => PUnit) wantV (fun _ _ _ => none) (fun _ _ _ _ _ _ _ => none) (fun _ _ => none) (fun _ _ => none) (fun _ _ _ _ _ _ => none)
    (fun _ _ _ _ => none) (fun _ _ _ => none) (fun l _ _ => List.rec (motive := fun _ => Option Bool) (some false) (fun _ _ _ => none) l) (fun _ => none) ⟨⟩ (fun _ _ _ _ => ⟨⟩) a

noncomputable def wantO (o : Option AV) : Bool → Option Bool := Option.rec (motive := fun _ => Bool → Option Bool) (fun _ => none) wantA o

noncomputable def guardDst (ops : List Oper) (j : Nat) : Option Tmp :=
  match ops[j]? with
  | some o => o.dst
  | none => none

noncomputable def wantD (d : Option Tmp) : Tr AV → Bool → Option Bool := Option.rec (motive := fun _ => Tr AV → Bool → Option Bool) (fun _ _ => none) (fun d env => wantO (getA (path d) env)) d

noncomputable def wantQ (g : Option (Nat × Bool)) : List Oper → Tr AV → Option Bool :=
  Option.rec (motive := fun _ => List Oper → Tr AV → Option Bool) (fun _ _ => some true) (fun g ops env => wantD (guardDst ops g.1) env g.2) g

theorem wantQ_eq (g : Option (Nat × Bool)) (ops : List Oper) (env : Tr AV) : wantQ g ops env = wantedA g ops env := by
  cases g with
  | none => rfl
  | some g =>
    obtain ⟨j, want⟩ := g
    show wantD (guardDst ops j) env want = _
    unfold wantedA guardDst
    dsimp only
    cases ops[j]? with
    | none => rfl
    | some o =>
      dsimp only
      cases o.dst with
      | none => rfl
      | some d =>
        show wantO (getA (path d) env) want = _
        rw [getA_eq]
        dsimp only
        cases env.get d with
        | none => rfl
        | some a => cases a with
          | raw v => cases v with
            | bool b => cases b <;> cases want <;> rfl
            | _ => rfl
          | tup l => cases l <;> rfl
          | _ => rfl

noncomputable def stepW (w : Bool) : Rec → Tab → Nat → Oper → Tr AV → Hp → KT → Out :=
  Bool.rec (motive := fun _ => Rec → Tab → Nat → Oper → Tr AV → Hp → KT → Out) (fun _ _ nt o env hp k => putQ o.dst nt env undefA hp k) (fun rec T nt o env hp k => resO (opQ o.op T env hp) rec hp o.dst nt env k) w

noncomputable def stepO (w : Option Bool) : Rec → Tab → Nat → Oper → Tr AV → Hp → KT → Out :=
  Option.rec (motive := fun _ => Rec → Tab → Nat → Oper → Tr AV → Hp → KT → Out) (fun _ _ _ _ _ _ _ => .bad) stepW w

noncomputable def stepTextQ (rec : Rec) (T : Tab) (nt : Nat) (all : List Oper) (o : Oper) (env : Tr AV) (hp : Hp) (k : KT) : Out := stepO (wantQ o.guard all env) rec T nt o env hp k

theorem stepTextQ_eq (rec : Rec) (T : Tab) (nt : Nat) (all : List Oper) (o : Oper) (env : Tr AV) (hp : Hp) (k : KT) : stepTextQ rec T nt all o env hp k = stepText rec T nt all o env hp k := by
  unfold stepTextQ stepText
  rw [wantQ_eq]
  cases wantedA o.guard all env with
  | none => rfl
  | some w => cases w with
    | false => exact putQ_eq _ _ _ _ _ _
    | true =>
      show resO (opQ o.op T env hp) rec hp o.dst nt env k = _
      rw [resO_eq, opQ_eq]; rfl

noncomputable def runTextQ (rec : Rec) (T : Tab) (nt : Nat) (all : List Oper) (l : List Oper) : Tr AV → Hp → Out :=
  List.rec (motive := fun _ => Tr AV → Hp → Out) (fun env hp => .fin .normal env hp) (fun o _ ih env hp => stepTextQ rec T nt all o env hp ih) l

theorem runTextQ_eq (rec : Rec) (T : Tab) (nt : Nat) (all : List Oper) : ∀ l, runTextQ rec T nt all l = runText rec T nt all l
  | [] => rfl
  | o :: l => by
    funext env hp
    show stepTextQ rec T nt all o env hp (runTextQ rec T nt all l) = stepText rec T nt all o env hp (runText rec T nt all l)
    rw [stepTextQ_eq, runTextQ_eq rec T nt all l]

/-! ### Regions that draw -/

abbrev K3 := Tr AV → Hp → List (Tr AObj) → Out

noncomputable def putS (dst : Option Tmp) : Nat → Tr AV → AV → Hp → List (Tr AObj) → K3 → Out :=
  Option.rec (motive := fun _ => Nat → Tr AV → AV → Hp → List (Tr AObj) → K3 → Out) (fun _ env _ hp sn k => k env hp sn)
    (fun d nt env v hp sn k => Bool.rec (motive := fun _ => Out) .bad (setAW (path d) v env fun env => k env hp sn) (blt d nt)) dst

theorem putS_eq (dst : Option Tmp) (nt : Nat) (env : Tr AV) (v : AV) (hp : Hp) (sn : List (Tr AObj)) (k : K3) : putS dst nt env v hp sn k = putDst nt env dst v fun env => k env hp sn := by
  cases dst with
  | none => rfl
  | some d =>
    show Bool.rec (motive := fun _ => Out) .bad (setAW (path d) v env fun env => k env hp sn) (blt d nt) = _
    unfold putDst
    rw [setAW_eq]
    simp only [Tr.set_eq]
    cases blt d nt <;> rfl

/-- An effect. -/
noncomputable def effRet (o : Out) : Option Tmp → Nat → Tr AV → List (Tr AObj) → K3 → Out :=
  Out.rec (motive := fun _ => Option Tmp → Nat → Tr AV → List (Tr AObj) → K3 → Out) (fun _ _ _ _ _ _ _ _ => .bad) (fun v hp dst nt env sn k => putS dst nt env v hp (hp.h :: sn) k) (fun _ _ _ _ _ => .bad) o

noncomputable def effR (r : ARes) : Rec → Hp → Option Tmp → Nat → Tr AV → List (Tr AObj) → K3 → Out :=
  ARes.rec (motive := fun _ => Rec → Hp → Option Tmp → Nat → Tr AV → List (Tr AObj) → K3 → Out) (fun v hp _ _ dst nt env sn k => putS dst nt env v hp (hp.h :: sn) k) (fun f args rec hp dst nt env sn k => effRet (rec (.call f args) hp) dst nt env sn k) r

noncomputable def effO (o : OA) : Rec → Hp → Option Tmp → Nat → Tr AV → List (Tr AObj) → K3 → Out :=
  Option.rec (motive := fun _ => Rec → Hp → Option Tmp → Nat → Tr AV → List (Tr AObj) → K3 → Out) (fun _ _ _ _ _ _ _ => .bad) effR o

theorem effO_eq (o : OA) (rec : Rec) (hp : Hp) (dst : Option Tmp) (nt : Nat) (env : Tr AV) (sn : List (Tr AObj)) (k : K3) : effO o rec hp dst nt env sn k = (match o with
      | some (.val v hp) => putDst nt env dst v fun env => k env hp (hp.h :: sn)
      | some (.call f args) => match rec (.call f args) hp with
        | .ret v hp => putDst nt env dst v fun env => k env hp (hp.h :: sn)
        | _ => .bad
      | none => .bad) := by
  cases o with
  | none => rfl
  | some r => cases r with
    | val v hp => exact putS_eq dst nt env v hp _ k
    | call f args =>
      show effRet (rec (.call f args) hp) dst nt env sn k = _
      dsimp only
      cases rec (.call f args) hp with
      | ret v hp => exact putS_eq dst nt env v hp _ k
      | _ => rfl

/-! Would it tell the same in each of these memories? -/

noncomputable def sameO (v : AV) (o : OA) : Bool → Bool :=
  Option.rec (motive := fun _ => Bool → Bool) (fun _ => false) (fun r => ARes.rec (motive := fun _ => Bool → Bool) (fun v' _ ih => Bool.rec (motive := fun _ => Bool) false ih (avEq v' v)) (fun _ _ _ => false) r) o

noncomputable def stableQ (T : Tab) (o : Op) (v : AV) (env : Tr AV) (l : List (Tr AObj)) : Bool :=
  List.rec (motive := fun _ => Bool) true (fun h _ ih => sameO v (opQ o T env ⟨h, 0⟩) ih) l

theorem stableQ_eq (T : Tab) (o : Op) (v : AV) (env : Tr AV) : ∀ l, stableQ T o v env l = stable T o v env l
  | [] => rfl
  | h :: l => by
    show sameO v (opQ o T env ⟨h, 0⟩) (stableQ T o v env l) = _
    rw [opQ_eq, stableQ_eq T o v env l]
    show _ = (match opA o T env ⟨h, 0⟩ with
    | some (.val v' _) => match avEq v' v with
      | true => stable T o v env l
      | false => false
    | _ => false)
    cases opA o T env ⟨h, 0⟩ with
    | none => rfl
    | some r => cases r with
      | val v' hp =>
        show Bool.rec (motive := fun _ => Bool) false (stable T o v env l) (avEq v' v) = _
        dsimp only
        cases avEq v' v <;> rfl
      | call f args => rfl

noncomputable def pureL (b : Bool) : AV → Hp → Oper → Nat → Tab → Nat → Tr AV → List (Tr AObj) → K3 → Out :=
  Bool.rec (motive := fun _ => AV → Hp → Oper → Nat → Tab → Nat → Tr AV → List (Tr AObj) → K3 → Out) (fun v hp o _ _ nt env sn k => putS o.dst nt env v hp sn k)
    (fun v hp o lo T nt env sn k => Bool.rec (motive := fun _ => Out) .bad (putS o.dst nt env v hp sn k) (stableQ T o.op v env (sn.take (sn.length - lo)))) b

noncomputable def pureR (r : ARes) : Oper → Nat → Tab → Nat → Tr AV → List (Tr AObj) → K3 → Out :=
  ARes.rec (motive := fun _ => Oper → Nat → Tab → Nat → Tr AV → List (Tr AObj) → K3 → Out) (fun v hp o lo T => pureL (isLoad T o.op) v hp o lo T) (fun _ _ _ _ _ _ _ _ _ => .bad) r

noncomputable def pureO (o : OA) : Oper → Nat → Tab → Nat → Tr AV → List (Tr AObj) → K3 → Out :=
  Option.rec (motive := fun _ => Oper → Nat → Tab → Nat → Tr AV → List (Tr AObj) → K3 → Out) (fun _ _ _ _ _ _ _ => .bad) pureR o

theorem pureO_eq (r : OA) (o : Oper) (lo : Nat) (T : Tab) (nt : Nat) (env : Tr AV) (sn : List (Tr AObj)) (k : K3) : pureO r o lo T nt env sn k = (match r with
      | some (.val v hp) => match isLoad T o.op with
        | false => putDst nt env o.dst v fun env => k env hp sn
        | true => match stable T o.op v env (sn.take (sn.length - lo)) with
          | true => putDst nt env o.dst v fun env => k env hp sn
          | false => .bad
      | _ => .bad) := by
  cases r with
  | none => rfl
  | some r => cases r with
    | val v hp =>
      show pureL (isLoad T o.op) v hp o lo T nt env sn k = _
      dsimp only
      cases isLoad T o.op with
      | false => exact putS_eq _ _ _ _ _ _ _
      | true =>
        show Bool.rec (motive := fun _ => Out) .bad (putS o.dst nt env v hp sn k) (stableQ T o.op v env (sn.take (sn.length - lo))) = _
        rw [stableQ_eq]
        dsimp only
        cases stable T o.op v env (sn.take (sn.length - lo)) with
        | false => rfl
        | true => exact putS_eq _ _ _ _ _ _ _
    | call f args => rfl

noncomputable def slotDo (e : Bool) : Oper → Nat → Rec → Tab → Nat → Tr AV → Hp → List (Tr AObj) → K3 → Out :=
  Bool.rec (motive := fun _ => Oper → Nat → Rec → Tab → Nat → Tr AV → Hp → List (Tr AObj) → K3 → Out)
    (fun o lo _ T nt env hp sn k => pureO (opQ o.op T env hp) o lo T nt env sn k)
    (fun o _ rec T nt env hp sn k => effO (opQ o.op T env hp) rec hp o.dst nt env sn k) e

noncomputable def slotSkip (e : Bool) : Oper → Nat → Rec → Tab → Nat → Tr AV → Hp → List (Tr AObj) → K3 → Out :=
  Bool.rec (motive := fun _ => Oper → Nat → Rec → Tab → Nat → Tr AV → Hp → List (Tr AObj) → K3 → Out)
    (fun o _ _ _ nt env hp sn k => putS o.dst nt env undefA hp sn k)
    (fun o _ _ _ nt env hp sn k => putS o.dst nt env undefA hp (hp.h :: sn) k) e

noncomputable def slotW (w : Bool) : Bool → Oper → Nat → Rec → Tab → Nat → Tr AV → Hp → List (Tr AObj) → K3 → Out :=
  Bool.rec (motive := fun _ => Bool → Oper → Nat → Rec → Tab → Nat → Tr AV → Hp → List (Tr AObj) → K3 → Out) slotSkip slotDo w

noncomputable def slotE (w : Option Bool) : Bool → Oper → Nat → Rec → Tab → Nat → Tr AV → Hp → List (Tr AObj) → K3 → Out :=
  Option.rec (motive := fun _ => Bool → Oper → Nat → Rec → Tab → Nat → Tr AV → Hp → List (Tr AObj) → K3 → Out) (fun _ _ _ _ _ _ _ _ _ _ => .bad) slotW w

noncomputable def slotO (o : Option Oper) : Nat → Rec → Tab → Nat → List Oper → Tr AV → Hp → List (Tr AObj) → K3 → Out :=
  Option.rec (motive := fun _ => Nat → Rec → Tab → Nat → List Oper → Tr AV → Hp → List (Tr AObj) → K3 → Out) (fun _ _ _ _ _ _ _ _ _ => .bad)
    (fun o lo rec T nt all env hp sn k => slotE (wantQ o.guard all env) (isEff T o.op) o lo rec T nt env hp sn k) o

noncomputable def stepSlotQ (rec : Rec) (T : Tab) (nt : Nat) (all : List Oper) (s : Nat × Nat) (env : Tr AV) (hp : Hp) (sn : List (Tr AObj)) (k : K3) : Out :=
  slotO (nthQ s.1 all) s.2 rec T nt all env hp sn k

theorem stepSlotQ_eq (rec : Rec) (T : Tab) (nt : Nat) (all : List Oper) (s : Nat × Nat) (env : Tr AV) (hp : Hp) (sn : List (Tr AObj)) (k : K3) : stepSlotQ rec T nt all s env hp sn k = stepSlot rec T nt all s env hp sn k := by
  unfold stepSlotQ stepSlot
  rw [nthQ_eq]
  cases all[s.1]? with
  | none => rfl
  | some o =>
    show slotE (wantQ o.guard all env) (isEff T o.op) o s.2 rec T nt env hp sn k = _
    rw [wantQ_eq]
    dsimp only
    cases wantedA o.guard all env with
    | none => rfl
    | some w =>
      cases isEff T o.op with
      | true => cases w with
        | true =>
          show effO (opQ o.op T env hp) rec hp o.dst nt env sn k = _
          rw [effO_eq, opQ_eq]; rfl
        | false => exact putS_eq _ _ _ _ _ _ _
      | false => cases w with
        | true =>
          show pureO (opQ o.op T env hp) o s.2 T nt env sn k = _
          rw [pureO_eq, opQ_eq]; rfl
        | false => exact putS_eq _ _ _ _ _ _ _

noncomputable def runSlotsQ (rec : Rec) (T : Tab) (nt : Nat) (all : List Oper) (l : List (Nat × Nat)) : Tr AV → Hp → List (Tr AObj) → Out :=
  List.rec (motive := fun _ => Tr AV → Hp → List (Tr AObj) → Out) (fun env hp _ => .fin .normal env hp) (fun s _ ih env hp sn => stepSlotQ rec T nt all s env hp sn ih) l

theorem runSlotsQ_eq (rec : Rec) (T : Tab) (nt : Nat) (all : List Oper) : ∀ l, runSlotsQ rec T nt all l = runSlots rec T nt all l
  | [] => rfl
  | s :: l => by
    funext env hp sn
    show stepSlotQ rec T nt all s env hp sn (runSlotsQ rec T nt all l) = stepSlot rec T nt all s env hp sn (runSlots rec T nt all l)
    rw [stepSlotQ_eq, runSlotsQ_eq rec T nt all l]

noncomputable def slotsQ (o : Option (List (Nat × Nat))) : List Oper → Rec → Tab → Nat → Tr AV → Hp → Out :=
  Option.rec (motive := fun _ => List Oper → Rec → Tab → Nat → Tr AV → Hp → Out) (fun _ _ _ _ _ _ => .bad) (fun slots ops rec T nt env hp => runSlotsQ rec T nt ops slots env hp [hp.h]) o

noncomputable def regionQ (draw : Bool) : List Oper → Rec → Tab → Nat → Tr AV → Hp → Out :=
  Bool.rec (motive := fun _ => List Oper → Rec → Tab → Nat → Tr AV → Hp → Out) (fun ops rec T nt env hp => runTextQ rec T nt ops ops env hp) (fun ops rec T nt env hp => slotsQ (planOf T ops) ops rec T nt env hp) draw

theorem regionQ_eq (ops : List Oper) (draw : Bool) (rec : Rec) (T : Tab) (nt : Nat) (env : Tr AV) (hp : Hp) : regionQ draw ops rec T nt env hp = runRegion ops draw rec T nt env hp := by
  unfold runRegion
  cases draw with
  | false => show runTextQ rec T nt ops ops env hp = _; rw [runTextQ_eq]
  | true =>
    show slotsQ (planOf T ops) ops rec T nt env hp = _
    dsimp only
    cases planOf T ops with
    | none => rfl
    | some slots => show runSlotsQ rec T nt ops slots env hp [hp.h] = _; rw [runSlotsQ_eq]

/-! ### Results -/

noncomputable def resvQ (r : ResultVar) : Tab → Tr AV → Hp → Option AV :=
  ResultVar.rec (motive := fun _ => Tab → Tr AV → Hp → Option AV) (fun t _ env _ => getA (path t) env) (fun a t T env hp => resultA T env hp (.cell a t)) r

noncomputable def ressQ (l : List ResultVar) : Tab → Tr AV → Hp → Option (List AV) :=
  List.rec (motive := fun _ => Tab → Tr AV → Hp → Option (List AV)) (fun _ _ _ => some []) (fun r _ ih T env hp => consQ (resvQ r T env hp) (ih T env hp)) l

theorem ressQ_eq (T : Tab) (env : Tr AV) (hp : Hp) : ∀ l, ressQ l T env hp = resultsA T env hp l
  | [] => rfl
  | r :: l => by
    show consQ (resvQ r T env hp) (ressQ l T env hp) = consO (resultA T env hp r) (resultsA T env hp l)
    rw [consQ_eq, ressQ_eq T env hp l]
    cases r with
    | tmp t => show consO (getA (path t) env) _ = _; rw [getA_eq]; rfl
    | _ => rfl

noncomputable def retL (l : List AV) : Hp → Out :=
  List.rec (motive := fun _ => Hp → Out) (fun hp => .ret (.tup []) hp) (fun a l _ => List.rec (motive := fun _ => AV → Hp → Out) (fun a hp => .ret a hp) (fun b l _ a hp => .ret (.tup (a :: b :: l)) hp) l a) l

noncomputable def leaveO (o : Option (List AV)) : Hp → Out := Option.rec (motive := fun _ => Hp → Out) (fun _ => .bad) retL o

noncomputable def leaveQ (T : Tab) (fn : Func) (env : Tr AV) (hp : Hp) : Out := leaveO (ressQ fn.results.toList T env hp) hp

theorem leaveQ_eq (T : Tab) (fn : Func) (env : Tr AV) (hp : Hp) : leaveQ T fn env hp = leave T fn env hp := by
  unfold leaveQ leave
  rw [ressQ_eq]
  cases resultsA T env hp fn.results.toList with
  | none => rfl
  | some l => cases l with
    | nil => rfl
    | cons a l => cases l <;> rfl

/-! ### Code -/

noncomputable def exitK (e : AExit) : Tr AV → Hp → KT → Out :=
  AExit.rec (motive := fun _ => Tr AV → Hp → KT → Out) (fun env hp k => k env hp) (fun id env hp _ => .fin (.exit id) env hp) (fun l env hp _ => .fin (.goto l) env hp) (fun env hp _ => .fin .ret env hp) e

noncomputable def thenQ (o : Out) : KT → Out :=
  Out.rec (motive := fun _ => KT → Out) exitK (fun v hp _ => .ret v hp) (fun _ => .bad) o

theorem thenQ_eq (o : Out) (k : KT) : thenQ o k = o.thenN k := by
  cases o with
  | fin e env hp => cases e <;> rfl
  | _ => rfl

noncomputable def exitB (e : AExit) : Nat → Tr AV → Hp → Out :=
  AExit.rec (motive := fun _ => Nat → Tr AV → Hp → Out) (fun _ env hp => .fin .normal env hp)
    (fun id' id env hp => Bool.rec (motive := fun _ => Out) (.fin (.exit id') env hp) (.fin .normal env hp) (Nat.beq id' id)) (fun l _ env hp => .fin (.goto l) env hp) (fun _ env hp => .fin .ret env hp) e

noncomputable def unblockQ (o : Out) : Nat → Out :=
  Out.rec (motive := fun _ => Nat → Out) (fun e env hp id => exitB e id env hp) (fun v hp _ => .ret v hp) (fun _ => .bad) o

theorem unblockQ_eq (o : Out) (id : Nat) : unblockQ o id = o.unblock id := by
  cases o with
  | fin e env hp => cases e with
    | exit id' =>
      show Bool.rec (motive := fun _ => Out) (.fin (.exit id') env hp) (.fin .normal env hp) (Nat.beq id' id) = _
      unfold Out.unblock
      dsimp only
      cases Nat.beq id' id <;> rfl
    | _ => rfl
  | _ => rfl

noncomputable def boolV {β : Type} (f g h : β) (v : Value) : β :=
  Value.rec (motive_1 := fun _ => β) (motive_2 := fun _ => PUnit) (motive_3 := fun _ => PUnit)
    (fun b => Bool.rec (motive := fun _ => β) g f b) (fun _ _ => h) (fun _ _ => h) (fun _ _ _ => h) (fun _ => h) (fun _ => h) (fun _ _ _ => h) (fun _ => h) (fun _ => h) (fun _ _ _ _ _ => h) h (fun _ _ _ => h) h (fun _ _ => h) (fun _ _ => h)
    (fun _ _ => ⟨⟩) ⟨⟩ (fun _ _ _ _ => ⟨⟩) v

abbrev CondT := Code → Code → Rec → Nat → Tr AV → Hp → Out

noncomputable def condV (v : Value) : CondT := boolV (fun a _ rec nt env hp => rec (.code a nt env) hp) (fun _ b rec nt env hp => rec (.code b nt env) hp) (fun _ _ _ _ _ _ => .bad) v
noncomputable def condA (a : AV) : CondT := AV.caseRaw condV (fun _ _ _ _ _ _ _ => .bad) a
noncomputable def condO (o : Option AV) : CondT := Option.rec (motive := fun _ => CondT) (fun _ _ _ _ _ _ => .bad) condA o

theorem condO_eq (c : Operand) (a b : Code) (rec : Rec) (T : Tab) (nt : Nat) (env : Tr AV) (hp : Hp) : condO (evalQ c env) a b rec nt env hp = runCond c a b rec T nt env hp := by
  unfold runCond
  rw [evalQ_eq]
  cases eval c env with
  | none => rfl
  | some x => cases x with
    | raw v => cases v with
      | bool t => cases t <;> rfl
      | _ => rfl
    | _ => rfl

noncomputable def codeQ (c : Code) : Rec → Tab → Nat → Tr AV → Hp → Out :=
  Code.rec (motive := fun _ => Rec → Tab → Nat → Tr AV → Hp → Out)
    (fun _ _ _ env hp => .fin .normal env hp)
    (fun _ ops draw => regionQ draw ops.toList)
    (fun a b _ _ rec _ nt env hp => thenQ (rec (.code a nt env) hp) fun env hp => rec (.code b nt env) hp)
    (fun c a b _ _ rec _ nt env hp => condO (evalQ c env) a b rec nt env hp)
    (fun id b _ rec _ nt env hp => unblockQ (rec (.code b nt env) hp) id)
    (fun b _ rec _ nt env hp => thenQ (rec (.code b nt env) hp) fun env hp => rec (.code (.loop b) nt env) hp)
    (fun _ _ _ _ _ _ _ _ _ _ _ => .bad)
    (fun id _ _ _ env hp => .fin (.exit id) env hp)
    (fun c _ rec _ nt env hp => rec (.scope c c nt env) hp)
    (fun _ _ _ _ env hp => .fin .normal env hp)
    (fun l _ _ _ env hp => .fin (.goto l) env hp)
    (fun _ _ _ env hp => .fin .ret env hp)
    (fun _ _ _ _ _ _ => .bad) c

theorem codeQ_eq (c : Code) (rec : Rec) (T : Tab) (nt : Nat) (env : Tr AV) (hp : Hp) : codeQ c rec T nt env hp = runCode c rec T nt env hp := by
  cases c with
  | region id ops draw => exact regionQ_eq _ _ _ _ _ _ _
  | seq a b => exact thenQ_eq _ _
  | cond c a b => exact condO_eq c a b rec T nt env hp
  | block id b => exact unblockQ_eq _ _
  | loop b => exact thenQ_eq _ _
  | _ => rfl

noncomputable def endE (e : AExit) : Tab → Func → Tr AV → Hp → Out :=
  AExit.rec (motive := fun _ => Tab → Func → Tr AV → Hp → Out) leaveQ (fun _ _ _ _ _ => .bad) (fun _ _ _ _ _ => .bad) leaveQ e

noncomputable def endQ (o : Out) : Tab → Func → Out :=
  Out.rec (motive := fun _ => Tab → Func → Out) (fun e env hp T fn => endE e T fn env hp) (fun _ _ _ _ => .bad) (fun _ _ => .bad) o

noncomputable def argsQ (args : List AV) : Tr AV → Nat → (Tr AV → Out) → Out :=
  List.rec (motive := fun _ => Tr AV → Nat → (Tr AV → Out) → Out) (fun t _ k => k t) (fun a _ ih t i k => setAW (path i) a t fun t => ih t (Nat.succ i) k) args

theorem argsQ_eq : ∀ (l : List AV) (t : Tr AV) (i : Nat) (k : Tr AV → Out), argsQ l t i k = argsEnv l t i k
  | [], _, _, _ => rfl
  | a :: l, t, i, k => by
    show (setAW (path i) a t fun t => argsQ l t (Nat.succ i) k) = t.set i a fun t => forceN (Nat.succ i) fun i => argsEnv l t i k
    rw [setAW_eq, Tr.set_eq, forceN_eq, argsQ_eq l]

noncomputable def callB (c : Option Code) : Func → List AV → Rec → Tab → Hp → Out :=
  Option.rec (motive := fun _ => Func → List AV → Rec → Tab → Hp → Out) (fun _ _ _ _ _ => .bad)
    (fun c fn args rec T hp => Bool.rec (motive := fun _ => Out) .bad (argsQ args .nil 0 fun env => endQ (rec (.code c fn.ntmps env) hp) T fn) (Nat.ble args.length fn.ntmps)) c

noncomputable def callFQ (o : Option Func) : List AV → Rec → Tab → Hp → Out :=
  Option.rec (motive := fun _ => List AV → Rec → Tab → Hp → Out) (fun _ _ _ _ => .bad) (fun fn args rec T hp => callB fn.body fn args rec T hp) o

theorem callFQ_eq (f : FuncId) (args : List AV) (rec : Rec) (T : Tab) (hp : Hp) : callFQ (T.fns.get f) args rec T hp = runCall f args rec T hp := by
  unfold runCall
  cases T.fns.get f with
  | none => rfl
  | some fn =>
    show callB fn.body fn args rec T hp = _
    dsimp only
    cases fn.body with
    | none => rfl
    | some c =>
      show Bool.rec (motive := fun _ => Out) .bad (argsQ args .nil 0 fun env => endQ (rec (.code c fn.ntmps env) hp) T fn) (Nat.ble args.length fn.ntmps) = _
      dsimp only
      cases Nat.ble args.length fn.ntmps with
      | false => rfl
      | true =>
        show (argsQ args .nil 0 fun env => endQ (rec (.code c fn.ntmps env) hp) T fn) = _
        rw [argsQ_eq]
        dsimp only
        congr 1
        funext env
        cases rec (.code c fn.ntmps env) hp with
        | fin e env hp => cases e with
          | normal => exact leaveQ_eq _ _ _ _
          | ret => exact leaveQ_eq _ _ _ _
          | _ => rfl
        | _ => rfl

noncomputable def taskQ (t : Task) : Rec → Tab → Hp → Out :=
  Task.rec (motive := fun _ => Rec → Tab → Hp → Out) (fun c nt env rec T hp => codeQ c rec T nt env hp) (fun c at_ nt env rec _ hp => runScope c at_ nt env rec hp) (fun f args rec T hp => callFQ (T.fns.get f) args rec T hp) t

theorem taskQ_eq (t : Task) (rec : Rec) (T : Tab) (hp : Hp) : taskQ t rec T hp = runF T rec t hp := by
  cases t with
  | code c nt env => exact codeQ_eq _ _ _ _ _ _
  | scope c a nt env => rfl
  | call f args => exact callFQ_eq _ _ _ _ _

noncomputable def runQ (T : Tab) (n : Nat) : Task → Hp → Out :=
  Nat.rec (motive := fun _ => Task → Hp → Out) (fun _ _ => .bad) (fun _ ih t hp => taskQ t ih T hp) n

theorem runQ_eq (T : Tab) : ∀ n, runQ T n = run T n
  | 0 => rfl
  | n + 1 => by
    funext t hp
    show taskQ t (runQ T n) T hp = runF T (run T n) t hp
    rw [taskQ_eq, runQ_eq T n]

end Go.Ab
