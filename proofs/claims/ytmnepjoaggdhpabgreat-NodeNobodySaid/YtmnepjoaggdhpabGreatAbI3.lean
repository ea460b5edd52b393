/-
  THE ABSTRACT MACHINE, QUICK: operations made ready; regions, code, runs over them.
-/
import Derived.Test.YtmnepjoaggdhpabGreatAbI2
set_option linter.unusedVariables false
namespace Go.Ab

noncomputable def genI (T : Tab) (nt : Nat) (all : List Oper) (o : Oper) : Ins := .gen fun rec env hp k => stepTextQ rec T nt all o env hp k

noncomputable def binI2 (op : BinOp) (t : TypeId) (T : Tab) (d : Pa) (g : Ins) : Option Src → Option Src → Ins
  | some x, some y => .bin op x y t T d
  | _, _ => g

noncomputable def lodI (s : Option Src) (ti : Option TyI) (d : Pa) (g : Ins) : Ins :=
  match s, ti with
  | some (.tmp p), some ti => .lod p ti.agg ti.size d
  | _, _ => g

noncomputable def unaI (s : Option Src) (f : Pa → Ins) (g : Ins) : Ins :=
  match s with
  | some (.tmp p) => f p
  | _ => g

noncomputable def movI (s : Option Src) (d : Pa) (g : Ins) : Ins :=
  match s with
  | some (.tmp p) => .mov p d
  | some (.con v) => .con v d
  | none => g

noncomputable def fadI (s : Option Src) (fo : Option Nat) (d : Pa) (g : Ins) : Ins :=
  match s, fo with
  | some (.tmp p), some fo => .fad p fo d
  | _, _ => g

noncomputable def iadI (s ix : Option Src) (size : Option Nat) (d : Pa) (g : Ins) : Ins :=
  match s, ix, size with
  | some (.tmp p), some ix, some size => .iad p ix size d
  | _, _, _ => g

noncomputable def picI (c a b : Option Src) (d : Pa) (g : Ins) : Ins :=
  match c, a, b with
  | some c, some a, some b => .pic c a b d
  | _, _, _ => g

noncomputable def alcI (o : Option AObj) (d : Pa) (g : Ins) : Ins :=
  match o with
  | some o => .alc o d
  | none => g

noncomputable def stoI (x y : Option Src) (ti : Option TyI) (g : Ins) : Ins :=
  match x, y, ti with
  | some (.tmp p), some y, some ti => .sto p y ti.size
  | _, _, _ => g

noncomputable def isSlice (ti : Option TyI) : Bool :=
  match ti with
  | some ti => match ti.und with
    | .slice _ => true
    | _ => false
  | none => false

noncomputable def lenI (T : Tab) (tys : List TypeId) (args : List Operand) (d : Pa) (g : Ins) : Ins :=
  match tys, args with
  | [t], [x] => match isSlice (T.tys.get t), srcOf x with
    | true, some (.tmp p) => .len p d
    | _, _ => g
  | _, _ => g

noncomputable def calI (f : FuncId) (l : Option (List Src)) (d : Option Tmp) (nt : Nat) (g : Ins) : Ins :=
  match l with
  | some l => .cal f l d nt
  | none => g

/-- With a place for what it answers. -/
noncomputable def dstI (T : Tab) (op : Op) (d : Pa) (g : Ins) : Ins :=
  match op with
  | .move x => movI (srcOf x) d g
  | .assign x => movI (srcOf x) d g
  | .load t x => lodI (srcOf x) (T.tys.get t) d g
  | .fieldAddr s x f => fadI (srcOf x) (fieldAt T s f) d g
  | .nilCheck x => unaI (srcOf x) (fun p => .chk p d) g
  | .indexAddr t x ix => iadI (srcOf x) (srcOf ix) (sliceElem T t) d g
  | .binOp op t x y _ => binI2 op t T d g (srcOf x) (srcOf y)
  | .extract x i => unaI (srcOf x) (fun p => .ext p i d) g
  | .pick c a b => picI (srcOf c) (srcOf a) (srcOf b) d g
  | .alloc t => alcI (zeroOb T t) d g
  | .call { callee := .builtin .len, args := args, argTypes := tys } => lenI T tys.toList args.toList d g
  | _ => g

noncomputable def insOf (T : Tab) (nt : Nat) (all : List Oper) (o : Oper) : Ins :=
  match o.guard with
  | some _ => genI T nt all o
  | none => match o.op with
    | .call { callee := .value (.func f), args := args, .. } => match T.ext f with
      | false => calI f (srcsOf args.toList) o.dst nt (genI T nt all o)
      | true => genI T nt all o
    | op => match o.dst with
      | none => match op with
        | .store t x y => stoI (srcOf x) (srcOf y) (T.tys.get t) (genI T nt all o)
        | _ => genI T nt all o
      | some t => match regOf t nt with
        | some d => dstI T op d (genI T nt all o)
        | none => genI T nt all o

section
variable {T : Tab} {nt : Nat} {t : Tmp} {d : Pa} {env : Tr AV} {hp : Hp} {k : KT} {rec : Rec} {all : List Oper} {o : Oper}

theorem genI_eq : stepI (genI T nt all o) rec env hp k = stepText rec T nt all o env hp k := stepTextQ_eq rec T nt all o env hp k

/-- An instruction for an operation. -/
def IsI (T : Tab) (nt : Nat) (all : List Oper) (o : Oper) (i : Ins) : Prop := ∀ rec env hp k, stepI i rec env hp k = stepText rec T nt all o env hp k

theorem genI_is : IsI T nt all o (genI T nt all o) := fun _ _ _ _ => genI_eq

theorem tmp_eq {x : Operand} {p : Pa} (h : srcOf x = some (.tmp p)) (env : Tr AV) : getR p env = eval x env := srcOf_eq h env

theorem dstI_is (hg : o.guard = none) (hd : o.dst = some t) (hr : regOf t nt = some d) : IsI T nt all o (dstI T o.op d (genI T nt all o)) := by
  obtain ⟨ht, hn⟩ := regOf_eq hr
  have main : ∀ rec env hp k, (∀ f args, opA o.op T env hp ≠ some (.call f args)) → oaK (opA o.op T env hp) d env k = stepText rec T nt all o env hp k := fun rec env hp k hc => stepText_oa hg hd hn ht hc
  unfold dstI
  split
  · rename_i x e
    rw [e] at main
    cases hs : srcOf x with
    | none => exact genI_is
    | some s => cases s with
      | tmp p =>
        intro rec env hp k
        rw [← main rec env hp k fun f args => opMove_call (T := T)]
        show movK (getR p env) d env hp k = oaK (opMove x T env hp) d env k
        rw [tmp_eq hs, movK_oa, ← opMoveQ_eq]; unfold opMoveQ; rw [evalQ_eq]
      | con v =>
        intro rec env hp k
        rw [← main rec env hp k fun f args => opMove_call (T := T)]
        show putI v d env hp k = oaK (opMove x T env hp) d env k
        have e2 := srcOf_eq hs env
        have e3 : eval x env = some v := e2.symm
        rw [← opMoveQ_eq]; unfold opMoveQ; rw [evalQ_eq, e3]; rfl
  · rename_i x e
    rw [e] at main
    cases hs : srcOf x with
    | none => exact genI_is
    | some s => cases s with
      | tmp p =>
        intro rec env hp k
        rw [← main rec env hp k fun f args => opMove_call (T := T)]
        show movK (getR p env) d env hp k = oaK (opMove x T env hp) d env k
        rw [tmp_eq hs, movK_oa, ← opMoveQ_eq]; unfold opMoveQ; rw [evalQ_eq]
      | con v =>
        intro rec env hp k
        rw [← main rec env hp k fun f args => opMove_call (T := T)]
        show putI v d env hp k = oaK (opMove x T env hp) d env k
        have e2 := srcOf_eq hs env
        have e3 : eval x env = some v := e2.symm
        rw [← opMoveQ_eq]; unfold opMoveQ; rw [evalQ_eq, e3]; rfl
  · rename_i ty x e
    rw [e] at main
    unfold lodI
    split
    · rename_i p ti hs hti
      intro rec env hp k
      rw [← main rec env hp k (opLoad_call ty x)]
      show lodK (getR p env) ti.agg ti.size d env hp k = _
      rw [tmp_eq hs]
      exact lodK_oa hti x
    · exact genI_is
  · rename_i s x f e
    rw [e] at main
    unfold fadI
    split
    · rename_i p fo hs hf
      intro rec env hp k
      rw [← main rec env hp k (opFieldAddr_call s x f)]
      show fadK (getR p env) fo d env hp k = _
      rw [tmp_eq hs]
      exact fadK_oa hf x
    · exact genI_is
  · rename_i x e
    rw [e] at main
    unfold unaI
    split
    · rename_i p hs
      intro rec env hp k
      rw [← main rec env hp k (opNilCheck_call (T := T) x)]
      show chkK (getR p env) d env hp k = _
      rw [tmp_eq hs]
      exact chkK_oa (T := T) x
    · exact genI_is
  · rename_i ty x ix e
    rw [e] at main
    unfold iadI
    split
    · rename_i p six size hs hix hsz
      intro rec env hp k
      rw [← main rec env hp k (opIndexAddr_call ty x ix)]
      show iadK (getR p env) (srcV six env) size d env hp k = _
      rw [tmp_eq hs, srcOf_eq hix]
      exact iadK_oa hsz x ix
    · exact genI_is
  · rename_i op ty x y ty' e
    rw [e] at main
    unfold binI2
    split
    · rename_i sx sy hx hy
      intro rec env hp k
      rw [← main rec env hp k (fun f args => opBin_call)]
      show bO (srcV sx env) (srcV sy env) op ty T d env hp k = _
      rw [srcOf_eq hx, srcOf_eq hy]
      exact bO_oa op ty x y
    · exact genI_is
  · rename_i x i e
    rw [e] at main
    unfold unaI
    split
    · rename_i p hs
      intro rec env hp k
      rw [← main rec env hp k (opExtract_call (T := T) x i)]
      show extK (getR p env) i d env hp k = _
      rw [tmp_eq hs]
      exact extK_oa (T := T) x i
    · exact genI_is
  · rename_i c a b e
    rw [e] at main
    unfold picI
    split
    · rename_i sc sa sb hc ha hb
      intro rec env hp k
      rw [← main rec env hp k (opPick_call c a b)]
      show picK (srcV sc env) sa sb d env hp k = _
      rw [srcOf_eq hc]
      exact picK_oa ha hb
    · exact genI_is
  · rename_i ty e
    rw [e] at main
    unfold alcI
    split
    · rename_i ob hob
      intro rec env hp k
      rw [← main rec env hp k (opAlloc_call (env := env) ty)]
      exact alcK_oa hob
    · exact genI_is
  · rename_i args tys e
    rw [e] at main
    unfold lenI
    split
    · rename_i ty x h1 h2
      split
      · rename_i p hsl hs
        intro rec env hp k
        have e2 : opA (.call { callee := .builtin .len, args := args, argTypes := tys }) T env hp = (match eval x env with
            | some v => lenQ v hp
            | none => none) := by
          show opCall _ T env hp = _
          unfold opCall
          dsimp only
          rw [h2]
          show (match consO (eval x env) (some []) with
            | some args => opLen tys.toList args T hp
            | none => none) = _
          rw [h1]
          cases eval x env with
          | none => rfl
          | some v =>
            show opLen [ty] [v] T hp = lenQ v hp
            rw [← opLenQ_eq]
            show lenT (T.tys.get ty) v hp = lenQ v hp
            unfold isSlice at hsl
            cases h3 : T.tys.get ty with
            | none => rw [h3] at hsl; cases hsl
            | some ti =>
              rw [h3] at hsl
              dsimp only at hsl
              show lenU ti.und v hp = lenQ v hp
              cases h4 : ti.und with
              | slice e => rfl
              | _ => simp [h4] at hsl
        rw [← main rec env hp k (fun f as h => by
          rw [e2] at h
          cases hx : eval x env with
          | none => rw [hx] at h; cases h
          | some v =>
            rw [hx] at h
            have h' : lenQ v hp = some (.call f as) := h
            rw [lenQ_eq] at h'
            split at h'
            · rw [forceN_eq] at h'; cases h'
            · cases h')]
        show lenK' (getR p env) d env hp k = _
        rw [tmp_eq hs, e2]
        exact lenK'_oa _
      · exact genI_is
    · exact genI_is
  · exact genI_is

theorem calI_is {f : FuncId} {args : Array Operand} {tys : Array TypeId} (hx : T.ext f = false) (hg : o.guard = none) (ho : o.op = .call { callee := .value (.func f), args := args, argTypes := tys }) :
    IsI T nt all o (calI f (srcsOf args.toList) o.dst nt (genI T nt all o)) := by
  unfold calI
  split
  · rename_i l hl
    intro rec env hp k
    show calK (srcsV l env) f o.dst nt rec env hp k = _
    rw [srcsOf_eq hl, ← stepTextQ_eq]
    unfold stepTextQ
    rw [hg]
    show _ = resO (opQ o.op T env hp) rec hp o.dst nt env k
    rw [ho]
    show _ = resO (opCallQ { callee := .value (.func f), args := args, argTypes := tys } T env hp) rec hp o.dst nt env k
    unfold opCallQ
    rw [evalsQ_eq]
    dsimp only
    cases evals args.toList env with
    | none => rfl
    | some l =>
      show _ = resO (extQ (T.ext f) f l hp) rec hp o.dst nt env k
      rw [hx]; rfl
  · exact genI_is

theorem stoI_is {ty : TypeId} {x y : Operand} (hg : o.guard = none) (hd : o.dst = none) (ho : o.op = .store ty x y) : IsI T nt all o (stoI (srcOf x) (srcOf y) (T.tys.get ty) (genI T nt all o)) := by
  unfold stoI
  split
  · rename_i p sy ti hx hy hti
    intro rec env hp k
    show stoO (getR p env) (srcV sy env) ti.size env hp k = _
    rw [tmp_eq hx, srcOf_eq hy, stoO_oa hti]
    unfold stepText
    rw [hg, hd, ho]
    show _ = (match opStore ty x y T env hp with
      | some (.val v hp) => k env hp
      | some (.call f args) => _
      | none => _)
    cases e : opStore ty x y T env hp with
    | none => rfl
    | some r => cases r with
      | val v hp => rfl
      | call f args => exact absurd e (opStore_call ty x y f args)
  · exact genI_is

theorem insOf_is (T : Tab) (nt : Nat) (all : List Oper) (o : Oper) : IsI T nt all o (insOf T nt all o) := by
  unfold insOf
  split
  · exact genI_is
  · rename_i hg
    split
    · rename_i f args tys ho
      split
      · rename_i hx
        exact calI_is hx hg ho
      · exact genI_is
    · rename_i op hop
      split
      · rename_i hd
        split
        · rename_i ty x y ho
          exact stoI_is hg hd ho
        · exact genI_is
      · rename_i t hd
        split
        · rename_i d hr
          exact dstI_is hg hd hr
        · exact genI_is

noncomputable def dK (dst : Option Tmp) : Nat → Ins → (Pa → Ins → Ins) → Ins :=
  Option.rec (motive := fun _ => Nat → Ins → (Pa → Ins → Ins) → Ins) (fun _ g _ => g) (fun t nt g f => Option.rec (motive := fun _ => Ins) g (fun d => f d g) (regOf t nt)) dst

noncomputable def opI (op : Op) : Tab → Nat → List Oper → Oper → Ins :=
  Op.rec (motive := fun _ => Tab → Nat → List Oper → Oper → Ins)
    (fun x T nt all o => dK o.dst nt (genI T nt all o) fun d g => movI (srcOf x) d g)
    (fun x T nt all o => dK o.dst nt (genI T nt all o) fun d g => movI (srcOf x) d g)
    (fun c a b T nt all o => dK o.dst nt (genI T nt all o) fun d g => picI (srcOf c) (srcOf a) (srcOf b) d g)
    (fun t T nt all o => dK o.dst nt (genI T nt all o) fun d g => alcI (zeroOb T t) d g)
    (fun _ _ T nt all o => genI T nt all o)
    (fun _ _ T nt all o => genI T nt all o)
    (fun _ _ _ T nt all o => genI T nt all o)
    (fun _ _ _ _ T nt all o => genI T nt all o)
    (fun t x T nt all o => dK o.dst nt (genI T nt all o) fun d g => lodI (srcOf x) (T.tys.get t) d g)
    (fun t x y T nt all o => Option.rec (motive := fun _ => Ins) (stoI (srcOf x) (srcOf y) (T.tys.get t) (genI T nt all o)) (fun _ => genI T nt all o) o.dst)
    (fun _ T nt all o => genI T nt all o)
    (fun _ T nt all o => genI T nt all o)
    (fun x T nt all o => dK o.dst nt (genI T nt all o) fun d g => unaI (srcOf x) (fun p => .chk p d) g)
    (fun op t x y _ T nt all o => dK o.dst nt (genI T nt all o) fun d g => binI2 op t T d g (srcOf x) (srcOf y))
    (fun _ _ _ T nt all o => genI T nt all o)
    (fun _ _ _ T nt all o => genI T nt all o)
    (fun _ _ T nt all o => genI T nt all o)
    (fun _ _ T nt all o => genI T nt all o)
    (fun _ _ _ T nt all o => genI T nt all o)
    (fun _ _ T nt all o => genI T nt all o)
    (fun _ _ T nt all o => genI T nt all o)
    (fun _ _ _ T nt all o => genI T nt all o)
    (fun _ _ _ _ _ T nt all o => genI T nt all o)
    (fun s x f T nt all o => dK o.dst nt (genI T nt all o) fun d g => fadI (srcOf x) (fieldAt T s f) d g)
    (fun _ _ _ T nt all o => genI T nt all o)
    (fun t x ix T nt all o => dK o.dst nt (genI T nt all o) fun d g => iadI (srcOf x) (srcOf ix) (sliceElem T t) d g)
    (fun _ _ _ T nt all o => genI T nt all o)
    (fun _ _ _ _ T nt all o => genI T nt all o)
    (fun _ _ _ _ T nt all o => genI T nt all o)
    (fun _ _ _ T nt all o => genI T nt all o)
    (fun _ _ _ _ T nt all o => genI T nt all o)
    (fun _ _ T nt all o => genI T nt all o)
    (fun _ _ T nt all o => genI T nt all o)
    (fun _ T nt all o => genI T nt all o)
    (fun _ _ _ _ T nt all o => genI T nt all o)
    (fun x i T nt all o => dK o.dst nt (genI T nt all o) fun d g => unaI (srcOf x) (fun p => .ext p i d) g)
    (fun _ T nt all o => insOf T nt all o)
    (fun _ T nt all o => genI T nt all o)
    (fun _ T nt all o => genI T nt all o)
    (fun _ T nt all o => genI T nt all o)
    (fun _ _ T nt all o => genI T nt all o)
    (fun _ _ _ T nt all o => genI T nt all o)
    (fun _ _ T nt all o => genI T nt all o) op

/-- The same, for less. -/
noncomputable def insQ (T : Tab) (nt : Nat) (all : List Oper) (o : Oper) : Ins :=
  Option.rec (motive := fun _ => Ins) (opI o.op T nt all o) (fun _ => genI T nt all o) o.guard

theorem insQ_eq (T : Tab) (nt : Nat) (all : List Oper) (o : Oper) : insQ T nt all o = insOf T nt all o := by
  obtain ⟨dst, op, ty, pos, after, guard⟩ := o
  cases guard with
  | some g => rfl
  | none =>
    cases dst with
    | none => cases op with
      | call c => rfl
      | _ => rfl
    | some t =>
      have key : ∀ (g : Ins) (f : Pa → Ins → Ins), dK (some t) nt g f = (match regOf t nt with | some d => f d g | none => g) := by
        intro g f
        show Option.rec (motive := fun _ => Ins) g (fun d => f d g) (regOf t nt) = _
        cases regOf t nt <;> rfl
      have gen : ∀ g : Ins, (match regOf t nt with | some _ => g | none => g) = g := by
        intro g
        cases regOf t nt <;> rfl
      cases op with
      | call c => rfl
      | move x => exact key _ _
      | assign x => exact key _ _
      | load a x => exact key _ _
      | fieldAddr s x f => exact key _ _
      | nilCheck x => exact key _ _
      | indexAddr a x ix => exact key _ _
      | binOp op a x y b => exact key (genI T nt all _) (fun d g => binI2 op a T d g (srcOf x) (srcOf y))
      | extract x i => exact key _ _
      | pick c a b => exact key _ _
      | alloc a => exact key _ _
      | _ => exact (gen _).symm

/-! ### Regions -/

noncomputable def insL (T : Tab) (nt : Nat) (all : List Oper) (l : List Oper) : List Ins := List.rec (motive := fun _ => List Ins) [] (fun o _ ih => insQ T nt all o :: ih) l

noncomputable def runI (l : List Ins) : Rec → Tr AV → Hp → Out :=
  List.rec (motive := fun _ => Rec → Tr AV → Hp → Out) (fun _ env hp => .fin .normal env hp) (fun i _ ih rec env hp => stepI i rec env hp (ih rec)) l

theorem runI_eq (rec : Rec) (T : Tab) (nt : Nat) (all : List Oper) : ∀ (l : List Oper) (env : Tr AV) (hp : Hp), runI (insL T nt all l) rec env hp = runText rec T nt all l env hp
  | [], _, _ => rfl
  | o :: l, env, hp => by
    show stepI (insQ T nt all o) rec env hp (runI (insL T nt all l) rec) = stepText rec T nt all o env hp (runText rec T nt all l)
    rw [insQ_eq, insOf_is, show runI (insL T nt all l) rec = runText rec T nt all l from funext fun env => funext fun hp => runI_eq rec T nt all l env hp]

abbrev SlotT := Rec → Tr AV → Hp → List (Tr AObj) → K3 → Out

/-- Slots: what only computes; what has an effect; the rest. -/
inductive SIns where
  | pur (i : Ins)
  | eff (i : Ins)
  | gen (f : SlotT)

/-- Instructions that call nothing. -/
noncomputable def Ins.quiet : Ins → Bool
  | .cal .. => false
  | .gen _ => false
  | _ => true

noncomputable def sinsOf (T : Tab) (nt : Nat) (all : List Oper) (s : Nat × Nat) : SIns :=
  match all[s.1]? with
  | none => .gen fun rec env hp sn k => stepSlotQ rec T nt all s env hp sn k
  | some o => match isEff T o.op, isLoad T o.op, (insOf T nt all o).quiet with
    | true, _, _ => .eff (insOf T nt all o)
    | false, false, true => .pur (insOf T nt all o)
    | _, _, _ => .gen fun rec env hp sn k => stepSlotQ rec T nt all s env hp sn k

noncomputable def slotB (e l q : Bool) (i : Ins) (g : SIns) : SIns :=
  Bool.rec (motive := fun _ => SIns) (Bool.rec (motive := fun _ => SIns) (Bool.rec (motive := fun _ => SIns) g (.pur i) q) g l) (.eff i) e

/-- The same, for less. -/
noncomputable def sinsQ (T : Tab) (nt : Nat) (all : List Oper) (s : Nat × Nat) : SIns :=
  Option.rec (motive := fun _ => SIns) (.gen fun rec env hp sn k => stepSlotQ rec T nt all s env hp sn k)
    (fun o => slotB (isEff T o.op) (isLoad T o.op) (insQ T nt all o).quiet (insQ T nt all o) (.gen fun rec env hp sn k => stepSlotQ rec T nt all s env hp sn k)) (nthQ s.1 all)

theorem sinsQ_eq (T : Tab) (nt : Nat) (all : List Oper) (s : Nat × Nat) : sinsQ T nt all s = sinsOf T nt all s := by
  unfold sinsQ sinsOf
  rw [nthQ_eq]
  cases all[s.1]? with
  | none => rfl
  | some o =>
    dsimp only
    rw [insQ_eq]
    unfold slotB
    cases isEff T o.op <;> cases isLoad T o.op <;> cases (insOf T nt all o).quiet <;> rfl

noncomputable def stepS (i : SIns) : SlotT :=
  SIns.rec (motive := fun _ => SlotT) (fun i rec env hp sn k => stepI i rec env hp fun env hp => k env hp sn) (fun i rec env hp sn k => stepI i rec env hp fun env hp => k env hp (hp.h :: sn)) (fun f => f) i

theorem quiet_gen : (genI T nt all o).quiet = false := rfl

theorem insOf_quiet (hq : (insOf T nt all o).quiet = true) (f : FuncId) (args : List AV) (h : opA o.op T env hp = some (.call f args)) : False := by
  have other : ∀ op, o.op = op → (∀ d g, dstI T op d g = g) → (∀ ty x y, op ≠ .store ty x y) → (∀ f as tys, op ≠ .call { callee := .value (.func f), args := as, argTypes := tys }) → False := by
    intro op e h1 h2 h3
    unfold insOf at hq
    split at hq
    · exact absurd hq (by simp [quiet_gen])
    · split at hq
      · rename_i f as tys e2
        exact h3 f as tys (e.symm.trans e2)
      · split at hq
        · split at hq
          · rename_i ty x y e2
            exact h2 ty x y (e.symm.trans e2)
          · exact absurd hq (by simp [quiet_gen])
        · split at hq
          · rw [e, h1] at hq
            exact absurd hq (by simp [quiet_gen])
          · exact absurd hq (by simp [quiet_gen])
  cases e : o.op with
  | move x => rw [e] at h; exact opMove_call (T := T) h
  | assign x => rw [e] at h; exact opMove_call (T := T) h
  | load t x => rw [e] at h; exact opLoad_call t x f args h
  | fieldAddr s x i => rw [e] at h; exact opFieldAddr_call s x i f args h
  | nilCheck x => rw [e] at h; exact opNilCheck_call (T := T) x f args h
  | indexAddr t x ix => rw [e] at h; exact opIndexAddr_call t x ix f args h
  | binOp op t x y t' => rw [e] at h; exact opBin_call h
  | extract x i => rw [e] at h; exact opExtract_call (T := T) x i f args h
  | pick c a b => rw [e] at h; exact opPick_call c a b f args h
  | alloc t => rw [e] at h; exact opAlloc_call (env := env) t f args h
  | store t x y => rw [e] at h; exact opStore_call t x y f args h
  | call c =>
    obtain ⟨callee, as, tys⟩ := c
    cases callee with
    | builtin b =>
      rw [e] at h
      have h' : opCall ⟨.builtin b, as, tys⟩ T env hp = some (.call f args) := h
      unfold opCall at h'
      split at h'
      · exact opBuiltin_call h'
      · cases h'
    | invoke r m =>
      rw [e] at h
      have h' : opCall ⟨.invoke r m, as, tys⟩ T env hp = some (.call f args) := h
      unfold opCall at h'
      split at h' <;> cases h'
    | value x => cases x with
      | func g =>
        unfold insOf at hq
        split at hq
        · exact absurd hq (by simp [quiet_gen])
        · split at hq
          · split at hq
            · unfold calI at hq
              split at hq
              · cases hq
              · exact absurd hq (by simp [quiet_gen])
            · exact absurd hq (by simp [quiet_gen])
          · rename_i h1
            exact h1 _ _ _ e
      | _ => exact other _ e (fun _ _ => rfl) (fun _ _ _ h => by cases h) (fun _ _ _ h => by cases h)
  | _ => exact other _ e (fun _ _ => rfl) (fun _ _ _ h => by cases h) (fun _ _ _ h => by cases h)

/-- What an operation that is no effect, and calls nothing, does at its slot. -/
theorem stepS_eq (rec : Rec) (T : Tab) (nt : Nat) (all : List Oper) (s : Nat × Nat) (env : Tr AV) (hp : Hp) (sn : List (Tr AObj)) (k : K3) :
    stepS (sinsOf T nt all s) rec env hp sn k = stepSlot rec T nt all s env hp sn k := by
  have gen : stepS (.gen fun rec env hp sn k => stepSlotQ rec T nt all s env hp sn k) rec env hp sn k = stepSlot rec T nt all s env hp sn k := stepSlotQ_eq rec T nt all s env hp sn k
  unfold sinsOf
  split
  · exact gen
  · rename_i o ho
    split
    · rename_i he
      show stepI (insOf T nt all o) rec env hp (fun env hp => k env hp (hp.h :: sn)) = _
      rw [insOf_is]
      unfold stepSlot stepText
      rw [ho]
      dsimp only
      rw [he]
      cases wantedA o.guard all env with
      | none => rfl
      | some w => cases w <;> rfl
    · rename_i he hl hq
      show stepI (insOf T nt all o) rec env hp (fun env hp => k env hp sn) = _
      have hc : ∀ f args, wantedA o.guard all env = some true → opA o.op T env hp ≠ some (.call f args) := by
        intro f args hw h
        -- an instruction that calls nothing: the operation does not call
        have := insOf_quiet hq f args h
        exact this
      rw [insOf_is]
      unfold stepSlot stepText
      rw [ho]
      dsimp only
      rw [he]
      cases hw : wantedA o.guard all env with
      | none => rfl
      | some w => cases w with
        | false => rfl
        | true =>
          dsimp only
          cases hop : opA o.op T env hp with
          | none => rfl
          | some r => cases r with
            | val v hp =>
              dsimp only
              rw [hl]
            | call f args => exact absurd hop (hc f args hw)
    · exact gen

noncomputable def sinsL (T : Tab) (nt : Nat) (all : List Oper) (l : List (Nat × Nat)) : List SIns := List.rec (motive := fun _ => List SIns) [] (fun s _ ih => sinsQ T nt all s :: ih) l

noncomputable def runS (l : List SIns) : Rec → Tr AV → Hp → List (Tr AObj) → Out :=
  List.rec (motive := fun _ => Rec → Tr AV → Hp → List (Tr AObj) → Out) (fun _ env hp _ => .fin .normal env hp) (fun i _ ih rec env hp sn => stepS i rec env hp sn (ih rec)) l

theorem runS_eq (rec : Rec) (T : Tab) (nt : Nat) (all : List Oper) : ∀ (l : List (Nat × Nat)) (env : Tr AV) (hp : Hp) (sn : List (Tr AObj)), runS (sinsL T nt all l) rec env hp sn = runSlots rec T nt all l env hp sn
  | [], _, _, _ => rfl
  | s :: l, env, hp, sn => by
    show stepS (sinsQ T nt all s) rec env hp sn (runS (sinsL T nt all l) rec) = stepSlot rec T nt all s env hp sn (runSlots rec T nt all l)
    rw [sinsQ_eq, stepS_eq, show runS (sinsL T nt all l) rec = runSlots rec T nt all l from funext fun env => funext fun hp => funext fun sn => runS_eq rec T nt all l env hp sn]

/-- A region made ready. -/
inductive RIns where
  | text (l : List Ins)
  | draw (l : List SIns)
  | none

noncomputable def rinsOf (T : Tab) (nt : Nat) (ops : List Oper) (draw : Bool) : RIns :=
  match draw with
  | false => .text (insL T nt ops ops)
  | true => match planOf T ops with
    | some slots => .draw (sinsL T nt ops slots)
    | Option.none => .none

noncomputable def runR (r : RIns) : Rec → Tr AV → Hp → Out :=
  RIns.rec (motive := fun _ => Rec → Tr AV → Hp → Out) runI (fun l rec env hp => runS l rec env hp [hp.h]) (fun _ _ _ => .bad) r

theorem runR_eq (rec : Rec) (T : Tab) (nt : Nat) (ops : List Oper) (draw : Bool) (env : Tr AV) (hp : Hp) : runR (rinsOf T nt ops draw) rec env hp = runRegion ops draw rec T nt env hp := by
  unfold rinsOf runRegion
  cases draw with
  | false => exact runI_eq rec T nt ops ops env hp
  | true =>
    dsimp only
    cases planOf T ops with
    | none => rfl
    | some slots => exact runS_eq rec T nt ops slots env hp [hp.h]

/-! ### Code -/

noncomputable def condI (c : Option Src) (x : Operand) : CondT :=
  Option.rec (motive := fun _ => CondT) (fun a b rec nt env hp => condO (evalQ x env) a b rec nt env hp) (fun s a b rec nt env hp => condO (srcV s env) a b rec nt env hp) c

theorem condI_eq (x : Operand) (a b : Code) (rec : Rec) (T : Tab) (nt : Nat) (env : Tr AV) (hp : Hp) : condI (srcOf x) x a b rec nt env hp = runCond x a b rec T nt env hp := by
  rw [← condO_eq x a b rec T nt env hp]
  cases h : srcOf x with
  | none => rfl
  | some s =>
    show condO (srcV s env) a b rec nt env hp = _
    rw [srcOf_eq h, evalQ_eq]

noncomputable def codeI (c : Code) : Rec → Tab → Nat → Tr AV → Hp → Out :=
  Code.rec (motive := fun _ => Rec → Tab → Nat → Tr AV → Hp → Out)
    (fun _ _ _ env hp => .fin .normal env hp)
    (fun _ ops draw rec T nt env hp => runR (rinsOf T nt ops.toList draw) rec env hp)
    (fun a b _ _ rec _ nt env hp => thenQ (rec (.code a nt env) hp) fun env hp => rec (.code b nt env) hp)
    (fun c a b _ _ rec _ nt env hp => condI (srcOf c) c a b rec nt env hp)
    (fun id b _ rec _ nt env hp => unblockQ (rec (.code b nt env) hp) id)
    (fun b _ rec _ nt env hp => thenQ (rec (.code b nt env) hp) fun env hp => rec (.code (.loop b) nt env) hp)
    (fun _ _ _ _ _ _ _ _ _ _ _ => .bad)
    (fun id _ _ _ env hp => .fin (.exit id) env hp)
    (fun c _ rec _ nt env hp => rec (.scope c c nt env) hp)
    (fun _ _ _ _ env hp => .fin .normal env hp)
    (fun l _ _ _ env hp => .fin (.goto l) env hp)
    (fun _ _ _ env hp => .fin .ret env hp)
    (fun _ _ _ _ _ _ => .bad) c

theorem codeI_eq (c : Code) (rec : Rec) (T : Tab) (nt : Nat) (env : Tr AV) (hp : Hp) : codeI c rec T nt env hp = runCode c rec T nt env hp := by
  cases c with
  | region id ops draw => exact runR_eq rec T nt ops.toList draw env hp
  | seq a b => exact thenQ_eq _ _
  | cond c a b => exact condI_eq c a b rec T nt env hp
  | block id b => exact unblockQ_eq _ _
  | loop b => exact thenQ_eq _ _
  | _ => rfl

noncomputable def taskI (t : Task) : Rec → Tab → Hp → Out :=
  Task.rec (motive := fun _ => Rec → Tab → Hp → Out) (fun c nt env rec T hp => codeI c rec T nt env hp) (fun c at_ nt env rec _ hp => runScope c at_ nt env rec hp) (fun f args rec T hp => callFQ (T.fns.get f) args rec T hp) t

theorem taskI_eq (t : Task) (rec : Rec) (T : Tab) (hp : Hp) : taskI t rec T hp = runF T rec t hp := by
  cases t with
  | code c nt env => exact codeI_eq _ _ _ _ _ _
  | scope c a nt env => rfl
  | call f args => exact callFQ_eq _ _ _ _ _

noncomputable def runM (T : Tab) (n : Nat) : Task → Hp → Out :=
  Nat.rec (motive := fun _ => Task → Hp → Out) (fun _ _ => .bad) (fun _ ih t hp => taskI t ih T hp) n

theorem runM_eq (T : Tab) : ∀ n, runM T n = run T n
  | 0 => rfl
  | n + 1 => by
    funext t hp
    show taskI t (runM T n) T hp = runF T (run T n) t hp
    rw [taskI_eq, runM_eq T n]

end
end Go.Ab
