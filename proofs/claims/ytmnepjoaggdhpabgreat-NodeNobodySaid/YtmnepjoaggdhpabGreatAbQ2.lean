/-
  THE ABSTRACT MACHINE, QUICK: addresses, parts, calls.
-/
import Derived.Test.YtmnepjoaggdhpabGreatAbQ
set_option linter.unusedVariables false
namespace Go.Ab

/-! ### Addresses -/

/-- A field's place, if its size is not nothing. -/
noncomputable def fieldAt (T : Tab) (s : TypeId) (f : Nat) : Option Nat :=
  match T.tys.get s with
  | some ti => match ti.und with
    | .struct fields => match placeOf T fields f with
      | some (fo, size) => match Nat.beq size 0 with
        | false => some fo
        | true => none
      | none => none
    | _ => none
  | none => none

noncomputable def ptrAt (i : Id) (off : Nat) (hp : Hp) : OA := forceN off fun o => some (.val (.ptr i o) hp)

noncomputable def fldP (o : Option Nat) : Id → Nat → Hp → OA := Option.rec (motive := fun _ => Id → Nat → Hp → OA) (fun _ _ _ => none) (fun fo i off => ptrAt i (Nat.add off fo)) o

noncomputable def fldA (a : AV) : Option Nat → Hp → OA := AV.casePtr (fun i off o => fldP o i off) (fun _ _ _ => none) a

noncomputable def fldO (o : Option AV) : Option Nat → Hp → OA := Option.rec (motive := fun _ => Option Nat → Hp → OA) (fun _ _ => none) fldA o

noncomputable def opFieldAddrQ (s : TypeId) (x : Operand) (f : Nat) (T : Tab) (env : Tr AV) (hp : Hp) : OA := fldO (evalQ x env) (fieldAt T s f) hp

theorem opFieldAddrQ_eq (s : TypeId) (x : Operand) (f : Nat) (T : Tab) (env : Tr AV) (hp : Hp) : opFieldAddrQ s x f T env hp = opFieldAddr s x f T env hp := by
  unfold opFieldAddrQ opFieldAddr
  rw [evalQ_eq]
  cases eval x env with
  | none => rfl
  | some a => cases a with
    | ptr i off =>
      show fldP (fieldAt T s f) i off hp = _
      unfold fieldAt
      cases T.tys.get s with
      | none => rfl
      | some ti =>
        dsimp only
        cases ti.und with
        | struct fields =>
          dsimp only
          cases placeOf T fields f with
          | none => rfl
          | some p =>
            obtain ⟨fo, size⟩ := p
            dsimp only
            cases Nat.beq size 0 <;> rfl
        | _ => rfl
    | _ => rfl

/-- The element's size, of a slice's type. -/
noncomputable def sliceElem (T : Tab) (t : TypeId) : Option Nat :=
  match T.tys.get t with
  | some ti => match ti.und with
    | .slice e => match T.tys.get e with
      | some te => some te.size
      | none => none
    | _ => none
  | none => none

noncomputable def idxS (o : Option Nat) : Id → Nat → Nat → Nat → Int → Hp → OA :=
  Option.rec (motive := fun _ => Id → Nat → Nat → Nat → Int → Hp → OA) (fun _ _ _ _ _ _ => none)
    (fun size i off len es n => Int.rec (motive := fun _ => Hp → OA)
      (fun m hp => Bool.rec (motive := fun _ => OA) none (ptrAt i (Nat.add off (Nat.mul m es)) hp) (Bool.rec (motive := fun _ => Bool) false (Nat.beq size es) (Nat.ble (Nat.succ m) len)))
      (fun _ _ => none) n) o

/-- The slow way. -/
noncomputable def idxOld (v : AV) (n : Int) (t : TypeId) (T : Tab) (hp : Hp) : OA :=
  match T.tys.get t with
  | some ti => match v, ti.und with
    | .ptr i off, .array len e => match T.tys.get e, below n len with
      | some te, some m => forceN (off + m * te.size) fun o => some (.val (.ptr i o) hp)
      | _, _ => none
    | .sl i off len _ _ es, .slice e => match T.tys.get e, below n len with
      | some te, some m => match Nat.beq te.size es with
        | true => forceN (off + m * es) fun o => some (.val (.ptr i o) hp)
        | false => none
      | _, _ => none
    | _, _ => none
  | none => none

noncomputable def idxA (v : AV) : Int → TypeId → Tab → Hp → OA :=
  AV.rec (motive_1 := fun _ => Int → TypeId → Tab → Hp → OA) (motive_2 := fun _ => PUnit) (fun v => idxOld (.raw v)) (fun i o => idxOld (.ptr i o)) (fun i off len _ _ es n t T => idxS (sliceElem T t) i off len es n) (fun _ _ _ _ _ => none)
    (fun _ _ _ _ _ => none) (fun _ _ _ _ _ _ _ _ _ => none) (fun _ _ _ _ _ _ _ => none) (fun _ _ _ _ _ _ => none) (fun _ _ _ _ _ _ => none) (fun _ _ _ _ => none) ⟨⟩ (fun _ _ _ _ => ⟨⟩) v

theorem idxA_eq (v : AV) (n : Int) (t : TypeId) (T : Tab) (hp : Hp) : idxA v n t T hp = idxOld v n t T hp := by
  have hnone : ∀ v : AV, (∀ i o, v ≠ .ptr i o) → (∀ i o l lo ex es, v ≠ .sl i o l lo ex es) → idxOld v n t T hp = none := by
    intro v h1 h2
    unfold idxOld
    cases T.tys.get t with
    | none => rfl
    | some ti =>
      dsimp only
      split
      · exact absurd rfl (h1 _ _)
      · exact absurd rfl (h2 _ _ _ _ _ _)
      · rfl
  cases v with
  | raw v => rfl
  | ptr i o => rfl
  | sl i off len lo ex es =>
    show idxS (sliceElem T t) i off len es n hp = _
    unfold sliceElem idxOld
    cases T.tys.get t with
    | none => rfl
    | some ti =>
      dsimp only
      cases ti.und with
      | slice e =>
        dsimp only
        cases T.tys.get e with
        | none => rfl
        | some te =>
          dsimp only
          cases n with
          | negSucc m => rfl
          | ofNat m =>
            show Bool.rec (motive := fun _ => OA) none (ptrAt i (Nat.add off (Nat.mul m es)) hp) (Bool.rec (motive := fun _ => Bool) false (Nat.beq te.size es) (blt m len)) = _
            unfold below
            cases hb : blt m len <;> cases hs : Nat.beq te.size es <;> simp only [hb, hs] <;> rfl
      | _ => rfl
  | _ => exact (hnone _ (fun _ _ h => by cases h) (fun _ _ _ _ _ _ h => by cases h)).symm

noncomputable def AV.caseInt {β : Type} (f : Int → β) (g : β) (a : AV) : β :=
  AV.caseRaw (fun v => Value.rec (motive_1 := fun _ => β) (motive_2 := fun _ => PUnit) (motive_3 := fun _ => PUnit)
    (fun _ => g) (fun _ n => f n) (fun _ _ => g) (fun _ _ _ => g) (fun _ => g) (fun _ => g) (fun _ _ _ => g) (fun _ => g) (fun _ => g) (fun _ _ _ _ _ => g) g (fun _ _ _ => g) g (fun _ _ => g) (fun _ _ => g)
    (fun _ _ => ⟨⟩) ⟨⟩ (fun _ _ _ _ => ⟨⟩) v) (fun _ => g) a

noncomputable def idxI (ix : AV) : AV → TypeId → Tab → Hp → OA :=
  AV.caseInt (fun n v => idxA v n) (fun _ _ _ _ => none) ix

noncomputable def idxO2 (ix : Option AV) : AV → TypeId → Tab → Hp → OA := Option.rec (motive := fun _ => AV → TypeId → Tab → Hp → OA) (fun _ _ _ _ => none) idxI ix
noncomputable def idxO (x : Option AV) : Option AV → TypeId → Tab → Hp → OA := Option.rec (motive := fun _ => Option AV → TypeId → Tab → Hp → OA) (fun _ _ _ _ => none) (fun v ix => idxO2 ix v) x

noncomputable def opIndexAddrQ (t : TypeId) (x ix : Operand) (T : Tab) (env : Tr AV) (hp : Hp) : OA := idxO (evalQ x env) (evalQ ix env) t T hp

theorem opIndexAddrQ_eq (t : TypeId) (x ix : Operand) (T : Tab) (env : Tr AV) (hp : Hp) : opIndexAddrQ t x ix T env hp = opIndexAddr t x ix T env hp := by
  unfold opIndexAddrQ opIndexAddr
  rw [evalQ_eq, evalQ_eq]
  cases eval x env with
  | none => rfl
  | some v => cases eval ix env with
    | none => rfl
    | some iv => cases iv with
      | raw w => cases w with
        | int k n =>
          show idxA v n t T hp = _
          rw [idxA_eq]
          unfold idxOld
          cases T.tys.get t <;> rfl
        | _ => cases T.tys.get t <;> rfl
      | _ => cases T.tys.get t <;> rfl

/-! ### Parts of values -/

/-- A field: is it more than a cell; where; how large. -/
noncomputable def fieldPart (T : Tab) (t : TypeId) (f : Nat) : Option (TypeId × Nat) :=
  match T.tys.get t with
  | some ti => match ti.und with
    | .struct fields => match fields.toList[f]? with
      | some fd => some (fd.type, fd.offset)
      | none => none
    | _ => none
  | none => none

noncomputable def nthQ {α : Type} (n : Nat) : List α → Option α :=
  Nat.rec (motive := fun _ => List α → Option α) (fun l => List.rec (motive := fun _ => Option α) none (fun a _ _ => some a) l)
    (fun _ ih l => List.rec (motive := fun _ => Option α) none (fun _ l _ => ih l) l) n

theorem nthQ_eq {α : Type} : ∀ (n : Nat) (l : List α), nthQ n l = l[n]?
  | 0, [] => rfl
  | 0, _ :: _ => rfl
  | n + 1, [] => rfl
  | n + 1, _ :: l => by
    rw [List.getElem?_cons_succ]; exact nthQ_eq n l

noncomputable def partB (b : Bool) : List AV → Nat → Nat → Hp → OA :=
  Bool.rec (motive := fun _ => List AV → Nat → Nat → Hp → OA) (fun cs off _ => valO (nthQ off cs))
    (fun cs off size hp => match Nat.ble (off + size) cs.length with
      | true => some (.val (.agg ((cs.drop off).take size)) hp)
      | false => none) b

noncomputable def partT (o : Option TyI) : List AV → Nat → Hp → OA :=
  Option.rec (motive := fun _ => List AV → Nat → Hp → OA) (fun _ _ _ => none) (fun ti cs off => partB ti.agg cs off ti.size) o

theorem partT_eq (T : Tab) (t : TypeId) (cs : List AV) (off : Nat) (hp : Hp) : partT (T.tys.get t) cs off hp = (match partA T t cs off with
    | some v => some (.val v hp)
    | none => none) := by
  unfold partA
  cases T.tys.get t with
  | none => rfl
  | some ti =>
    show partB ti.agg cs off ti.size hp = _
    dsimp only
    cases ti.agg with
    | false =>
      show valO (nthQ off cs) hp = _
      rw [nthQ_eq]
      dsimp only
      cases cs[off]? <;> rfl
    | true =>
      show (match Nat.ble (off + ti.size) cs.length with
        | true => some (.val (.agg ((cs.drop off).take ti.size)) hp)
        | false => none : OA) = _
      dsimp only
      cases Nat.ble (off + ti.size) cs.length <;> rfl

noncomputable def fpO (o : Option (TypeId × Nat)) : List AV → Tab → Hp → OA :=
  Option.rec (motive := fun _ => List AV → Tab → Hp → OA) (fun _ _ _ => none) (fun p cs T => partT (T.tys.get p.1) cs p.2) o

noncomputable def AV.caseAgg {β : Type} (f : List AV → β) (g : AV → β) (a : AV) : β :=
  AV.rec (motive_1 := fun _ => β) (motive_2 := fun _ => PUnit) (fun v => g (.raw v)) (fun i o => g (.ptr i o)) (fun i o l lo ex es => g (.sl i o l lo ex es)) (fun ex => g (.sl0 ex)) (fun i => g (.map i)) (fun f x y _ _ => g (.fn f x y))
    (fun t v _ => g (.iface t v)) (fun l _ => f l) (fun l _ => g (.tup l)) (g .any) ⟨⟩ (fun _ _ _ _ => ⟨⟩) a

noncomputable def fpA (a : AV) : Option (TypeId × Nat) → Tab → Hp → OA := AV.caseAgg (fun cs o => fpO o cs) (fun _ _ _ _ => none) a
noncomputable def fpX (x : Option AV) : Option (TypeId × Nat) → Tab → Hp → OA := Option.rec (motive := fun _ => Option (TypeId × Nat) → Tab → Hp → OA) (fun _ _ _ => none) fpA x

noncomputable def opFieldQ (t : TypeId) (x : Operand) (f : Nat) (T : Tab) (env : Tr AV) (hp : Hp) : OA := fpX (evalQ x env) (fieldPart T t f) T hp

theorem opFieldQ_eq (t : TypeId) (x : Operand) (f : Nat) (T : Tab) (env : Tr AV) (hp : Hp) : opFieldQ t x f T env hp = opField t x f T env hp := by
  unfold opFieldQ opField
  rw [evalQ_eq]
  cases eval x env with
  | none => rfl
  | some a => cases a with
    | agg cs =>
      show fpO (fieldPart T t f) cs T hp = _
      unfold fieldPart
      cases T.tys.get t with
      | none => rfl
      | some ti =>
        dsimp only
        cases ti.und with
        | struct fields =>
          dsimp only
          cases fields.toList[f]? with
          | none => rfl
          | some fd => exact partT_eq T fd.type cs fd.offset hp
        | _ => rfl
    | _ => rfl

noncomputable def AV.caseTup {β : Type} (f : List AV → β) (g : β) (a : AV) : β :=
  AV.rec (motive_1 := fun _ => β) (motive_2 := fun _ => PUnit) (fun _ => g) (fun _ _ => g) (fun _ _ _ _ _ _ => g) (fun _ => g) (fun _ => g) (fun _ _ _ _ _ => g)
    (fun _ _ _ => g) (fun _ _ => g) (fun l _ => f l) g ⟨⟩ (fun _ _ _ _ => ⟨⟩) a

noncomputable def extA (a : AV) : Nat → Hp → OA := AV.caseTup (fun l i => valO (nthQ i l)) (fun _ _ => none) a
noncomputable def extO (a : Option AV) : Nat → Hp → OA := Option.rec (motive := fun _ => Nat → Hp → OA) (fun _ _ => none) extA a

noncomputable def opExtractQ (x : Operand) (i : Nat) (T : Tab) (env : Tr AV) (hp : Hp) : OA := extO (evalQ x env) i hp

theorem opExtractQ_eq (x : Operand) (i : Nat) (T : Tab) (env : Tr AV) (hp : Hp) : opExtractQ x i T env hp = opExtract x i T env hp := by
  unfold opExtractQ opExtract
  rw [evalQ_eq]
  cases eval x env with
  | none => rfl
  | some a => cases a with
    | tup l =>
      show valO (nthQ i l) hp = _
      rw [nthQ_eq]
      dsimp only
      cases l[i]? <;> rfl
    | _ => rfl

/-! ### Calls -/

noncomputable def consQ2 (k : Option (List AV)) : AV → Option (List AV) := Option.rec (motive := fun _ => AV → Option (List AV)) (fun _ => none) (fun l a => some (a :: l)) k
noncomputable def consQ (x : Option AV) : Option (List AV) → Option (List AV) := Option.rec (motive := fun _ => Option (List AV) → Option (List AV)) (fun _ => none) (fun a k => consQ2 k a) x

theorem consQ_eq (x : Option AV) (k : Option (List AV)) : consQ x k = consO x k := by cases x <;> cases k <;> rfl

noncomputable def evalsQ (l : List Operand) : Tr AV → Option (List AV) :=
  List.rec (motive := fun _ => Tr AV → Option (List AV)) (fun _ => some []) (fun x _ ih env => consQ (evalQ x env) (ih env)) l

theorem evalsQ_eq : ∀ (l : List Operand) (env : Tr AV), evalsQ l env = evals l env
  | [], _ => rfl
  | x :: l, env => by
    show consQ (evalQ x env) (evalsQ l env) = consO (eval x env) (evals l env)
    rw [consQ_eq, evalQ_eq, evalsQ_eq l env]

/-- The length of a slice. -/
noncomputable def lenQ (x : AV) : Hp → OA :=
  AV.rec (motive_1 := fun _ => Hp → OA) (motive_2 := fun _ => PUnit)
    (fun v hp => match lenS (.raw v) with
        | some n => forceN n fun n => some (.val (.raw (.int .i64 (.ofNat n))) hp)
        | none => none) (fun _ _ _ => none) (fun _ _ len _ _ _ hp => some (.val (.raw (.int .i64 (.ofNat len))) hp)) (fun _ hp => some (.val (.raw (.int .i64 (.ofNat 0))) hp)) (fun _ _ => none) (fun _ _ _ _ _ _ => none)
    (fun _ _ _ _ => none) (fun _ _ _ => none) (fun _ _ _ => none) (fun _ => none) ⟨⟩ (fun _ _ _ _ => ⟨⟩) x

theorem lenQ_eq (x : AV) (hp : Hp) : lenQ x hp = (match lenS x with
        | some n => forceN n fun n => some (.val (.raw (.int .i64 (.ofNat n))) hp)
        | none => none) := by
  cases x with
  | raw v => rfl
  | sl i off len lo ex es =>
    show _ = forceN len _
    rw [forceN_eq]; rfl
  | _ => rfl

noncomputable def lenU (u : TypeDesc) (x : AV) (hp : Hp) : OA :=
  match u with
      | .map _ _ => match x with
        | .map i => match hp.h.get i with
          | some (.map es _) => lenK es fun n => some (.val (.raw (.int .i64 (.ofNat n))) hp)
          | _ => none
        | _ => none
      | .slice _ => lenQ x hp
      | .string => match x with
        | .raw (.string s) => forceN s.data.toList.length fun n => some (.val (.raw (.int .i64 (.ofNat n))) hp)
        | _ => none
      | _ => none

noncomputable def lenT (o : Option TyI) : AV → Hp → OA := Option.rec (motive := fun _ => AV → Hp → OA) (fun _ _ => none) (fun ti => lenU ti.und) o

noncomputable def opLenQ (tys : List TypeId) (args : List AV) (T : Tab) (hp : Hp) : OA :=
  match args, tys with
  | [x], [t] => lenT (T.tys.get t) x hp
  | _, _ => none

theorem opLenQ_eq (tys : List TypeId) (args : List AV) (T : Tab) (hp : Hp) : opLenQ tys args T hp = opLen tys args T hp := by
  unfold opLenQ opLen
  split
  · rename_i x t
    dsimp only
    cases T.tys.get t with
    | none => rfl
    | some ti =>
      show lenU ti.und x hp = _
      unfold lenU
      dsimp only
      cases ti.und with
      | slice e => exact lenQ_eq x hp
      | _ => rfl
  · rename_i h
    split
    · exact absurd rfl (h _ _ rfl)
    · rfl

/-! ### New blocks; append -/

noncomputable def newLK (kd : Kd) (hp : Hp) (l : List AV) (k : Id → Hp → OA) : OA :=
  writeR l .nil 0 fun t => forceN l.length fun n => setOR (path hp.next) (.cells n kd t) hp.h fun h => forceN (Nat.succ hp.next) fun nx => k hp.next ⟨h, nx⟩
theorem newLK_eq (kd : Kd) (hp : Hp) (l : List AV) (k : Id → Hp → OA) : newLK kd hp l k = newCellsK kd hp l k := by
  unfold newLK
  rw [writeR_eq, writeCells_eq, forceN_eq, setOR_eq, forceN_eq, newCells_eq]

noncomputable def putR (hp : Hp) (i : Id) (o : AObj) (k : Hp → OA) : OA := setOR (path i) o hp.h fun h => k ⟨h, hp.next⟩
theorem putR_eq (hp : Hp) (i : Id) (o : AObj) (k : Hp → OA) : putR hp i o k = putObj hp i o k := by
  unfold putR
  rw [setOR_eq, putObj_eq]

noncomputable def newR (hp : Hp) (o : AObj) (k : Id → Hp → OA) : OA := setOR (path hp.next) o hp.h fun h => forceN (Nat.succ hp.next) fun nx => k hp.next ⟨h, nx⟩
theorem newR_eq (hp : Hp) (o : AObj) (k : Id → Hp → OA) : newR hp o k = newObj hp o k := by
  unfold newR
  rw [setOR_eq, forceN_eq, newObj_eq]

noncomputable def firstQ (hp : Hp) (es n : Nat) : AV → Option (List AV)
  | .sl i off len _ _ es' => match Nat.ble n len, Nat.beq es es' with
    | true, true => match getO (path i) hp.h with
      | some (.cells _ _ t) => readQ (n * es) t off
      | _ => none
    | _, _ => none
  | .sl0 _ => match n with
    | 0 => some []
    | _ => none
  | .raw (.slice none 0 0) => match n with
    | 0 => some []
    | _ => none
  | _ => none

theorem firstQ_eq (hp : Hp) (es n : Nat) (x : AV) : firstQ hp es n x = firstA hp es n x := by
  unfold firstQ firstA
  simp only [getO_eq, readQ_eq]
  rfl

noncomputable def appendToQ (e : TypeId) (es : Nat) (bytes : Nat) (s : AV) (n : Nat) (new : List AV) (hp : Hp) : OA :=
  match s with
  | .raw (.slice none 0 0) => match n with
    | 0 => some (.val (.raw (.slice none 0 0)) hp)
    | n + 1 => match fits (n + 1) bytes with
      | true => newLK (.row e) hp new fun i hp => some (.val (.sl i 0 (n + 1) (n + 1) false es) hp)
      | false => none
  | .sl0 ex => match n with
    | 0 => some (.val (.sl0 ex) hp)
    | n + 1 => match ex, fits (n + 1) bytes with
      | true, true => newLK (.row e) hp new fun i hp => some (.val (.sl i 0 (n + 1) (n + 1) false es) hp)
      | _, _ => none
  | .sl i off len lo ex es' => match Nat.beq es es', getO (path i) hp.h with
    | true, some (.cells c st t) => forceN (len + n) fun need => match Nat.ble need lo with
      | true => match Nat.ble (off + need * es) c with
        | true => writeR new t (off + len * es) fun t => putR hp i (.cells c st t) fun hp => some (.val (.sl i off need lo ex es) hp)
        | false => none
      | false => match fits need bytes, readQ (len * es) t off with
        | true, some old => match ex with
          | true => newLK (.row e) hp (old ++ new) fun j hp => some (.val (.sl j 0 need need false es) hp)
          | false => match Nat.beq off 0, Nat.beq c (len * es) with
            | true, true => hp.h.del i fun h => writeR new t (len * es) fun t => forceN (need * es) fun c' => newR ⟨h, hp.next⟩ (.cells c' (st.grow off e) t) fun j hp => some (.val (.sl j 0 need need false es) hp)
            | _, _ => hp.h.del i fun h => ofList (old ++ new) fun t => lenK (old ++ new) fun c' => newR ⟨h, hp.next⟩ (.cells c' (st.grow off e) t) fun j hp => some (.val (.sl j 0 need need false es) hp)
        | _, _ => none
    | _, _ => none
  | _ => none

theorem appendToQ_eq (e : TypeId) (es bytes : Nat) (s : AV) (n : Nat) (new : List AV) (hp : Hp) : appendToQ e es bytes s n new hp = appendTo e es bytes s n new hp := by
  unfold appendToQ appendTo
  simp only [newLK_eq, getO_eq, readQ_eq, writeR_eq, putR_eq, newR_eq]
  rfl

noncomputable def opAppendStrQ (s : AV) (b : ByteArray) (ts tx : TypeId) (T : Tab) (hp : Hp) : Option ARes :=
  match T.tys.get ts, T.tys.get tx with
  | some ti, some tj => match ti.und, tj.und with
    | .slice e, .string => match T.tys.get e with
      | some te => match te.zero, Nat.beq te.size 1 with
        | some z, true => match Nat.beq z.length te.size with
          | true => appendToQ e te.size te.bytes s b.data.toList.length (b.data.toList.map byteA) hp
          | false => none
        | _, _ => none
      | none => none
    | _, _ => none
  | _, _ => none

theorem opAppendStrQ_eq (s : AV) (b : ByteArray) (ts tx : TypeId) (T : Tab) (hp : Hp) : opAppendStrQ s b ts tx T hp = opAppendStr s b ts tx T hp := by
  unfold opAppendStrQ opAppendStr
  simp only [appendToQ_eq]
  rfl

noncomputable def opAppendQ (tys : List TypeId) (args : List AV) (T : Tab) (hp : Hp) : Option ARes :=
  match args, tys with
  | [s, .raw (.string b)], [ts, tx] => opAppendStrQ s b ts tx T hp
  | [s, x], [ts, tx] => match T.tys.get ts, T.tys.get tx with
    | some ti, some tj => match ti.und, (match tj.und with | .slice _ => true | _ => false) with
      | .slice e, true => match T.tys.get e with
        | some te => match Nat.beq te.size 0, lenS x with
          | false, some n => match firstQ hp te.size n x with
            | some new => match Nat.beq new.length (n * te.size), te.zero with
              | true, some z => match Nat.beq z.length te.size with
                | true => appendToQ e te.size te.bytes s n new hp
                | false => none
              | _, _ => none
            | none => none
          | _, _ => none
        | none => none
      | _, _ => none
    | _, _ => none
  | _, _ => none

theorem opAppendQ_eq (tys : List TypeId) (args : List AV) (T : Tab) (hp : Hp) : opAppendQ tys args T hp = opAppend tys args T hp := by
  unfold opAppendQ opAppend
  simp only [appendToQ_eq, firstQ_eq, opAppendStrQ_eq]
  rfl

noncomputable def opBoxQ (t : TypeId) (x : Operand) (T : Tab) (env : Tr AV) (hp : Hp) : OA :=
  match evalQ x env with
  | some (.tup _) => none
  | some v => newLK .any hp v.cells fun i hp => some (.val (.ptr i 0) hp)
  | none => none

theorem opBoxQ_eq (t : TypeId) (x : Operand) (T : Tab) (env : Tr AV) (hp : Hp) : opBoxQ t x T env hp = opBox t x T env hp := by
  unfold opBoxQ opBox
  simp only [evalQ_eq, newLK_eq]
  rfl

noncomputable def builtinQ (b : Builtin) (tys : List TypeId) (args : List AV) (T : Tab) (hp : Hp) : OA :=
  match b with
  | .len => opLenQ tys args T hp
  | .append => opAppendQ tys args T hp
  | b => opBuiltin b tys args T hp

theorem builtinQ_eq (b : Builtin) (tys : List TypeId) (args : List AV) (T : Tab) (hp : Hp) : builtinQ b tys args T hp = opBuiltin b tys args T hp := by
  cases b with
  | len => exact opLenQ_eq tys args T hp
  | append => exact opAppendQ_eq tys args T hp
  | _ => rfl

noncomputable def extQ (b : Bool) : FuncId → List AV → Hp → OA :=
  Bool.rec (motive := fun _ => FuncId → List AV → Hp → OA) (fun f args _ => some (.call f args)) (fun _ args hp => match args with
    | [a] => some (.val a hp)
    | _ => none) b

noncomputable def calleeQ (c : Callee) : Array TypeId → List AV → Tab → Tr AV → Hp → OA :=
  Callee.rec (motive := fun _ => Array TypeId → List AV → Tab → Tr AV → Hp → OA)
    (fun f => Operand.rec (motive := fun _ => Array TypeId → List AV → Tab → Tr AV → Hp → OA) (fun t => opCallee (.value (.tmp t))) (fun v => opCallee (.value (.const v))) (fun g => opCallee (.value (.global g))) (fun f _ args T _ hp => extQ (T.ext f) f args hp) f)
    (fun _ _ _ _ _ _ _ => none) (fun b tys args T _ hp => builtinQ b tys.toList args T hp) c

theorem calleeQ_eq (c : Callee) (tys : Array TypeId) (args : List AV) (T : Tab) (env : Tr AV) (hp : Hp) : calleeQ c tys args T env hp = opCallee c tys args T env hp := by
  cases c with
  | value f => cases f with
    | func f =>
      show extQ (T.ext f) f args hp = (match T.ext f with
        | false => some (.call f ([] ++ args ++ []))
        | true => match [] ++ args ++ [] with
          | [a] => some (.val a hp)
          | _ => none : OA)
      simp only [List.nil_append, List.append_nil]
      cases T.ext f <;> rfl
    | _ => rfl
  | invoke => rfl
  | builtin b => exact builtinQ_eq b tys.toList args T hp

noncomputable def callO (o : Option (List AV)) : Callee → Array TypeId → Tab → Tr AV → Hp → OA :=
  Option.rec (motive := fun _ => Callee → Array TypeId → Tab → Tr AV → Hp → OA) (fun _ _ _ _ _ => none) (fun args c tys => calleeQ c tys args) o

noncomputable def opCallQ (c : Call) (T : Tab) (env : Tr AV) (hp : Hp) : OA := callO (evalsQ c.args.toList env) c.callee c.argTypes T env hp

theorem opCallQ_eq (c : Call) (T : Tab) (env : Tr AV) (hp : Hp) : opCallQ c T env hp = opCall c T env hp := by
  unfold opCallQ opCall
  rw [evalsQ_eq]
  cases evals c.args.toList env with
  | none => rfl
  | some args => exact calleeQ_eq _ _ _ _ _ _

/-! ### All -/

noncomputable def opQ (o : Op) : Tab → Tr AV → Hp → Option ARes :=
  Op.rec (motive := fun _ => Tab → Tr AV → Hp → Option ARes)
    (fun x => opMoveQ x)
    (fun x => opMoveQ x)
    (fun c a b => opPick c a b)
    (fun t => opAlloc t)
    (fun t x => opBoxQ t x)
    (fun t ps => opBuild t ps)
    (fun t n ps => opBuildSlice t n ps)
    (fun _ _ _ _ _ _ _ => none)
    (fun t x => opLoadQ t x)
    (fun t x y => opStoreQ t x y)
    (fun _ _ _ _ => none)
    (fun _ _ _ _ => none)
    (fun x => opNilCheck x)
    (fun op t x y _ => opBinQ op t x y)
    (fun op _ x => opUn op x)
    (fun s d x => opConvert s d x)
    (fun _ _ _ _ _ => none)
    (fun _ _ _ _ _ => none)
    (fun f a b => opMakeFunc f a b)
    (fun t r => opMakeMap t r)
    (fun _ _ _ _ _ => none)
    (fun t l c => opMakeSlice t l c)
    (fun t x l h m => opSlice t x l h m)
    (fun s x f => opFieldAddrQ s x f)
    (fun t x f => opFieldQ t x f)
    (fun t x i => opIndexAddrQ t x i)
    (fun t x i => opIndex t x i)
    (fun t x i ok => opLookup t x i ok)
    (fun t x k v => opMapUpdate t x k v)
    (fun t x k => opMapEntry t x k)
    (fun _ x s v => opEntryStore x s v)
    (fun t x => opRange t x)
    (fun x s => opNext x s)
    (fun _ _ _ _ => none)
    (fun _ _ _ _ _ _ _ => none)
    (fun x i => opExtractQ x i)
    (fun c => opCallQ c)
    (fun _ _ _ _ => none)
    (fun _ _ _ _ => none)
    (fun _ _ _ _ => none)
    (fun _ _ _ _ _ => none)
    (fun _ _ _ _ _ _ => none)
    (fun _ _ _ _ _ => none) o

theorem opQ_eq (o : Op) (T : Tab) (env : Tr AV) (hp : Hp) : opQ o T env hp = opA o T env hp := by
  cases o with
  | move x => exact opMoveQ_eq x T env hp
  | assign x => exact opMoveQ_eq x T env hp
  | load t x => exact opLoadQ_eq t x T env hp
  | store t x y => exact opStoreQ_eq t x y T env hp
  | binOp op t x y t' => exact opBinQ_eq op t x y T env hp
  | fieldAddr s x f => exact opFieldAddrQ_eq s x f T env hp
  | field t x f => exact opFieldQ_eq t x f T env hp
  | indexAddr t x i => exact opIndexAddrQ_eq t x i T env hp
  | extract x i => exact opExtractQ_eq x i T env hp
  | call c => exact opCallQ_eq c T env hp
  | box t x => exact opBoxQ_eq t x T env hp
  | _ => rfl

end Go.Ab
