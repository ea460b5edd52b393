/-
  THE ABSTRACT MACHINE, QUICK: each instruction is its operation.
-/
import Derived.Test.YtmnepjoaggdhpabGreatAbI
set_option linter.unusedVariables false
namespace Go.Ab

section
variable {T : Tab} {nt : Nat} {t : Tmp} {d : Pa} {env : Tr AV} {hp : Hp} {k : KT} {rec : Rec} {all : List Oper} {o : Oper}

theorem putI_eq (h : path t = .lo d) (v : AV) (env : Tr AV) (hp : Hp) (k : KT) : putI v d env hp k = k (env.put t v) hp := setR_eq h v env fun env => k env hp

theorem stepText_val (hg : o.guard = none) (hd : o.dst = some t) (hn : blt t nt = true) : stepText rec T nt all o env hp k = (match opA o.op T env hp with
    | some (.val v hp) => k (env.put t v) hp
    | some (.call f args) => match rec (.call f args) hp with
      | .ret v hp => k (env.put t v) hp
      | _ => .bad
    | none => .bad) := by
  unfold stepText
  rw [hg, hd]
  unfold putDst
  simp only [hn, Tr.set_eq]
  rfl

/-- An operation that calls nothing. -/
theorem stepText_oa (hg : o.guard = none) (hd : o.dst = some t) (hn : blt t nt = true) (ht : path t = .lo d) (hc : ∀ f args, opA o.op T env hp ≠ some (.call f args)) :
    oaK (opA o.op T env hp) d env k = stepText rec T nt all o env hp k := by
  rw [stepText_val hg hd hn]
  cases e : opA o.op T env hp with
  | none => rfl
  | some r => cases r with
    | val v hp => exact putI_eq ht v env hp k
    | call f args => exact absurd e (hc f args)

theorem movK_oa (x : Option AV) : movK x d env hp k = oaK (valO x hp) d env k := by cases x <;> rfl
theorem aggK_oa (x : Option (List AV)) : aggK x d env hp k = oaK (aggO x hp) d env k := by cases x <;> rfl

theorem valO_call (x : Option AV) (f : FuncId) (args : List AV) : valO x hp ≠ some (.call f args) := by
  cases x with
  | none => exact fun h => by cases h
  | some v => exact fun h => by cases h
theorem aggO_call (x : Option (List AV)) (f : FuncId) (args : List AV) : aggO x hp ≠ some (.call f args) := by
  cases x with
  | none => exact fun h => by cases h
  | some v => exact fun h => by cases h

theorem opLoad_call (ty : TypeId) (x : Operand) (f : FuncId) (args : List AV) : opLoad ty x T env hp ≠ some (.call f args) := by
  unfold opLoad
  intro h
  repeat' split at h
  all_goals cases h

theorem lodK_oa {ty : TypeId} {ti : TyI} (hti : T.tys.get ty = some ti) (x : Operand) : lodK (eval x env) ti.agg ti.size d env hp k = oaK (opLoad ty x T env hp) d env k := by
  unfold opLoad
  cases eval x env with
  | none => rfl
  | some a => cases a with
    | ptr i off =>
      show lodP (getO (path i) hp.h) ti.agg ti.size off d env hp k = _
      rw [getO_eq]
      dsimp only
      cases hp.h.get i with
      | none => rfl
      | some o => cases o with
        | cells n st tr =>
          show lodB ti.agg ti.size tr off d env hp k = _
          dsimp only
          rw [hti]
          dsimp only
          cases ti.agg with
          | false => show movK (getA (path off) tr) d env hp k = _; rw [movK_oa, getA_eq]; dsimp only; cases tr.get off <;> rfl
          | true => show aggK (readQ ti.size tr off) d env hp k = _; rw [aggK_oa, readQ_eq]; dsimp only; cases readCells tr ti.size off <;> rfl
        | _ => rfl
    | _ => rfl

theorem opFieldAddr_call (s : TypeId) (x : Operand) (n : Nat) (f : FuncId) (args : List AV) : opFieldAddr s x n T env hp ≠ some (.call f args) := by
  unfold opFieldAddr
  intro h
  repeat' split at h
  all_goals first | (cases h; done) | (rw [forceN_eq] at h; cases h)

theorem fadK_oa {s : TypeId} {f fo : Nat} (hf : fieldAt T s f = some fo) (x : Operand) : fadK (eval x env) fo d env hp k = oaK (opFieldAddr s x f T env hp) d env k := by
  rw [← opFieldAddrQ_eq]
  unfold opFieldAddrQ
  rw [evalQ_eq, hf]
  cases eval x env with
  | none => rfl
  | some a => cases a with
    | ptr i off =>
      show forceN (Nat.add off fo) (fun o => putI (.ptr i o) d env hp k) = oaK (ptrAt i (Nat.add off fo) hp) d env k
      unfold ptrAt
      rw [forceN_eq, forceN_eq]; rfl
    | _ => rfl

theorem opNilCheck_call (x : Operand) (f : FuncId) (args : List AV) : opNilCheck x T env hp ≠ some (.call f args) := by
  unfold opNilCheck
  intro h
  repeat' split at h
  all_goals cases h

theorem chkK_oa (x : Operand) : chkK (eval x env) d env hp k = oaK (opNilCheck x T env hp) d env k := by
  unfold opNilCheck
  cases eval x env with
  | none => rfl
  | some a => cases a with
    | fn f x y => cases f <;> rfl
    | _ => rfl

theorem opIndexAddr_call (ty : TypeId) (x ix : Operand) (f : FuncId) (args : List AV) : opIndexAddr ty x ix T env hp ≠ some (.call f args) := by
  unfold opIndexAddr
  intro h
  repeat' split at h
  all_goals first | (cases h; done) | (rw [forceN_eq] at h; cases h)

theorem iadK_oa {ty : TypeId} {size : Nat} (hs : sliceElem T ty = some size) (x ix : Operand) : iadK (eval x env) (eval ix env) size d env hp k = oaK (opIndexAddr ty x ix T env hp) d env k := by
  have hno : ∀ (i : Id) (off : Nat) (n : Int), idxOld (.ptr i off) n ty T hp = none := by
    intro i off n
    unfold sliceElem at hs
    unfold idxOld
    cases h1 : T.tys.get ty with
    | none => rfl
    | some ti =>
      rw [h1] at hs
      dsimp only at hs ⊢
      cases h2 : ti.und with
      | slice e => rfl
      | _ => simp [h2] at hs
  rw [← opIndexAddrQ_eq]
  unfold opIndexAddrQ
  rw [evalQ_eq, evalQ_eq]
  cases eval x env with
  | none => rfl
  | some v => cases eval ix env with
    | none =>
      cases v <;> rfl
    | some iv =>
      cases iv with
      | raw w => cases w with
        | int kk n =>
          show iadA v (some (.raw (.int kk n))) size d env hp k = oaK (idxA v n ty T hp) d env k
          cases v with
          | sl i off len lo ex es =>
            show iadN n size i off len es d env hp k = oaK (idxS (sliceElem T ty) i off len es n hp) d env k
            rw [hs]
            cases n with
            | negSucc m => rfl
            | ofNat m =>
              show Bool.rec (motive := fun _ => Out) .bad (forceN (Nat.add off (Nat.mul m es)) fun o => putI (.ptr i o) d env hp k) (Bool.rec (motive := fun _ => Bool) false (Nat.beq size es) (Nat.ble (Nat.succ m) len))
                = oaK (Bool.rec (motive := fun _ => OA) none (ptrAt i (Nat.add off (Nat.mul m es)) hp) (Bool.rec (motive := fun _ => Bool) false (Nat.beq size es) (Nat.ble (Nat.succ m) len))) d env k
              cases (Bool.rec (motive := fun _ => Bool) false (Nat.beq size es) (Nat.ble (Nat.succ m) len)) with
              | false => rfl
              | true =>
                show forceN (Nat.add off (Nat.mul m es)) (fun o => putI (.ptr i o) d env hp k) = oaK (ptrAt i (Nat.add off (Nat.mul m es)) hp) d env k
                unfold ptrAt
                rw [forceN_eq, forceN_eq]; rfl
          | raw y =>
            show Out.bad = oaK (idxOld (.raw y) n ty T hp) d env k
            have e : idxOld (.raw y) n ty T hp = none := by
              unfold idxOld
              cases T.tys.get ty with
              | none => rfl
              | some ti => dsimp only
            rw [e]; rfl
          | ptr i off =>
            show Out.bad = oaK (idxOld (.ptr i off) n ty T hp) d env k
            rw [hno]; rfl
          | _ => rfl
        | _ => cases v <;> rfl
      | _ => cases v <;> rfl

/-! Two integers -/

theorem boolK_oa (b : Bool) : boolK b d env hp k = oaK (boolR b hp) d env k := by cases b <;> rfl
theorem notK_oa (b : Bool) : notK b d env hp k = oaK (notR b hp) d env k := by cases b <;> rfl

theorem mk64_val {n : Nat} (h : Nat.ble (Nat.succ n) 9223372036854775808 = true) : mk64 n hp = some (.val (.raw (.int .i64 (.ofNat n))) hp) := by
  unfold mk64 blt
  rw [h]
  show forceN n _ = _
  rw [forceN_eq]

theorem natK_oa (op : BinOp) (m n : Nat) : natK op m n d env hp k = oaK (old64 op (.ofNat m) (.ofNat n) hp) d env k := by
  rw [← op64_eq]
  cases op with
  | add =>
    show addK m n d env hp k = oaK (mk64 (Nat.add m n) hp) d env k
    unfold addK
    cases h : Nat.ble (Nat.succ (Nat.add m n)) 9223372036854775808 with
    | false => show oaK (old64 .add (.ofNat m) (.ofNat n) hp) d env k = _; rw [mk64_eq]; rfl
    | true => show forceN (Nat.add m n) (fun n => putI (.raw (.int .i64 (.ofNat n))) d env hp k) = _; rw [mk64_val h, forceN_eq]; rfl
  | sub =>
    show subK m n d env hp k = oaK (subN m n hp) d env k
    unfold subK subN
    cases h : Nat.ble n m with
    | false => rfl
    | true =>
      show Bool.rec (motive := fun _ => Out) (oaK (old64 .sub (.ofNat m) (.ofNat n) hp) d env k) (forceN (Nat.sub m n) fun n => putI (.raw (.int .i64 (.ofNat n))) d env hp k) (Nat.ble (Nat.succ (Nat.sub m n)) 9223372036854775808)
        = oaK (mk64 (Nat.sub m n) hp) d env k
      cases h2 : Nat.ble (Nat.succ (Nat.sub m n)) 9223372036854775808 with
      | false =>
        show oaK (old64 .sub (.ofNat m) (.ofNat n) hp) d env k = _
        have e := op64_eq .sub (.ofNat m) (.ofNat n) hp
        have e2 : op64 .sub (.ofNat m) (.ofNat n) hp = subN m n hp := rfl
        rw [← e, e2]
        unfold subN
        rw [h]
      | true => show forceN (Nat.sub m n) (fun n => putI (.raw (.int .i64 (.ofNat n))) d env hp k) = _; rw [mk64_val h2, forceN_eq]; rfl
  | mul => rfl
  | quo => rfl
  | rem => rfl
  | eql => exact boolK_oa _
  | neq => exact notK_oa _
  | lss => exact boolK_oa _
  | leq => exact boolK_oa _
  | gtr => exact boolK_oa _
  | geq => exact boolK_oa _
  | _ => rfl

theorem intI_oa (a b : Int) (op : BinOp) (t : TypeId) : intI b a op t T d env hp k = oaK (old64 op a b hp) d env k := by
  cases b with
  | ofNat n => cases a with
    | ofNat m => exact natK_oa op m n
    | negSucc m => rfl
  | negSucc n => rfl

theorem bA_oa (a b : AV) (op : BinOp) (t : TypeId) : bA a b op t T d env hp k = oaK (binOld a b op t T hp) d env k := by
  cases a with
  | raw v => cases b with
    | raw w =>
      show bV v w op t T d env hp k = _
      cases v with
      | int kk n => cases w with
        | int kk' n' =>
          show kindI kk' kk n n' op t T d env hp k = _
          cases kk' with
          | i64 => cases kk with
            | i64 => exact intI_oa n n' op t
            | _ => rfl
          | _ => rfl
        | _ => rfl
      | _ => rfl
    | _ => rfl
  | _ => rfl

theorem bO_oa (op : BinOp) (t : TypeId) (x y : Operand) : bO (eval x env) (eval y env) op t T d env hp k = oaK (opBin op t x y T env hp) d env k := by
  rw [opBin_old]
  cases eval x env with
  | none => rfl
  | some a => cases eval y env with
    | none => rfl
    | some b => exact bA_oa a b op t

/-! Stores -/

theorem sto1_oa (v : AV) (n : Nat) (st : Kd) (tr : Tr AV) (i : Id) (off size : Nat) : sto1 v n st tr i off size env hp k = (match store1 v size n st tr i off hp with
    | some (.val _ hp) => k env hp
    | _ => .bad) := by
  unfold sto1 store1
  cases (Bool.rec (motive := fun _ => Bool) false (Nat.ble (Nat.succ off) n) (Nat.beq size 1)) with
  | false => rfl
  | true =>
    show (setAW (path off) v tr fun tr => setOW (path i) (.cells n st tr) hp.h fun h => k env ⟨h, hp.next⟩) = (match (setAR (path off) v tr fun tr => setOR (path i) (.cells n st tr) hp.h fun h => some (.val undefA ⟨h, hp.next⟩)) with
      | some (.val _ hp) => k env hp
      | _ => .bad)
    rw [setAW_eq, setAR_eq, setOW_eq, setOR_eq]

theorem stoO_oa {ty : TypeId} {ti : TyI} (hti : T.tys.get ty = some ti) (x y : Operand) : stoO (eval x env) (eval y env) ti.size env hp k = (match opStore ty x y T env hp with
    | some (.val _ hp) => k env hp
    | _ => .bad) := by
  rw [← opStoreQ_eq]
  unfold opStoreQ
  rw [evalQ_eq, evalQ_eq]
  cases eval x env with
  | none => rfl
  | some a => cases a with
    | ptr i off =>
      show stoV (eval y env) i off ti.size env hp k = (match storeV (eval y env) i off ty T hp with
        | some (.val _ hp) => k env hp
        | _ => .bad)
      cases eval y env with
      | none => rfl
      | some v =>
        show stoP (getO (path i) hp.h) v i off ti.size env hp k = (match storeP (getO (path i) hp.h) v i off ty T hp with
          | some (.val _ hp) => k env hp
          | _ => .bad)
        cases getO (path i) hp.h with
        | none => rfl
        | some o => cases o with
          | cells n st tr =>
            show stoW v n st tr i off ti.size env hp k = (match storeT (T.tys.get ty) v n st tr i off hp with
              | some (.val _ hp) => k env hp
              | _ => .bad)
            rw [hti]
            cases v with
            | agg l => rfl
            | tup l => rfl
            | _ => exact sto1_oa _ n st tr i off ti.size
          | _ => rfl
    | _ => rfl

theorem opStore_call (ty : TypeId) (x y : Operand) (f : FuncId) (args : List AV) : opStore ty x y T env hp ≠ some (.call f args) := by
  unfold opStore
  intro h
  repeat' split at h
  all_goals first | (cases h; done) | skip
  all_goals (unfold lenK at h; rw [forceN_eq] at h)
  all_goals (split at h)
  all_goals first | (cases h; done) | skip
  all_goals (rw [writeCells_eq] at h; unfold putObj at h; rw [Tr.set_eq] at h; cases h)

/-! Others -/

theorem opExtract_call (x : Operand) (i : Nat) (f : FuncId) (args : List AV) : opExtract x i T env hp ≠ some (.call f args) := by
  unfold opExtract
  intro h
  repeat' split at h
  all_goals cases h

theorem extK_oa (x : Operand) (i : Nat) : extK (eval x env) i d env hp k = oaK (opExtract x i T env hp) d env k := by
  rw [← opExtractQ_eq]
  unfold opExtractQ
  rw [evalQ_eq]
  cases eval x env with
  | none => rfl
  | some a => cases a with
    | tup l => exact movK_oa _
    | _ => rfl

theorem lenK'_oa (x : Option AV) : lenK' x d env hp k = oaK (match x with
    | some v => lenQ v hp
    | none => none) d env k := by
  cases x with
  | none => rfl
  | some v => cases v <;> rfl

theorem picK_oa {c a b : Operand} {sa sb : Src} (ha : srcOf a = some sa) (hb : srcOf b = some sb) : picK (eval c env) sa sb d env hp k = oaK (opPick c a b T env hp) d env k := by
  unfold opPick
  cases eval c env with
  | none => rfl
  | some v => cases v with
    | raw w => cases w with
      | bool t => cases t with
        | true =>
          show movK (srcV sa env) d env hp k = oaK (opMove a T env hp) d env k
          rw [srcOf_eq ha, movK_oa, ← opMoveQ_eq]
          unfold opMoveQ
          rw [evalQ_eq]
        | false =>
          show movK (srcV sb env) d env hp k = oaK (opMove b T env hp) d env k
          rw [srcOf_eq hb, movK_oa, ← opMoveQ_eq]
          unfold opMoveQ
          rw [evalQ_eq]
      | _ => rfl
    | _ => rfl

theorem opPick_call (c a b : Operand) (f : FuncId) (args : List AV) : opPick c a b T env hp ≠ some (.call f args) := by
  unfold opPick
  intro h
  split at h
  · exact opMove_call h
  · exact opMove_call h
  · cases h

/-- A type's zero, as a block. -/
noncomputable def zeroOb (T : Tab) (t : TypeId) : Option AObj :=
  match T.tys.get t with
  | some ti => match ti.zero with
    | some z => some (.cells z.length (.var t) (treeOf z))
    | none => none
  | none => none

theorem alcK_oa {ty : TypeId} {ob : AObj} (h : zeroOb T ty = some ob) : alcK ob d env hp k = oaK (opAlloc ty T env hp) d env k := by
  unfold zeroOb at h
  unfold opAlloc
  split at h
  · rename_i ti hti
    split at h
    · rename_i z hz
      cases h
      rw [hti]
      dsimp only
      rw [hz]
      dsimp only
      unfold alcK newCellsK ofList lenK newObj treeOf
      rw [setOW_eq, writeCells_eq, writeCells_eq, forceN_eq, forceN_eq, Tr.set_eq, forceN_eq]
      rfl
    · cases h
  · cases h

theorem opAlloc_call (ty : TypeId) (f : FuncId) (args : List AV) : opAlloc ty T env hp ≠ some (.call f args) := by
  unfold opAlloc
  intro h
  split at h
  · split at h
    · unfold newCellsK ofList lenK newObj at h
      rw [writeCells_eq, forceN_eq, Tr.set_eq, forceN_eq] at h
      cases h
    · cases h
  · cases h

end
end Go.Ab
