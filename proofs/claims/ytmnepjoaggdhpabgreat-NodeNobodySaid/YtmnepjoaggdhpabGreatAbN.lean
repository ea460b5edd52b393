/-
  THE ABSTRACT MACHINE's OPERATIONS AND THE MEMORY: new blocks get new names; which operations hang on it.
-/
import Derived.Test.YtmnepjoaggdhpabGreatAbS13
set_option linter.unusedVariables false
namespace Go.Ab

theorem intBin_shape (op : BinOp) (k : IntKind) (a : Int) (k' : IntKind) (b : Int) :
    (∀ (β : Type) (bad : β) (ret : Value → β), intBin bad op k a k' b ret = bad) ∨ ∃ v, ∀ (β : Type) (bad : β) (ret : Value → β), intBin bad op k a k' b ret = ret v := by
  cases hk : kindEq k k' with
  | false =>
    left
    intro β bad ret
    cases op <;> simp [intBin, hk]
  | true =>
    cases hb : intEq b 0 with
    | true =>
      cases op <;> first
        | (left; intro β bad ret; simp [intBin, hk, hb]; done)
        | (right; exact ⟨_, fun β bad ret => by simp only [intBin, hk, retI, retB, forceI_eq, forceB_eq]; rfl⟩)
    | false =>
      cases op <;> first
        | (left; intro β bad ret; simp only [intBin]; done)
        | (right; exact ⟨_, fun β bad ret => by simp only [intBin, hk, hb, retI, retB, forceI_eq, forceB_eq]; rfl⟩)

theorem strBin_shape (op : BinOp) (a b : ByteArray) :
    (∀ (β : Type) (bad : β) (ret : Value → β), strBin bad op a b ret = bad) ∨ ∃ v, ∀ (β : Type) (bad : β) (ret : Value → β), strBin bad op a b ret = ret v := by
  cases hb : blt (a.data.toList.length + b.data.toList.length) 1048576 <;> cases op <;> first
    | (left; intro β bad ret; simp only [strBin]; done)
    | (left; intro β bad ret; simp only [strBin, hb]; done)
    | (right; exact ⟨_, fun β bad ret => by simp only [strBin, retB, forceB_eq]; rfl⟩)
    | (right; exact ⟨_, fun β bad ret => by simp only [strBin, hb]; rfl⟩)

section
variable {T : Tab} {env : Tr AV} {hp hp' : Hp} {v : AV}

theorem next_bin {op : BinOp} {t : TypeId} {x y : Operand} (h : opBin op t x y T env hp = some (.val v hp')) : hp.next ≤ hp'.next := by
  unfold opBin at h
  split at h
  · rename_i k a k' b _ _
    rcases intBin_shape op k a k' b with hs | ⟨u, hs⟩
    · rw [hs] at h; cases h
    · rw [hs] at h; cases h; exact Nat.le_refl _
  · rename_i a b _ _
    rcases strBin_shape op a b with hs | ⟨u, hs⟩
    · rw [hs] at h; cases h
    · rw [hs] at h; cases h; exact Nat.le_refl _
  all_goals ((repeat' split at h) <;> first | (cases h; done) | (simp only [retB, forceB_eq] at h; cases h; exact Nat.le_refl _))

theorem next_builtin {b : Builtin} {tys : List TypeId} {as : List AV} (h : opBuiltin b tys as T hp = some (.val v hp')) : hp.next ≤ hp'.next := by
  unfold opBuiltin at h
  split at h <;> (try dsimp only at h)
  · unfold opLen at h
    simp only [lenK_eq, forceN_eq] at h
    (repeat' split at h) <;> first | (cases h; done) | (cases h; exact Nat.le_refl _)
  · unfold opAppend opAppendStr at h
    (repeat' split at h) <;> first | (cases h; done) | skip
    all_goals
      unfold appendTo at h
      simp only [newCells_eq, forceN_eq, writeCells_eq, putObj_eq, ofList_eq, lenK_eq, newObj_eq, Tr.del_eq] at h
      (repeat' split at h) <;> first | (cases h; done) | (cases h; exact Nat.le_refl _) | (cases h; exact Nat.le_succ _)
  · (repeat' split at h) <;> first | (cases h; done) | (cases h; exact Nat.le_refl _)
  · unfold opUnsafeString at h
    simp only [Tr.del_eq] at h
    (repeat' split at h) <;> first | (cases h; done) | (cases h; exact Nat.le_refl _)
  · unfold opCopy at h
    simp only [forceN_eq, writeCells_eq, putObj_eq] at h
    (repeat' split at h) <;> first | (cases h; done) | (cases h; exact Nat.le_refl _)
  all_goals ((repeat' split at h) <;> first | (cases h; done) | (cases h; exact Nat.le_refl _))

theorem opA_next {op : Op} (h : opA op T env hp = some (.val v hp')) : hp.next ≤ hp'.next := by
  cases op with
  | call cl =>
    have h' : opCall cl T env hp = some (.val v hp') := h
    unfold opCall at h'
    split at h'
    · rcases opCallee_val h' with ⟨b, _, hv⟩ | ⟨_, _, _, _, _, _, _, _, rfl⟩
      · exact next_builtin hv
      · exact Nat.le_refl _
    · cases h'
  | binOp op t x y yt => exact next_bin h
  | move x => unfold opA opMove at h; dsimp only at h; split at h <;> first | (cases h; done) | (cases h; exact Nat.le_refl _)
  | assign x => unfold opA opMove at h; dsimp only at h; split at h <;> first | (cases h; done) | (cases h; exact Nat.le_refl _)
  | pick c a b => unfold opA opPick opMove at h; dsimp only at h; (repeat' split at h) <;> first | (cases h; done) | (cases h; exact Nat.le_refl _)
  | alloc t => unfold opA opAlloc at h; simp only [newCells_eq] at h; (repeat' split at h) <;> first | (cases h; done) | (cases h; exact Nat.le_succ _)
  | box t x => unfold opA opBox at h; simp only [newCells_eq] at h; (repeat' split at h) <;> first | (cases h; done) | (cases h; exact Nat.le_succ _)
  | build t ps => unfold opA opBuild at h; dsimp only at h; (repeat' split at h) <;> first | (cases h; done) | (cases h; exact Nat.le_refl _)
  | buildSlice t n ps => unfold opA opBuildSlice at h; simp only [newCells_eq] at h; (repeat' split at h) <;> first | (cases h; done) | (cases h; exact Nat.le_succ _)
  | load t x => unfold opA opLoad at h; dsimp only at h; (repeat' split at h) <;> first | (cases h; done) | (cases h; exact Nat.le_refl _)
  | store t x y => unfold opA opStore at h; simp only [lenK_eq, writeCells_eq, putObj_eq] at h; (repeat' split at h) <;> first | (cases h; done) | (cases h; exact Nat.le_refl _)
  | nilCheck x => unfold opA opNilCheck at h; dsimp only at h; (repeat' split at h) <;> first | (cases h; done) | (cases h; exact Nat.le_refl _)
  | unOp op t x => unfold opA opUn at h; simp only [retB, retI, forceB_eq, forceI_eq] at h; (repeat' split at h) <;> first | (cases h; done) | (cases h; exact Nat.le_refl _)
  | convert s d x => unfold opA opConvert convPtr at h; simp only [retI, forceI_eq] at h; (repeat' split at h) <;> first | (cases h; done) | (cases h; exact Nat.le_refl _)
  | makeFunc f a b => unfold opA opMakeFunc at h; dsimp only at h; (repeat' split at h) <;> first | (cases h; done) | (cases h; exact Nat.le_refl _)
  | makeMap t r => unfold opA opMakeMap at h; simp only [newObj_eq] at h; (repeat' split at h) <;> first | (cases h; done) | (cases h; exact Nat.le_succ _)
  | makeSlice t l c => unfold opA opMakeSlice at h; simp only [newCells_eq] at h; (repeat' split at h) <;> first | (cases h; done) | (cases h; exact Nat.le_succ _)
  | slice t x l hi m => unfold opA opSlice at h; simp only [forceN_eq] at h; (repeat' split at h) <;> first | (cases h; done) | (cases h; exact Nat.le_refl _)
  | fieldAddr s x f => unfold opA opFieldAddr at h; simp only [forceN_eq] at h; (repeat' split at h) <;> first | (cases h; done) | (cases h; exact Nat.le_refl _)
  | field t x f => unfold opA opField at h; dsimp only at h; (repeat' split at h) <;> first | (cases h; done) | (cases h; exact Nat.le_refl _)
  | indexAddr t x i => unfold opA opIndexAddr at h; simp only [forceN_eq] at h; (repeat' split at h) <;> first | (cases h; done) | (cases h; exact Nat.le_refl _)
  | index t x i => unfold opA opIndex at h; simp only [forceN_eq] at h; (repeat' split at h) <;> first | (cases h; done) | (cases h; exact Nat.le_refl _)
  | lookup t x i ok => unfold opA opLookup at h; dsimp only at h; (repeat' split at h) <;> first | (cases h; done) | (cases h; exact Nat.le_refl _)
  | mapUpdate t x k y => unfold opA opMapUpdate at h; simp only [forceN_eq, putObj_eq] at h; (repeat' split at h) <;> first | (cases h; done) | (cases h; exact Nat.le_refl _)
  | mapEntry t x k => unfold opA opMapEntry at h; simp only [forceN_eq, putObj_eq] at h; (repeat' split at h) <;> first | (cases h; done) | (cases h; exact Nat.le_refl _)
  | entryStore t x s y => unfold opA opEntryStore at h; simp only [putObj_eq] at h; (repeat' split at h) <;> first | (cases h; done) | (cases h; exact Nat.le_refl _)
  | range t x => unfold opA opRange at h; simp only [newObj_eq] at h; (repeat' split at h) <;> first | (cases h; done) | (cases h; exact Nat.le_succ _)
  | next x s => unfold opA opNext at h; dsimp only at h; (repeat' split at h) <;> first | (cases h; done) | (cases h; exact Nat.le_refl _)
  | extract x i => unfold opA opExtract at h; dsimp only at h; (repeat' split at h) <;> first | (cases h; done) | (cases h; exact Nat.le_refl _)
  | _ => cases h

/-! ### Which operations hang on memory -/

/-- The same in two memories, but for those. -/
inductive Same (n : Nat) (m m' : Tr AObj) : Option ARes → Option ARes → Prop where
  | none : Same n m m' none none
  | val (v : AV) : Same n m m' (some (.val v ⟨m, n⟩)) (some (.val v ⟨m', n⟩))
  | new (v : AV) (O : AObj) : Same n m m' (some (.val v ⟨m.put n O, n + 1⟩)) (some (.val v ⟨m'.put n O, n + 1⟩))
  | call (f : FuncId) (args : List AV) : Same n m m' (some (.call f args)) (some (.call f args))

variable {n : Nat} {m m' : Tr AObj}

theorem same_move {x : Operand} : Same n m m' (opMove x T env ⟨m, n⟩) (opMove x T env ⟨m', n⟩) := by
  unfold opMove
  split <;> constructor

theorem refEq_same {d : TypeDesc} {a b : AV} (hd : ∀ e, d ≠ .pointer e) : refEq ⟨m, n⟩ T d a b = refEq ⟨m', n⟩ T d a b := by
  unfold refEq
  split <;> first | rfl | exact absurd rfl (hd _)

theorem same_bin {op : BinOp} {t : TypeId} {x y : Operand} {yt : TypeId} (hl : isLoad T (.binOp op t x y yt) = false) : Same n m m' (opBin op t x y T env ⟨m, n⟩) (opBin op t x y T env ⟨m', n⟩) := by
  unfold opBin
  split
  · rename_i k a k' b _ _
    rcases intBin_shape op k a k' b with hs | ⟨u, hs⟩
    · rw [hs, hs]; exact .none
    · rw [hs, hs]; exact .val _
  · rename_i a b _ _
    rcases strBin_shape op a b with hs | ⟨u, hs⟩
    · rw [hs, hs]; exact .none
    · rw [hs, hs]; exact .val _
  · split
    · split <;> first | constructor | (simp only [retB, forceB_eq]; constructor)
    · constructor
  · split
    · split <;> first | constructor | (simp only [retB, forceB_eq]; constructor)
    · split <;> first | constructor | (simp only [retB, forceB_eq]; constructor)
    · constructor
  · split
    · split <;> first | constructor | (simp only [retB, forceB_eq]; constructor)
    · constructor
  · split
    · rename_i ti hti
      have hd : ∀ e, ti.und ≠ .pointer e := by
        intro e he
        unfold isLoad at hl
        simp [hti, he] at hl
      rw [refEq_same (m' := m') hd]
      split <;> first | constructor | (simp only [retB, forceB_eq]; constructor)
    · constructor
  · constructor

end
end Go.Ab
