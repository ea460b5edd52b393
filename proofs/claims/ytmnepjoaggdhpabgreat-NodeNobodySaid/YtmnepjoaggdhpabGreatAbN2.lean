/-
  THE ABSTRACT MACHINE's OPERATIONS AND THE MEMORY: those without effect.
-/
import Derived.Test.YtmnepjoaggdhpabGreatAbN
set_option linter.unusedVariables false
namespace Go.Ab

section
variable {T : Tab} {env : Tr AV} {n n' : Nat} {m m' : Tr AObj}

theorem opA_same {op : Op} (he : isEff T op = false) (hl : isLoad T op = false) : Same n m m' (opA op T env ⟨m, n⟩) (opA op T env ⟨m', n⟩) := by
  cases op with
  | call cl =>
    show Same n m m' (opCall cl T env ⟨m, n⟩) (opCall cl T env ⟨m', n⟩)
    unfold opCall
    split
    · rename_i as _
      obtain ⟨callee, args, tys⟩ := cl
      cases callee with
      | builtin b =>
        cases b <;> first | (cases he; done) | (cases hl; done) | skip
        all_goals (unfold opCallee opBuiltin; dsimp only; (repeat' split) <;> constructor)
      | value f => cases he
      | invoke r nm => cases he
    · constructor
  | binOp op t x y yt => exact same_bin hl
  | move x => exact same_move (T := T)
  | assign x => exact same_move (T := T)
  | pick c a b => unfold opA opPick; dsimp only; split <;> first | exact same_move (T := T) | constructor
  | alloc t => unfold opA opAlloc; simp only [newCells_eq]; (repeat' split) <;> constructor
  | box t x => unfold opA opBox; simp only [newCells_eq]; (repeat' split) <;> constructor
  | build t ps => unfold opA opBuild; dsimp only; (repeat' split) <;> constructor
  | buildSlice t k ps => unfold opA opBuildSlice; simp only [newCells_eq]; (repeat' split) <;> constructor
  | nilCheck x => unfold opA opNilCheck; dsimp only; (repeat' split) <;> constructor
  | unOp op t x => unfold opA opUn; simp only [retB, retI, forceB_eq, forceI_eq]; (repeat' split) <;> constructor
  | convert s d x =>
    show Same n m m' (opConvert s d x T env ⟨m, n⟩) (opConvert s d x T env ⟨m', n⟩)
    unfold opConvert
    split
    · rename_i ts td hts htd
      split
      · simp only [retI, forceI_eq]
        (repeat' split) <;> constructor
      · rename_i i off _
        have hn : ∀ hp : Hp, convPtr T ts.und td.und i off hp = none := fun hp => convPtr_none (d := td.und) (fun u hu => by simp [isEff, htd, hu] at he) (fun hu => by simp [isEff, htd, hu] at he)
        rw [hn, hn]; constructor
      · constructor
    · constructor
  | makeFunc f a b => unfold opA opMakeFunc; dsimp only; (repeat' split) <;> constructor
  | makeMap t r => unfold opA opMakeMap; simp only [newObj_eq]; (repeat' split) <;> constructor
  | makeSlice t l c => unfold opA opMakeSlice; simp only [newCells_eq]; (repeat' split) <;> constructor
  | slice t x l hi mx => unfold opA opSlice; simp only [forceN_eq]; (repeat' split) <;> constructor
  | fieldAddr s x f => unfold opA opFieldAddr; simp only [forceN_eq]; (repeat' split) <;> constructor
  | field t x f => unfold opA opField; dsimp only; (repeat' split) <;> constructor
  | indexAddr t x i => unfold opA opIndexAddr; simp only [forceN_eq]; (repeat' split) <;> constructor
  | index t x i => unfold opA opIndex; simp only [forceN_eq]; (repeat' split) <;> constructor
  | extract x i => unfold opA opExtract; dsimp only; (repeat' split) <;> constructor
  | load t x => cases hl
  | lookup t x i ok => cases hl
  | _ => first | (cases he; done) | exact .none

/-- A load leaves the memory as it is, and asks for no name. -/
inductive Loads (n n' : Nat) (m : Tr AObj) : Option ARes → Option ARes → Prop where
  | none : Loads n n' m none none
  | val (v : AV) : Loads n n' m (some (.val v ⟨m, n⟩)) (some (.val v ⟨m, n'⟩))

theorem refEq_loads {d : TypeDesc} {a b : AV} : refEq ⟨m, n⟩ T d a b = refEq ⟨m, n'⟩ T d a b := by
  unfold refEq
  split <;> rfl

theorem loads_bin {op : BinOp} {t : TypeId} {x y : Operand} : Loads n n' m (opBin op t x y T env ⟨m, n⟩) (opBin op t x y T env ⟨m, n'⟩) := by
  unfold opBin
  split
  · rename_i k a k' b _ _
    rcases intBin_shape op k a k' b with hs | ⟨u, hs⟩
    · rw [hs, hs]; exact .none
    · rw [hs, hs]; exact .val _
  · rename_i a b _ _
    rcases strBin_shape op a b with hs | ⟨u, hs⟩
    · rw [hs, hs]; exact .none
    · rw [hs, hs]; exact .val _
  · split
    · split <;> first | constructor | (simp only [retB, forceB_eq]; constructor)
    · constructor
  · split
    · split <;> first | constructor | (simp only [retB, forceB_eq]; constructor)
    · split <;> first | constructor | (simp only [retB, forceB_eq]; constructor)
    · constructor
  · split
    · split <;> first | constructor | (simp only [retB, forceB_eq]; constructor)
    · constructor
  · split
    · rename_i ti hti
      rw [refEq_loads (n' := n')]
      split <;> first | constructor | (simp only [retB, forceB_eq]; constructor)
    · constructor
  · constructor

theorem opA_loads {op : Op} (he : isEff T op = false) (hl : isLoad T op = true) : Loads n n' m (opA op T env ⟨m, n⟩) (opA op T env ⟨m, n'⟩) := by
  cases op with
  | call cl =>
    show Loads n n' m (opCall cl T env ⟨m, n⟩) (opCall cl T env ⟨m, n'⟩)
    unfold opCall
    split
    · rename_i as _
      obtain ⟨callee, args, tys⟩ := cl
      cases callee with
      | builtin b =>
        cases b <;> first | (cases he; done) | (cases hl; done) | skip
        all_goals (unfold opCallee opBuiltin opLen; simp only [lenK_eq, forceN_eq]; (repeat' split) <;> constructor)
      | value f => cases he
      | invoke r nm => cases he
    · constructor
  | binOp op t x y yt => exact loads_bin
  | convert s d x => unfold opA opConvert convPtr; simp only [retI, forceI_eq]; (repeat' split) <;> constructor
  | load t x => unfold opA opLoad; dsimp only; (repeat' split) <;> constructor
  | lookup t x i ok => unfold opA opLookup; dsimp only; (repeat' split) <;> constructor
  | _ => first | (cases he; done) | (cases hl; done)

end
end Go.Ab
