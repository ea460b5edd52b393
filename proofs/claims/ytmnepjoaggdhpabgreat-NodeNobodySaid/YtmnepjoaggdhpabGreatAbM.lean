/-
  FINITE MAPS, QUICK: reading and writing, written out at the machine's own kinds, so that the kernel has little to copy. Printed by a program (genM.py).
-/
import Derived.Test.YtmnepjoaggdhpabGreatAbP4
set_option linter.unusedVariables false
namespace Go.Ab

abbrev OA := Option ARes

/-! Reading, at AV -/

noncomputable def gA1 (p : Pa) : N AV (M AV 0) → Option AV :=
  Pa.rec (motive := fun _ => N AV (M AV 0) → Option AV) (fun t => t.v) (fun _ _ _ => none) (fun _ _ _ => none) (fun _ _ _ => none) (fun _ _ _ => none) (fun _ _ _ => none) (fun _ _ _ => none) (fun _ _ _ => none) (fun _ _ _ => none) p
theorem gA1_eq (p : Pa) (t : M AV 1) : gA1 p t = getL 1 p t := by
  cases p with
  | z => rfl
  | _ => rfl
noncomputable def gA2 (p : Pa) : N AV (M AV 1) → Option AV :=
  Pa.rec (motive := fun _ => N AV (M AV 1) → Option AV) (fun t => t.v) (fun p _ t => gA1 p t.c0) (fun p _ t => gA1 p t.c1) (fun p _ t => gA1 p t.c2) (fun p _ t => gA1 p t.c3) (fun p _ t => gA1 p t.c4) (fun p _ t => gA1 p t.c5) (fun p _ t => gA1 p t.c6) (fun p _ t => gA1 p t.c7) p
theorem gA2_eq (p : Pa) (t : M AV 2) : gA2 p t = getL 2 p t := by
  cases p with
  | z => rfl
  | d0 p => exact gA1_eq p _
  | d1 p => exact gA1_eq p _
  | d2 p => exact gA1_eq p _
  | d3 p => exact gA1_eq p _
  | d4 p => exact gA1_eq p _
  | d5 p => exact gA1_eq p _
  | d6 p => exact gA1_eq p _
  | d7 p => exact gA1_eq p _
noncomputable def gA3 (p : Pa) : N AV (M AV 2) → Option AV :=
  Pa.rec (motive := fun _ => N AV (M AV 2) → Option AV) (fun t => t.v) (fun p _ t => gA2 p t.c0) (fun p _ t => gA2 p t.c1) (fun p _ t => gA2 p t.c2) (fun p _ t => gA2 p t.c3) (fun p _ t => gA2 p t.c4) (fun p _ t => gA2 p t.c5) (fun p _ t => gA2 p t.c6) (fun p _ t => gA2 p t.c7) p
theorem gA3_eq (p : Pa) (t : M AV 3) : gA3 p t = getL 3 p t := by
  cases p with
  | z => rfl
  | d0 p => exact gA2_eq p _
  | d1 p => exact gA2_eq p _
  | d2 p => exact gA2_eq p _
  | d3 p => exact gA2_eq p _
  | d4 p => exact gA2_eq p _
  | d5 p => exact gA2_eq p _
  | d6 p => exact gA2_eq p _
  | d7 p => exact gA2_eq p _
noncomputable def gA4 (p : Pa) : N AV (M AV 3) → Option AV :=
  Pa.rec (motive := fun _ => N AV (M AV 3) → Option AV) (fun t => t.v) (fun p _ t => gA3 p t.c0) (fun p _ t => gA3 p t.c1) (fun p _ t => gA3 p t.c2) (fun p _ t => gA3 p t.c3) (fun p _ t => gA3 p t.c4) (fun p _ t => gA3 p t.c5) (fun p _ t => gA3 p t.c6) (fun p _ t => gA3 p t.c7) p
theorem gA4_eq (p : Pa) (t : M AV 4) : gA4 p t = getL 4 p t := by
  cases p with
  | z => rfl
  | d0 p => exact gA3_eq p _
  | d1 p => exact gA3_eq p _
  | d2 p => exact gA3_eq p _
  | d3 p => exact gA3_eq p _
  | d4 p => exact gA3_eq p _
  | d5 p => exact gA3_eq p _
  | d6 p => exact gA3_eq p _
  | d7 p => exact gA3_eq p _
noncomputable def gA5 (p : Pa) : N AV (M AV 4) → Option AV :=
  Pa.rec (motive := fun _ => N AV (M AV 4) → Option AV) (fun t => t.v) (fun p _ t => gA4 p t.c0) (fun p _ t => gA4 p t.c1) (fun p _ t => gA4 p t.c2) (fun p _ t => gA4 p t.c3) (fun p _ t => gA4 p t.c4) (fun p _ t => gA4 p t.c5) (fun p _ t => gA4 p t.c6) (fun p _ t => gA4 p t.c7) p
theorem gA5_eq (p : Pa) (t : M AV 5) : gA5 p t = getL 5 p t := by
  cases p with
  | z => rfl
  | d0 p => exact gA4_eq p _
  | d1 p => exact gA4_eq p _
  | d2 p => exact gA4_eq p _
  | d3 p => exact gA4_eq p _
  | d4 p => exact gA4_eq p _
  | d5 p => exact gA4_eq p _
  | d6 p => exact gA4_eq p _
  | d7 p => exact gA4_eq p _
noncomputable def gA6 (p : Pa) : N AV (M AV 5) → Option AV :=
  Pa.rec (motive := fun _ => N AV (M AV 5) → Option AV) (fun t => t.v) (fun p _ t => gA5 p t.c0) (fun p _ t => gA5 p t.c1) (fun p _ t => gA5 p t.c2) (fun p _ t => gA5 p t.c3) (fun p _ t => gA5 p t.c4) (fun p _ t => gA5 p t.c5) (fun p _ t => gA5 p t.c6) (fun p _ t => gA5 p t.c7) p
theorem gA6_eq (p : Pa) (t : M AV 6) : gA6 p t = getL 6 p t := by
  cases p with
  | z => rfl
  | d0 p => exact gA5_eq p _
  | d1 p => exact gA5_eq p _
  | d2 p => exact gA5_eq p _
  | d3 p => exact gA5_eq p _
  | d4 p => exact gA5_eq p _
  | d5 p => exact gA5_eq p _
  | d6 p => exact gA5_eq p _
  | d7 p => exact gA5_eq p _

noncomputable def getA (p : PT) : Tr AV → Option AV := PT.rec (motive := fun _ => Tr AV → Option AV) (fun p t => gA6 p t.lo) (fun n t => t.hi.get n) p
theorem getA_eq (t : Tr AV) (n : Nat) : getA (path n) t = t.get n := by
  unfold Tr.get
  cases path n with
  | lo p => exact gA6_eq p t.lo
  | hi n => rfl

/-! Reading, at AObj -/

noncomputable def gO1 (p : Pa) : N AObj (M AObj 0) → Option AObj :=
  Pa.rec (motive := fun _ => N AObj (M AObj 0) → Option AObj) (fun t => t.v) (fun _ _ _ => none) (fun _ _ _ => none) (fun _ _ _ => none) (fun _ _ _ => none) (fun _ _ _ => none) (fun _ _ _ => none) (fun _ _ _ => none) (fun _ _ _ => none) p
theorem gO1_eq (p : Pa) (t : M AObj 1) : gO1 p t = getL 1 p t := by
  cases p with
  | z => rfl
  | _ => rfl
noncomputable def gO2 (p : Pa) : N AObj (M AObj 1) → Option AObj :=
  Pa.rec (motive := fun _ => N AObj (M AObj 1) → Option AObj) (fun t => t.v) (fun p _ t => gO1 p t.c0) (fun p _ t => gO1 p t.c1) (fun p _ t => gO1 p t.c2) (fun p _ t => gO1 p t.c3) (fun p _ t => gO1 p t.c4) (fun p _ t => gO1 p t.c5) (fun p _ t => gO1 p t.c6) (fun p _ t => gO1 p t.c7) p
theorem gO2_eq (p : Pa) (t : M AObj 2) : gO2 p t = getL 2 p t := by
  cases p with
  | z => rfl
  | d0 p => exact gO1_eq p _
  | d1 p => exact gO1_eq p _
  | d2 p => exact gO1_eq p _
  | d3 p => exact gO1_eq p _
  | d4 p => exact gO1_eq p _
  | d5 p => exact gO1_eq p _
  | d6 p => exact gO1_eq p _
  | d7 p => exact gO1_eq p _
noncomputable def gO3 (p : Pa) : N AObj (M AObj 2) → Option AObj :=
  Pa.rec (motive := fun _ => N AObj (M AObj 2) → Option AObj) (fun t => t.v) (fun p _ t => gO2 p t.c0) (fun p _ t => gO2 p t.c1) (fun p _ t => gO2 p t.c2) (fun p _ t => gO2 p t.c3) (fun p _ t => gO2 p t.c4) (fun p _ t => gO2 p t.c5) (fun p _ t => gO2 p t.c6) (fun p _ t => gO2 p t.c7) p
theorem gO3_eq (p : Pa) (t : M AObj 3) : gO3 p t = getL 3 p t := by
  cases p with
  | z => rfl
  | d0 p => exact gO2_eq p _
  | d1 p => exact gO2_eq p _
  | d2 p => exact gO2_eq p _
  | d3 p => exact gO2_eq p _
  | d4 p => exact gO2_eq p _
  | d5 p => exact gO2_eq p _
  | d6 p => exact gO2_eq p _
  | d7 p => exact gO2_eq p _
noncomputable def gO4 (p : Pa) : N AObj (M AObj 3) → Option AObj :=
  Pa.rec (motive := fun _ => N AObj (M AObj 3) → Option AObj) (fun t => t.v) (fun p _ t => gO3 p t.c0) (fun p _ t => gO3 p t.c1) (fun p _ t => gO3 p t.c2) (fun p _ t => gO3 p t.c3) (fun p _ t => gO3 p t.c4) (fun p _ t => gO3 p t.c5) (fun p _ t => gO3 p t.c6) (fun p _ t => gO3 p t.c7) p
theorem gO4_eq (p : Pa) (t : M AObj 4) : gO4 p t = getL 4 p t := by
  cases p with
  | z => rfl
  | d0 p => exact gO3_eq p _
  | d1 p => exact gO3_eq p _
  | d2 p => exact gO3_eq p _
  | d3 p => exact gO3_eq p _
  | d4 p => exact gO3_eq p _
  | d5 p => exact gO3_eq p _
  | d6 p => exact gO3_eq p _
  | d7 p => exact gO3_eq p _
noncomputable def gO5 (p : Pa) : N AObj (M AObj 4) → Option AObj :=
  Pa.rec (motive := fun _ => N AObj (M AObj 4) → Option AObj) (fun t => t.v) (fun p _ t => gO4 p t.c0) (fun p _ t => gO4 p t.c1) (fun p _ t => gO4 p t.c2) (fun p _ t => gO4 p t.c3) (fun p _ t => gO4 p t.c4) (fun p _ t => gO4 p t.c5) (fun p _ t => gO4 p t.c6) (fun p _ t => gO4 p t.c7) p
theorem gO5_eq (p : Pa) (t : M AObj 5) : gO5 p t = getL 5 p t := by
  cases p with
  | z => rfl
  | d0 p => exact gO4_eq p _
  | d1 p => exact gO4_eq p _
  | d2 p => exact gO4_eq p _
  | d3 p => exact gO4_eq p _
  | d4 p => exact gO4_eq p _
  | d5 p => exact gO4_eq p _
  | d6 p => exact gO4_eq p _
  | d7 p => exact gO4_eq p _
noncomputable def gO6 (p : Pa) : N AObj (M AObj 5) → Option AObj :=
  Pa.rec (motive := fun _ => N AObj (M AObj 5) → Option AObj) (fun t => t.v) (fun p _ t => gO5 p t.c0) (fun p _ t => gO5 p t.c1) (fun p _ t => gO5 p t.c2) (fun p _ t => gO5 p t.c3) (fun p _ t => gO5 p t.c4) (fun p _ t => gO5 p t.c5) (fun p _ t => gO5 p t.c6) (fun p _ t => gO5 p t.c7) p
theorem gO6_eq (p : Pa) (t : M AObj 6) : gO6 p t = getL 6 p t := by
  cases p with
  | z => rfl
  | d0 p => exact gO5_eq p _
  | d1 p => exact gO5_eq p _
  | d2 p => exact gO5_eq p _
  | d3 p => exact gO5_eq p _
  | d4 p => exact gO5_eq p _
  | d5 p => exact gO5_eq p _
  | d6 p => exact gO5_eq p _
  | d7 p => exact gO5_eq p _

noncomputable def getO (p : PT) : Tr AObj → Option AObj := PT.rec (motive := fun _ => Tr AObj → Option AObj) (fun p t => gO6 p t.lo) (fun n t => t.hi.get n) p
theorem getO_eq (t : Tr AObj) (n : Nat) : getO (path n) t = t.get n := by
  unfold Tr.get
  cases path n with
  | lo p => exact gO6_eq p t.lo
  | hi n => rfl

/-! Writing, at AV, on to Out -/

noncomputable def sAW1 (p : Pa) : AV → N AV (M AV 0) → (N AV (M AV 0) → Out) → Out :=
  Pa.rec (motive := fun _ => AV → N AV (M AV 0) → (N AV (M AV 0) → Out) → Out)
    (fun x t f => N.rec (motive := fun _ => Out) (fun _ c0 c1 c2 c3 c4 c5 c6 c7 => f ⟨some x, c0, c1, c2, c3, c4, c5, c6, c7⟩) t)
    (fun _ _ _ t f => f t) (fun _ _ _ t f => f t) (fun _ _ _ t f => f t) (fun _ _ _ t f => f t) (fun _ _ _ t f => f t) (fun _ _ _ t f => f t) (fun _ _ _ t f => f t) (fun _ _ _ t f => f t) p
theorem sAW1_eq (p : Pa) (x : AV) (t : M AV 1) (f : M AV 1 → Out) : sAW1 p x t f = setL 1 p (some x) t f := by
  cases p with
  | z => rfl
  | _ => rfl
noncomputable def sAW2 (p : Pa) : AV → N AV (M AV 1) → (N AV (M AV 1) → Out) → Out :=
  Pa.rec (motive := fun _ => AV → N AV (M AV 1) → (N AV (M AV 1) → Out) → Out)
    (fun x t f => N.rec (motive := fun _ => Out) (fun _ c0 c1 c2 c3 c4 c5 c6 c7 => f ⟨some x, c0, c1, c2, c3, c4, c5, c6, c7⟩) t)
    (fun p _ x t f => N.rec (motive := fun _ => Out) (fun v c0 c1 c2 c3 c4 c5 c6 c7 => sAW1 p x c0 fun c0 => f ⟨v, c0, c1, c2, c3, c4, c5, c6, c7⟩) t)
    (fun p _ x t f => N.rec (motive := fun _ => Out) (fun v c0 c1 c2 c3 c4 c5 c6 c7 => sAW1 p x c1 fun c1 => f ⟨v, c0, c1, c2, c3, c4, c5, c6, c7⟩) t)
    (fun p _ x t f => N.rec (motive := fun _ => Out) (fun v c0 c1 c2 c3 c4 c5 c6 c7 => sAW1 p x c2 fun c2 => f ⟨v, c0, c1, c2, c3, c4, c5, c6, c7⟩) t)
    (fun p _ x t f => N.rec (motive := fun _ => Out) (fun v c0 c1 c2 c3 c4 c5 c6 c7 => sAW1 p x c3 fun c3 => f ⟨v, c0, c1, c2, c3, c4, c5, c6, c7⟩) t)
    (fun p _ x t f => N.rec (motive := fun _ => Out) (fun v c0 c1 c2 c3 c4 c5 c6 c7 => sAW1 p x c4 fun c4 => f ⟨v, c0, c1, c2, c3, c4, c5, c6, c7⟩) t)
    (fun p _ x t f => N.rec (motive := fun _ => Out) (fun v c0 c1 c2 c3 c4 c5 c6 c7 => sAW1 p x c5 fun c5 => f ⟨v, c0, c1, c2, c3, c4, c5, c6, c7⟩) t)
    (fun p _ x t f => N.rec (motive := fun _ => Out) (fun v c0 c1 c2 c3 c4 c5 c6 c7 => sAW1 p x c6 fun c6 => f ⟨v, c0, c1, c2, c3, c4, c5, c6, c7⟩) t)
    (fun p _ x t f => N.rec (motive := fun _ => Out) (fun v c0 c1 c2 c3 c4 c5 c6 c7 => sAW1 p x c7 fun c7 => f ⟨v, c0, c1, c2, c3, c4, c5, c6, c7⟩) t) p
theorem sAW2_eq (p : Pa) (x : AV) (t : M AV 2) (f : M AV 2 → Out) : sAW2 p x t f = setL 2 p (some x) t f := by
  cases p with
  | z => rfl
  | d0 p => exact sAW1_eq p x _ _
  | d1 p => exact sAW1_eq p x _ _
  | d2 p => exact sAW1_eq p x _ _
  | d3 p => exact sAW1_eq p x _ _
  | d4 p => exact sAW1_eq p x _ _
  | d5 p => exact sAW1_eq p x _ _
  | d6 p => exact sAW1_eq p x _ _
  | d7 p => exact sAW1_eq p x _ _
noncomputable def sAW3 (p : Pa) : AV → N AV (M AV 2) → (N AV (M AV 2) → Out) → Out :=
  Pa.rec (motive := fun _ => AV → N AV (M AV 2) → (N AV (M AV 2) → Out) → Out)
    (fun x t f => N.rec (motive := fun _ => Out) (fun _ c0 c1 c2 c3 c4 c5 c6 c7 => f ⟨some x, c0, c1, c2, c3, c4, c5, c6, c7⟩) t)
    (fun p _ x t f => N.rec (motive := fun _ => Out) (fun v c0 c1 c2 c3 c4 c5 c6 c7 => sAW2 p x c0 fun c0 => f ⟨v, c0, c1, c2, c3, c4, c5, c6, c7⟩) t)
    (fun p _ x t f => N.rec (motive := fun _ => Out) (fun v c0 c1 c2 c3 c4 c5 c6 c7 => sAW2 p x c1 fun c1 => f ⟨v, c0, c1, c2, c3, c4, c5, c6, c7⟩) t)
    (fun p _ x t f => N.rec (motive := fun _ => Out) (fun v c0 c1 c2 c3 c4 c5 c6 c7 => sAW2 p x c2 fun c2 => f ⟨v, c0, c1, c2, c3, c4, c5, c6, c7⟩) t)
    (fun p _ x t f => N.rec (motive := fun _ => Out) (fun v c0 c1 c2 c3 c4 c5 c6 c7 => sAW2 p x c3 fun c3 => f ⟨v, c0, c1, c2, c3, c4, c5, c6, c7⟩) t)
    (fun p _ x t f => N.rec (motive := fun _ => Out) (fun v c0 c1 c2 c3 c4 c5 c6 c7 => sAW2 p x c4 fun c4 => f ⟨v, c0, c1, c2, c3, c4, c5, c6, c7⟩) t)
    (fun p _ x t f => N.rec (motive := fun _ => Out) (fun v c0 c1 c2 c3 c4 c5 c6 c7 => sAW2 p x c5 fun c5 => f ⟨v, c0, c1, c2, c3, c4, c5, c6, c7⟩) t)
    (fun p _ x t f => N.rec (motive := fun _ => Out) (fun v c0 c1 c2 c3 c4 c5 c6 c7 => sAW2 p x c6 fun c6 => f ⟨v, c0, c1, c2, c3, c4, c5, c6, c7⟩) t)
    (fun p _ x t f => N.rec (motive := fun _ => Out) (fun v c0 c1 c2 c3 c4 c5 c6 c7 => sAW2 p x c7 fun c7 => f ⟨v, c0, c1, c2, c3, c4, c5, c6, c7⟩) t) p
theorem sAW3_eq (p : Pa) (x : AV) (t : M AV 3) (f : M AV 3 → Out) : sAW3 p x t f = setL 3 p (some x) t f := by
  cases p with
  | z => rfl
  | d0 p => exact sAW2_eq p x _ _
  | d1 p => exact sAW2_eq p x _ _
  | d2 p => exact sAW2_eq p x _ _
  | d3 p => exact sAW2_eq p x _ _
  | d4 p => exact sAW2_eq p x _ _
  | d5 p => exact sAW2_eq p x _ _
  | d6 p => exact sAW2_eq p x _ _
  | d7 p => exact sAW2_eq p x _ _
noncomputable def sAW4 (p : Pa) : AV → N AV (M AV 3) → (N AV (M AV 3) → Out) → Out :=
  Pa.rec (motive := fun _ => AV → N AV (M AV 3) → (N AV (M AV 3) → Out) → Out)
    (fun x t f => N.rec (motive := fun _ => Out) (fun _ c0 c1 c2 c3 c4 c5 c6 c7 => f ⟨some x, c0, c1, c2, c3, c4, c5, c6, c7⟩) t)
    (fun p _ x t f => N.rec (motive := fun _ => Out) (fun v c0 c1 c2 c3 c4 c5 c6 c7 => sAW3 p x c0 fun c0 => f ⟨v, c0, c1, c2, c3, c4, c5, c6, c7⟩) t)
    (fun p _ x t f => N.rec (motive := fun _ => Out) (fun v c0 c1 c2 c3 c4 c5 c6 c7 => sAW3 p x c1 fun c1 => f ⟨v, c0, c1, c2, c3, c4, c5, c6, c7⟩) t)
    (fun p _ x t f => N.rec (motive := fun _ => Out) (fun v c0 c1 c2 c3 c4 c5 c6 c7 => sAW3 p x c2 fun c2 => f ⟨v, c0, c1, c2, c3, c4, c5, c6, c7⟩) t)
    (fun p _ x t f => N.rec (motive := fun _ => Out) (fun v c0 c1 c2 c3 c4 c5 c6 c7 => sAW3 p x c3 fun c3 => f ⟨v, c0, c1, c2, c3, c4, c5, c6, c7⟩) t)
    (fun p _ x t f => N.rec (motive := fun _ => Out) (fun v c0 c1 c2 c3 c4 c5 c6 c7 => sAW3 p x c4 fun c4 => f ⟨v, c0, c1, c2, c3, c4, c5, c6, c7⟩) t)
    (fun p _ x t f => N.rec (motive := fun _ => Out) (fun v c0 c1 c2 c3 c4 c5 c6 c7 => sAW3 p x c5 fun c5 => f ⟨v, c0, c1, c2, c3, c4, c5, c6, c7⟩) t)
    (fun p _ x t f => N.rec (motive := fun _ => Out) (fun v c0 c1 c2 c3 c4 c5 c6 c7 => sAW3 p x c6 fun c6 => f ⟨v, c0, c1, c2, c3, c4, c5, c6, c7⟩) t)
    (fun p _ x t f => N.rec (motive := fun _ => Out) (fun v c0 c1 c2 c3 c4 c5 c6 c7 => sAW3 p x c7 fun c7 => f ⟨v, c0, c1, c2, c3, c4, c5, c6, c7⟩) t) p
theorem sAW4_eq (p : Pa) (x : AV) (t : M AV 4) (f : M AV 4 → Out) : sAW4 p x t f = setL 4 p (some x) t f := by
  cases p with
  | z => rfl
  | d0 p => exact sAW3_eq p x _ _
  | d1 p => exact sAW3_eq p x _ _
  | d2 p => exact sAW3_eq p x _ _
  | d3 p => exact sAW3_eq p x _ _
  | d4 p => exact sAW3_eq p x _ _
  | d5 p => exact sAW3_eq p x _ _
  | d6 p => exact sAW3_eq p x _ _
  | d7 p => exact sAW3_eq p x _ _
noncomputable def sAW5 (p : Pa) : AV → N AV (M AV 4) → (N AV (M AV 4) → Out) → Out :=
  Pa.rec (motive := fun _ => AV → N AV (M AV 4) → (N AV (M AV 4) → Out) → Out)
    (fun x t f => N.rec (motive := fun _ => Out) (fun _ c0 c1 c2 c3 c4 c5 c6 c7 => f ⟨some x, c0, c1, c2, c3, c4, c5, c6, c7⟩) t)
    (fun p _ x t f => N.rec (motive := fun _ => Out) (fun v c0 c1 c2 c3 c4 c5 c6 c7 => sAW4 p x c0 fun c0 => f ⟨v, c0, c1, c2, c3, c4, c5, c6, c7⟩) t)
    (fun p _ x t f => N.rec (motive := fun _ => Out) (fun v c0 c1 c2 c3 c4 c5 c6 c7 => sAW4 p x c1 fun c1 => f ⟨v, c0, c1, c2, c3, c4, c5, c6, c7⟩) t)
    (fun p _ x t f => N.rec (motive := fun _ => Out) (fun v c0 c1 c2 c3 c4 c5 c6 c7 => sAW4 p x c2 fun c2 => f ⟨v, c0, c1, c2, c3, c4, c5, c6, c7⟩) t)
    (fun p _ x t f => N.rec (motive := fun _ => Out) (fun v c0 c1 c2 c3 c4 c5 c6 c7 => sAW4 p x c3 fun c3 => f ⟨v, c0, c1, c2, c3, c4, c5, c6, c7⟩) t)
    (fun p _ x t f => N.rec (motive := fun _ => Out) (fun v c0 c1 c2 c3 c4 c5 c6 c7 => sAW4 p x c4 fun c4 => f ⟨v, c0, c1, c2, c3, c4, c5, c6, c7⟩) t)
    (fun p _ x t f => N.rec (motive := fun _ => Out) (fun v c0 c1 c2 c3 c4 c5 c6 c7 => sAW4 p x c5 fun c5 => f ⟨v, c0, c1, c2, c3, c4, c5, c6, c7⟩) t)
    (fun p _ x t f => N.rec (motive := fun _ => Out) (fun v c0 c1 c2 c3 c4 c5 c6 c7 => sAW4 p x c6 fun c6 => f ⟨v, c0, c1, c2, c3, c4, c5, c6, c7⟩) t)
    (fun p _ x t f => N.rec (motive := fun _ => Out) (fun v c0 c1 c2 c3 c4 c5 c6 c7 => sAW4 p x c7 fun c7 => f ⟨v, c0, c1, c2, c3, c4, c5, c6, c7⟩) t) p
theorem sAW5_eq (p : Pa) (x : AV) (t : M AV 5) (f : M AV 5 → Out) : sAW5 p x t f = setL 5 p (some x) t f := by
  cases p with
  | z => rfl
  | d0 p => exact sAW4_eq p x _ _
  | d1 p => exact sAW4_eq p x _ _
  | d2 p => exact sAW4_eq p x _ _
  | d3 p => exact sAW4_eq p x _ _
  | d4 p => exact sAW4_eq p x _ _
  | d5 p => exact sAW4_eq p x _ _
  | d6 p => exact sAW4_eq p x _ _
  | d7 p => exact sAW4_eq p x _ _
noncomputable def sAW6 (p : Pa) : AV → N AV (M AV 5) → (N AV (M AV 5) → Out) → Out :=
  Pa.rec (motive := fun _ => AV → N AV (M AV 5) → (N AV (M AV 5) → Out) → Out)
    (fun x t f => N.rec (motive := fun _ => Out) (fun _ c0 c1 c2 c3 c4 c5 c6 c7 => f ⟨some x, c0, c1, c2, c3, c4, c5, c6, c7⟩) t)
    (fun p _ x t f => N.rec (motive := fun _ => Out) (fun v c0 c1 c2 c3 c4 c5 c6 c7 => sAW5 p x c0 fun c0 => f ⟨v, c0, c1, c2, c3, c4, c5, c6, c7⟩) t)
    (fun p _ x t f => N.rec (motive := fun _ => Out) (fun v c0 c1 c2 c3 c4 c5 c6 c7 => sAW5 p x c1 fun c1 => f ⟨v, c0, c1, c2, c3, c4, c5, c6, c7⟩) t)
    (fun p _ x t f => N.rec (motive := fun _ => Out) (fun v c0 c1 c2 c3 c4 c5 c6 c7 => sAW5 p x c2 fun c2 => f ⟨v, c0, c1, c2, c3, c4, c5, c6, c7⟩) t)
    (fun p _ x t f => N.rec (motive := fun _ => Out) (fun v c0 c1 c2 c3 c4 c5 c6 c7 => sAW5 p x c3 fun c3 => f ⟨v, c0, c1, c2, c3, c4, c5, c6, c7⟩) t)
    (fun p _ x t f => N.rec (motive := fun _ => Out) (fun v c0 c1 c2 c3 c4 c5 c6 c7 => sAW5 p x c4 fun c4 => f ⟨v, c0, c1, c2, c3, c4, c5, c6, c7⟩) t)
    (fun p _ x t f => N.rec (motive := fun _ => Out) (fun v c0 c1 c2 c3 c4 c5 c6 c7 => sAW5 p x c5 fun c5 => f ⟨v, c0, c1, c2, c3, c4, c5, c6, c7⟩) t)
    (fun p _ x t f => N.rec (motive := fun _ => Out) (fun v c0 c1 c2 c3 c4 c5 c6 c7 => sAW5 p x c6 fun c6 => f ⟨v, c0, c1, c2, c3, c4, c5, c6, c7⟩) t)
    (fun p _ x t f => N.rec (motive := fun _ => Out) (fun v c0 c1 c2 c3 c4 c5 c6 c7 => sAW5 p x c7 fun c7 => f ⟨v, c0, c1, c2, c3, c4, c5, c6, c7⟩) t) p
theorem sAW6_eq (p : Pa) (x : AV) (t : M AV 6) (f : M AV 6 → Out) : sAW6 p x t f = setL 6 p (some x) t f := by
  cases p with
  | z => rfl
  | d0 p => exact sAW5_eq p x _ _
  | d1 p => exact sAW5_eq p x _ _
  | d2 p => exact sAW5_eq p x _ _
  | d3 p => exact sAW5_eq p x _ _
  | d4 p => exact sAW5_eq p x _ _
  | d5 p => exact sAW5_eq p x _ _
  | d6 p => exact sAW5_eq p x _ _
  | d7 p => exact sAW5_eq p x _ _

noncomputable def setAW (p : PT) : AV → Tr AV → (Tr AV → Out) → Out :=
  PT.rec (motive := fun _ => AV → Tr AV → (Tr AV → Out) → Out) (fun p x t k => Tr.rec (motive := fun _ => Out) (fun lo hi => sAW6 p x lo fun lo => k ⟨lo, hi⟩) t)
    (fun n x t k => Tr.setT (.hi n) x t k) p
theorem setAW_eq (t : Tr AV) (n : Nat) (x : AV) (k : Tr AV → Out) : setAW (path n) x t k = k (t.put n x) := by
  rw [← Tr.set_eq t n x k]
  unfold Tr.set
  cases path n with
  | lo p => exact sAW6_eq p x t.lo _
  | hi n => rfl

/-! Writing, at AV, on to OA -/

noncomputable def sAR1 (p : Pa) : AV → N AV (M AV 0) → (N AV (M AV 0) → OA) → OA :=
  Pa.rec (motive := fun _ => AV → N AV (M AV 0) → (N AV (M AV 0) → OA) → OA)
    (fun x t f => N.rec (motive := fun _ => OA) (fun _ c0 c1 c2 c3 c4 c5 c6 c7 => f ⟨some x, c0, c1, c2, c3, c4, c5, c6, c7⟩) t)
    (fun _ _ _ t f => f t) (fun _ _ _ t f => f t) (fun _ _ _ t f => f t) (fun _ _ _ t f => f t) (fun _ _ _ t f => f t) (fun _ _ _ t f => f t) (fun _ _ _ t f => f t) (fun _ _ _ t f => f t) p
theorem sAR1_eq (p : Pa) (x : AV) (t : M AV 1) (f : M AV 1 → OA) : sAR1 p x t f = setL 1 p (some x) t f := by
  cases p with
  | z => rfl
  | _ => rfl
noncomputable def sAR2 (p : Pa) : AV → N AV (M AV 1) → (N AV (M AV 1) → OA) → OA :=
  Pa.rec (motive := fun _ => AV → N AV (M AV 1) → (N AV (M AV 1) → OA) → OA)
    (fun x t f => N.rec (motive := fun _ => OA) (fun _ c0 c1 c2 c3 c4 c5 c6 c7 => f ⟨some x, c0, c1, c2, c3, c4, c5, c6, c7⟩) t)
    (fun p _ x t f => N.rec (motive := fun _ => OA) (fun v c0 c1 c2 c3 c4 c5 c6 c7 => sAR1 p x c0 fun c0 => f ⟨v, c0, c1, c2, c3, c4, c5, c6, c7⟩) t)
    (fun p _ x t f => N.rec (motive := fun _ => OA) (fun v c0 c1 c2 c3 c4 c5 c6 c7 => sAR1 p x c1 fun c1 => f ⟨v, c0, c1, c2, c3, c4, c5, c6, c7⟩) t)
    (fun p _ x t f => N.rec (motive := fun _ => OA) (fun v c0 c1 c2 c3 c4 c5 c6 c7 => sAR1 p x c2 fun c2 => f ⟨v, c0, c1, c2, c3, c4, c5, c6, c7⟩) t)
    (fun p _ x t f => N.rec (motive := fun _ => OA) (fun v c0 c1 c2 c3 c4 c5 c6 c7 => sAR1 p x c3 fun c3 => f ⟨v, c0, c1, c2, c3, c4, c5, c6, c7⟩) t)
    (fun p _ x t f => N.rec (motive := fun _ => OA) (fun v c0 c1 c2 c3 c4 c5 c6 c7 => sAR1 p x c4 fun c4 => f ⟨v, c0, c1, c2, c3, c4, c5, c6, c7⟩) t)
    (fun p _ x t f => N.rec (motive := fun _ => OA) (fun v c0 c1 c2 c3 c4 c5 c6 c7 => sAR1 p x c5 fun c5 => f ⟨v, c0, c1, c2, c3, c4, c5, c6, c7⟩) t)
    (fun p _ x t f => N.rec (motive := fun _ => OA) (fun v c0 c1 c2 c3 c4 c5 c6 c7 => sAR1 p x c6 fun c6 => f ⟨v, c0, c1, c2, c3, c4, c5, c6, c7⟩) t)
    (fun p _ x t f => N.rec (motive := fun _ => OA) (fun v c0 c1 c2 c3 c4 c5 c6 c7 => sAR1 p x c7 fun c7 => f ⟨v, c0, c1, c2, c3, c4, c5, c6, c7⟩) t) p
theorem sAR2_eq (p : Pa) (x : AV) (t : M AV 2) (f : M AV 2 → OA) : sAR2 p x t f = setL 2 p (some x) t f := by
  cases p with
  | z => rfl
  | d0 p => exact sAR1_eq p x _ _
  | d1 p => exact sAR1_eq p x _ _
  | d2 p => exact sAR1_eq p x _ _
  | d3 p => exact sAR1_eq p x _ _
  | d4 p => exact sAR1_eq p x _ _
  | d5 p => exact sAR1_eq p x _ _
  | d6 p => exact sAR1_eq p x _ _
  | d7 p => exact sAR1_eq p x _ _
noncomputable def sAR3 (p : Pa) : AV → N AV (M AV 2) → (N AV (M AV 2) → OA) → OA :=
  Pa.rec (motive := fun _ => AV → N AV (M AV 2) → (N AV (M AV 2) → OA) → OA)
    (fun x t f => N.rec (motive := fun _ => OA) (fun _ c0 c1 c2 c3 c4 c5 c6 c7 => f ⟨some x, c0, c1, c2, c3, c4, c5, c6, c7⟩) t)
    (fun p _ x t f => N.rec (motive := fun _ => OA) (fun v c0 c1 c2 c3 c4 c5 c6 c7 => sAR2 p x c0 fun c0 => f ⟨v, c0, c1, c2, c3, c4, c5, c6, c7⟩) t)
    (fun p _ x t f => N.rec (motive := fun _ => OA) (fun v c0 c1 c2 c3 c4 c5 c6 c7 => sAR2 p x c1 fun c1 => f ⟨v, c0, c1, c2, c3, c4, c5, c6, c7⟩) t)
    (fun p _ x t f => N.rec (motive := fun _ => OA) (fun v c0 c1 c2 c3 c4 c5 c6 c7 => sAR2 p x c2 fun c2 => f ⟨v, c0, c1, c2, c3, c4, c5, c6, c7⟩) t)
    (fun p _ x t f => N.rec (motive := fun _ => OA) (fun v c0 c1 c2 c3 c4 c5 c6 c7 => sAR2 p x c3 fun c3 => f ⟨v, c0, c1, c2, c3, c4, c5, c6, c7⟩) t)
    (fun p _ x t f => N.rec (motive := fun _ => OA) (fun v c0 c1 c2 c3 c4 c5 c6 c7 => sAR2 p x c4 fun c4 => f ⟨v, c0, c1, c2, c3, c4, c5, c6, c7⟩) t)
    (fun p _ x t f => N.rec (motive := fun _ => OA) (fun v c0 c1 c2 c3 c4 c5 c6 c7 => sAR2 p x c5 fun c5 => f ⟨v, c0, c1, c2, c3, c4, c5, c6, c7⟩) t)
    (fun p _ x t f => N.rec (motive := fun _ => OA) (fun v c0 c1 c2 c3 c4 c5 c6 c7 => sAR2 p x c6 fun c6 => f ⟨v, c0, c1, c2, c3, c4, c5, c6, c7⟩) t)
    (fun p _ x t f => N.rec (motive := fun _ => OA) (fun v c0 c1 c2 c3 c4 c5 c6 c7 => sAR2 p x c7 fun c7 => f ⟨v, c0, c1, c2, c3, c4, c5, c6, c7⟩) t) p
theorem sAR3_eq (p : Pa) (x : AV) (t : M AV 3) (f : M AV 3 → OA) : sAR3 p x t f = setL 3 p (some x) t f := by
  cases p with
  | z => rfl
  | d0 p => exact sAR2_eq p x _ _
  | d1 p => exact sAR2_eq p x _ _
  | d2 p => exact sAR2_eq p x _ _
  | d3 p => exact sAR2_eq p x _ _
  | d4 p => exact sAR2_eq p x _ _
  | d5 p => exact sAR2_eq p x _ _
  | d6 p => exact sAR2_eq p x _ _
  | d7 p => exact sAR2_eq p x _ _
noncomputable def sAR4 (p : Pa) : AV → N AV (M AV 3) → (N AV (M AV 3) → OA) → OA :=
  Pa.rec (motive := fun _ => AV → N AV (M AV 3) → (N AV (M AV 3) → OA) → OA)
    (fun x t f => N.rec (motive := fun _ => OA) (fun _ c0 c1 c2 c3 c4 c5 c6 c7 => f ⟨some x, c0, c1, c2, c3, c4, c5, c6, c7⟩) t)
    (fun p _ x t f => N.rec (motive := fun _ => OA) (fun v c0 c1 c2 c3 c4 c5 c6 c7 => sAR3 p x c0 fun c0 => f ⟨v, c0, c1, c2, c3, c4, c5, c6, c7⟩) t)
    (fun p _ x t f => N.rec (motive := fun _ => OA) (fun v c0 c1 c2 c3 c4 c5 c6 c7 => sAR3 p x c1 fun c1 => f ⟨v, c0, c1, c2, c3, c4, c5, c6, c7⟩) t)
    (fun p _ x t f => N.rec (motive := fun _ => OA) (fun v c0 c1 c2 c3 c4 c5 c6 c7 => sAR3 p x c2 fun c2 => f ⟨v, c0, c1, c2, c3, c4, c5, c6, c7⟩) t)
    (fun p _ x t f => N.rec (motive := fun _ => OA) (fun v c0 c1 c2 c3 c4 c5 c6 c7 => sAR3 p x c3 fun c3 => f ⟨v, c0, c1, c2, c3, c4, c5, c6, c7⟩) t)
    (fun p _ x t f => N.rec (motive := fun _ => OA) (fun v c0 c1 c2 c3 c4 c5 c6 c7 => sAR3 p x c4 fun c4 => f ⟨v, c0, c1, c2, c3, c4, c5, c6, c7⟩) t)
    (fun p _ x t f => N.rec (motive := fun _ => OA) (fun v c0 c1 c2 c3 c4 c5 c6 c7 => sAR3 p x c5 fun c5 => f ⟨v, c0, c1, c2, c3, c4, c5, c6, c7⟩) t)
    (fun p _ x t f => N.rec (motive := fun _ => OA) (fun v c0 c1 c2 c3 c4 c5 c6 c7 => sAR3 p x c6 fun c6 => f ⟨v, c0, c1, c2, c3, c4, c5, c6, c7⟩) t)
    (fun p _ x t f => N.rec (motive := fun _ => OA) (fun v c0 c1 c2 c3 c4 c5 c6 c7 => sAR3 p x c7 fun c7 => f ⟨v, c0, c1, c2, c3, c4, c5, c6, c7⟩) t) p
theorem sAR4_eq (p : Pa) (x : AV) (t : M AV 4) (f : M AV 4 → OA) : sAR4 p x t f = setL 4 p (some x) t f := by
  cases p with
  | z => rfl
  | d0 p => exact sAR3_eq p x _ _
  | d1 p => exact sAR3_eq p x _ _
  | d2 p => exact sAR3_eq p x _ _
  | d3 p => exact sAR3_eq p x _ _
  | d4 p => exact sAR3_eq p x _ _
  | d5 p => exact sAR3_eq p x _ _
  | d6 p => exact sAR3_eq p x _ _
  | d7 p => exact sAR3_eq p x _ _
noncomputable def sAR5 (p : Pa) : AV → N AV (M AV 4) → (N AV (M AV 4) → OA) → OA :=
  Pa.rec (motive := fun _ => AV → N AV (M AV 4) → (N AV (M AV 4) → OA) → OA)
    (fun x t f => N.rec (motive := fun _ => OA) (fun _ c0 c1 c2 c3 c4 c5 c6 c7 => f ⟨some x, c0, c1, c2, c3, c4, c5, c6, c7⟩) t)
    (fun p _ x t f => N.rec (motive := fun _ => OA) (fun v c0 c1 c2 c3 c4 c5 c6 c7 => sAR4 p x c0 fun c0 => f ⟨v, c0, c1, c2, c3, c4, c5, c6, c7⟩) t)
    (fun p _ x t f => N.rec (motive := fun _ => OA) (fun v c0 c1 c2 c3 c4 c5 c6 c7 => sAR4 p x c1 fun c1 => f ⟨v, c0, c1, c2, c3, c4, c5, c6, c7⟩) t)
    (fun p _ x t f => N.rec (motive := fun _ => OA) (fun v c0 c1 c2 c3 c4 c5 c6 c7 => sAR4 p x c2 fun c2 => f ⟨v, c0, c1, c2, c3, c4, c5, c6, c7⟩) t)
    (fun p _ x t f => N.rec (motive := fun _ => OA) (fun v c0 c1 c2 c3 c4 c5 c6 c7 => sAR4 p x c3 fun c3 => f ⟨v, c0, c1, c2, c3, c4, c5, c6, c7⟩) t)
    (fun p _ x t f => N.rec (motive := fun _ => OA) (fun v c0 c1 c2 c3 c4 c5 c6 c7 => sAR4 p x c4 fun c4 => f ⟨v, c0, c1, c2, c3, c4, c5, c6, c7⟩) t)
    (fun p _ x t f => N.rec (motive := fun _ => OA) (fun v c0 c1 c2 c3 c4 c5 c6 c7 => sAR4 p x c5 fun c5 => f ⟨v, c0, c1, c2, c3, c4, c5, c6, c7⟩) t)
    (fun p _ x t f => N.rec (motive := fun _ => OA) (fun v c0 c1 c2 c3 c4 c5 c6 c7 => sAR4 p x c6 fun c6 => f ⟨v, c0, c1, c2, c3, c4, c5, c6, c7⟩) t)
    (fun p _ x t f => N.rec (motive := fun _ => OA) (fun v c0 c1 c2 c3 c4 c5 c6 c7 => sAR4 p x c7 fun c7 => f ⟨v, c0, c1, c2, c3, c4, c5, c6, c7⟩) t) p
theorem sAR5_eq (p : Pa) (x : AV) (t : M AV 5) (f : M AV 5 → OA) : sAR5 p x t f = setL 5 p (some x) t f := by
  cases p with
  | z => rfl
  | d0 p => exact sAR4_eq p x _ _
  | d1 p => exact sAR4_eq p x _ _
  | d2 p => exact sAR4_eq p x _ _
  | d3 p => exact sAR4_eq p x _ _
  | d4 p => exact sAR4_eq p x _ _
  | d5 p => exact sAR4_eq p x _ _
  | d6 p => exact sAR4_eq p x _ _
  | d7 p => exact sAR4_eq p x _ _
noncomputable def sAR6 (p : Pa) : AV → N AV (M AV 5) → (N AV (M AV 5) → OA) → OA :=
  Pa.rec (motive := fun _ => AV → N AV (M AV 5) → (N AV (M AV 5) → OA) → OA)
    (fun x t f => N.rec (motive := fun _ => OA) (fun _ c0 c1 c2 c3 c4 c5 c6 c7 => f ⟨some x, c0, c1, c2, c3, c4, c5, c6, c7⟩) t)
    (fun p _ x t f => N.rec (motive := fun _ => OA) (fun v c0 c1 c2 c3 c4 c5 c6 c7 => sAR5 p x c0 fun c0 => f ⟨v, c0, c1, c2, c3, c4, c5, c6, c7⟩) t)
    (fun p _ x t f => N.rec (motive := fun _ => OA) (fun v c0 c1 c2 c3 c4 c5 c6 c7 => sAR5 p x c1 fun c1 => f ⟨v, c0, c1, c2, c3, c4, c5, c6, c7⟩) t)
    (fun p _ x t f => N.rec (motive := fun _ => OA) (fun v c0 c1 c2 c3 c4 c5 c6 c7 => sAR5 p x c2 fun c2 => f ⟨v, c0, c1, c2, c3, c4, c5, c6, c7⟩) t)
    (fun p _ x t f => N.rec (motive := fun _ => OA) (fun v c0 c1 c2 c3 c4 c5 c6 c7 => sAR5 p x c3 fun c3 => f ⟨v, c0, c1, c2, c3, c4, c5, c6, c7⟩) t)
    (fun p _ x t f => N.rec (motive := fun _ => OA) (fun v c0 c1 c2 c3 c4 c5 c6 c7 => sAR5 p x c4 fun c4 => f ⟨v, c0, c1, c2, c3, c4, c5, c6, c7⟩) t)
    (fun p _ x t f => N.rec (motive := fun _ => OA) (fun v c0 c1 c2 c3 c4 c5 c6 c7 => sAR5 p x c5 fun c5 => f ⟨v, c0, c1, c2, c3, c4, c5, c6, c7⟩) t)
    (fun p _ x t f => N.rec (motive := fun _ => OA) (fun v c0 c1 c2 c3 c4 c5 c6 c7 => sAR5 p x c6 fun c6 => f ⟨v, c0, c1, c2, c3, c4, c5, c6, c7⟩) t)
    (fun p _ x t f => N.rec (motive := fun _ => OA) (fun v c0 c1 c2 c3 c4 c5 c6 c7 => sAR5 p x c7 fun c7 => f ⟨v, c0, c1, c2, c3, c4, c5, c6, c7⟩) t) p
theorem sAR6_eq (p : Pa) (x : AV) (t : M AV 6) (f : M AV 6 → OA) : sAR6 p x t f = setL 6 p (some x) t f := by
  cases p with
  | z => rfl
  | d0 p => exact sAR5_eq p x _ _
  | d1 p => exact sAR5_eq p x _ _
  | d2 p => exact sAR5_eq p x _ _
  | d3 p => exact sAR5_eq p x _ _
  | d4 p => exact sAR5_eq p x _ _
  | d5 p => exact sAR5_eq p x _ _
  | d6 p => exact sAR5_eq p x _ _
  | d7 p => exact sAR5_eq p x _ _

noncomputable def setAR (p : PT) : AV → Tr AV → (Tr AV → OA) → OA :=
  PT.rec (motive := fun _ => AV → Tr AV → (Tr AV → OA) → OA) (fun p x t k => Tr.rec (motive := fun _ => OA) (fun lo hi => sAR6 p x lo fun lo => k ⟨lo, hi⟩) t)
    (fun n x t k => Tr.setT (.hi n) x t k) p
theorem setAR_eq (t : Tr AV) (n : Nat) (x : AV) (k : Tr AV → OA) : setAR (path n) x t k = k (t.put n x) := by
  rw [← Tr.set_eq t n x k]
  unfold Tr.set
  cases path n with
  | lo p => exact sAR6_eq p x t.lo _
  | hi n => rfl

/-! Writing, at AObj, on to OA -/

noncomputable def sOR1 (p : Pa) : AObj → N AObj (M AObj 0) → (N AObj (M AObj 0) → OA) → OA :=
  Pa.rec (motive := fun _ => AObj → N AObj (M AObj 0) → (N AObj (M AObj 0) → OA) → OA)
    (fun x t f => N.rec (motive := fun _ => OA) (fun _ c0 c1 c2 c3 c4 c5 c6 c7 => f ⟨some x, c0, c1, c2, c3, c4, c5, c6, c7⟩) t)
    (fun _ _ _ t f => f t) (fun _ _ _ t f => f t) (fun _ _ _ t f => f t) (fun _ _ _ t f => f t) (fun _ _ _ t f => f t) (fun _ _ _ t f => f t) (fun _ _ _ t f => f t) (fun _ _ _ t f => f t) p
theorem sOR1_eq (p : Pa) (x : AObj) (t : M AObj 1) (f : M AObj 1 → OA) : sOR1 p x t f = setL 1 p (some x) t f := by
  cases p with
  | z => rfl
  | _ => rfl
noncomputable def sOR2 (p : Pa) : AObj → N AObj (M AObj 1) → (N AObj (M AObj 1) → OA) → OA :=
  Pa.rec (motive := fun _ => AObj → N AObj (M AObj 1) → (N AObj (M AObj 1) → OA) → OA)
    (fun x t f => N.rec (motive := fun _ => OA) (fun _ c0 c1 c2 c3 c4 c5 c6 c7 => f ⟨some x, c0, c1, c2, c3, c4, c5, c6, c7⟩) t)
    (fun p _ x t f => N.rec (motive := fun _ => OA) (fun v c0 c1 c2 c3 c4 c5 c6 c7 => sOR1 p x c0 fun c0 => f ⟨v, c0, c1, c2, c3, c4, c5, c6, c7⟩) t)
    (fun p _ x t f => N.rec (motive := fun _ => OA) (fun v c0 c1 c2 c3 c4 c5 c6 c7 => sOR1 p x c1 fun c1 => f ⟨v, c0, c1, c2, c3, c4, c5, c6, c7⟩) t)
    (fun p _ x t f => N.rec (motive := fun _ => OA) (fun v c0 c1 c2 c3 c4 c5 c6 c7 => sOR1 p x c2 fun c2 => f ⟨v, c0, c1, c2, c3, c4, c5, c6, c7⟩) t)
    (fun p _ x t f => N.rec (motive := fun _ => OA) (fun v c0 c1 c2 c3 c4 c5 c6 c7 => sOR1 p x c3 fun c3 => f ⟨v, c0, c1, c2, c3, c4, c5, c6, c7⟩) t)
    (fun p _ x t f => N.rec (motive := fun _ => OA) (fun v c0 c1 c2 c3 c4 c5 c6 c7 => sOR1 p x c4 fun c4 => f ⟨v, c0, c1, c2, c3, c4, c5, c6, c7⟩) t)
    (fun p _ x t f => N.rec (motive := fun _ => OA) (fun v c0 c1 c2 c3 c4 c5 c6 c7 => sOR1 p x c5 fun c5 => f ⟨v, c0, c1, c2, c3, c4, c5, c6, c7⟩) t)
    (fun p _ x t f => N.rec (motive := fun _ => OA) (fun v c0 c1 c2 c3 c4 c5 c6 c7 => sOR1 p x c6 fun c6 => f ⟨v, c0, c1, c2, c3, c4, c5, c6, c7⟩) t)
    (fun p _ x t f => N.rec (motive := fun _ => OA) (fun v c0 c1 c2 c3 c4 c5 c6 c7 => sOR1 p x c7 fun c7 => f ⟨v, c0, c1, c2, c3, c4, c5, c6, c7⟩) t) p
theorem sOR2_eq (p : Pa) (x : AObj) (t : M AObj 2) (f : M AObj 2 → OA) : sOR2 p x t f = setL 2 p (some x) t f := by
  cases p with
  | z => rfl
  | d0 p => exact sOR1_eq p x _ _
  | d1 p => exact sOR1_eq p x _ _
  | d2 p => exact sOR1_eq p x _ _
  | d3 p => exact sOR1_eq p x _ _
  | d4 p => exact sOR1_eq p x _ _
  | d5 p => exact sOR1_eq p x _ _
  | d6 p => exact sOR1_eq p x _ _
  | d7 p => exact sOR1_eq p x _ _
noncomputable def sOR3 (p : Pa) : AObj → N AObj (M AObj 2) → (N AObj (M AObj 2) → OA) → OA :=
  Pa.rec (motive := fun _ => AObj → N AObj (M AObj 2) → (N AObj (M AObj 2) → OA) → OA)
    (fun x t f => N.rec (motive := fun _ => OA) (fun _ c0 c1 c2 c3 c4 c5 c6 c7 => f ⟨some x, c0, c1, c2, c3, c4, c5, c6, c7⟩) t)
    (fun p _ x t f => N.rec (motive := fun _ => OA) (fun v c0 c1 c2 c3 c4 c5 c6 c7 => sOR2 p x c0 fun c0 => f ⟨v, c0, c1, c2, c3, c4, c5, c6, c7⟩) t)
    (fun p _ x t f => N.rec (motive := fun _ => OA) (fun v c0 c1 c2 c3 c4 c5 c6 c7 => sOR2 p x c1 fun c1 => f ⟨v, c0, c1, c2, c3, c4, c5, c6, c7⟩) t)
    (fun p _ x t f => N.rec (motive := fun _ => OA) (fun v c0 c1 c2 c3 c4 c5 c6 c7 => sOR2 p x c2 fun c2 => f ⟨v, c0, c1, c2, c3, c4, c5, c6, c7⟩) t)
    (fun p _ x t f => N.rec (motive := fun _ => OA) (fun v c0 c1 c2 c3 c4 c5 c6 c7 => sOR2 p x c3 fun c3 => f ⟨v, c0, c1, c2, c3, c4, c5, c6, c7⟩) t)
    (fun p _ x t f => N.rec (motive := fun _ => OA) (fun v c0 c1 c2 c3 c4 c5 c6 c7 => sOR2 p x c4 fun c4 => f ⟨v, c0, c1, c2, c3, c4, c5, c6, c7⟩) t)
    (fun p _ x t f => N.rec (motive := fun _ => OA) (fun v c0 c1 c2 c3 c4 c5 c6 c7 => sOR2 p x c5 fun c5 => f ⟨v, c0, c1, c2, c3, c4, c5, c6, c7⟩) t)
    (fun p _ x t f => N.rec (motive := fun _ => OA) (fun v c0 c1 c2 c3 c4 c5 c6 c7 => sOR2 p x c6 fun c6 => f ⟨v, c0, c1, c2, c3, c4, c5, c6, c7⟩) t)
    (fun p _ x t f => N.rec (motive := fun _ => OA) (fun v c0 c1 c2 c3 c4 c5 c6 c7 => sOR2 p x c7 fun c7 => f ⟨v, c0, c1, c2, c3, c4, c5, c6, c7⟩) t) p
theorem sOR3_eq (p : Pa) (x : AObj) (t : M AObj 3) (f : M AObj 3 → OA) : sOR3 p x t f = setL 3 p (some x) t f := by
  cases p with
  | z => rfl
  | d0 p => exact sOR2_eq p x _ _
  | d1 p => exact sOR2_eq p x _ _
  | d2 p => exact sOR2_eq p x _ _
  | d3 p => exact sOR2_eq p x _ _
  | d4 p => exact sOR2_eq p x _ _
  | d5 p => exact sOR2_eq p x _ _
  | d6 p => exact sOR2_eq p x _ _
  | d7 p => exact sOR2_eq p x _ _
noncomputable def sOR4 (p : Pa) : AObj → N AObj (M AObj 3) → (N AObj (M AObj 3) → OA) → OA :=
  Pa.rec (motive := fun _ => AObj → N AObj (M AObj 3) → (N AObj (M AObj 3) → OA) → OA)
    (fun x t f => N.rec (motive := fun _ => OA) (fun _ c0 c1 c2 c3 c4 c5 c6 c7 => f ⟨some x, c0, c1, c2, c3, c4, c5, c6, c7⟩) t)
    (fun p _ x t f => N.rec (motive := fun _ => OA) (fun v c0 c1 c2 c3 c4 c5 c6 c7 => sOR3 p x c0 fun c0 => f ⟨v, c0, c1, c2, c3, c4, c5, c6, c7⟩) t)
    (fun p _ x t f => N.rec (motive := fun _ => OA) (fun v c0 c1 c2 c3 c4 c5 c6 c7 => sOR3 p x c1 fun c1 => f ⟨v, c0, c1, c2, c3, c4, c5, c6, c7⟩) t)
    (fun p _ x t f => N.rec (motive := fun _ => OA) (fun v c0 c1 c2 c3 c4 c5 c6 c7 => sOR3 p x c2 fun c2 => f ⟨v, c0, c1, c2, c3, c4, c5, c6, c7⟩) t)
    (fun p _ x t f => N.rec (motive := fun _ => OA) (fun v c0 c1 c2 c3 c4 c5 c6 c7 => sOR3 p x c3 fun c3 => f ⟨v, c0, c1, c2, c3, c4, c5, c6, c7⟩) t)
    (fun p _ x t f => N.rec (motive := fun _ => OA) (fun v c0 c1 c2 c3 c4 c5 c6 c7 => sOR3 p x c4 fun c4 => f ⟨v, c0, c1, c2, c3, c4, c5, c6, c7⟩) t)
    (fun p _ x t f => N.rec (motive := fun _ => OA) (fun v c0 c1 c2 c3 c4 c5 c6 c7 => sOR3 p x c5 fun c5 => f ⟨v, c0, c1, c2, c3, c4, c5, c6, c7⟩) t)
    (fun p _ x t f => N.rec (motive := fun _ => OA) (fun v c0 c1 c2 c3 c4 c5 c6 c7 => sOR3 p x c6 fun c6 => f ⟨v, c0, c1, c2, c3, c4, c5, c6, c7⟩) t)
    (fun p _ x t f => N.rec (motive := fun _ => OA) (fun v c0 c1 c2 c3 c4 c5 c6 c7 => sOR3 p x c7 fun c7 => f ⟨v, c0, c1, c2, c3, c4, c5, c6, c7⟩) t) p
theorem sOR4_eq (p : Pa) (x : AObj) (t : M AObj 4) (f : M AObj 4 → OA) : sOR4 p x t f = setL 4 p (some x) t f := by
  cases p with
  | z => rfl
  | d0 p => exact sOR3_eq p x _ _
  | d1 p => exact sOR3_eq p x _ _
  | d2 p => exact sOR3_eq p x _ _
  | d3 p => exact sOR3_eq p x _ _
  | d4 p => exact sOR3_eq p x _ _
  | d5 p => exact sOR3_eq p x _ _
  | d6 p => exact sOR3_eq p x _ _
  | d7 p => exact sOR3_eq p x _ _
noncomputable def sOR5 (p : Pa) : AObj → N AObj (M AObj 4) → (N AObj (M AObj 4) → OA) → OA :=
  Pa.rec (motive := fun _ => AObj → N AObj (M AObj 4) → (N AObj (M AObj 4) → OA) → OA)
    (fun x t f => N.rec (motive := fun _ => OA) (fun _ c0 c1 c2 c3 c4 c5 c6 c7 => f ⟨some x, c0, c1, c2, c3, c4, c5, c6, c7⟩) t)
    (fun p _ x t f => N.rec (motive := fun _ => OA) (fun v c0 c1 c2 c3 c4 c5 c6 c7 => sOR4 p x c0 fun c0 => f ⟨v, c0, c1, c2, c3, c4, c5, c6, c7⟩) t)
    (fun p _ x t f => N.rec (motive := fun _ => OA) (fun v c0 c1 c2 c3 c4 c5 c6 c7 => sOR4 p x c1 fun c1 => f ⟨v, c0, c1, c2, c3, c4, c5, c6, c7⟩) t)
    (fun p _ x t f => N.rec (motive := fun _ => OA) (fun v c0 c1 c2 c3 c4 c5 c6 c7 => sOR4 p x c2 fun c2 => f ⟨v, c0, c1, c2, c3, c4, c5, c6, c7⟩) t)
    (fun p _ x t f => N.rec (motive := fun _ => OA) (fun v c0 c1 c2 c3 c4 c5 c6 c7 => sOR4 p x c3 fun c3 => f ⟨v, c0, c1, c2, c3, c4, c5, c6, c7⟩) t)
    (fun p _ x t f => N.rec (motive := fun _ => OA) (fun v c0 c1 c2 c3 c4 c5 c6 c7 => sOR4 p x c4 fun c4 => f ⟨v, c0, c1, c2, c3, c4, c5, c6, c7⟩) t)
    (fun p _ x t f => N.rec (motive := fun _ => OA) (fun v c0 c1 c2 c3 c4 c5 c6 c7 => sOR4 p x c5 fun c5 => f ⟨v, c0, c1, c2, c3, c4, c5, c6, c7⟩) t)
    (fun p _ x t f => N.rec (motive := fun _ => OA) (fun v c0 c1 c2 c3 c4 c5 c6 c7 => sOR4 p x c6 fun c6 => f ⟨v, c0, c1, c2, c3, c4, c5, c6, c7⟩) t)
    (fun p _ x t f => N.rec (motive := fun _ => OA) (fun v c0 c1 c2 c3 c4 c5 c6 c7 => sOR4 p x c7 fun c7 => f ⟨v, c0, c1, c2, c3, c4, c5, c6, c7⟩) t) p
theorem sOR5_eq (p : Pa) (x : AObj) (t : M AObj 5) (f : M AObj 5 → OA) : sOR5 p x t f = setL 5 p (some x) t f := by
  cases p with
  | z => rfl
  | d0 p => exact sOR4_eq p x _ _
  | d1 p => exact sOR4_eq p x _ _
  | d2 p => exact sOR4_eq p x _ _
  | d3 p => exact sOR4_eq p x _ _
  | d4 p => exact sOR4_eq p x _ _
  | d5 p => exact sOR4_eq p x _ _
  | d6 p => exact sOR4_eq p x _ _
  | d7 p => exact sOR4_eq p x _ _
noncomputable def sOR6 (p : Pa) : AObj → N AObj (M AObj 5) → (N AObj (M AObj 5) → OA) → OA :=
  Pa.rec (motive := fun _ => AObj → N AObj (M AObj 5) → (N AObj (M AObj 5) → OA) → OA)
    (fun x t f => N.rec (motive := fun _ => OA) (fun _ c0 c1 c2 c3 c4 c5 c6 c7 => f ⟨some x, c0, c1, c2, c3, c4, c5, c6, c7⟩) t)
    (fun p _ x t f => N.rec (motive := fun _ => OA) (fun v c0 c1 c2 c3 c4 c5 c6 c7 => sOR5 p x c0 fun c0 => f ⟨v, c0, c1, c2, c3, c4, c5, c6, c7⟩) t)
    (fun p _ x t f => N.rec (motive := fun _ => OA) (fun v c0 c1 c2 c3 c4 c5 c6 c7 => sOR5 p x c1 fun c1 => f ⟨v, c0, c1, c2, c3, c4, c5, c6, c7⟩) t)
    (fun p _ x t f => N.rec (motive := fun _ => OA) (fun v c0 c1 c2 c3 c4 c5 c6 c7 => sOR5 p x c2 fun c2 => f ⟨v, c0, c1, c2, c3, c4, c5, c6, c7⟩) t)
    (fun p _ x t f => N.rec (motive := fun _ => OA) (fun v c0 c1 c2 c3 c4 c5 c6 c7 => sOR5 p x c3 fun c3 => f ⟨v, c0, c1, c2, c3, c4, c5, c6, c7⟩) t)
    (fun p _ x t f => N.rec (motive := fun _ => OA) (fun v c0 c1 c2 c3 c4 c5 c6 c7 => sOR5 p x c4 fun c4 => f ⟨v, c0, c1, c2, c3, c4, c5, c6, c7⟩) t)
    (fun p _ x t f => N.rec (motive := fun _ => OA) (fun v c0 c1 c2 c3 c4 c5 c6 c7 => sOR5 p x c5 fun c5 => f ⟨v, c0, c1, c2, c3, c4, c5, c6, c7⟩) t)
    (fun p _ x t f => N.rec (motive := fun _ => OA) (fun v c0 c1 c2 c3 c4 c5 c6 c7 => sOR5 p x c6 fun c6 => f ⟨v, c0, c1, c2, c3, c4, c5, c6, c7⟩) t)
    (fun p _ x t f => N.rec (motive := fun _ => OA) (fun v c0 c1 c2 c3 c4 c5 c6 c7 => sOR5 p x c7 fun c7 => f ⟨v, c0, c1, c2, c3, c4, c5, c6, c7⟩) t) p
theorem sOR6_eq (p : Pa) (x : AObj) (t : M AObj 6) (f : M AObj 6 → OA) : sOR6 p x t f = setL 6 p (some x) t f := by
  cases p with
  | z => rfl
  | d0 p => exact sOR5_eq p x _ _
  | d1 p => exact sOR5_eq p x _ _
  | d2 p => exact sOR5_eq p x _ _
  | d3 p => exact sOR5_eq p x _ _
  | d4 p => exact sOR5_eq p x _ _
  | d5 p => exact sOR5_eq p x _ _
  | d6 p => exact sOR5_eq p x _ _
  | d7 p => exact sOR5_eq p x _ _

noncomputable def setOR (p : PT) : AObj → Tr AObj → (Tr AObj → OA) → OA :=
  PT.rec (motive := fun _ => AObj → Tr AObj → (Tr AObj → OA) → OA) (fun p x t k => Tr.rec (motive := fun _ => OA) (fun lo hi => sOR6 p x lo fun lo => k ⟨lo, hi⟩) t)
    (fun n x t k => Tr.setT (.hi n) x t k) p
theorem setOR_eq (t : Tr AObj) (n : Nat) (x : AObj) (k : Tr AObj → OA) : setOR (path n) x t k = k (t.put n x) := by
  rw [← Tr.set_eq t n x k]
  unfold Tr.set
  cases path n with
  | lo p => exact sOR6_eq p x t.lo _
  | hi n => rfl

/-! Writing, at AObj, on to Out -/

noncomputable def sOW1 (p : Pa) : AObj → N AObj (M AObj 0) → (N AObj (M AObj 0) → Out) → Out :=
  Pa.rec (motive := fun _ => AObj → N AObj (M AObj 0) → (N AObj (M AObj 0) → Out) → Out)
    (fun x t f => N.rec (motive := fun _ => Out) (fun _ c0 c1 c2 c3 c4 c5 c6 c7 => f ⟨some x, c0, c1, c2, c3, c4, c5, c6, c7⟩) t)
    (fun _ _ _ t f => f t) (fun _ _ _ t f => f t) (fun _ _ _ t f => f t) (fun _ _ _ t f => f t) (fun _ _ _ t f => f t) (fun _ _ _ t f => f t) (fun _ _ _ t f => f t) (fun _ _ _ t f => f t) p
theorem sOW1_eq (p : Pa) (x : AObj) (t : M AObj 1) (f : M AObj 1 → Out) : sOW1 p x t f = setL 1 p (some x) t f := by
  cases p with
  | z => rfl
  | _ => rfl
noncomputable def sOW2 (p : Pa) : AObj → N AObj (M AObj 1) → (N AObj (M AObj 1) → Out) → Out :=
  Pa.rec (motive := fun _ => AObj → N AObj (M AObj 1) → (N AObj (M AObj 1) → Out) → Out)
    (fun x t f => N.rec (motive := fun _ => Out) (fun _ c0 c1 c2 c3 c4 c5 c6 c7 => f ⟨some x, c0, c1, c2, c3, c4, c5, c6, c7⟩) t)
    (fun p _ x t f => N.rec (motive := fun _ => Out) (fun v c0 c1 c2 c3 c4 c5 c6 c7 => sOW1 p x c0 fun c0 => f ⟨v, c0, c1, c2, c3, c4, c5, c6, c7⟩) t)
    (fun p _ x t f => N.rec (motive := fun _ => Out) (fun v c0 c1 c2 c3 c4 c5 c6 c7 => sOW1 p x c1 fun c1 => f ⟨v, c0, c1, c2, c3, c4, c5, c6, c7⟩) t)
    (fun p _ x t f => N.rec (motive := fun _ => Out) (fun v c0 c1 c2 c3 c4 c5 c6 c7 => sOW1 p x c2 fun c2 => f ⟨v, c0, c1, c2, c3, c4, c5, c6, c7⟩) t)
    (fun p _ x t f => N.rec (motive := fun _ => Out) (fun v c0 c1 c2 c3 c4 c5 c6 c7 => sOW1 p x c3 fun c3 => f ⟨v, c0, c1, c2, c3, c4, c5, c6, c7⟩) t)
    (fun p _ x t f => N.rec (motive := fun _ => Out) (fun v c0 c1 c2 c3 c4 c5 c6 c7 => sOW1 p x c4 fun c4 => f ⟨v, c0, c1, c2, c3, c4, c5, c6, c7⟩) t)
    (fun p _ x t f => N.rec (motive := fun _ => Out) (fun v c0 c1 c2 c3 c4 c5 c6 c7 => sOW1 p x c5 fun c5 => f ⟨v, c0, c1, c2, c3, c4, c5, c6, c7⟩) t)
    (fun p _ x t f => N.rec (motive := fun _ => Out) (fun v c0 c1 c2 c3 c4 c5 c6 c7 => sOW1 p x c6 fun c6 => f ⟨v, c0, c1, c2, c3, c4, c5, c6, c7⟩) t)
    (fun p _ x t f => N.rec (motive := fun _ => Out) (fun v c0 c1 c2 c3 c4 c5 c6 c7 => sOW1 p x c7 fun c7 => f ⟨v, c0, c1, c2, c3, c4, c5, c6, c7⟩) t) p
theorem sOW2_eq (p : Pa) (x : AObj) (t : M AObj 2) (f : M AObj 2 → Out) : sOW2 p x t f = setL 2 p (some x) t f := by
  cases p with
  | z => rfl
  | d0 p => exact sOW1_eq p x _ _
  | d1 p => exact sOW1_eq p x _ _
  | d2 p => exact sOW1_eq p x _ _
  | d3 p => exact sOW1_eq p x _ _
  | d4 p => exact sOW1_eq p x _ _
  | d5 p => exact sOW1_eq p x _ _
  | d6 p => exact sOW1_eq p x _ _
  | d7 p => exact sOW1_eq p x _ _
noncomputable def sOW3 (p : Pa) : AObj → N AObj (M AObj 2) → (N AObj (M AObj 2) → Out) → Out :=
  Pa.rec (motive := fun _ => AObj → N AObj (M AObj 2) → (N AObj (M AObj 2) → Out) → Out)
    (fun x t f => N.rec (motive := fun _ => Out) (fun _ c0 c1 c2 c3 c4 c5 c6 c7 => f ⟨some x, c0, c1, c2, c3, c4, c5, c6, c7⟩) t)
    (fun p _ x t f => N.rec (motive := fun _ => Out) (fun v c0 c1 c2 c3 c4 c5 c6 c7 => sOW2 p x c0 fun c0 => f ⟨v, c0, c1, c2, c3, c4, c5, c6, c7⟩) t)
    (fun p _ x t f => N.rec (motive := fun _ => Out) (fun v c0 c1 c2 c3 c4 c5 c6 c7 => sOW2 p x c1 fun c1 => f ⟨v, c0, c1, c2, c3, c4, c5, c6, c7⟩) t)
    (fun p _ x t f => N.rec (motive := fun _ => Out) (fun v c0 c1 c2 c3 c4 c5 c6 c7 => sOW2 p x c2 fun c2 => f ⟨v, c0, c1, c2, c3, c4, c5, c6, c7⟩) t)
    (fun p _ x t f => N.rec (motive := fun _ => Out) (fun v c0 c1 c2 c3 c4 c5 c6 c7 => sOW2 p x c3 fun c3 => f ⟨v, c0, c1, c2, c3, c4, c5, c6, c7⟩) t)
    (fun p _ x t f => N.rec (motive := fun _ => Out) (fun v c0 c1 c2 c3 c4 c5 c6 c7 => sOW2 p x c4 fun c4 => f ⟨v, c0, c1, c2, c3, c4, c5, c6, c7⟩) t)
    (fun p _ x t f => N.rec (motive := fun _ => Out) (fun v c0 c1 c2 c3 c4 c5 c6 c7 => sOW2 p x c5 fun c5 => f ⟨v, c0, c1, c2, c3, c4, c5, c6, c7⟩) t)
    (fun p _ x t f => N.rec (motive := fun _ => Out) (fun v c0 c1 c2 c3 c4 c5 c6 c7 => sOW2 p x c6 fun c6 => f ⟨v, c0, c1, c2, c3, c4, c5, c6, c7⟩) t)
    (fun p _ x t f => N.rec (motive := fun _ => Out) (fun v c0 c1 c2 c3 c4 c5 c6 c7 => sOW2 p x c7 fun c7 => f ⟨v, c0, c1, c2, c3, c4, c5, c6, c7⟩) t) p
theorem sOW3_eq (p : Pa) (x : AObj) (t : M AObj 3) (f : M AObj 3 → Out) : sOW3 p x t f = setL 3 p (some x) t f := by
  cases p with
  | z => rfl
  | d0 p => exact sOW2_eq p x _ _
  | d1 p => exact sOW2_eq p x _ _
  | d2 p => exact sOW2_eq p x _ _
  | d3 p => exact sOW2_eq p x _ _
  | d4 p => exact sOW2_eq p x _ _
  | d5 p => exact sOW2_eq p x _ _
  | d6 p => exact sOW2_eq p x _ _
  | d7 p => exact sOW2_eq p x _ _
noncomputable def sOW4 (p : Pa) : AObj → N AObj (M AObj 3) → (N AObj (M AObj 3) → Out) → Out :=
  Pa.rec (motive := fun _ => AObj → N AObj (M AObj 3) → (N AObj (M AObj 3) → Out) → Out)
    (fun x t f => N.rec (motive := fun _ => Out) (fun _ c0 c1 c2 c3 c4 c5 c6 c7 => f ⟨some x, c0, c1, c2, c3, c4, c5, c6, c7⟩) t)
    (fun p _ x t f => N.rec (motive := fun _ => Out) (fun v c0 c1 c2 c3 c4 c5 c6 c7 => sOW3 p x c0 fun c0 => f ⟨v, c0, c1, c2, c3, c4, c5, c6, c7⟩) t)
    (fun p _ x t f => N.rec (motive := fun _ => Out) (fun v c0 c1 c2 c3 c4 c5 c6 c7 => sOW3 p x c1 fun c1 => f ⟨v, c0, c1, c2, c3, c4, c5, c6, c7⟩) t)
    (fun p _ x t f => N.rec (motive := fun _ => Out) (fun v c0 c1 c2 c3 c4 c5 c6 c7 => sOW3 p x c2 fun c2 => f ⟨v, c0, c1, c2, c3, c4, c5, c6, c7⟩) t)
    (fun p _ x t f => N.rec (motive := fun _ => Out) (fun v c0 c1 c2 c3 c4 c5 c6 c7 => sOW3 p x c3 fun c3 => f ⟨v, c0, c1, c2, c3, c4, c5, c6, c7⟩) t)
    (fun p _ x t f => N.rec (motive := fun _ => Out) (fun v c0 c1 c2 c3 c4 c5 c6 c7 => sOW3 p x c4 fun c4 => f ⟨v, c0, c1, c2, c3, c4, c5, c6, c7⟩) t)
    (fun p _ x t f => N.rec (motive := fun _ => Out) (fun v c0 c1 c2 c3 c4 c5 c6 c7 => sOW3 p x c5 fun c5 => f ⟨v, c0, c1, c2, c3, c4, c5, c6, c7⟩) t)
    (fun p _ x t f => N.rec (motive := fun _ => Out) (fun v c0 c1 c2 c3 c4 c5 c6 c7 => sOW3 p x c6 fun c6 => f ⟨v, c0, c1, c2, c3, c4, c5, c6, c7⟩) t)
    (fun p _ x t f => N.rec (motive := fun _ => Out) (fun v c0 c1 c2 c3 c4 c5 c6 c7 => sOW3 p x c7 fun c7 => f ⟨v, c0, c1, c2, c3, c4, c5, c6, c7⟩) t) p
theorem sOW4_eq (p : Pa) (x : AObj) (t : M AObj 4) (f : M AObj 4 → Out) : sOW4 p x t f = setL 4 p (some x) t f := by
  cases p with
  | z => rfl
  | d0 p => exact sOW3_eq p x _ _
  | d1 p => exact sOW3_eq p x _ _
  | d2 p => exact sOW3_eq p x _ _
  | d3 p => exact sOW3_eq p x _ _
  | d4 p => exact sOW3_eq p x _ _
  | d5 p => exact sOW3_eq p x _ _
  | d6 p => exact sOW3_eq p x _ _
  | d7 p => exact sOW3_eq p x _ _
noncomputable def sOW5 (p : Pa) : AObj → N AObj (M AObj 4) → (N AObj (M AObj 4) → Out) → Out :=
  Pa.rec (motive := fun _ => AObj → N AObj (M AObj 4) → (N AObj (M AObj 4) → Out) → Out)
    (fun x t f => N.rec (motive := fun _ => Out) (fun _ c0 c1 c2 c3 c4 c5 c6 c7 => f ⟨some x, c0, c1, c2, c3, c4, c5, c6, c7⟩) t)
    (fun p _ x t f => N.rec (motive := fun _ => Out) (fun v c0 c1 c2 c3 c4 c5 c6 c7 => sOW4 p x c0 fun c0 => f ⟨v, c0, c1, c2, c3, c4, c5, c6, c7⟩) t)
    (fun p _ x t f => N.rec (motive := fun _ => Out) (fun v c0 c1 c2 c3 c4 c5 c6 c7 => sOW4 p x c1 fun c1 => f ⟨v, c0, c1, c2, c3, c4, c5, c6, c7⟩) t)
    (fun p _ x t f => N.rec (motive := fun _ => Out) (fun v c0 c1 c2 c3 c4 c5 c6 c7 => sOW4 p x c2 fun c2 => f ⟨v, c0, c1, c2, c3, c4, c5, c6, c7⟩) t)
    (fun p _ x t f => N.rec (motive := fun _ => Out) (fun v c0 c1 c2 c3 c4 c5 c6 c7 => sOW4 p x c3 fun c3 => f ⟨v, c0, c1, c2, c3, c4, c5, c6, c7⟩) t)
    (fun p _ x t f => N.rec (motive := fun _ => Out) (fun v c0 c1 c2 c3 c4 c5 c6 c7 => sOW4 p x c4 fun c4 => f ⟨v, c0, c1, c2, c3, c4, c5, c6, c7⟩) t)
    (fun p _ x t f => N.rec (motive := fun _ => Out) (fun v c0 c1 c2 c3 c4 c5 c6 c7 => sOW4 p x c5 fun c5 => f ⟨v, c0, c1, c2, c3, c4, c5, c6, c7⟩) t)
    (fun p _ x t f => N.rec (motive := fun _ => Out) (fun v c0 c1 c2 c3 c4 c5 c6 c7 => sOW4 p x c6 fun c6 => f ⟨v, c0, c1, c2, c3, c4, c5, c6, c7⟩) t)
    (fun p _ x t f => N.rec (motive := fun _ => Out) (fun v c0 c1 c2 c3 c4 c5 c6 c7 => sOW4 p x c7 fun c7 => f ⟨v, c0, c1, c2, c3, c4, c5, c6, c7⟩) t) p
theorem sOW5_eq (p : Pa) (x : AObj) (t : M AObj 5) (f : M AObj 5 → Out) : sOW5 p x t f = setL 5 p (some x) t f := by
  cases p with
  | z => rfl
  | d0 p => exact sOW4_eq p x _ _
  | d1 p => exact sOW4_eq p x _ _
  | d2 p => exact sOW4_eq p x _ _
  | d3 p => exact sOW4_eq p x _ _
  | d4 p => exact sOW4_eq p x _ _
  | d5 p => exact sOW4_eq p x _ _
  | d6 p => exact sOW4_eq p x _ _
  | d7 p => exact sOW4_eq p x _ _
noncomputable def sOW6 (p : Pa) : AObj → N AObj (M AObj 5) → (N AObj (M AObj 5) → Out) → Out :=
  Pa.rec (motive := fun _ => AObj → N AObj (M AObj 5) → (N AObj (M AObj 5) → Out) → Out)
    (fun x t f => N.rec (motive := fun _ => Out) (fun _ c0 c1 c2 c3 c4 c5 c6 c7 => f ⟨some x, c0, c1, c2, c3, c4, c5, c6, c7⟩) t)
    (fun p _ x t f => N.rec (motive := fun _ => Out) (fun v c0 c1 c2 c3 c4 c5 c6 c7 => sOW5 p x c0 fun c0 => f ⟨v, c0, c1, c2, c3, c4, c5, c6, c7⟩) t)
    (fun p _ x t f => N.rec (motive := fun _ => Out) (fun v c0 c1 c2 c3 c4 c5 c6 c7 => sOW5 p x c1 fun c1 => f ⟨v, c0, c1, c2, c3, c4, c5, c6, c7⟩) t)
    (fun p _ x t f => N.rec (motive := fun _ => Out) (fun v c0 c1 c2 c3 c4 c5 c6 c7 => sOW5 p x c2 fun c2 => f ⟨v, c0, c1, c2, c3, c4, c5, c6, c7⟩) t)
    (fun p _ x t f => N.rec (motive := fun _ => Out) (fun v c0 c1 c2 c3 c4 c5 c6 c7 => sOW5 p x c3 fun c3 => f ⟨v, c0, c1, c2, c3, c4, c5, c6, c7⟩) t)
    (fun p _ x t f => N.rec (motive := fun _ => Out) (fun v c0 c1 c2 c3 c4 c5 c6 c7 => sOW5 p x c4 fun c4 => f ⟨v, c0, c1, c2, c3, c4, c5, c6, c7⟩) t)
    (fun p _ x t f => N.rec (motive := fun _ => Out) (fun v c0 c1 c2 c3 c4 c5 c6 c7 => sOW5 p x c5 fun c5 => f ⟨v, c0, c1, c2, c3, c4, c5, c6, c7⟩) t)
    (fun p _ x t f => N.rec (motive := fun _ => Out) (fun v c0 c1 c2 c3 c4 c5 c6 c7 => sOW5 p x c6 fun c6 => f ⟨v, c0, c1, c2, c3, c4, c5, c6, c7⟩) t)
    (fun p _ x t f => N.rec (motive := fun _ => Out) (fun v c0 c1 c2 c3 c4 c5 c6 c7 => sOW5 p x c7 fun c7 => f ⟨v, c0, c1, c2, c3, c4, c5, c6, c7⟩) t) p
theorem sOW6_eq (p : Pa) (x : AObj) (t : M AObj 6) (f : M AObj 6 → Out) : sOW6 p x t f = setL 6 p (some x) t f := by
  cases p with
  | z => rfl
  | d0 p => exact sOW5_eq p x _ _
  | d1 p => exact sOW5_eq p x _ _
  | d2 p => exact sOW5_eq p x _ _
  | d3 p => exact sOW5_eq p x _ _
  | d4 p => exact sOW5_eq p x _ _
  | d5 p => exact sOW5_eq p x _ _
  | d6 p => exact sOW5_eq p x _ _
  | d7 p => exact sOW5_eq p x _ _

noncomputable def setOW (p : PT) : AObj → Tr AObj → (Tr AObj → Out) → Out :=
  PT.rec (motive := fun _ => AObj → Tr AObj → (Tr AObj → Out) → Out) (fun p x t k => Tr.rec (motive := fun _ => Out) (fun lo hi => sOW6 p x lo fun lo => k ⟨lo, hi⟩) t)
    (fun n x t k => Tr.setT (.hi n) x t k) p
theorem setOW_eq (t : Tr AObj) (n : Nat) (x : AObj) (k : Tr AObj → Out) : setOW (path n) x t k = k (t.put n x) := by
  rw [← Tr.set_eq t n x k]
  unfold Tr.set
  cases path n with
  | lo p => exact sOW6_eq p x t.lo _
  | hi n => rfl

/-! Lists of cells -/

noncomputable def consC2 (k : Option (List AV)) : AV → Option (List AV) := Option.rec (motive := fun _ => AV → Option (List AV)) (fun _ => none) (fun l a => some (a :: l)) k
noncomputable def consC (x : Option AV) : Option (List AV) → Option (List AV) := Option.rec (motive := fun _ => Option (List AV) → Option (List AV)) (fun _ => none) (fun a k => consC2 k a) x
theorem consC_eq (x : Option AV) (k : Option (List AV)) : consC x k = consO x k := by cases x <;> cases k <;> rfl

noncomputable def readQ (n : Nat) : Tr AV → Nat → Option (List AV) :=
  Nat.rec (motive := fun _ => Tr AV → Nat → Option (List AV)) (fun _ _ => some []) (fun _ ih t off => consC (getA (path off) t) (ih t (Nat.succ off))) n
theorem readQ_eq : ∀ (n : Nat) (t : Tr AV) (off : Nat), readQ n t off = readCells t n off
  | 0, _, _ => rfl
  | n + 1, t, off => by
    show consC (getA (path off) t) (readQ n t (Nat.succ off)) = consO (t.get off) (readCells t n (Nat.succ off))
    rw [consC_eq, getA_eq, readQ_eq n]

noncomputable def writeR (l : List AV) : Tr AV → Nat → (Tr AV → OA) → OA :=
  List.rec (motive := fun _ => Tr AV → Nat → (Tr AV → OA) → OA) (fun t _ k => k t) (fun v _ ih t off k => setAR (path off) v t fun t => ih t (Nat.succ off) k) l
theorem writeR_eq : ∀ (l : List AV) (t : Tr AV) (off : Nat) (k : Tr AV → OA), writeR l t off k = writeCells l t off k
  | [], _, _, _ => rfl
  | v :: l, t, off, k => by
    show (setAR (path off) v t fun t => writeR l t (Nat.succ off) k) = t.set off v fun t => forceN (Nat.succ off) fun off => writeCells l t off k
    rw [setAR_eq, Tr.set_eq, forceN_eq, writeR_eq l]

/-- A list's tree. -/
noncomputable def treeOf (l : List AV) : Tr AV := writeCells l .nil 0 fun t => t

/-- A new block: go on with its name. -/
noncomputable def newQ (hp : Hp) (o : AObj) : OA := setOR (path hp.next) o hp.h fun h => forceN (Nat.succ hp.next) fun nx => some (.val (.ptr hp.next 0) ⟨h, nx⟩)
theorem newQ_eq (hp : Hp) (o : AObj) : newQ hp o = newObj hp o fun i hp => some (.val (.ptr i 0) hp) := by
  unfold newQ newObj
  rw [setOR_eq, Tr.set_eq]

noncomputable def newL (hp : Hp) (l : List AV) : OA := writeR l .nil 0 fun t => forceN l.length fun n => newQ hp (.cells n .any t)
theorem newL_eq (hp : Hp) (l : List AV) : newL hp l = newCellsK .any hp l fun i hp => some (.val (.ptr i 0) hp) := by
  unfold newL newCellsK ofList lenK
  rw [writeR_eq, writeCells_eq, writeCells_eq]
  rw [forceN_eq, forceN_eq, newQ_eq]

end Go.Ab
