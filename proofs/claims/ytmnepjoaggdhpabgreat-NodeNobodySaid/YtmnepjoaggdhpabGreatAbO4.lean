/-
  REGIONS IN ANY ORDER: one step.
-/
import Derived.Test.YtmnepjoaggdhpabGreatAbO3
set_option linter.unusedVariables false
namespace Go.Ab

mutual
theorem avEq_eq : ∀ {a b : AV}, avEq a b = true → a = b
  | .raw a, b, h => by
    cases b with
    | raw b =>
      unfold avEq at h
      split at h
      · rename_i r hr
        subst h
        rw [scalEq_true hr]
      · split at h <;> first | rfl | (cases h; done) | skip
        simp only [Bool.and_eq_true] at h
        rw [Nat.eq_of_beq_eq_true h.1, Nat.eq_of_beq_eq_true h.2]
    | _ => cases h
  | .ptr i a, b, h => by
    cases b with
    | ptr j c =>
      unfold avEq at h
      simp only [Bool.and_eq_true] at h
      rw [Nat.eq_of_beq_eq_true h.1, Nat.eq_of_beq_eq_true h.2]
    | _ => cases h
  | .sl i o l c x e, b, h => by
    cases b with
    | sl i' o' l' c' x' e' =>
      unfold avEq at h
      simp only [Bool.and_eq_true, beq_iff_eq] at h
      obtain ⟨⟨⟨⟨⟨h1, h2⟩, h3⟩, h4⟩, h5⟩, h6⟩ := h
      rw [Nat.eq_of_beq_eq_true h1, Nat.eq_of_beq_eq_true h2, Nat.eq_of_beq_eq_true h3, Nat.eq_of_beq_eq_true h4, h5, Nat.eq_of_beq_eq_true h6]
    | _ => cases h
  | .sl0 x, b, h => by
    cases b with
    | sl0 y =>
      unfold avEq at h
      rw [beq_iff_eq] at h
      rw [h]
    | _ => cases h
  | .map i, b, h => by
    cases b with
    | map j =>
      unfold avEq at h
      rw [Nat.eq_of_beq_eq_true h]
    | _ => cases h
  | .fn f as cs, b, h => by
    cases b with
    | fn g bs ds =>
      unfold avEq at h
      split at h <;> first | (cases h; done) | skip
      all_goals (rename_i e1 e2; first | (cases e1; done) | skip)
      all_goals (try (cases e1; cases e2))
      simp only [Bool.and_eq_true] at h
      rw [Nat.eq_of_beq_eq_true h.1, avsEq_eq h.2]
    | _ => cases f <;> cases as <;> cases h
  | .agg as, b, h => by
    cases b with
    | agg bs =>
      unfold avEq at h
      rw [avsEq_eq h]
    | _ => cases h
  | .tup as, b, h => by
    cases b with
    | tup bs =>
      unfold avEq at h
      rw [avsEq_eq h]
    | _ => cases h
  | .iface t v, b, h => by cases h
  | .any, b, h => by
    cases b with
    | any => rfl
    | _ => cases h
theorem avsEq_eq : ∀ {a b : List AV}, avsEq a b = true → a = b
  | [], [], _ => rfl
  | [], _ :: _, h => by cases h
  | _ :: _, [], h => by cases h
  | a :: as, b :: bs, h => by
    unfold avsEq at h
    split at h
    · rename_i h1
      rw [avEq_eq h1, avsEq_eq h]
    · cases h
end
end Go.Ab
