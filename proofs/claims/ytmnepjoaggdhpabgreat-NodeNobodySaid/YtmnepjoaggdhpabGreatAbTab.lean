/- TABLES -/
import Derived.Test.YtmnepjoaggdhpabGreatAbD
set_option linter.unusedVariables false
namespace Go.Ab
noncomputable def mkTy (i u : TypeInfo) (plain : Bool) : TyI :=
  { und := u.desc, agg := (match u.desc with | .struct _ | .array _ _ => true | _ => false), size := i.size, bytes := i.bytes,
    zero := (match i.zero with | some (.agg c) => (match u.desc with | .struct _ | .array _ _ => leaves c.toList | _ => none) | some v => (match u.desc with | .struct _ | .array _ _ => none | _ => leaves [v]) | none => none), plain }
noncomputable def ofPairs {α : Type} : List (Nat × α) → Tr α → Tr α
  | [], t => t
  | (i, x) :: l, t => t.set i x fun t => ofPairs l t
end Go.Ab
