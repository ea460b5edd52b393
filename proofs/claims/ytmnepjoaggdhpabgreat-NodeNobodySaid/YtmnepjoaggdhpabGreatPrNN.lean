/-
  'carousellaw21.NodeNobody' returns true for every pid and every number, and what was there stays as it was. Conditions: none.
-/
import Derived.Test.YtmnepjoaggdhpabGreatRows
import Derived.Test.YtmnepjoaggdhpabGreatRunNN
import Derived.Test.YtmnepjoaggdhpabGreatFactNN
import Derived.WalkKit
import Derived.ProofKit
import Derived.OpenShut
import Derived.ShutString
import Derived.ChangeOld
import Derived.Below
import Derived.Lib.SmallJoins
namespace Go.Proofs.YtmnepjoaggdhpabGreat
open Go.ChangeShapes Go.WideShapes Go.ChangeAt Go.RowKit Go.Joins

theorem own : ownKnob Tryz.prog.godebug = none := by kernel_rfl
theorem laidOut : laidOutB Tryz.prog = true := by kernel_rfl
theorem cells23 : Tryz.prog.cellsOf 23 = 2 := by kernel_rfl

set_option maxRecDepth 100000 in
theorem nodeNobody_lifted (os : Os) (started : os.Started) (H : Type) (enc : TypeId × Value → H) :
    ReturnsInHanded {} Tryz.checked os 3 .any (Rows.nodeNobodySpec.pre6 enc Tryz.prog Tryz.f3 Rows.nodeNobodyRow.domain false) (Rows.nodeNobodySpec.post enc Tryz.prog Tryz.f3 false true false false) := by
  refine returnsInHanded_of_change (C := Tryz.checked) own started (by kernel_rfl) Tryz.func3
    (ChangeSpec.witness6 (enc := enc) (C := Tryz.checked) false ⟨#[], #[.agg #[.int .i64 0, .int .i64 0], .int .i64 0], []⟩ 8 (by kernel_rfl) (by kernel_rfl) (by kernel_rfl) (by kernel_rfl)) ?_
  intro W base args ds gs before hval0 hW hcnd _
  have hval : ∀ (j : Nat) t v, Tryz.f3.params[j]? = some t → args[j]? = some v → Value.okWide Tryz.prog W .any base t v := hval0
  have hW' := hW
  obtain ⟨p, q, hA0, hV, rfl, hfz, hnd⟩ := hW
  have hA : DataW.TrodAll enc Tryz.prog W 0 (fun _ => true) true Tryz.f3.params.toList args.toList ds p := hA0
  rw [Tryz.params3] at hA hval
  obtain ⟨v0, vs0, d0, ds0, p0, q0, hargs, rfl, rfl, h0, r0⟩ := trodAll_cons hA
  obtain ⟨v1, vs1, d1, ds1, p1, q1, rfl, rfl, rfl, h1, r1⟩ := trodAll_cons r0
  obtain ⟨rfl, rfl, rfl⟩ := trodAll_nil r1
  obtain rfl : args = #[v0, v1] := by cases args; simp_all
  obtain ⟨rfl, rfl⟩ := trodVars_none hV
  have k0 := h0
  have lt0 : ∀ x ∈ p0, x.block < W.heap.size := by obtain ⟨m, hm⟩ := k0; exact DataW.trod_lt m _ _ _ hm
  obtain ⟨c0, c1, y0, y1, m, rfl, rfl, rfl, hy0, hy1⟩ := open_agg2 Tryz.underlying23 (by kernel_rfl) cells23 (hval 0 23 v0 rfl rfl) h0
  have o0 : c0.oneCell' = true := by
    obtain ⟨a, e0, _, _⟩ := DataW.trod_int Tryz.underlying3 hy0
    simp at e0; subst e0; rfl
  have o1 : c1.oneCell' = true := by
    obtain ⟨a, e0, _, _⟩ := DataW.trod_int Tryz.underlying3 hy1
    simp at e0; subst e0; rfl
  obtain ⟨a1, rfl, rfl, rfl, w1⟩ := open_int Tryz.underlying3 (hval 1 3 v1 rfl rfl) h1
  clear hA0 hval0
  refine (Go.Ab.calls_true NN.tab_ok NN.law_run W (vargs := #[.agg #[c0, c1], .int .i64 a1]) ?_).mono fun e W' ⟨he, bel⟩ => ?_
  · refine .cons (show ∃ c, Value.agg #[c0, c1] = .agg c ∧ Go.Ab.VsRel _ [.any, .any] c.toList ∧ ∀ x ∈ c.toList, x.oneCell' = true from ?_) (.cons (show (Value.int .i64 a1).oneCell' = true from rfl) .nil)
    refine ⟨_, rfl, .cons (show c0.oneCell' = true from o0) (.cons (show c1.oneCell' = true from o1) .nil), ?_⟩
    intro x hx
    rcases List.mem_cons.1 hx with rfl | hx
    · exact o0
    · rcases List.mem_cons.1 hx with rfl | hx
      · exact o1
      · cases hx
  subst he
  exact ⟨_, rfl, _, _, _, [], _, [], hW', trodAll_mk1 (shut_bool Tryz.underlying4 _), (trodAll_cons_mk (Below.trod laidOut (by kernel_rfl) (of_decide_eq_true (by kernel_rfl)) k0 bel lt0) (trodAll_cons_mk (shut_int Tryz.underlying3 w1) trodAll_mk0)), rfl, bel.frame _, fun h => by cases h⟩

theorem nodeNobody_over : Rows.nodeNobodyRow.holds Tryz.pinned (OpenSpec.ofChange Rows.nodeNobodySpec) :=
  OpenClaim.holds_of_wide 3 Tryz.f3 rfl rfl rfl rfl rfl rfl rfl ⟨rfl, rfl, rfl, rfl, rfl⟩ rfl rfl rfl rfl rfl closed_name Tryz.func3 closed_all
    (of_decide_eq_true (by kernel_rfl)) (by unfold Func.isWrapper; rw [if_neg (of_decide_eq_false (by kernel_rfl))]; exact ⟨rfl, rfl⟩)
    (fun os started H enc _ => nodeNobody_lifted os started H enc)

theorem nodeNobody_holds : Rows.NodeNobodySaid := nodeNobody_over
#print axioms nodeNobody_holds
end Go.Proofs.YtmnepjoaggdhpabGreat
