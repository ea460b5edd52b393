/-
  The tied card of 'carousellaw29.InfoNobody': for every pid and every class the law returns true, and what was there stays as it was; the three listed tables of Go's library are tied to the program's text. Conditions: none beyond the card's.
-/
import Derived.Test.YtmnepjoaggdhpaaGreatDoorPrIN
import Derived.Test.YtmnepjoaggdhpaaGreatDoorTie
import Derived.Test.YtmnepjoaggdhpaaGreatDoorCards
import Derived.SevenTiedAt
namespace Go.Proofs.YtmnepjoaggdhpaaGreatDoor
open Go

theorem infoNobody_holds : Rows.InfoNobodyCardSaid :=
  Claim7.holds_tied_plain_at .later [] [.data, .data, .data] true (true, "4134e172acee4b0d1e53fcba021d622684cbdf80d4acd9c32d1920829b30cc4a") false
    infoNobody_over (fun _ h => by cases h) (by kernel_rfl) (fun _ h => by cases h) infoNobody_row_tie rfl ⟨rfl, rfl⟩ (by kernel_rfl) rfl
    (fun f fn hf hfn => by
      obtain rfl : f = 3 := Option.some.inj ((show Tryz.prog.funcNamed "carousel/carousellaw29.InfoNobody" = some 3 from closed_name).symm.trans hf) |>.symm
      obtain rfl : fn = Tryz.f3 := (Option.some.inj (Tryz.func3.symm.trans hfn)).symm
      exact ⟨by kernel_rfl, fun j t ht => by
        rw [Tryz.params3] at ht
        have hm : t ∈ [23, 3] := by simpa using Array.mem_of_getElem? ht
        have hall : ([23, 3].all fun u => !Tryz.prog.wantsStandIn u) = true := by kernel_rfl
        exact (show Tryz.prog.wantsStandIn t = false by simpa using List.all_eq_true.1 hall t hm)⟩)
    (by kernel_rfl)
#print axioms infoNobody_holds
end Go.Proofs.YtmnepjoaggdhpaaGreatDoor
