/- BitsetStops: the tied card: who ranges over a set's ids, and stops behind so many, has just the first ones. -/
import Derived.Test.YtlfccifibhcacaaDoorBrow
import Derived.Test.YtlfccifibhcacaaDoorTie
import Derived.Test.YtlfccifibhcacaaDoorCards
import Derived.SevenTiedAt
namespace Go.Proofs.YtlfccifibhcacaaDoor
open Go

theorem bitsetStops_card_holds : Rows.BitsetStopsCardSaid :=
  Claim7.holds_tied_plain_at .later [] [.data] true (true, "7b15f6617061799229ba0a40171845c848ef9557dc0db9a176eaa623e26c7458") false
    bitsetStops_holds (fun _ h => by cases h) (by kernel_rfl) (fun _ h => by cases h) bitsetStops_row_tie rfl ⟨rfl, rfl⟩ (by kernel_rfl) rfl
    (fun f fn hf hfn => by
      obtain rfl : f = 3 := Option.some.inj ((show Tryd.prog.funcNamed "becket/becketlaw04.BitsetStops" = some 3 by kernel_rfl).symm.trans hf) |>.symm
      obtain rfl : fn = Tryd.f3 := (Option.some.inj (Tryd.func3.symm.trans hfn)).symm
      exact ⟨by kernel_rfl, fun j t ht => by
        rw [Tryd.params3] at ht
        have hm : t ∈ [23, 5] := by simpa using Array.mem_of_getElem? ht
        have hall : ([23, 5].all fun u => !Tryd.prog.wantsStandIn u) = true := by kernel_rfl
        exact (show Tryd.prog.wantsStandIn t = false by simpa using List.all_eq_true.1 hall t hm)⟩)
    (by kernel_rfl)
#print axioms bitsetStops_card_holds
end Go.Proofs.YtlfccifibhcacaaDoor
