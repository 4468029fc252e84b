/- THE TIED CARD OF TopSlots: for every input the law 'contention by slots is what the medium does' returns true, and each argument reads behind the call as it read before; the one listed variable (the contention windows) is tied to the program's text. Conditions: none beyond the card's own. -/
import Derived.Test.YtmfdjipijifabaaDoorPart11
import Derived.Test.YtmfdjipijifabaaDoorTie
import Derived.Test.YtmfdjipijifabaaDoorCards
import Derived.SevenTiedAt
set_option maxRecDepth 100000
namespace Go.Proofs.YtmfdjipijifabaaDoor
open Go

theorem topSlots_card_holds : Rows.TopSlotsCardSaid :=
  Claim7.holds_tied_plain_at .later [] [.data] true (true, "f12f8d9325b01008748c8229a189ca5945c04e7a36618df1bcc6e4ac1084097c") false
    topSlots_holds (fun _ h => by cases h) (by kernel_rfl) (fun _ h => by cases h) topSlots_row_tie rfl ⟨rfl, rfl⟩ (by kernel_rfl) rfl
    (fun f fn hf hfn => by
      obtain rfl : f = 3 := Option.some.inj ((show Tryd.prog.funcNamed "hotspot/hotspottop.TopSlots" = some 3 by kernel_rfl).symm.trans hf) |>.symm
      obtain rfl : fn = Tryd.f3 := (Option.some.inj (Tryd.func3.symm.trans hfn)).symm
      exact ⟨by kernel_rfl, fun j t ht => by
        rw [Tryd.params3] at ht
        have hm : t ∈ [22, 23, 4, 3, 3, 24] := by simpa using Array.mem_of_getElem? ht
        have hall : ([22, 23, 4, 3, 3, 24].all fun u => !Tryd.prog.wantsStandIn u) = true := by kernel_rfl
        exact (show Tryd.prog.wantsStandIn t = false by simpa using List.all_eq_true.1 hall t hm)⟩)
    (by kernel_rfl)
#print axioms topSlots_card_holds
end Go.Proofs.YtmfdjipijifabaaDoor
