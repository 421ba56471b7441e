/- Proved: for every Rtl that is handed in, the law RtlValid returns true and leaves the Rtl as it was (the tied card of RtlValid; its condition: the three listed package variables start as the program's text lays them). -/
import Derived.Test.YtnipphfkiikbdaaDoorTie
import Derived.Test.YtnipphfkiikbdaaDoorCards
import Derived.SevenTiedAt
import Derived.Test.YtnipphfkiikbdaaDoorAbs14
/- The tied card of RtlValid. -/
namespace Go.Proofs.YtnipphfkiikbdaaDoor
open Go
theorem rtlValid_card : Rows.RtlValidCardSaid :=
  Claim7.holds_tied_plain_at .later [] [.data, .data, .data] true (true, "08b134bd9a1cdd4b6facb518c0c358438de69979a5bb4ba20321cc38d44b6500") false
    rtlValid.proved (fun _ h => by cases h) (by kernel_rfl) (fun _ h => by cases h) rtlValid_row_tie rfl ⟨rfl, rfl⟩ (by kernel_rfl) rfl
    (fun f fn hf hfn => by
      obtain rfl : f = 3 := Option.some.inj ((show Tryd.prog.funcNamed "netwright/netwrightlaw21.RtlValid" = some 3 by kernel_rfl).symm.trans hf) |>.symm
      obtain rfl : fn = Tryd.f3 := (Option.some.inj (Tryd.func3.symm.trans hfn)).symm
      exact ⟨by kernel_rfl, fun j t ht => by
        rw [Tryd.params3] at ht
        have hm : t ∈ [26] := by simpa using Array.mem_of_getElem? ht
        have hall : ([26].all fun u => !Tryd.prog.wantsStandIn u) = true := by kernel_rfl
        exact (show Tryd.prog.wantsStandIn t = false by simpa using List.all_eq_true.1 hall t hm)⟩)
    (by kernel_rfl)
end Go.Proofs.YtnipphfkiikbdaaDoor
