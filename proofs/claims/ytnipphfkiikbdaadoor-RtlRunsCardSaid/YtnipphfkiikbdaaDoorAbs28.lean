/- Own text of this claim: part 28 of an interpreter that is proved sound against the model, and of what it shows of the law. -/
import Derived.Test.YtnipphfkiikbdaaDoorTie
import Derived.Test.YtnipphfkiikbdaaDoorCards
import Derived.SevenTiedAt
import Derived.Test.YtnipphfkiikbdaaDoorAbs27
/- The tied card of RtlRuns. -/
namespace Go.Proofs.YtnipphfkiikbdaaDoor
open Go
theorem rtlRuns_card : Rows.RtlRunsCardSaid :=
  Claim7.holds_tied_plain_at .later [] [.data, .data, .data] true (true, "08b134bd9a1cdd4b6facb518c0c358438de69979a5bb4ba20321cc38d44b6500") false
    rtlRuns.proved (fun _ h => by cases h) (by kernel_rfl) (fun _ h => by cases h) rtlRuns_row_tie rfl ⟨rfl, rfl⟩ (by kernel_rfl) rfl
    (fun f fn hf hfn => by
      obtain rfl : f = 5 := Option.some.inj ((show Tryd.prog.funcNamed "netwright/netwrightlaw21.RtlRuns" = some 5 by kernel_rfl).symm.trans hf) |>.symm
      obtain rfl : fn = Tryd.f5 := (Option.some.inj (Tryd.func5.symm.trans hfn)).symm
      exact ⟨by kernel_rfl, fun j t ht => by
        rw [Tryd.params5] at ht
        have hm : t ∈ [26, 38] := by simpa using Array.mem_of_getElem? ht
        have hall : ([26, 38].all fun u => !Tryd.prog.wantsStandIn u) = true := by kernel_rfl
        exact (show Tryd.prog.wantsStandIn t = false by simpa using List.all_eq_true.1 hall t hm)⟩)
    (by kernel_rfl)
end Go.Proofs.YtnipphfkiikbdaaDoor
