/- Own text of this claim: part 23 of an interpreter that is proved sound against the model, and of what it shows of the law. -/
import Derived.Test.YtnipphfkiikbdaaDoorTie
import Derived.Test.YtnipphfkiikbdaaDoorCards
import Derived.SevenTiedAt
import Derived.Test.YtnipphfkiikbdaaDoorAbs22
/- The tied card of RtlEvals. -/
namespace Go.Proofs.YtnipphfkiikbdaaDoor
open Go
theorem rtlEvals_card : Rows.RtlEvalsCardSaid :=
  Claim7.holds_tied_plain_at .later [] [.data, .data, .data] true (true, "08b134bd9a1cdd4b6facb518c0c358438de69979a5bb4ba20321cc38d44b6500") false
    rtlEvals.proved (fun _ h => by cases h) (by kernel_rfl) (fun _ h => by cases h) rtlEvals_row_tie rfl ⟨rfl, rfl⟩ (by kernel_rfl) rfl
    (fun f fn hf hfn => by
      obtain rfl : f = 4 := Option.some.inj ((show Tryd.prog.funcNamed "netwright/netwrightlaw21.RtlEvals" = some 4 by kernel_rfl).symm.trans hf) |>.symm
      obtain rfl : fn = Tryd.f4 := (Option.some.inj (Tryd.func4.symm.trans hfn)).symm
      exact ⟨by kernel_rfl, fun j t ht => by
        rw [Tryd.params4] at ht
        have hm : t ∈ [26, 29, 29] := by simpa using Array.mem_of_getElem? ht
        have hall : ([26, 29, 29].all fun u => !Tryd.prog.wantsStandIn u) = true := by kernel_rfl
        exact (show Tryd.prog.wantsStandIn t = false by simpa using List.all_eq_true.1 hall t hm)⟩)
    (by kernel_rfl)
end Go.Proofs.YtnipphfkiikbdaaDoor
