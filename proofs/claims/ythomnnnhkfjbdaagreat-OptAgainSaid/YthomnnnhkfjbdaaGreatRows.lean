/-
  No cell of these rows narrows 'for every input' (looked for: loops, veiled, ifaces, maps, wideKeys, modest, calm, conditions, laid).
  DERIVED. THE GIVEN ROWS OF THIS SEAT. 12 by the template 'for every input the law returns true; each argument reads behind the call as it read before'; 0 by the template 'total and deterministic' (their statements: YthomnnnhkfjbdaaGreatTotals.lean).
  GIVEN WITH THE SEED: the statements are not yours to turn. If you find one false, say at which input.
  Laid BY PROGRAM, IN A SANDBOX (cutbox-rows.mjs): the forced cells as the released guide's own fill.sh prints them over the translation ba67050c807a38af… (all of the seat's roots in one cut). By AI agents, Wed Nov 11 2026. No macro, syntax, notation, axiom, sorry.
-/
import Derived.Test.YthomnnnhkfjbdaaGreatChecked
import GoSem.Claim
import GoSem.ClaimJoined
import GoSem.ClaimMapViews
import Derived.JoinedTies
import Derived.KernelRfl
namespace Go.Proofs.YthomnnnhkfjbdaaGreat
/- THE CELL 'sum', in the pinned program and in every row, IS THE sha256 OF THE DUMP (.gsa) THAT YthomnnnhkfjbdaaGreatProg.lean LOADS. Nothing in Lean hashes anything: it is a label: what it is worth is what the hold of that sum in a sandbox is worth. -/
noncomputable def Tryz.pinned : Pinned := { name := "ythomnnnhkfjbdaagreat", sum := "ba67050c807a38afab98b399dafb4afc3879d141c88422bcfabb8a17e6cc1e6a", checked := Tryz.checked }
namespace Rows
def none {H : Type} : Left H := { results := [], args := [] }

/-- 'netwrightlaw29.OptFolds': WHATEVER THE INPUT: true; the input reads as it did. -/
def optFoldsSpec : ChangeSpec := { name := "optFolds", fn := fun _ => fun
  | [d] => { results := [.lit (.bool true)], args := [d] }
  | _ => none }
def optFoldsRow : OpenClaim := { program := "ythomnnnhkfjbdaagreat", sum := "ba67050c807a38afab98b399dafb4afc3879d141c88422bcfabb8a17e6cc1e6a", func := "netwright/netwrightlaw29.OptFolds", spec := "optFolds", unfollowed := true, recurses := true, plainKeys := false, apart := false }
def OptFoldsSaid : Prop := optFoldsRow.holds Tryz.pinned (OpenSpec.ofChange optFoldsSpec)

/-- ITS FALSE NEIGHBOUR: 'it returns false'. Refute it at one input. -/
def optFoldsWrong : ChangeSpec := { name := "optFolds", fn := fun _ => fun
  | [d] => { results := [.lit (.bool false)], args := [d] }
  | _ => none }
def OptFoldsWrongFalsely : Prop := optFoldsRow.holds Tryz.pinned (OpenSpec.ofChange optFoldsWrong)

/-- 'netwrightlaw29.OptSettles': WHATEVER THE INPUT: true; the input reads as it did. -/
def optSettlesSpec : ChangeSpec := { name := "optSettles", fn := fun _ => fun
  | [d] => { results := [.lit (.bool true)], args := [d] }
  | _ => none }
def optSettlesRow : OpenClaim := { program := "ythomnnnhkfjbdaagreat", sum := "ba67050c807a38afab98b399dafb4afc3879d141c88422bcfabb8a17e6cc1e6a", func := "netwright/netwrightlaw29.OptSettles", spec := "optSettles", unfollowed := true, recurses := true, plainKeys := false, apart := false }
def OptSettlesSaid : Prop := optSettlesRow.holds Tryz.pinned (OpenSpec.ofChange optSettlesSpec)

/-- ITS FALSE NEIGHBOUR: 'it returns false'. Refute it at one input. -/
def optSettlesWrong : ChangeSpec := { name := "optSettles", fn := fun _ => fun
  | [d] => { results := [.lit (.bool false)], args := [d] }
  | _ => none }
def OptSettlesWrongFalsely : Prop := optSettlesRow.holds Tryz.pinned (OpenSpec.ofChange optSettlesWrong)

/-- 'netwrightlaw29.OptMerges': WHATEVER THE INPUT: true; the input reads as it did. -/
def optMergesSpec : ChangeSpec := { name := "optMerges", fn := fun _ => fun
  | [d] => { results := [.lit (.bool true)], args := [d] }
  | _ => none }
def optMergesRow : OpenClaim := { program := "ythomnnnhkfjbdaagreat", sum := "ba67050c807a38afab98b399dafb4afc3879d141c88422bcfabb8a17e6cc1e6a", func := "netwright/netwrightlaw29.OptMerges", spec := "optMerges", unfollowed := true, recurses := true, plainKeys := false, apart := false }
def OptMergesSaid : Prop := optMergesRow.holds Tryz.pinned (OpenSpec.ofChange optMergesSpec)

/-- ITS FALSE NEIGHBOUR: 'it returns false'. Refute it at one input. -/
def optMergesWrong : ChangeSpec := { name := "optMerges", fn := fun _ => fun
  | [d] => { results := [.lit (.bool false)], args := [d] }
  | _ => none }
def OptMergesWrongFalsely : Prop := optMergesRow.holds Tryz.pinned (OpenSpec.ofChange optMergesWrong)

/-- 'netwrightlaw29.OptSame': WHATEVER THE INPUT: true; the input reads as it did. -/
def optSameSpec : ChangeSpec := { name := "optSame", fn := fun _ => fun
  | [d1, d2, d3] => { results := [.lit (.bool true)], args := [d1, d2, d3] }
  | _ => none }
def optSameRow : OpenClaim := { program := "ythomnnnhkfjbdaagreat", sum := "ba67050c807a38afab98b399dafb4afc3879d141c88422bcfabb8a17e6cc1e6a", func := "netwright/netwrightlaw29.OptSame", spec := "optSame", unfollowed := true, recurses := true, plainKeys := false, apart := false }
def OptSameSaid : Prop := optSameRow.holds Tryz.pinned (OpenSpec.ofChange optSameSpec)

/-- ITS FALSE NEIGHBOUR: 'it returns false'. Refute it at one input. -/
def optSameWrong : ChangeSpec := { name := "optSame", fn := fun _ => fun
  | [d1, d2, d3] => { results := [.lit (.bool false)], args := [d1, d2, d3] }
  | _ => none }
def OptSameWrongFalsely : Prop := optSameRow.holds Tryz.pinned (OpenSpec.ofChange optSameWrong)

/-- 'netwrightlaw29.OptFree': WHATEVER THE INPUT: true; the input reads as it did. -/
def optFreeSpec : ChangeSpec := { name := "optFree", fn := fun _ => fun
  | [d] => { results := [.lit (.bool true)], args := [d] }
  | _ => none }
def optFreeRow : OpenClaim := { program := "ythomnnnhkfjbdaagreat", sum := "ba67050c807a38afab98b399dafb4afc3879d141c88422bcfabb8a17e6cc1e6a", func := "netwright/netwrightlaw29.OptFree", spec := "optFree", unfollowed := true, recurses := true, plainKeys := false, apart := false }
def OptFreeSaid : Prop := optFreeRow.holds Tryz.pinned (OpenSpec.ofChange optFreeSpec)

/-- ITS FALSE NEIGHBOUR: 'it returns false'. Refute it at one input. -/
def optFreeWrong : ChangeSpec := { name := "optFree", fn := fun _ => fun
  | [d] => { results := [.lit (.bool false)], args := [d] }
  | _ => none }
def OptFreeWrongFalsely : Prop := optFreeRow.holds Tryz.pinned (OpenSpec.ofChange optFreeWrong)

/-- 'netwrightlaw29.OptTrees': WHATEVER THE INPUT: true; the input reads as it did. -/
def optTreesSpec : ChangeSpec := { name := "optTrees", fn := fun _ => fun
  | [d1, d2] => { results := [.lit (.bool true)], args := [d1, d2] }
  | _ => none }
def optTreesRow : OpenClaim := { program := "ythomnnnhkfjbdaagreat", sum := "ba67050c807a38afab98b399dafb4afc3879d141c88422bcfabb8a17e6cc1e6a", func := "netwright/netwrightlaw29.OptTrees", spec := "optTrees", unfollowed := true, recurses := true, plainKeys := false, apart := false }
def OptTreesSaid : Prop := optTreesRow.holds Tryz.pinned (OpenSpec.ofChange optTreesSpec)

/-- ITS FALSE NEIGHBOUR: 'it returns false'. Refute it at one input. -/
def optTreesWrong : ChangeSpec := { name := "optTrees", fn := fun _ => fun
  | [d1, d2] => { results := [.lit (.bool false)], args := [d1, d2] }
  | _ => none }
def OptTreesWrongFalsely : Prop := optTreesRow.holds Tryz.pinned (OpenSpec.ofChange optTreesWrong)

/-- 'netwrightlaw29.OptSweeps': WHATEVER THE INPUT: true; the input reads as it did. -/
def optSweepsSpec : ChangeSpec := { name := "optSweeps", fn := fun _ => fun
  | [d] => { results := [.lit (.bool true)], args := [d] }
  | _ => none }
def optSweepsRow : OpenClaim := { program := "ythomnnnhkfjbdaagreat", sum := "ba67050c807a38afab98b399dafb4afc3879d141c88422bcfabb8a17e6cc1e6a", func := "netwright/netwrightlaw29.OptSweeps", spec := "optSweeps", unfollowed := true, recurses := true, plainKeys := false, apart := false }
def OptSweepsSaid : Prop := optSweepsRow.holds Tryz.pinned (OpenSpec.ofChange optSweepsSpec)

/-- ITS FALSE NEIGHBOUR: 'it returns false'. Refute it at one input. -/
def optSweepsWrong : ChangeSpec := { name := "optSweeps", fn := fun _ => fun
  | [d] => { results := [.lit (.bool false)], args := [d] }
  | _ => none }
def OptSweepsWrongFalsely : Prop := optSweepsRow.holds Tryz.pinned (OpenSpec.ofChange optSweepsWrong)

/-- 'netwrightlaw29.OptBest': WHATEVER THE INPUT: true; the input reads as it did. -/
def optBestSpec : ChangeSpec := { name := "optBest", fn := fun _ => fun
  | [d] => { results := [.lit (.bool true)], args := [d] }
  | _ => none }
def optBestRow : OpenClaim := { program := "ythomnnnhkfjbdaagreat", sum := "ba67050c807a38afab98b399dafb4afc3879d141c88422bcfabb8a17e6cc1e6a", func := "netwright/netwrightlaw29.OptBest", spec := "optBest", unfollowed := true, recurses := true, plainKeys := false, apart := false }
def OptBestSaid : Prop := optBestRow.holds Tryz.pinned (OpenSpec.ofChange optBestSpec)

/-- ITS FALSE NEIGHBOUR: 'it returns false'. Refute it at one input. -/
def optBestWrong : ChangeSpec := { name := "optBest", fn := fun _ => fun
  | [d] => { results := [.lit (.bool false)], args := [d] }
  | _ => none }
def OptBestWrongFalsely : Prop := optBestRow.holds Tryz.pinned (OpenSpec.ofChange optBestWrong)

/-- 'netwrightlaw29.OptStuck': WHATEVER THE INPUT: true; the input reads as it did. -/
def optStuckSpec : ChangeSpec := { name := "optStuck", fn := fun _ => fun
  | [d1, d2, d3] => { results := [.lit (.bool true)], args := [d1, d2, d3] }
  | _ => none }
def optStuckRow : OpenClaim := { program := "ythomnnnhkfjbdaagreat", sum := "ba67050c807a38afab98b399dafb4afc3879d141c88422bcfabb8a17e6cc1e6a", func := "netwright/netwrightlaw29.OptStuck", spec := "optStuck", unfollowed := true, recurses := true, plainKeys := false, apart := false }
def OptStuckSaid : Prop := optStuckRow.holds Tryz.pinned (OpenSpec.ofChange optStuckSpec)

/-- ITS FALSE NEIGHBOUR: 'it returns false'. Refute it at one input. -/
def optStuckWrong : ChangeSpec := { name := "optStuck", fn := fun _ => fun
  | [d1, d2, d3] => { results := [.lit (.bool false)], args := [d1, d2, d3] }
  | _ => none }
def OptStuckWrongFalsely : Prop := optStuckRow.holds Tryz.pinned (OpenSpec.ofChange optStuckWrong)

/-- 'netwrightlaw29.OptTwins': WHATEVER THE INPUT: true; the input reads as it did. -/
def optTwinsSpec : ChangeSpec := { name := "optTwins", fn := fun _ => fun
  | [d1, d2, d3] => { results := [.lit (.bool true)], args := [d1, d2, d3] }
  | _ => none }
def optTwinsRow : OpenClaim := { program := "ythomnnnhkfjbdaagreat", sum := "ba67050c807a38afab98b399dafb4afc3879d141c88422bcfabb8a17e6cc1e6a", func := "netwright/netwrightlaw29.OptTwins", spec := "optTwins", unfollowed := true, recurses := true, plainKeys := false, apart := false }
def OptTwinsSaid : Prop := optTwinsRow.holds Tryz.pinned (OpenSpec.ofChange optTwinsSpec)

/-- ITS FALSE NEIGHBOUR: 'it returns false'. Refute it at one input. -/
def optTwinsWrong : ChangeSpec := { name := "optTwins", fn := fun _ => fun
  | [d1, d2, d3] => { results := [.lit (.bool false)], args := [d1, d2, d3] }
  | _ => none }
def OptTwinsWrongFalsely : Prop := optTwinsRow.holds Tryz.pinned (OpenSpec.ofChange optTwinsWrong)

/-- 'netwrightlaw29.OptAgain': WHATEVER THE INPUT: true; the input reads as it did. -/
def optAgainSpec : ChangeSpec := { name := "optAgain", fn := fun _ => fun
  | [d] => { results := [.lit (.bool true)], args := [d] }
  | _ => none }
def optAgainRow : OpenClaim := { program := "ythomnnnhkfjbdaagreat", sum := "ba67050c807a38afab98b399dafb4afc3879d141c88422bcfabb8a17e6cc1e6a", func := "netwright/netwrightlaw29.OptAgain", spec := "optAgain", unfollowed := true, recurses := true, plainKeys := false, apart := false }
def OptAgainSaid : Prop := optAgainRow.holds Tryz.pinned (OpenSpec.ofChange optAgainSpec)

/-- ITS FALSE NEIGHBOUR: 'it returns false'. Refute it at one input. -/
def optAgainWrong : ChangeSpec := { name := "optAgain", fn := fun _ => fun
  | [d] => { results := [.lit (.bool false)], args := [d] }
  | _ => none }
def OptAgainWrongFalsely : Prop := optAgainRow.holds Tryz.pinned (OpenSpec.ofChange optAgainWrong)

/-- 'netwrightlaw29.OptOwn': WHATEVER THE INPUT: true; the input reads as it did. -/
def optOwnSpec : ChangeSpec := { name := "optOwn", fn := fun _ => fun
  | [d] => { results := [.lit (.bool true)], args := [d] }
  | _ => none }
def optOwnRow : OpenClaim := { program := "ythomnnnhkfjbdaagreat", sum := "ba67050c807a38afab98b399dafb4afc3879d141c88422bcfabb8a17e6cc1e6a", func := "netwright/netwrightlaw29.OptOwn", spec := "optOwn", unfollowed := true, recurses := true, plainKeys := false, apart := false }
def OptOwnSaid : Prop := optOwnRow.holds Tryz.pinned (OpenSpec.ofChange optOwnSpec)

/-- ITS FALSE NEIGHBOUR: 'it returns false'. Refute it at one input. -/
def optOwnWrong : ChangeSpec := { name := "optOwn", fn := fun _ => fun
  | [d] => { results := [.lit (.bool false)], args := [d] }
  | _ => none }
def OptOwnWrongFalsely : Prop := optOwnRow.holds Tryz.pinned (OpenSpec.ofChange optOwnWrong)

/- THE SECOND FORM. 'bulk': how many values and letters a reading holds, each counted each time it is reached (what is shared counts as often as it is met; a slice's spare places count too). A statement '..UptoSaid' is the law's where the arguments, and the package variables that the reading takes, are together of bulk at most 1048576: NARROWER than '..Said'. Prove '..Said' where nothing that the law and all that it calls make is longer than what came in: it says more and counts as full. Else prove '..UptoSaid'. A law counts once. -/
mutual
def uptoBulk {H : Type} : DataW H → Nat
  | .lit (.string bytes) => bytes.length + 1
  | .lit _ => 1
  | .nil => 1
  | .ptr d => uptoBulk d + 1
  | .slice elems spare => uptoBulkAll elems + uptoBulkAll spare + 1
  | .agg parts => uptoBulkAll parts + 1
  | .iface _ d => uptoBulk d + 1
  | .map entries => uptoBulkEntries entries + 1
  | .held _ => 1
def uptoBulkAll {H : Type} : List (DataW H) → Nat
  | [] => 0
  | d :: r => uptoBulk d + uptoBulkAll r
def uptoBulkEntries {H : Type} : List (Lit × DataW H) → Nat
  | [] => 0
  | x :: r => uptoBulkEntry x + uptoBulkEntries r
def uptoBulkEntry {H : Type} : Lit × DataW H → Nat
  | (.string bytes, d) => bytes.length + uptoBulk d + 1
  | (_, d) => uptoBulk d + 1
 end
def uptoSmall : (H : Type) → List (DataW H) → Bool := fun _ ds => decide (uptoBulkAll ds ≤ 1048576)
def OpenSpec.upto (s : _root_.Go.ChangeSpec) : _root_.Go.OpenSpec := { _root_.Go.OpenSpec.ofChange s with cond := some uptoSmall }

/-- 'netwrightlaw29.OptFolds', WHERE WHAT IT READS IS OF BULK AT MOST 1048576: true; the input reads as it did. -/
def optFoldsUptoRow : OpenClaim := { program := "ythomnnnhkfjbdaagreat", sum := "ba67050c807a38afab98b399dafb4afc3879d141c88422bcfabb8a17e6cc1e6a", func := "netwright/netwrightlaw29.OptFolds", spec := "optFolds", unfollowed := true, recurses := true, plainKeys := false, apart := false, narrowed := true }
def OptFoldsUptoSaid : Prop := optFoldsUptoRow.holds Tryz.pinned (OpenSpec.upto optFoldsSpec)

/-- 'netwrightlaw29.OptSettles', WHERE WHAT IT READS IS OF BULK AT MOST 1048576: true; the input reads as it did. -/
def optSettlesUptoRow : OpenClaim := { program := "ythomnnnhkfjbdaagreat", sum := "ba67050c807a38afab98b399dafb4afc3879d141c88422bcfabb8a17e6cc1e6a", func := "netwright/netwrightlaw29.OptSettles", spec := "optSettles", unfollowed := true, recurses := true, plainKeys := false, apart := false, narrowed := true }
def OptSettlesUptoSaid : Prop := optSettlesUptoRow.holds Tryz.pinned (OpenSpec.upto optSettlesSpec)

/-- 'netwrightlaw29.OptMerges', WHERE WHAT IT READS IS OF BULK AT MOST 1048576: true; the input reads as it did. -/
def optMergesUptoRow : OpenClaim := { program := "ythomnnnhkfjbdaagreat", sum := "ba67050c807a38afab98b399dafb4afc3879d141c88422bcfabb8a17e6cc1e6a", func := "netwright/netwrightlaw29.OptMerges", spec := "optMerges", unfollowed := true, recurses := true, plainKeys := false, apart := false, narrowed := true }
def OptMergesUptoSaid : Prop := optMergesUptoRow.holds Tryz.pinned (OpenSpec.upto optMergesSpec)

/-- 'netwrightlaw29.OptSame', WHERE WHAT IT READS IS OF BULK AT MOST 1048576: true; the input reads as it did. -/
def optSameUptoRow : OpenClaim := { program := "ythomnnnhkfjbdaagreat", sum := "ba67050c807a38afab98b399dafb4afc3879d141c88422bcfabb8a17e6cc1e6a", func := "netwright/netwrightlaw29.OptSame", spec := "optSame", unfollowed := true, recurses := true, plainKeys := false, apart := false, narrowed := true }
def OptSameUptoSaid : Prop := optSameUptoRow.holds Tryz.pinned (OpenSpec.upto optSameSpec)

/-- 'netwrightlaw29.OptFree', WHERE WHAT IT READS IS OF BULK AT MOST 1048576: true; the input reads as it did. -/
def optFreeUptoRow : OpenClaim := { program := "ythomnnnhkfjbdaagreat", sum := "ba67050c807a38afab98b399dafb4afc3879d141c88422bcfabb8a17e6cc1e6a", func := "netwright/netwrightlaw29.OptFree", spec := "optFree", unfollowed := true, recurses := true, plainKeys := false, apart := false, narrowed := true }
def OptFreeUptoSaid : Prop := optFreeUptoRow.holds Tryz.pinned (OpenSpec.upto optFreeSpec)

/-- 'netwrightlaw29.OptTrees', WHERE WHAT IT READS IS OF BULK AT MOST 1048576: true; the input reads as it did. -/
def optTreesUptoRow : OpenClaim := { program := "ythomnnnhkfjbdaagreat", sum := "ba67050c807a38afab98b399dafb4afc3879d141c88422bcfabb8a17e6cc1e6a", func := "netwright/netwrightlaw29.OptTrees", spec := "optTrees", unfollowed := true, recurses := true, plainKeys := false, apart := false, narrowed := true }
def OptTreesUptoSaid : Prop := optTreesUptoRow.holds Tryz.pinned (OpenSpec.upto optTreesSpec)

/-- 'netwrightlaw29.OptSweeps', WHERE WHAT IT READS IS OF BULK AT MOST 1048576: true; the input reads as it did. -/
def optSweepsUptoRow : OpenClaim := { program := "ythomnnnhkfjbdaagreat", sum := "ba67050c807a38afab98b399dafb4afc3879d141c88422bcfabb8a17e6cc1e6a", func := "netwright/netwrightlaw29.OptSweeps", spec := "optSweeps", unfollowed := true, recurses := true, plainKeys := false, apart := false, narrowed := true }
def OptSweepsUptoSaid : Prop := optSweepsUptoRow.holds Tryz.pinned (OpenSpec.upto optSweepsSpec)

/-- 'netwrightlaw29.OptBest', WHERE WHAT IT READS IS OF BULK AT MOST 1048576: true; the input reads as it did. -/
def optBestUptoRow : OpenClaim := { program := "ythomnnnhkfjbdaagreat", sum := "ba67050c807a38afab98b399dafb4afc3879d141c88422bcfabb8a17e6cc1e6a", func := "netwright/netwrightlaw29.OptBest", spec := "optBest", unfollowed := true, recurses := true, plainKeys := false, apart := false, narrowed := true }
def OptBestUptoSaid : Prop := optBestUptoRow.holds Tryz.pinned (OpenSpec.upto optBestSpec)

/-- 'netwrightlaw29.OptStuck', WHERE WHAT IT READS IS OF BULK AT MOST 1048576: true; the input reads as it did. -/
def optStuckUptoRow : OpenClaim := { program := "ythomnnnhkfjbdaagreat", sum := "ba67050c807a38afab98b399dafb4afc3879d141c88422bcfabb8a17e6cc1e6a", func := "netwright/netwrightlaw29.OptStuck", spec := "optStuck", unfollowed := true, recurses := true, plainKeys := false, apart := false, narrowed := true }
def OptStuckUptoSaid : Prop := optStuckUptoRow.holds Tryz.pinned (OpenSpec.upto optStuckSpec)

/-- 'netwrightlaw29.OptTwins', WHERE WHAT IT READS IS OF BULK AT MOST 1048576: true; the input reads as it did. -/
def optTwinsUptoRow : OpenClaim := { program := "ythomnnnhkfjbdaagreat", sum := "ba67050c807a38afab98b399dafb4afc3879d141c88422bcfabb8a17e6cc1e6a", func := "netwright/netwrightlaw29.OptTwins", spec := "optTwins", unfollowed := true, recurses := true, plainKeys := false, apart := false, narrowed := true }
def OptTwinsUptoSaid : Prop := optTwinsUptoRow.holds Tryz.pinned (OpenSpec.upto optTwinsSpec)

/-- 'netwrightlaw29.OptAgain', WHERE WHAT IT READS IS OF BULK AT MOST 1048576: true; the input reads as it did. -/
def optAgainUptoRow : OpenClaim := { program := "ythomnnnhkfjbdaagreat", sum := "ba67050c807a38afab98b399dafb4afc3879d141c88422bcfabb8a17e6cc1e6a", func := "netwright/netwrightlaw29.OptAgain", spec := "optAgain", unfollowed := true, recurses := true, plainKeys := false, apart := false, narrowed := true }
def OptAgainUptoSaid : Prop := optAgainUptoRow.holds Tryz.pinned (OpenSpec.upto optAgainSpec)

/-- 'netwrightlaw29.OptOwn', WHERE WHAT IT READS IS OF BULK AT MOST 1048576: true; the input reads as it did. -/
def optOwnUptoRow : OpenClaim := { program := "ythomnnnhkfjbdaagreat", sum := "ba67050c807a38afab98b399dafb4afc3879d141c88422bcfabb8a17e6cc1e6a", func := "netwright/netwrightlaw29.OptOwn", spec := "optOwn", unfollowed := true, recurses := true, plainKeys := false, apart := false, narrowed := true }
def OptOwnUptoSaid : Prop := optOwnUptoRow.holds Tryz.pinned (OpenSpec.upto optOwnSpec)

end Rows
end Go.Proofs.YthomnnnhkfjbdaaGreat
