/- Own text of this claim: part 27 of an interpreter that is proved sound against the model, and of what it shows of the law. -/
import Derived.Test.YtnipphfkiikbdaaDoorRows
import Derived.WalkKit
import Derived.ProofKit
import Derived.OpenShut
import Derived.ShutString
import Derived.ChangeOld
import Derived.Below
import Derived.SizedLaws
import Derived.Carry
import Derived.Handed
import Derived.Lay
import Derived.MakeChecks
import Derived.Test.YtnipphfkiikbdaaDoorAbs26
import Derived.Test.YtnipphfkiikbdaaDoorAbs6b
/- The row of RtlRuns. -/
namespace Go.RtlEnv
open Go Go.Proofs Go.Abs Go.RowKit
section
variable {H : Type} {enc : TypeId × Value → H} {w : World} {base : Nat} {spare : Nat → Bool} {held : Bool} {fuel n : Nat} {cs : List Value} {x : DataW H × List MemPlace}
theorem c29 : Tryd.prog.cellsOf 29 = 1 := by kernel_rfl

theorem rows3_readV (h : DataW.trod enc Tryd.prog w base spare held n 38 cs = some x) (hw : ∀ m ∈ x.1.weights Tryd.prog 38, m ≤ reachBytes) : ∃ s : GSl (GSl (GSl UInt8)), Fits3 s ∧ ∃ v, cs = [v] ∧ R (Ghost.all w) (rows3 s) v := by
  obtain ⟨s, h1, h2, h3⟩ := slice_readV rowsAV 1 FitsR (by decide) Tryd.underlying38 c29 (of_decide_eq_true (by kernel_rfl)) hw (fun n cs y hy hwy => by
    obtain ⟨l, hl, v, rfl, hr⟩ := rows_readV hy hwy
    refine ⟨l, ⟨by have := hl.1; omega, fun a ha => by have := hl.2 a ha; omega⟩, ok_rows l, v, ?_, hr⟩
    cases v with
    | agg c =>
      exfalso
      unfold rowsAV at hr
      rcases l.cases (fun x => x.av 1 bitAV) 1 with ⟨_, h | h⟩ | h <;> rw [h] at hr <;> simp [R] at hr
    | _ => rfl) h
  have hk := reach_le
  exact ⟨s, ⟨by omega, h2⟩, h1⟩
set_option maxRecDepth 100000 in
theorem not_agg38 {w : World} {r : Reach} {base : Nat} {cs : Array Value} (h : Value.okWide Tryd.prog w r base 38 (.agg cs)) : False := by
  simp [Value.okWide, Tryd.underlying38, Cell.okWide, Cell.ok] at h
theorem cells_one1 {v1 v : Value} (hv : v1.cells.toList = [v]) (hk : ∀ cs, v1 ≠ .agg cs) : v1 = v := by
  cases v1 <;> simp_all [Value.cells]
end
end Go.RtlEnv
namespace Go.Proofs.YtnipphfkiikbdaaDoor.rtlRuns
open Go.ChangeShapes Go.WideShapes Go.ChangeAt Go.RowKit
open Go.RtlEnv Go.Abs
theorem own : ownKnob Tryd.prog.godebug = none := by kernel_rfl
theorem laidOut : laidOutB Tryd.prog = true := by kernel_rfl
set_option maxRecDepth 100000 in
theorem lifted (os : Os) (started : os.Started) (H : Type) (enc : TypeId × Value → H) :
    ReturnsInHanded {} Tryd.checked os 5 .any (fun w args => (Rows.rtlRunsSpec.pre enc Tryd.prog Tryd.f5 Rows.rtlRunsRow.domain false w args ∧ laidMetH Tryd.prog Rows.rtlRunsRow.laid w) ∧ sizedMet enc Tryd.prog Tryd.f5 (OpenSpec.ofChange Rows.rtlRunsSpec) false w args)
      (Rows.rtlRunsSpec.post enc Tryd.prog Tryd.f5 false true false false) := by
  refine returnsInHanded_of_change_and (C := Tryd.checked) (X := fun w _ => laidMetH Tryd.prog Rows.rtlRunsRow.laid w) (fun _ _ _ hh h => h.of_heap hh) own started (by kernel_rfl) Tryd.func5
    (ChangeSpec.witness_at (enc := enc) (C := Tryd.checked) (os := os) (X := fun w _ => laidMetH Tryd.prog Rows.rtlRunsRow.laid w) false (World.laidAll Tryd.prog os Rows.rtlRunsRow.laid) #[.agg #[.slice none 0 0, .slice none 0 0, .slice none 0 0, .slice none 0 0], .slice none 0 0] 8 (World.laidAll_os _ _ _)
      (by kernel_rfl) (by kernel_rfl) (by kernel_rfl) (by kernel_rfl) (by kernel_rfl) (by rw [MakeChecks.laidMetH_plain _ _ _ (by kernel_rfl)]; exact laidMet_laidAll _ (by kernel_rfl) (by kernel_rfl))) ?_
  intro W base args ds gs before hval0 hW hcnd hsz0 _ _
  have hval : ∀ (j : Nat) t v, Tryd.f5.params[j]? = some t → args[j]? = some v → Value.okWide Tryd.prog W .any base t v := hval0
  have hW' := hW
  obtain ⟨p, q, hA0, hV, rfl, hfz, hnd⟩ := hW
  have hA : DataW.TrodAll enc Tryd.prog W 0 (fun _ => true) true Tryd.f5.params.toList args.toList ds p := hA0
  rw [Tryd.params5] at hA hval
  obtain ⟨v0, vs0, d0, ds0, p0, q0, hargs, rfl, rfl, h0, r0⟩ := trodAll_cons hA
  obtain ⟨v1, vs1, d1, ds1, p1, q1, hargs1, rfl, rfl, h1, r1⟩ := trodAll_cons r0
  obtain ⟨rfl, rfl, rfl⟩ := trodAll_nil r1
  subst hargs1
  obtain rfl : args = #[v0, v1] := by cases args; simp_all
  obtain ⟨rfl, rfl⟩ := trodVars_none hV
  have hv := hval 0 26 v0 rfl rfl
  have lt0 : ∀ x ∈ p0, x.block < W.heap.size := by obtain ⟨m, hm⟩ := h0; exact DataW.trod_lt m _ _ _ hm
  have lt1 : ∀ x ∈ p1, x.block < W.heap.size := by obtain ⟨m, hm⟩ := h1; exact DataW.trod_lt m _ _ _ hm
  obtain ⟨cs, rfl⟩ : ∃ cs, v0 = .agg cs := by
    unfold Value.okWide at hv
    rw [Tryd.underlying26] at hv
    obtain ⟨cs, rfl, _⟩ := hv
    exact ⟨cs, rfl⟩
  have k0 := h0
  have k1 := h1
  obtain ⟨r, hr, hR⟩ : ∃ r : GRtl, FitsW r ∧ R (Ghost.all W) (rtlAV r) (.agg cs) := by
    obtain ⟨fuel, hf⟩ := h0
    obtain ⟨r, hr, hR⟩ := rtl_readV hf (weigh_arg hsz0 (j := 0) rfl rfl)
    exact ⟨r, hr, by simpa [Value.cells] using hR⟩
  obtain ⟨ins, hi, hRi⟩ : ∃ s : GSl (GSl (GSl UInt8)), Fits3 s ∧ R (Ghost.all W) (rows3 s) v1 := by
    obtain ⟨fuel, hf⟩ := h1
    obtain ⟨s, hs, v, hv, hR⟩ := rows3_readV hf (weigh_arg hsz0 (j := 1) rfl rfl)
    have e := cells_one1 hv (fun cs hc => by subst hc; exact not_agg38 (hval 1 38 _ rfl rfl))
    subst e
    exact ⟨s, hs, hR⟩
  clear hA0 hval0 hsz0
  refine (runs_calls W r ins hr hi _ _ hR hRi).mono fun e W' ⟨he, bel⟩ => ?_
  subst he
  exact ⟨_, rfl, _, _, _, [], _, [], hW', trodAll_mk1 (shut_bool Tryd.underlying4 _), (trodAll_cons_mk (Below.trod laidOut (by kernel_rfl) (of_decide_eq_true (by kernel_rfl)) k0 bel lt0) (trodAll_cons_mk (Below.trod laidOut (by kernel_rfl) (of_decide_eq_true (by kernel_rfl)) k1 bel lt1) trodAll_mk0)), rfl, bel.frame _, fun h => by cases h⟩
theorem over : Rows.rtlRunsRow.holds Tryd.pinned (OpenSpec.ofChange Rows.rtlRunsSpec) :=
  OpenClaim.holds_of_wide 5 Tryd.f5 rfl rfl rfl rfl rfl rfl rfl ⟨rfl, rfl, rfl, rfl, rfl⟩ rfl rfl rfl rfl rfl (by kernel_rfl) Tryd.func5 (by kernel_rfl)
    (of_decide_eq_true (by kernel_rfl)) (by unfold Func.isWrapper; first | (rw [if_pos (by decide +kernel)]; kernel_rfl) | (rw [if_neg (by decide +kernel)]; exact ⟨rfl, rfl⟩))
    (fun os started H enc _ => lifted os started H enc)
theorem proved : Rows.RtlRunsSaid := over
end Go.Proofs.YtnipphfkiikbdaaDoor.rtlRuns
