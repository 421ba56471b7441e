/- Own text of this claim: part 15 of an interpreter that is proved sound against the model, and of what it shows of the law. -/
import Derived.Test.YthomnnnhkfjbdaaGreatRows
import Derived.WalkKit
import Derived.ProofKit
import Derived.OpenShut
import Derived.ShutString
import Derived.ChangeOld
import Derived.Below
import Derived.SizedLaws
import Derived.Carry
import Derived.Handed
import Derived.Lay
import Derived.MakeChecks
import Derived.Test.YthomnnnhkfjbdaaGreatAbs14
/- The row of OptTwins. -/
namespace Go.Proofs.YthomnnnhkfjbdaaGreat.optTwins
open Go.ChangeShapes Go.WideShapes Go.ChangeAt Go.RowKit
open Go.OptEnv Go.Abs
theorem own : ownKnob Tryz.prog.godebug = none := by kernel_rfl
theorem laidOut : laidOutB Tryz.prog = true := by kernel_rfl
theorem cells_one1 {v1 v : Value} (hv : v1.cells.toList = [v]) (hk : ∀ cs, v1 ≠ .agg cs) : v1 = v := by
  cases v1 <;> simp_all [Value.cells]
set_option maxRecDepth 100000 in
theorem not_agg5 {w : World} {r : Reach} {base : Nat} {cs : Array Value} (h : Value.okWide Tryz.prog w r base 5 (.agg cs)) : False := by
  simp [Value.okWide, Tryz.underlying5, Cell.okWide, Cell.ok] at h
set_option maxRecDepth 100000 in
theorem not_agg41 {w : World} {r : Reach} {base : Nat} {cs : Array Value} (h : Value.okWide Tryz.prog w r base 41 (.agg cs)) : False := by
  simp [Value.okWide, Tryz.underlying41, Cell.okWide, Cell.ok] at h
set_option maxRecDepth 100000 in
theorem lifted0 (os : Os) (started : os.Started) (H : Type) (enc : TypeId × Value → H) :
    ReturnsInHanded {} Tryz.checked os 12 .any (fun w args => (Rows.optTwinsSpec.pre enc Tryz.prog Tryz.f12 Rows.optTwinsRow.domain false w args ∧ True) ∧ sizedMet enc Tryz.prog Tryz.f12 (OpenSpec.ofChange Rows.optTwinsSpec) false w args)
      (Rows.optTwinsSpec.post enc Tryz.prog Tryz.f12 false true false false) := by
  refine returnsInHanded_of_change_and (C := Tryz.checked) (X := fun _ _ => True) (fun _ _ _ _ h => h) own started (by kernel_rfl) Tryz.func12
    (ChangeSpec.witness_at (enc := enc) (C := Tryz.checked) (os := os) (X := fun _ _ => True) false (World.laidAll Tryz.prog os []) #[.agg #[.slice none 0 0, .slice none 0 0, .slice none 0 0, .slice none 0 0], .slice none 0 0, .int .u8 0] 8 (World.laidAll_os _ _ _)
      (by kernel_rfl) (by kernel_rfl) (by kernel_rfl) (by kernel_rfl) (by kernel_rfl) trivial) ?_
  intro W base args ds gs before hval0 hW hcnd hsz0 _ _
  have hval : ∀ (j : Nat) t v, Tryz.f12.params[j]? = some t → args[j]? = some v → Value.okWide Tryz.prog W .any base t v := hval0
  have hW' := hW
  obtain ⟨p, q, hA0, hV, rfl, hfz, hnd⟩ := hW
  have hA : DataW.TrodAll enc Tryz.prog W 0 (fun _ => true) true Tryz.f12.params.toList args.toList ds p := hA0
  rw [Tryz.params12] at hA hval
  obtain ⟨v0, vs0, d0, ds0, p0, q0, hargs, rfl, rfl, h0, r0⟩ := trodAll_cons hA
  obtain ⟨v1, vs1, d1, ds1, p1, q1, hargs1, rfl, rfl, h1, r1⟩ := trodAll_cons r0
  obtain ⟨v2, vs2, d2, ds2, p2, q2, hargs2, rfl, rfl, h2, r2⟩ := trodAll_cons r1
  obtain ⟨rfl, rfl, rfl⟩ := trodAll_nil r2
  subst hargs2
  subst hargs1
  obtain rfl : args = #[v0, v1, v2] := by cases args; simp_all
  obtain ⟨rfl, rfl⟩ := trodVars_none hV
  have hv0 := hval 0 27 v0 rfl rfl
  have hv1 := hval 1 41 v1 rfl rfl
  have lt0 : ∀ x ∈ p0, x.block < W.heap.size := by obtain ⟨m, hm⟩ := h0; exact DataW.trod_lt m _ _ _ hm
  have lt1 : ∀ x ∈ p1, x.block < W.heap.size := by obtain ⟨m, hm⟩ := h1; exact DataW.trod_lt m _ _ _ hm
  have lt2 : ∀ x ∈ p2, x.block < W.heap.size := by obtain ⟨m, hm⟩ := h2; exact DataW.trod_lt m _ _ _ hm
  obtain ⟨cs, rfl⟩ : ∃ cs, v0 = .agg cs := by
    unfold Value.okWide at hv0
    rw [Tryz.underlying27] at hv0
    obtain ⟨cs, rfl, _⟩ := hv0
    exact ⟨cs, rfl⟩
  have k0 := h0
  have k1 := h1
  have k2 := h2
  obtain ⟨r, hr, hR⟩ : ∃ r : GNet, FitsN r ∧ R (Ghost.all W) (netAV r) (.agg cs) := by
    obtain ⟨fuel, hf⟩ := h0
    obtain ⟨r, hr, hR⟩ := net_read hf (weigh_arg hsz0 (j := 0) rfl rfl)
    exact ⟨r, hr, by simpa [Value.cells] using hR⟩
  obtain ⟨l0, hl, hRl⟩ : ∃ a : GSl UInt8, a.xs.length ≤ 140737488355328 ∧ R (Ghost.all W) (a.av 1 bitAV) v1 := by
    obtain ⟨fuel, hf⟩ := h1
    obtain ⟨a, ⟨v, hv, hR⟩, hl⟩ := bytes_read hf (weigh_arg hsz0 (j := 1) rfl rfl)
    have e := cells_one1 hv (fun cs hc => by subst hc; exact not_agg41 hv1)
    subst e
    exact ⟨a, hl, hR⟩
  obtain ⟨many, hRm⟩ : ∃ b : UInt8, R (Ghost.all W) (.int .u8 (b.toNat : Int)) v2 := by
    obtain ⟨fuel, hf⟩ := h2
    obtain ⟨b, hb⟩ := byte_read hf
    have e := cells_one1 hb (fun cs hc => by subst hc; exact not_agg5 (hval 2 5 _ rfl rfl))
    subst e
    exact ⟨b, by simp only [R]⟩
  clear hA0 hval0 hsz0
  refine (twins_calls W r hr l0 hl many _ _ _ hR hRl hRm).mono fun e W' ⟨he, bel⟩ => ?_
  subst he
  exact ⟨_, rfl, _, _, _, [], _, [], hW', trodAll_mk1 (shut_bool Tryz.underlying4 _), (trodAll_cons_mk (Below.trod laidOut (by kernel_rfl) (of_decide_eq_true (by kernel_rfl)) k0 bel lt0) (trodAll_cons_mk (Below.trod laidOut (by kernel_rfl) (of_decide_eq_true (by kernel_rfl)) k1 bel lt1) (trodAll_cons_mk (Below.trod laidOut (by kernel_rfl) (of_decide_eq_true (by kernel_rfl)) k2 bel lt2) trodAll_mk0))), rfl, bel.frame _, fun h => by cases h⟩
theorem lifted (os : Os) (started : os.Started) (H : Type) (enc : TypeId × Value → H) :
    ReturnsInHanded {} Tryz.checked os 12 .any (fun w args => Rows.optTwinsSpec.pre enc Tryz.prog Tryz.f12 Rows.optTwinsRow.domain false w args ∧ sizedMet enc Tryz.prog Tryz.f12 (OpenSpec.ofChange Rows.optTwinsSpec) false w args)
      (Rows.optTwinsSpec.post enc Tryz.prog Tryz.f12 false true false false) := by
  have h := lifted0 os started H enc
  simp only [and_true] at h
  exact h
theorem over : Rows.optTwinsRow.holds Tryz.pinned (OpenSpec.ofChange Rows.optTwinsSpec) :=
  OpenClaim.holds_of_wide 12 Tryz.f12 rfl rfl rfl rfl rfl rfl rfl ⟨rfl, rfl, rfl, rfl, rfl⟩ rfl rfl rfl rfl rfl (by kernel_rfl) Tryz.func12 (by kernel_rfl)
    (of_decide_eq_true (by kernel_rfl)) (by unfold Func.isWrapper; first | (rw [if_pos (by decide +kernel)]; kernel_rfl) | (rw [if_neg (by decide +kernel)]; exact ⟨rfl, rfl⟩))
    (fun os started H enc _ => lifted os started H enc)
theorem proved : Rows.OptTwinsSaid := over
end Go.Proofs.YthomnnnhkfjbdaaGreat.optTwins
namespace Go.Proofs.YthomnnnhkfjbdaaGreat
theorem optTwins_holds : Rows.OptTwinsSaid := optTwins.proved
end Go.Proofs.YthomnnnhkfjbdaaGreat
