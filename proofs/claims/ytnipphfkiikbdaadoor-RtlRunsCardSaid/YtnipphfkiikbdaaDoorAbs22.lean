/- Own text of this claim: part 22 of an interpreter that is proved sound against the model, and of what it shows of the law. -/
import Derived.Test.YtnipphfkiikbdaaDoorRows
import Derived.WalkKit
import Derived.ProofKit
import Derived.OpenShut
import Derived.ShutString
import Derived.ChangeOld
import Derived.Below
import Derived.SizedLaws
import Derived.Carry
import Derived.Handed
import Derived.Lay
import Derived.MakeChecks
import Derived.Test.YtnipphfkiikbdaaDoorAbs21
import Derived.Test.YtnipphfkiikbdaaDoorAbs6b
/- The row of RtlEvals. -/
namespace Go.RtlEnv
open Go Go.Proofs Go.Abs Go.RowKit
section
variable {H : Type} {enc : TypeId × Value → H} {w : World} {base : Nat} {spare : Nat → Bool} {held : Bool} {fuel n : Nat} {cs : List Value} {x : DataW H × List MemPlace}
theorem reach_60 : reachBytes < 1000000000000000000 := by decide
theorem bit_av_ok (s : GSl UInt8) : (s.av 1 bitAV).ok = true := by
  rcases s.cases bitAV 1 with ⟨_, h | h⟩ | h <;> rw [h] <;> rfl
theorem rows_read (h : DataW.trod enc Tryd.prog w base spare held n 29 cs = some x) : ∃ s : GSl (GSl UInt8), FitsR s ∧ ∃ v, cs = [v] ∧ R (Ghost.all w) (rowsAV s) v := by
  have hm := maxLen_lt
  obtain ⟨s, h1, h2, h3⟩ := slice_read (fun (x : GSl UInt8) => x.av 1 bitAV) 1 (fun a => a.xs.length ≤ maxLen) (by decide) Tryd.underlying29 c51 (fun n cs y hy => by
    obtain ⟨l, ⟨v, rfl, hr⟩, hl⟩ := bits_read hy
    refine ⟨l, hl, bit_av_ok l, v, ?_, hr⟩
    cases v with
    | agg c => exact absurd hr (by rcases l.cases bitAV 1 with ⟨_, h | h⟩ | h <;> rw [h] <;> simp [R])
    | _ => rfl) h
  exact ⟨s, ⟨Nat.lt_of_le_of_lt h3 hm, fun a ha => Nat.lt_of_le_of_lt (h2 a ha) hm⟩, h1⟩
theorem lanes_readW (h : DataW.trod enc Tryd.prog w base spare held n 22 cs = some x) : ∃ s : GSl GLane, (∃ v, cs = [v] ∧ R (Ghost.all w) (s.av 3 laneAV) v) ∧ (∀ a ∈ s.xs, a.name.size ≤ maxLen) ∧ s.xs.length ≤ maxLen ∧ (s.xs.length = 0 ∨ ∃ es rs, x.1 = .slice es rs ∧ s.xs.length = es.length) :=
  slice_readW laneAV 3 (fun a => a.name.size ≤ maxLen) (by decide) Tryd.underlying22 c66 (fun n cs y hy => by
    obtain ⟨l, h1, h2⟩ := lane_read hy
    exact ⟨l, h1, rfl, h2⟩) h
theorem holds_readW (h : DataW.trod enc Tryd.prog w base spare held n 23 cs = some x) : ∃ s : GSl GHold, (∃ v, cs = [v] ∧ R (Ghost.all w) (s.av 3 holdAV) v) ∧ (∀ a ∈ s.xs, a.name.size ≤ maxLen ∧ a.init.xs.length ≤ maxLen) ∧ s.xs.length ≤ maxLen ∧ (s.xs.length = 0 ∨ ∃ es rs, x.1 = .slice es rs ∧ s.xs.length = es.length) :=
  slice_readW holdAV 3 (fun a => a.name.size ≤ maxLen ∧ a.init.xs.length ≤ maxLen) (by decide) Tryd.underlying23 c62 (fun n cs y hy => by
    obtain ⟨l, h1, h2⟩ := hold_read hy
    exact ⟨l, h1, hold_ok l, h2⟩) h
theorem fldW {fs : Array Field} {m : Nat} {xs : List (DataW H × List MemPlace)} (hf : ∀ (i : Nat) (f : Field), fs[i]? = some f → DataW.trod enc Tryd.prog w base spare held m f.type ((cs.drop f.offset).take (Tryd.prog.cellsOf f.type)) = xs[i]?) (hx : xs.length = fs.size)
    (i : Nat) {f : Field} (hi : fs[i]? = some f) {k off : Nat} {t : TypeId} {l : List Value} (ht : f.type = t) (ho : f.offset = off) (hk : Tryd.prog.cellsOf t = k) (hl : (cs.drop off).take k = l) : ∃ y, DataW.trod enc Tryd.prog w base spare held m t l = some y ∧ xs[i]? = some y := by
  have h := hf i f hi
  subst ht; subst ho; subst hk; subst hl
  have hlt : i < xs.length := by rw [hx]; exact (Array.getElem?_eq_some_iff.1 hi).1
  rw [List.getElem?_eq_getElem hlt] at h ⊢
  exact ⟨_, h, rfl⟩
theorem rtl_read60 (h : DataW.trod enc Tryd.prog w base spare held n 26 cs = some x) (hw : ∀ m ∈ x.1.weights Tryd.prog 26, m ≤ reachBytes) : ∃ r : GRtl, Fits r ∧ Len60 r ∧ R (Ghost.all w) (rtlAV r) (.agg cs.toArray) := by
  obtain ⟨xs, m, rfl, rfl, hl, hx, hf⟩ := DataW.trod_struct Tryd.underlying26 h
  rw [c26] at hl
  rcases cs with _ | ⟨a, _ | ⟨b, _ | ⟨c, _ | ⟨d, _ | ⟨e, l⟩⟩⟩⟩⟩ <;> simp at hl
  obtain ⟨y0, f0, z0⟩ := fldW hf hx 0 rfl rfl rfl c22 (l := [a]) rfl
  obtain ⟨y1, f1, z1⟩ := fldW hf hx 1 rfl rfl rfl c23 (l := [b]) rfl
  obtain ⟨y2, f2⟩ := fld hf hx 2 rfl rfl rfl c24 (l := [c]) rfl
  obtain ⟨y3, f3, z3⟩ := fldW hf hx 3 rfl rfl rfl c22 (l := [d]) rfl
  obtain ⟨q0, ⟨v0, e0, r0⟩, g0, n0, s0⟩ := lanes_readW f0
  obtain ⟨q1, ⟨v1, e1, r1⟩, g1, n1, s1⟩ := holds_readW f1
  obtain ⟨q2, ⟨v2, e2, r2⟩, g2, n2⟩ := words_read f2
  obtain ⟨q3, ⟨v3, e3, r3⟩, g3, n3, s3⟩ := lanes_readW f3
  simp only [List.cons.injEq, and_true] at e0 e1 e2 e3
  subst e0; subst e1; subst e2; subst e3
  have hm := maxLen_lt
  have hk := reach_60
  have m0 := weigh_slice (t := 22) (weigh_field Tryd.underlying26 hw (i := 0) rfl z0) Tryd.underlying22 (of_decide_eq_true (by kernel_rfl)) s0
  have m1 := weigh_slice (t := 23) (weigh_field Tryd.underlying26 hw (i := 1) rfl z1) Tryd.underlying23 (of_decide_eq_true (by kernel_rfl)) s1
  have m3 := weigh_slice (t := 22) (weigh_field Tryd.underlying26 hw (i := 3) rfl z3) Tryd.underlying22 (of_decide_eq_true (by kernel_rfl)) s3
  refine ⟨⟨q0, q1, q2, q3⟩, ⟨Nat.lt_of_le_of_lt n0 hm, Nat.lt_of_le_of_lt n1 hm, Nat.lt_of_le_of_lt n2 hm, Nat.lt_of_le_of_lt n3 hm, fun x hx => Nat.lt_of_le_of_lt (g0 x hx) hm, fun x hx => Nat.lt_of_le_of_lt (g3 x hx) hm, fun x hx => Nat.lt_of_le_of_lt (g1 x hx).1 hm, fun x hx => Nat.lt_of_le_of_lt (g1 x hx).2 hm, fun x hx => Nat.lt_of_le_of_lt (g2 x hx).1 hm, fun x hx => Nat.lt_of_le_of_lt (g2 x hx).2 hm⟩, ⟨Nat.lt_of_le_of_lt m0 hk, Nat.lt_of_le_of_lt m1 hk, Nat.lt_of_le_of_lt m3 hk⟩, ?_⟩
  simp only [rtlAV, R]
  exact ⟨_, rfl, RL.cons r0 (RL.cons r1 (RL.cons r2 (RL.cons r3 (RL.nil _))))⟩
set_option maxRecDepth 100000 in
theorem not_agg {w : World} {r : Reach} {base : Nat} {cs : Array Value} (h : Value.okWide Tryd.prog w r base 29 (.agg cs)) : False := by
  simp [Value.okWide, Tryd.underlying29, Cell.okWide, Cell.ok] at h
theorem cells_one {v1 v : Value} {s : GSl (GSl UInt8)} (hv : v1.cells.toList = [v]) (hk : ∀ cs, v1 ≠ .agg cs) : v1 = v := by
  cases v1 <;> simp_all [Value.cells]
end
end Go.RtlEnv
namespace Go.Proofs.YtnipphfkiikbdaaDoor.rtlEvals
open Go.ChangeShapes Go.WideShapes Go.ChangeAt Go.RowKit
open Go.RtlEnv Go.Abs
theorem own : ownKnob Tryd.prog.godebug = none := by kernel_rfl
theorem laidOut : laidOutB Tryd.prog = true := by kernel_rfl
set_option maxRecDepth 100000 in
theorem lifted (os : Os) (started : os.Started) (H : Type) (enc : TypeId × Value → H) :
    ReturnsInHanded {} Tryd.checked os 4 .any (fun w args => (Rows.rtlEvalsSpec.pre enc Tryd.prog Tryd.f4 Rows.rtlEvalsRow.domain false w args ∧ laidMetH Tryd.prog Rows.rtlEvalsRow.laid w) ∧ sizedMet enc Tryd.prog Tryd.f4 (OpenSpec.ofChange Rows.rtlEvalsSpec) false w args)
      (Rows.rtlEvalsSpec.post enc Tryd.prog Tryd.f4 false true false false) := by
  refine returnsInHanded_of_change_and (C := Tryd.checked) (X := fun w _ => laidMetH Tryd.prog Rows.rtlEvalsRow.laid w) (fun _ _ _ hh h => h.of_heap hh) own started (by kernel_rfl) Tryd.func4
    (ChangeSpec.witness_at (enc := enc) (C := Tryd.checked) (os := os) (X := fun w _ => laidMetH Tryd.prog Rows.rtlEvalsRow.laid w) false (World.laidAll Tryd.prog os Rows.rtlEvalsRow.laid) #[.agg #[.slice none 0 0, .slice none 0 0, .slice none 0 0, .slice none 0 0], .slice none 0 0, .slice none 0 0] 8 (World.laidAll_os _ _ _)
      (by kernel_rfl) (by kernel_rfl) (by kernel_rfl) (by kernel_rfl) (by kernel_rfl) (by rw [MakeChecks.laidMetH_plain _ _ _ (by kernel_rfl)]; exact laidMet_laidAll _ (by kernel_rfl) (by kernel_rfl))) ?_
  intro W base args ds gs before hval0 hW hcnd hsz0 _ _
  have hval : ∀ (j : Nat) t v, Tryd.f4.params[j]? = some t → args[j]? = some v → Value.okWide Tryd.prog W .any base t v := hval0
  have hW' := hW
  obtain ⟨p, q, hA0, hV, rfl, hfz, hnd⟩ := hW
  have hA : DataW.TrodAll enc Tryd.prog W 0 (fun _ => true) true Tryd.f4.params.toList args.toList ds p := hA0
  rw [Tryd.params4] at hA hval
  obtain ⟨v0, vs0, d0, ds0, p0, q0, hargs, rfl, rfl, h0, r0⟩ := trodAll_cons hA
  obtain ⟨v1, vs1, d1, ds1, p1, q1, hargs1, rfl, rfl, h1, r1⟩ := trodAll_cons r0
  obtain ⟨v2, vs2, d2, ds2, p2, q2, hargs2, rfl, rfl, h2, r2⟩ := trodAll_cons r1
  obtain ⟨rfl, rfl, rfl⟩ := trodAll_nil r2
  subst hargs2
  subst hargs1
  obtain rfl : args = #[v0, v1, v2] := by cases args; simp_all
  obtain ⟨rfl, rfl⟩ := trodVars_none hV
  have hv := hval 0 26 v0 rfl rfl
  have lt0 : ∀ x ∈ p0, x.block < W.heap.size := by obtain ⟨m, hm⟩ := h0; exact DataW.trod_lt m _ _ _ hm
  have lt1 : ∀ x ∈ p1, x.block < W.heap.size := by obtain ⟨m, hm⟩ := h1; exact DataW.trod_lt m _ _ _ hm
  have lt2 : ∀ x ∈ p2, x.block < W.heap.size := by obtain ⟨m, hm⟩ := h2; exact DataW.trod_lt m _ _ _ hm
  obtain ⟨cs, rfl⟩ : ∃ cs, v0 = .agg cs := by
    unfold Value.okWide at hv
    rw [Tryd.underlying26] at hv
    obtain ⟨cs, rfl, _⟩ := hv
    exact ⟨cs, rfl⟩
  have k0 := h0
  have k1 := h1
  have k2 := h2
  obtain ⟨r, hr, h60, hR⟩ : ∃ r : GRtl, Fits r ∧ Len60 r ∧ R (Ghost.all W) (rtlAV r) (.agg cs) := by
    obtain ⟨fuel, hf⟩ := h0
    obtain ⟨r, hr, h60, hR⟩ := rtl_read60 hf (weigh_arg hsz0 (j := 0) rfl rfl)
    exact ⟨r, hr, h60, by simpa [Value.cells] using hR⟩
  obtain ⟨ins, hi, hRi⟩ : ∃ s : GSl (GSl UInt8), FitsR s ∧ R (Ghost.all W) (rowsAV s) v1 := by
    obtain ⟨fuel, hf⟩ := h1
    obtain ⟨s, hs, v, hv, hR⟩ := rows_read hf
    have e := cells_one (s := s) hv (fun cs hc => by subst hc; exact not_agg (hval 1 29 _ rfl rfl))
    subst e
    exact ⟨s, hs, hR⟩
  obtain ⟨regs, hg, hRg⟩ : ∃ s : GSl (GSl UInt8), FitsR s ∧ R (Ghost.all W) (rowsAV s) v2 := by
    obtain ⟨fuel, hf⟩ := h2
    obtain ⟨s, hs, v, hv, hR⟩ := rows_read hf
    have e := cells_one (s := s) hv (fun cs hc => by subst hc; exact not_agg (hval 2 29 _ rfl rfl))
    subst e
    exact ⟨s, hs, hR⟩
  clear hA0 hval0 hsz0
  refine (evals_calls W r ins regs hr h60 hi hg _ _ _ hR hRi hRg).mono fun e W' ⟨he, bel⟩ => ?_
  subst he
  exact ⟨_, rfl, _, _, _, [], _, [], hW', trodAll_mk1 (shut_bool Tryd.underlying4 _), (trodAll_cons_mk (Below.trod laidOut (by kernel_rfl) (of_decide_eq_true (by kernel_rfl)) k0 bel lt0) (trodAll_cons_mk (Below.trod laidOut (by kernel_rfl) (of_decide_eq_true (by kernel_rfl)) k1 bel lt1) (trodAll_cons_mk (Below.trod laidOut (by kernel_rfl) (of_decide_eq_true (by kernel_rfl)) k2 bel lt2) trodAll_mk0))), rfl, bel.frame _, fun h => by cases h⟩
theorem over : Rows.rtlEvalsRow.holds Tryd.pinned (OpenSpec.ofChange Rows.rtlEvalsSpec) :=
  OpenClaim.holds_of_wide 4 Tryd.f4 rfl rfl rfl rfl rfl rfl rfl ⟨rfl, rfl, rfl, rfl, rfl⟩ rfl rfl rfl rfl rfl (by kernel_rfl) Tryd.func4 (by kernel_rfl)
    (of_decide_eq_true (by kernel_rfl)) (by unfold Func.isWrapper; first | (rw [if_pos (by decide +kernel)]; kernel_rfl) | (rw [if_neg (by decide +kernel)]; exact ⟨rfl, rfl⟩))
    (fun os started H enc _ => lifted os started H enc)
theorem proved : Rows.RtlEvalsSaid := over
end Go.Proofs.YtnipphfkiikbdaaDoor.rtlEvals
