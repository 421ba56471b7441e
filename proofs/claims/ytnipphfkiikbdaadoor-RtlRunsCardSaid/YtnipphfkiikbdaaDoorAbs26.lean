/- Own text of this claim: part 26 of an interpreter that is proved sound against the model, and of what it shows of the law. -/
import Derived.Test.YtnipphfkiikbdaaDoorAbs25
/- The law RtlRuns; its contracts. -/
namespace Go.RtlEnv
open Go Go.Proofs Go.Abs Go.RowKit
set_option maxRecDepth 10000
def runsAV (l : List (List (List UInt8))) : AV := (GSl.of l).av 1 rowsL
theorem gof_xs {α : Type} (l : List α) : (GSl.of l).xs = l := rfl
theorem frz_runs (l : List (List (List UInt8))) (n : Int) (st : St) : freezeA st (.tup [runsAV l, .int .i64 n]) = some (.tup [runsAV l, .int .i64 n], st) := by
  unfold runsAV
  rcases (GSl.of l).cases rowsL 1 with ⟨_, h2 | h2⟩ | h2 <;> rw [h2] <;> rfl
theorem cells_rowsL (l : List (List UInt8)) : (rowsL l).cells = [rowsL l] := cells_rows _
structure Fits3 (s : GSl (GSl (GSl UInt8))) : Prop where
  len : s.xs.length ≤ 140737488355328
  each : ∀ l ∈ s.xs, FitsR l
attribute [local irreducible] WS QS OS OD Abs.Sub SubO SubK CW GSl.av accA SegK rowsAV rowsL
section
variable {pr : Prims}
set_option maxHeartbeats 2000000 in
theorem run5 (h1 : pr 5 = none) (h8 : pr 8 = none) (h12 : pr 12 = none) (h13 : pr 13 = none) {p9 p18 p19 p20 : List AV → St → Option (AV × St)} (h9 : pr 9 = some p9) (u9 : ∀ st, p9 [] st = some (.bool true, st)) (r : GRtl) (ins : GSl (GSl (GSl UInt8))) (hr : FitsW r) (hi3 : Fits3 ins)
    (h19 : pr 19 = some p19) (u19 : FewS r → ∀ st, p19 [rtlAV r, rows3 ins] st = some (.tup [runsAV (runM r ins.xs), .int .i64 (rcode r ins.xs)], st))
    (h20 : pr 20 = some p20) (u20 : FewS r → ∀ st, p20 [rtlAV r, rows3 ins] st = some (.tup [runsAV (runM r ins.xs), .int .i64 (rcode r ins.xs)], st))
    (h18 : pr 18 = some p18) (u18 : ∀ x ∈ runM r ins.xs, ∀ st, p18 [rowsL x, rowsL x] st = some (.bool true, st)) (hrl : (runM r ins.xs).length ≤ 1000) (st : St) :
    CW (En pr) 5 [rtlAV r, rows3 ins] st fun x _ => x = .bool true := by
  obtain ⟨f1, f2⟩ := hi3
  unfold rows3 at *
  refine CW.start (N := 80) h1 rfl rfl ?_
  repeat' (first | (refine OS.do rfl ?_; first | refine OD.box rfl rfl rfl rfl (rtl_ok _) rfl (fun b3 => ?_) | refine OD.loadP 0 rfl rfl rfl rfl rfl rfl ?_ | refine OD.auto rfl rfl ?_ | refine OD.len rfl rfl (fun _ => lenTy_av rfl rfl) ?_ | refine OD.call rfl rfl rfl h9 u9 (fun _ => rfl) ?_ | (refine OD.callP (fun x => ∃ b, x = .bool b ∧ (b = true → FewS r)) rfl rfl rfl (fun st hS => run8w h8 r hr hS) (by rintro v st ⟨b, rfl, _⟩; rfl) ?_; rintro v ⟨b, rfl, hb⟩) | (refine OD.callP (fun x => ∃ b, x = .bool b) rfl rfl rfl (fun st hS => run13k h13 r hr.fits hS) (by rintro v st ⟨b, rfl⟩; rfl) ?_; rintro v ⟨b2, rfl⟩)) | refine OS.nil ?_ | refine OS.skip rfl rfl rfl ?_ | refine WS.seq ?_ | refine QS.seqN ?_ | refine WS.region ?_ | refine WS.condT rfl ?_ | refine WS.condF rfl ?_ | refine WS.condD rfl (fun _ => ?_) (fun _ => ?_) | refine WS.skip ?_ | refine WS.block ?_ | refine WS.ret ?_ | refine QS.seqR ?_ | ((fail_if_success (refine OS.do rfl ?_)); first | refine OS.splitD rfl rfl rfl (fun _ => ?_) (fun _ => ?_) | refine OS.splitN rfl rfl rfl (fun _ => ?_) (fun _ => ?_) | refine OS.split rfl rfl rfl (fun _ => ?_) (fun _ => ?_)))
  all_goals try (refine QS.retR (by rfl) fun _ => rfl)
  all_goals
    have hf : FewS r := hb (by assumption)
    refine WS.loop (D := Nat) (fun d => [(1, ins.av 1 rowsAV), (2, .ptr b3 0 0), (30, ins.av 1 rowsAV), (31, .int .i64 ins.xs.length), (32, .int .i64 d)]) (fun _ => [(b3, .row 4 [rtlAV r])]) (fun d => [])
      (fun d => d ≤ ins.xs.length) (fun d => ins.xs.length + 1 - d) 0 (by omega) ?_ (.refl _) (.nil _) ?_
    · repeat' (first | exact Sub.nil _ | refine Sub.cons (congrArg (fun z => some (AV.int .i64 z)) (wrap_succ (by omega))) ?_ | refine Sub.cons rfl ?_)
    rintro i hi
    repeat' (first | (refine OS.do rfl ?_; first | refine OD.indexAddr rfl rfl rfl (idx3 (cells_rows _) rfl rfl rfl rfl (List.getElem?_eq_getElem (by omega))) ?_ | refine OD.call rfl rfl rfl h19 (u19 hf) (frz_runs _ _) ?_ | refine OD.call rfl rfl rfl h20 (u20 hf) (frz_runs _ _) ?_ | refine OD.loadP 0 rfl rfl rfl rfl rfl rfl ?_ | refine OD.auto rfl rfl ?_ | refine OD.len rfl rfl (fun _ => lenTy_av rfl rfl) ?_ | refine OD.call rfl rfl rfl h9 u9 (fun _ => rfl) ?_ | (refine OD.callP (fun x => ∃ b, x = .bool b) rfl rfl rfl (fun st hS => run12k h12 _ (f2 _ (List.getElem_mem (by omega))) hS) (by rintro v st ⟨b, rfl⟩; rfl) ?_; rintro v ⟨b2, rfl⟩)) | refine OS.nil ?_ | refine OS.skip rfl rfl rfl ?_ | refine WS.seq ?_ | refine QS.seqN ?_ | refine WS.region ?_ | refine WS.condT rfl ?_ | refine WS.condD rfl (fun _ => ?_) (fun _ => ?_) | refine WS.skip ?_ | refine WS.block ?_ | refine WS.ret ?_ | refine QS.seqR ?_ | refine QS.blockR ?_ | refine QS.loopR ?_ | refine QS.blockN ?_ | refine WS.exit ?_ | refine QS.seqE ?_ | refine QS.blockH ?_ | refine QS.loopE ?_ | refine WS.condNe rfl (fun _ => ?_) (fun _ => ?_) | refine WS.condN rfl (fun _ => ?_) (fun _ => ?_) | ((fail_if_success (refine OS.do rfl ?_)); first | refine OS.splitNe rfl rfl rfl (fun _ => ?_) (fun _ => ?_)))
    · exact QS.retR (by rfl) fun _ => rfl
    · refine QS.loopN (i + 1) ?_ ?_ ?_ ?_ ?_
      · omega
      · omega
      · repeat' (first | exact Sub.nil _ | refine Sub.cons (congrArg (fun z => some (AV.int .i64 z)) (wrap_succ (by omega))) ?_ | refine Sub.cons rfl ?_)
      · exact .refl _
      · exact .nil _
    · exact absurd rfl (by assumption)
    · exact absurd rfl (by assumption)
    refine WS.loop (D := Nat) (fun d => [(7, (GSl.of (runM r ins.xs)).av 1 rowsL), (9, (GSl.of (runM r ins.xs)).av 1 rowsL), (64, .int .i64 (runM r ins.xs).length), (65, .int .i64 d)]) (fun _ => []) (fun d => [])
      (fun d => d ≤ (runM r ins.xs).length) (fun d => (runM r ins.xs).length + 1 - d) 0 (by omega) ?_ (.nil _) (.nil _) ?_
    · unfold runsAV; repeat' (first | exact Sub.nil _ | refine Sub.cons (congrArg (fun z => some (AV.int .i64 z)) (wrap_succ (by omega))) ?_ | refine Sub.cons rfl ?_)
    rintro j hj
    repeat' (first | (refine OS.do rfl ?_; first | refine OD.indexAddr rfl rfl rfl (idx3 (s := GSl.of (runM r ins.xs)) (cells_rowsL _) rfl rfl rfl rfl (List.getElem?_eq_getElem (show j < (runM r ins.xs).length by omega))) ?_ | refine OD.call rfl rfl rfl h18 (u18 _ (List.getElem_mem _)) (fun _ => rfl) ?_ | refine OD.auto rfl rfl ?_ | refine OD.call rfl rfl rfl h9 u9 (fun _ => rfl) ?_) | refine OS.nil ?_ | refine WS.seq ?_ | refine QS.seqN ?_ | refine WS.region ?_ | refine WS.condF rfl ?_ | refine WS.condD rfl (fun _ => ?_) (fun _ => ?_) | refine WS.skip ?_ | refine WS.block ?_ | refine WS.ret ?_ | refine QS.blockN ?_ | refine WS.exit ?_ | refine QS.seqE ?_ | refine QS.blockH ?_ | refine QS.loopE ?_ | refine WS.draw rfl rfl ?_)
    · refine QS.loopN (j + 1) ?_ ?_ ?_ ?_ ?_
      · omega
      · omega
      · repeat' (first | exact Sub.nil _ | refine Sub.cons (congrArg (fun z => some (AV.int .i64 z)) (wrap_succ (by omega))) ?_ | refine Sub.cons rfl ?_)
      · exact .nil _
      · exact .nil _
    · exact QS.retR (by rfl) fun _ => rfl
end
end Go.RtlEnv

/- All the contracts of RtlRuns together. -/
namespace Go.RtlEnv
open Go Go.Proofs Go.Abs Go.RowKit
theorem Good.addX2 {pr pr' : Prims} (h : Good pr) (h' : Good pr') {f : FuncId} {R : Rel} (hc : Con2 (En pr') f R) (hent : ∀ (w : World) (vargs : Array Value), (callFunc f vargs).run Tryd.prog w = .ok (.enter f vargs) w) : Good (Go.RtlEnv.add pr f (primOf R)) :=
  ⟨fun B w0 => (h.ok B w0).addPrim (hc.does (En_ok pr') h'.ok hent B w0)⟩
theorem regs_small {r : GRtl} {l sg : GSl (GSl UInt8)} (h : okM r l sg = true) : FitsR sg := by
  have hE := okM_iff.1 h
  have hv := hE.valid
  have hN := valid_500 hv
  have hf := hE.regs
  have hl : (vals sg).length = r.regs.xs.length := by
    unfold fitsM at hf
    rw [Bool.and_eq_true, decide_eq_true_eq] at hf
    rw [hf.1]; exact List.length_map _
  have hvl := vals_len sg
  refine ⟨by omega, fun x hx => ?_⟩
  obtain ⟨i, hi, rfl⟩ := List.mem_iff_getElem.1 hx
  obtain ⟨a, _, _⟩ := fitsM_row hf (i := i) (by omega)
  have e : (vals sg).getD i [] = (sg.xs[i]).xs := vals_at (List.getElem?_eq_getElem hi)
  rw [e] at a
  unfold lensR at a
  rw [List.getD_eq_getElem?_getD, List.getElem?_map, List.getElem?_eq_getElem (show i < r.regs.xs.length by omega)] at a
  simp only [validM, Bool.and_eq_true, List.all_eq_true] at hv
  have hh := hv.1.1.1.2 _ (List.getElem_mem (show i < r.regs.xs.length by omega))
  unfold holdOk at hh
  rw [Bool.and_eq_true, decide_eq_true_eq] at hh
  simp at a
  omega
def Rel19 : Rel := fun a x => ∃ (r : GRtl) (ins : GSl (GSl (GSl UInt8))), FitsW r ∧ FewS r ∧ Fits3 ins ∧ a = [rtlAV r, rows3 ins] ∧ x = .tup [runsAV (runM r ins.xs), .int .i64 (rcode r ins.xs)]
theorem plain2 (r : GRtl) (ins : GSl (GSl (GSl UInt8))) : AV.plainL [rtlAV r, rows3 ins] = [rtlAV r, rows3 ins] := by simp [AV.plainL, rtl_plain, rows3_plain]
theorem free2 (r : GRtl) (ins : GSl (GSl (GSl UInt8))) : AV.freeL [rtlAV r, rows3 ins] = true := by simp [AV.freeL, rtl_free, rows3_free]
theorem plain_runs (t : Nat) (l : List (List (List UInt8))) : AV.plain (accA t 1 (l.map rowsL)) = runsAV l := plain_acc rowsL_plain
theorem free_runs (l : List (List (List UInt8))) : AV.free (runsAV l) = true := free_av rowsL_free
theorem tup_runs (t : Nat) (l : List (List (List UInt8))) (n : Int) : AV.plain (.tup [accA t 1 (l.map rowsL), .int .i64 n]) = .tup [runsAV l, .int .i64 n] ∧ AV.free (.tup [accA t 1 (l.map rowsL), .int .i64 n]) = true := by
  have e : AV.plain (.tup [accA t 1 (l.map rowsL), .int .i64 n]) = .tup [runsAV l, .int .i64 n] := by simp only [AV.plain, AV.plainL, plain_runs]
  refine ⟨e, ?_⟩
  rw [← free_plain, e]
  simp [AV.free, AV.freeL, free_runs]
section
variable {pr : Prims}
theorem con19 {p1 p2 p3 p4 p5 : Prims} (h : pr 19 = none) (h10 : pr 10 = some (primOf RelV)) (c10 : Con (En p1) 10 RelV) (h41 : pr 41 = some (primOf Rel41)) (c41 : Con (En p2) 41 Rel41) (h42 : pr 42 = some (primOf Rel42)) (c42 : Con (En p3) 42 Rel42) (h46 : pr 46 = some (primOf Rel46g)) (c46 : Con2 (En p4) 46 Rel46g) (h47 : pr 47 = some (primOf Rel47)) (c47 : Con (En p5) 47 Rel47) : Con (En pr) 19 Rel19 :=
  ⟨by rintro a x ⟨r, ins, _, _, _, rfl, rfl⟩; exact free2 _ _, by
    rintro a x ⟨r, ins, hr, hf, hi, rfl, rfl⟩
    have f1 := hf.few.regs
    have hcl : FitsR (GSl.of (clones r)) := gof_fits (by simp [clones]; omega) fun x hx => by
      obtain ⟨q, hq, rfl⟩ := List.mem_map.1 hx
      rw [clone_xs]
      have := hf.inits q hq
      omega
    have hlen := hi.len
    refine (run19 h h10 h41 h42 h46 h47 r ins (by omega) (by omega) (fun st => c10.use ⟨r, hr.fits, plain1 r, rfl⟩ st) (fun q hq st => c46.use ⟨q.init, by have := hf.inits q hq; omega, by simp [AV.plainL, plain_av bit_plain], rfl⟩ st)
      (fun l hl t st => c41.use ⟨r, l, GSl.of (clones r), hr.fits, hi.each l hl, hcl, by simp only [AV.plainL, rtl_plain, rowsAV_plain, plain_avs], by rw [vals_clones]; rfl⟩ st)
      (fun t st => c47.use ⟨GSl.of (clones r), hcl, by simp only [AV.plainL, plain_avs, AV.plain], by rw [vals_clones, known_inits]⟩ st)
      (fun l hl S sg hS hok st => c42.use ⟨r, l, sg, hok, by simp only [AV.plainL, rtl_plain, rowsAV_plain, hS], rfl⟩ st) _).mono fun x st ⟨t, e⟩ => ?_
    subst e
    exact tup_runs _ _ _⟩
theorem con20 {p1 p2 p3 p4 p5 : Prims} (h : pr 20 = none) (h11 : pr 11 = some (primOf RelV)) (c11 : Con (En p1) 11 RelV) (h26 : pr 26 = some (primOf Rel26)) (c26 : Con (En p2) 26 Rel26) (h44 : pr 44 = some (primOf Rel44)) (c44 : Con (En p3) 44 Rel44) (h38 : pr 38 = some (primOf Rel38)) (c38 : Con (En p4) 38 Rel38) (h15 : pr 15 = some (primOf RelE)) (c15 : Con (En p5) 15 RelE) : Con (En pr) 20 Rel19 :=
  ⟨by rintro a x ⟨r, ins, _, _, _, rfl, rfl⟩; exact free2 _ _, by
    rintro a x ⟨r, ins, hr, hf, hi, rfl, rfl⟩
    have f1 := hf.few.regs
    have f2 := hf.few.ins
    have hlen := hi.len
    refine (run20 h h11 h26 h44 h38 h15 r ins (by omega) (by omega) (fun st => c11.use ⟨r, hr.fits, plain1 r, rfl⟩ st) (fun st => c26.use ⟨r, ⟨by omega, by omega⟩, plain1 r, rfl⟩ st) (fun l hl st => c44.use ⟨l, GSl.of (lensI r), hi.each l hl, by simp only [AV.plainL, rowsAV_plain, lens_plain]; rfl, rfl⟩ st)
      (fun q hq st => c38.use ⟨q.init, 1, by have := hf.inits q hq; omega, by simp [AV.plainL, plain_av bit_plain, AV.plain], rfl⟩ st)
      (fun l hl S sg hS hok st => c15.use ⟨r, l, sg, hr.fits, hf.few, hi.each l hl, regs_small hok, by simp only [AV.plainL, rtl_plain, rowsAV_plain, hS], by rw [code_ok hok]⟩ st) _).mono fun x st ⟨t, e⟩ => ?_
    subst e
    exact tup_runs _ _ _⟩
end
theorem runs_fits (r : GRtl) (ins : List (GSl (GSl UInt8))) : ∀ x ∈ runM r ins, FitsR (ofRows x) := by
  intro x hx
  unfold runM at hx
  split at hx
  · obtain ⟨t, _, rfl⟩ := List.mem_map.1 hx
    unfold ouM
    split
    · exact evalO_fits _ _ _
    · exact fits_of (by simp) (by simp)
  · cases hx
theorem runs_len (r : GRtl) (ins : List (GSl (GSl UInt8))) : (runM r ins).length ≤ 1000 := by
  by_cases h : runOk r ins = true
  · rw [run_ok h, List.length_map, List.length_range]
    exact (runOk_iff.1 h).2.1
  · rw [run_bad (by simpa using h)]; simp
theorem cc46g : Con2 (En pe6) 46 Rel46g := con46g rfl
noncomputable def pf1 : Prims := add pe24 46 (primOf Rel46g)
theorem gf1 : Good pf1 := ge24.addX2 ge6 cc46g fun w v => Tryd.call46 v w
theorem c48 : Con (En pf1) 48 Rel48 := con48 rfl rfl cc49
noncomputable def pf2 : Prims := add pf1 48 (primOf Rel48)
theorem gf2 : Good pf2 := gf1.add c48 fun w v => Tryd.call48 v w
theorem c47 : Con (En pf2) 47 Rel47 := con47 rfl rfl rfl c48
noncomputable def pf3 : Prims := add pf2 47 (primOf Rel47)
theorem gf3 : Good pf3 := gf2.add c47 fun w v => Tryd.call47 v w
theorem c19 : Con (En pf3) 19 Rel19 := con19 rfl rfl c10 rfl c41 rfl c42 rfl cc46g rfl c47
noncomputable def pf4 : Prims := add pf3 19 (primOf Rel19)
theorem gf4 : Good pf4 := gf3.add c19 fun w v => Tryd.call19 v w
theorem c20 : Con (En pf4) 20 Rel19 := con20 rfl rfl c11 rfl cc26 rfl c44 rfl c38 rfl c15
noncomputable def pf5 : Prims := add pf4 20 (primOf Rel19)
theorem gf5 : Good pf5 := gf4.add c20 fun w v => Tryd.call20 v w
theorem runs_calls (w : World) (r : GRtl) (ins : GSl (GSl (GSl UInt8))) (hr : FitsW r) (hi : Fits3 ins) (v0 v1 : Value) (hv0 : R (Ghost.all w) (rtlAV r) v0) (hv1 : R (Ghost.all w) (rows3 ins) v1) :
    Calls Tryd.prog 5 #[v0, v1] w fun e w' => e = .returned (.bool true) ∧ Below w.heap.size w w' := by
  obtain ⟨n, x, st', h, hx⟩ := run5 (pr := pf5) rfl rfl rfl rfl rfl (fun st => con9.use ⟨rfl, rfl⟩ st) r ins hr hi
    rfl (fun hf st => c19.use ⟨r, ins, hr, hf, hi, plain2 _ _, rfl⟩ st) rfl (fun hf st => c20.use ⟨r, ins, hr, hf, hi, plain2 _ _, rfl⟩ st)
    rfl (fun x hx st => c18.use ⟨ofRows x, ofRows x, runs_fits r ins.xs x hx, by simp [AV.plainL, rowsL_plain]; rfl, by rw [sameM_refl]⟩ st) (runs_len _ _) St.empty
  refine ((callF_sound (En_ok pf5) (gf5.ok w.heap.size w) n 5 [rtlAV r, rows3 ins] St.empty x st' h).2 (Ghost.all w) w #[v0, v1] (Inv.all w) (RL.cons hv0 (RL.cons hv1 (RL.nil _)))).mono ?_
  rintro e w' ⟨u, Γ, rfl, out, hu⟩
  subst hx
  simp only [R] at hu
  subst hu
  exact ⟨rfl, out.inv.below⟩
end Go.RtlEnv
