/- Own text of this claim: part 20 of an interpreter that is proved sound against the model, and of what it shows of the law. -/
import Derived.Test.YtnipphfkiikbdaaDoorAbs19
/- rtl.all, and netwrightref21.All. -/
namespace Go.RtlEnv
open Go Go.Proofs Go.Abs Go.RowKit
set_option maxRecDepth 10000
/-- A word's kids' values. -/
def kidsM (out : List (List UInt8)) (w : GWord) : List (List UInt8) := w.kids.xs.map fun k => out.getD k.toNat []
theorem valW_V (ins regs : List (List UInt8)) (w : GWord) (out : List (List UInt8)) : valW ins regs w out = valV ins regs w (kidsM out w) := rfl
structure EvalOk (r : GRtl) (ins regs : GSl (GSl UInt8)) : Prop where
  valid : validM r = true
  ins : fitsM (vals ins) (lensI r) = true
  regs : fitsM (vals regs) (lensR r) = true
theorem EvalOk.words {r : GRtl} {ins regs : GSl (GSl UInt8)} (h : EvalOk r ins regs) : r.words.xs.length ≤ 20000 := by
  have := h.valid
  simp only [validM, headV, Bool.and_eq_true, decide_eq_true_eq] at this
  omega
section
variable {r : GRtl} {ins regs : GSl (GSl UInt8)}
theorem EvalOk.out (h : EvalOk r ins regs) {i : Nat} (hi : i ≤ r.words.xs.length) : OutOk r.words.xs i (outM (vals ins) (vals regs) r.words.xs i) := outM_ok h.valid h.ins h.regs hi
theorem EvalOk.kid (h : EvalOk r ins regs) {i : Nat} (hi : i < r.words.xs.length) : ∀ x ∈ (r.words.xs[i]).kids.xs, 0 ≤ x ∧ x < (i : Int) :=
  (wordM_parts (List.getElem?_eq_getElem hi) (words_true h.valid hi)).2.2.1
theorem EvalOk.kidN (h : EvalOk r ins regs) {i : Nat} (hi : i < r.words.xs.length) : (r.words.xs[i]).kids.xs.length ≤ 500 :=
  okKids_le (wordM_parts (List.getElem?_eq_getElem hi) (words_true h.valid hi)).1
theorem row_in {s : GSl (GSl UInt8)} {k : Nat} (hk : k < (vals s).length) : k < s.xs.length ∧ (vals s).getD k [] = (s.xs[k]'(by rw [vals_len] at hk; exact hk)).xs := by
  have h := hk
  rw [vals_len] at h
  exact ⟨h, vals_at (List.getElem?_eq_getElem h)⟩
theorem EvalOk.in2 (h : EvalOk r ins regs) {i : Nat} (hi : i < r.words.xs.length) (h2 : (r.words.xs[i]).op = 2) :
    0 ≤ (r.words.xs[i]).n ∧ ∃ h3 : (r.words.xs[i]).n.toNat < ins.xs.length, valW (vals ins) (vals regs) r.words.xs[i] (outM (vals ins) (vals regs) r.words.xs i) = (ins.xs[(r.words.xs[i]).n.toNat]).xs ∧ 1 ≤ (ins.xs[(r.words.xs[i]).n.toNat]).xs.length ∧ (ins.xs[(r.words.xs[i]).n.toNat]).xs.length ≤ 4096 := by
  have hw := List.getElem?_eq_getElem hi
  have hv := words_true h.valid hi
  obtain ⟨a, b, c⟩ := in_ok hw hv h2
  obtain ⟨d, e, _⟩ := val_in h.ins hw hv h2
  obtain ⟨f, g⟩ := row_in d
  have hl := (wordM_parts hw hv).2.1
  rw [g] at e
  refine ⟨a, f, ?_, by omega, by omega⟩
  unfold valW
  rw [if_pos h2, g]
theorem EvalOk.reg3 (h : EvalOk r ins regs) {i : Nat} (hi : i < r.words.xs.length) (h2 : (r.words.xs[i]).op = 3) :
    0 ≤ (r.words.xs[i]).n ∧ ∃ h3 : (r.words.xs[i]).n.toNat < regs.xs.length, valW (vals ins) (vals regs) r.words.xs[i] (outM (vals ins) (vals regs) r.words.xs i) = (regs.xs[(r.words.xs[i]).n.toNat]).xs ∧ 1 ≤ (regs.xs[(r.words.xs[i]).n.toNat]).xs.length ∧ (regs.xs[(r.words.xs[i]).n.toNat]).xs.length ≤ 4096 := by
  have hw := List.getElem?_eq_getElem hi
  have hv := words_true h.valid hi
  obtain ⟨a, b, c⟩ := reg_ok hw hv h2
  obtain ⟨d, e, _⟩ := val_reg h.regs hw hv h2
  obtain ⟨f, g⟩ := row_in d
  have hl := (wordM_parts hw hv).2.1
  rw [g] at e
  refine ⟨a, f, ?_, by omega, by omega⟩
  unfold valW
  rw [if_neg (by omega), if_pos h2, g]
theorem EvalOk.val58 (h : EvalOk r ins regs) {i : Nat} (hi : i < r.words.xs.length) (h2 : (r.words.xs[i]).op ≠ 2) (h3 : (r.words.xs[i]).op ≠ 3) : Val58 r.words.xs[i] (kidsM (outM (vals ins) (vals regs) r.words.xs i) r.words.xs[i]) :=
  ⟨kids_ok (List.getElem?_eq_getElem hi) (words_true h.valid hi) (h.out (by omega)) h2 h3, h2, h3, fun h1 => (bits_ok (List.getElem?_eq_getElem hi) (words_true h.valid hi) h1).1⟩
theorem EvalOk.val45 (h : EvalOk r ins regs) {i : Nat} (hi : i < r.words.xs.length) : Val45 r.words.xs[i] (kidsM (outM (vals ins) (vals regs) r.words.xs i) r.words.xs[i]) (vals ins) (vals regs) := by
  by_cases h2 : (r.words.xs[i]).op = 2
  · obtain ⟨a, b, c, d⟩ := h.in2 hi h2
    have e : (vals ins).getD (r.words.xs[i]).n.toNat [] = (ins.xs[(r.words.xs[i]).n.toNat]).xs := vals_at (List.getElem?_eq_getElem b)
    exact .inl ⟨h2, a, by rw [vals_len]; exact b, by rw [e]; exact d.1, by rw [e]; exact d.2⟩
  · by_cases h3 : (r.words.xs[i]).op = 3
    · obtain ⟨a, b, c, d⟩ := h.reg3 hi h3
      have e : (vals regs).getD (r.words.xs[i]).n.toNat [] = (regs.xs[(r.words.xs[i]).n.toNat]).xs := vals_at (List.getElem?_eq_getElem b)
      exact .inr (.inl ⟨h3, a, by rw [vals_len]; exact b, by rw [e]; exact d.1, by rw [e]; exact d.2⟩)
    · exact .inr (.inr (h.val58 hi h2 h3))
end
theorem rowOkE {et : Ty} (h : Nat.beq et.size 1 = true) (l : List UInt8) : okElems et [rowAV l] = true := by
  have := Nat.eq_of_beq_eq_true h
  simp [okElems, rowAV, AV.ok, AV.cellOk, AV.cells, this]
theorem kidsM_succ {out : List (List UInt8)} {w : GWord} {j : Nat} (h : j < w.kids.xs.length) (h2 : (w.kids.xs[j]).toNat < out.length) : (kidsM out w).take (j + 1) = (kidsM out w).take j ++ [out[(w.kids.xs[j]).toNat]] := by
  have hl : (kidsM out w).length = w.kids.xs.length := List.length_map _
  rw [List.take_succ_eq_append_getElem (by omega)]
  congr 2
  unfold kidsM
  rw [List.getElem_map, List.getD_eq_getElem?_getD, List.getElem?_eq_getElem h2]; rfl
attribute [local irreducible] WS QS OS OD Abs.Sub SubO SubK CW GSl.av accA SegK
section
variable {pr : Prims}
set_option maxHeartbeats 2000000 in
theorem run43 (h1 : pr 43 = none) {p46 p58 : List AV → St → Option (AV × St)} (h46 : pr 46 = some p46) (u46 : ∀ (s : GSl UInt8) st, s.xs ≠ [] → s.xs.length ≤ 1000000 → p46 [s.av 1 bitAV] st = some (rowAV s.xs, st))
    (h58 : pr 58 = some p58) (u58 : ∀ (w : GWord) (t : Nat) (ks : List (List UInt8)) st, Val58 w ks → p58 [wordAV w, accA t 1 (ks.map rowAV)] st = some (rowAV (evalM w.op w.len w.n w.bits.xs ks), st))
    (r : GRtl) (ins regs : GSl (GSl UInt8)) (hE : EvalOk r ins regs) (st : St) :
    CW (En pr) 43 [rtlAV r, rowsAV ins, rowsAV regs] st fun x _ => ∃ t, x = accA t 1 ((outM (vals ins) (vals regs) r.words.xs r.words.xs.length).map rowAV) := by
  have hN := hE.words
  unfold rowsAV
  refine CW.start (N := 67) h1 rfl rfl ?_
  repeat' (first | (refine OS.do rfl ?_; first | refine OD.box rfl rfl rfl rfl (rtl_ok _) rfl (fun b3 => ?_) | refine OD.loadP 0 rfl rfl rfl rfl rfl rfl ?_ | refine OD.auto rfl rfl ?_ | refine OD.len rfl rfl (fun _ => lenTy_av rfl rfl) ?_) | refine OS.nil ?_ | refine WS.seq ?_ | refine QS.seqN ?_ | refine WS.region ?_ | refine WS.block ?_)
  generalize hO : outM (vals ins) (vals regs) r.words.xs = O
  have hOl : ∀ i, i ≤ r.words.xs.length → (O i).length = i := fun i hi => by subst hO; exact outM_len hi
  have hOs : ∀ (i : Nat) (h : i < r.words.xs.length), O (i + 1) = O i ++ [valW (vals ins) (vals regs) r.words.xs[i] (O i)] := fun i h => by subst hO; exact outM_succ h
  have hO2 : ∀ (i : Nat) (h : i < r.words.xs.length), (r.words.xs[i]).op ≠ 2 → (r.words.xs[i]).op ≠ 3 → Val58 r.words.xs[i] (kidsM (O i) r.words.xs[i]) := fun i h h2 h3 => by subst hO; exact hE.val58 h h2 h3
  refine WS.loop (D := Nat × Nat) (fun d => [(1, ins.av 1 fun x => x.av 1 bitAV), (2, regs.av 1 fun x => x.av 1 bitAV), (7, accA d.2 1 ((O d.1).map rowAV)), (14, r.words.av 5 wordAV), (15, .int .i64 r.words.xs.length), (16, .int .i64 d.1)]) (fun _ => []) (fun d => [(d.2, !((O d.1).map rowAV).isEmpty)])
    (fun d => d.1 ≤ r.words.xs.length) (fun d => r.words.xs.length + 1 - d.1) (0, 0) (by omega) ?_ (.nil _) ?_ ?_
  · subst hO
    repeat' (first | exact Sub.nil _ | refine Sub.cons (congrArg some (accA_nil _ _).symm) ?_ | refine Sub.cons (congrArg (fun z => some (AV.int .i64 z)) (wrap_succ (by omega))) ?_ | refine Sub.cons rfl ?_)
  · subst hO
    exact SubK.new (.nil _)
  rintro ⟨i, tk⟩ hi
  dsimp only at hi ⊢
  have hOi := hOl i hi
  repeat' (first | (refine OS.do rfl ?_; first | refine OD.alloc rfl rfl rfl rfl (fun b9 => ?_) | (have h2 := hE.in2 (i := i) (by omega) (by assumption); obtain ⟨c1, c2, c3, c4, c5⟩ := h2; refine OD.indexAddr rfl rfl rfl (indexAddrA_intS rfl rfl rfl rfl c1 (List.getElem?_eq_getElem c2)) ?_; refine OS.do rfl ?_; refine OD.auto rfl rfl ?_; refine OS.do rfl ?_; refine OD.call rfl rfl rfl h46 (fun st => u46 _ st (ne_of_len (by omega)) (by omega)) (fun _ => rfl) ?_; refine OS.do rfl ?_; refine OD.auto rfl rfl ?_) | (have h2 := hE.reg3 (i := i) (by omega) (by assumption); obtain ⟨c1, c2, c3, c4, c5⟩ := h2; refine OD.indexAddr rfl rfl rfl (indexAddrA_intS rfl rfl rfl rfl c1 (List.getElem?_eq_getElem c2)) ?_; refine OS.do rfl ?_; refine OD.auto rfl rfl ?_; refine OS.do rfl ?_; refine OD.call rfl rfl rfl h46 (fun st => u46 _ st (ne_of_len (by omega)) (by omega)) (fun _ => rfl) ?_; refine OS.do rfl ?_; refine OD.auto rfl rfl ?_) | refine OD.append 0 rfl rfl rfl rfl rfl rfl rfl rfl rfl rfl rfl (.inr ⟨⟨_, rfl⟩, rfl⟩) (fun _ => rfl) (rowOkE rfl _) rfl (roomB rfl (by simp only [List.length_map, List.length_cons, List.length_nil]; omega)) (fun tk' => ?_) | refine OD.loadP 0 rfl rfl rfl rfl rfl rfl ?_ | refine OD.auto rfl rfl ?_ | refine OD.len rfl rfl (fun _ => lenTy_av rfl rfl) ?_ | refine OD.indexAddr rfl rfl rfl (indexAddrA_nat rfl rfl rfl rfl (by first | assumption | exact List.getElem?_eq_getElem (by omega))) ?_ | refine OD.storeW 0 rfl rfl rfl rfl (by first | rfl | exact hold_ok _ | exact word_ok _ | exact rtl_ok _) rfl rfl rfl ?_) | refine OS.nil ?_ | refine WS.seq ?_ | refine QS.seqN ?_ | refine WS.region ?_ | refine WS.condE rfl (fun _ => ?_) (fun _ => ?_) | refine WS.condD rfl (fun _ => ?_) (fun _ => ?_) | refine WS.skip ?_ | refine WS.block ?_ | refine WS.ret ?_ | refine QS.blockN ?_ | refine WS.exit ?_ | refine QS.seqE ?_ | refine QS.blockH ?_ | refine QS.blockE rfl ?_ | refine QS.loopE ?_)
  · rename_i h2
    have hlt : i < r.words.xs.length := by omega
    obtain ⟨c1, c2, c3, _⟩ := hE.in2 hlt h2
    rw [hO] at c3
    have hA : (O (i + 1)).map rowAV = (O i).map rowAV ++ [rowAV (ins.xs[(r.words.xs[i]).n.toNat]).xs] := by rw [hOs i hlt, List.map_append, c3]; rfl
    refine QS.loopN (i + 1, tk') ?_ ?_ ?_ ?_ ?_
    · dsimp only; omega
    · dsimp only; omega
    · repeat' (first | exact Sub.nil _ | refine Sub.cons (congrArg (fun z => some (accA tk' 1 z)) hA.symm) ?_ | refine Sub.cons (congrArg (fun z => some (AV.int .i64 z)) (wrap_succ (by omega))) ?_ | refine Sub.cons rfl ?_)
    · exact .nil _
    · dsimp only; rw [hA]; exact .refl _
  · rename_i h2
    have hlt : i < r.words.xs.length := by omega
    obtain ⟨c1, c2, c3, _⟩ := hE.reg3 hlt h2
    rw [hO] at c3
    have hA : (O (i + 1)).map rowAV = (O i).map rowAV ++ [rowAV (regs.xs[(r.words.xs[i]).n.toNat]).xs] := by rw [hOs i hlt, List.map_append, c3]; rfl
    refine QS.loopN (i + 1, tk') ?_ ?_ ?_ ?_ ?_
    · dsimp only; omega
    · dsimp only; omega
    · repeat' (first | exact Sub.nil _ | refine Sub.cons (congrArg (fun z => some (accA tk' 1 z)) hA.symm) ?_ | refine Sub.cons (congrArg (fun z => some (AV.int .i64 z)) (wrap_succ (by omega))) ?_ | refine Sub.cons rfl ?_)
    · exact .nil _
    · dsimp only; rw [hA]; exact .refl _
  · rename_i h2 h3
    have hlt : i < r.words.xs.length := by omega
    have hkn := hE.kidN hlt
    have hkl : (kidsM (O i) (r.words.xs[i]'hlt)).length = (r.words.xs[i]'hlt).kids.xs.length := List.length_map _
    have hV := hO2 i hlt h2 h3
    have hvw : valW (vals ins) (vals regs) r.words.xs[i] (O i) = evalM (r.words.xs[i]).op (r.words.xs[i]).len (r.words.xs[i]).n (r.words.xs[i]).bits.xs (kidsM (O i) r.words.xs[i]) := by
      rw [valW_V]; unfold valV; rw [if_neg h2, if_neg h3]
    refine WS.loop (D := Nat × Nat) (fun d => [(1, ins.av 1 fun x => x.av 1 bitAV), (2, regs.av 1 fun x => x.av 1 bitAV), (7, accA tk 1 ((O i).map rowAV)), (14, r.words.av 5 wordAV), (15, .int .i64 r.words.xs.length), (16, .int .i64 i), (9, .ptr b9 0 0), (10, accA d.2 1 (((kidsM (O i) (r.words.xs[i]'hlt)).take d.1).map rowAV)), (45, (r.words.xs[i]'hlt).kids.av 1 intAV), (46, .int .i64 (r.words.xs[i]'hlt).kids.xs.length), (47, .int .i64 d.1)]) (fun _ => [(b9, .row 5 [wordAV (r.words.xs[i]'hlt)])]) (fun d => [(d.2, !(((kidsM (O i) (r.words.xs[i]'hlt)).take d.1).map rowAV).isEmpty), (tk, !((O i).map rowAV).isEmpty)])
      (fun d => d.1 ≤ (r.words.xs[i]'hlt).kids.xs.length) (fun d => (r.words.xs[i]'hlt).kids.xs.length + 1 - d.1) (0, 0) (by omega) ?_ (.refl _) (SubK.new (.refl _)) ?_
    · repeat' (first | exact Sub.nil _ | refine Sub.cons (congrArg some (accA_zero _ _ _ _).symm) ?_ | refine Sub.cons (congrArg (fun z => some (AV.int .i64 z)) (wrap_succ (by omega))) ?_ | refine Sub.cons rfl ?_)
    rintro ⟨j, tk2⟩ hj
    dsimp only at hj ⊢
    repeat' (first | (refine OS.do rfl ?_; first | (have hk := hE.kid hlt _ (List.getElem_mem (show j < (r.words.xs[i]'hlt).kids.xs.length by omega)); refine OD.indexAddr rfl rfl rfl (indexAddrA_accm rfl rfl rfl rfl hk.1 (List.getElem?_eq_getElem (by rw [hOi]; omega))) ?_) | refine OD.call rfl rfl rfl h58 (fun st => u58 _ _ _ st (by rw [List.take_of_length_le (by omega)]; exact hV)) (fun _ => rfl) ?_ | refine OD.append 0 rfl rfl rfl rfl rfl rfl rfl rfl rfl rfl rfl (.inr ⟨⟨_, rfl⟩, rfl⟩) (fun _ => rfl) (rowOkE rfl _) rfl (roomB rfl (by simp only [List.length_map, List.length_take, List.length_cons, List.length_nil]; omega)) (fun tk' => ?_) | refine OD.append 1 rfl rfl rfl rfl rfl rfl rfl rfl rfl rfl rfl (.inr ⟨⟨_, rfl⟩, rfl⟩) (fun _ => rfl) (rowOkE rfl _) rfl (roomB rfl (by simp only [List.length_map, List.length_take, List.length_cons, List.length_nil]; omega)) (fun tk' => ?_) | refine OD.loadP 0 rfl rfl rfl rfl rfl rfl ?_ | refine OD.auto rfl rfl ?_ | refine OD.indexAddr rfl rfl rfl (indexAddrA_nat rfl rfl rfl rfl (by first | assumption | exact List.getElem?_eq_getElem (by omega))) ?_) | refine OS.nil ?_ | refine WS.seq ?_ | refine QS.seqN ?_ | refine WS.region ?_ | refine WS.condD rfl (fun _ => ?_) (fun _ => ?_) | refine WS.skip ?_ | refine WS.block ?_ | refine QS.blockN ?_ | refine WS.exit ?_ | refine QS.seqE ?_ | refine QS.blockH ?_ | refine QS.loopE ?_)
    · have hj2 : j < (r.words.xs[i]'hlt).kids.xs.length := by omega
      have hk := hE.kid hlt _ (List.getElem_mem hj2)
      have hA := congrArg (fun l => l.map rowAV) (kidsM_succ (out := O i) hj2 (by rw [hOi]; omega))
      simp only [List.map_append] at hA
      refine QS.loopN (j + 1, tk') ?_ ?_ ?_ ?_ ?_
      · dsimp only; omega
      · dsimp only; omega
      · repeat' (first | exact Sub.nil _ | refine Sub.cons (congrArg (fun z => some (accA tk' 1 z)) hA.symm) ?_ | refine Sub.cons (congrArg (fun z => some (AV.int .i64 z)) (wrap_succ (by omega))) ?_ | refine Sub.cons rfl ?_)
      · exact .refl _
      · dsimp only; rw [hA]; exact .refl _
    · have hA : (O (i + 1)).map rowAV = (O i).map rowAV ++ [rowAV (evalM (r.words.xs[i]).op (r.words.xs[i]).len (r.words.xs[i]).n (r.words.xs[i]).bits.xs ((kidsM (O i) r.words.xs[i]).take j))] := by
        rw [hOs i hlt, List.map_append, hvw, List.take_of_length_le (by omega)]; rfl
      refine QS.loopN (i + 1, tk') ?_ ?_ ?_ ?_ ?_
      · dsimp only; omega
      · dsimp only; omega
      · repeat' (first | exact Sub.nil _ | refine Sub.cons (congrArg (fun z => some (accA tk' 1 z)) hA.symm) ?_ | refine Sub.cons (congrArg (fun z => some (AV.int .i64 z)) (wrap_succ (by omega))) ?_ | refine Sub.cons rfl ?_)
      · exact .nil _
      · dsimp only; rw [hA]; exact .drop (.refl _)
  · have e : i = r.words.xs.length := by omega
    subst e
    exact QS.retR (by rfl) fun _ => ⟨_, rfl⟩
end
end Go.RtlEnv

/- All: of the program, and of the document. -/
namespace Go.RtlEnv
open Go Go.Proofs Go.Abs Go.RowKit
set_option maxRecDepth 10000
def okM (r : GRtl) (ins regs : GSl (GSl UInt8)) : Bool := validM r && (fitsM (vals ins) (lensI r) && fitsM (vals regs) (lensR r))
theorem okM_iff {r : GRtl} {ins regs : GSl (GSl UInt8)} : okM r ins regs = true ↔ EvalOk r ins regs := by
  unfold okM
  rw [Bool.and_eq_true, Bool.and_eq_true]
  exact ⟨fun ⟨a, b, c⟩ => ⟨a, b, c⟩, fun ⟨a, b, c⟩ => ⟨a, b, c⟩⟩
def allM (r : GRtl) (ins regs : GSl (GSl UInt8)) : List (List UInt8) := if okM r ins regs then outM (vals ins) (vals regs) r.words.xs r.words.xs.length else []
def codeM (r : GRtl) (ins regs : GSl (GSl UInt8)) : Int := if okM r ins regs then 0 else 2
def lensAV (l : List Int) : AV := (GSl.of l).av 1 intAV
theorem frz_lens (l m : List Int) (st : St) : freezeA st (.tup [lensAV l, lensAV m]) = some (.tup [lensAV l, lensAV m], st) := by
  cases l <;> cases m <;> rfl
theorem frz_rowsAV (s : GSl (GSl UInt8)) (st : St) : freezeA st (rowsAV s) = some (rowsAV s, st) := by
  unfold rowsAV
  rcases s.cases (fun x => x.av 1 bitAV) 1 with ⟨_, h2 | h2⟩ | h2 <;> rw [h2] <;> rfl
theorem rows_nil : rowsAV (ofRows []) = .nilsl := rfl
theorem res_bad {r : GRtl} {ins regs : GSl (GSl UInt8)} (h : okM r ins regs = false) : AV.tup [.nilsl, .int .i64 2] = AV.tup [rowsAV (ofRows (allM r ins regs)), .int .i64 (codeM r ins regs)] := by
  unfold allM codeM
  rw [h]; rfl
theorem acc_bad {r : GRtl} {ins regs : GSl (GSl UInt8)} (h : okM r ins regs = false) : AV.tup [.nilsl, .int .i64 2] = AV.tup [accA 0 1 ((allM r ins regs).map rowAV), .int .i64 (codeM r ins regs)] := by
  unfold allM codeM
  rw [h]; rfl
theorem code_ok {r : GRtl} {ins regs : GSl (GSl UInt8)} (h : okM r ins regs = true) : codeM r ins regs = 0 := by unfold codeM; rw [h]; rfl
theorem all_ok {r : GRtl} {ins regs : GSl (GSl UInt8)} (h : okM r ins regs = true) : allM r ins regs = outM (vals ins) (vals regs) r.words.xs r.words.xs.length := by unfold allM; rw [h]; rfl
attribute [local irreducible] WS QS OS OD Abs.Sub SubO SubK CW GSl.av accA SegK
section
variable {pr : Prims}
theorem run16 (h1 : pr 16 = none) {p10 p41 p43 : List AV → St → Option (AV × St)} (h10 : pr 10 = some p10) (h41 : pr 41 = some p41) (h43 : pr 43 = some p43) (r : GRtl) (ins regs : GSl (GSl UInt8))
    (u10 : ∀ st, p10 [rtlAV r] st = some (.bool (validM r), st)) (u41 : ∀ st, p41 [rtlAV r, rowsAV ins, rowsAV regs] st = some (.bool (fitsM (vals ins) (lensI r) && fitsM (vals regs) (lensR r)), st))
    (u43 : ∀ st, EvalOk r ins regs → p43 [rtlAV r, rowsAV ins, rowsAV regs] st = some (rowsAV (ofRows (allM r ins regs)), st)) (st : St) :
    CW (En pr) 16 [rtlAV r, rowsAV ins, rowsAV regs] st fun x _ => x = .tup [rowsAV (ofRows (allM r ins regs)), .int .i64 (codeM r ins regs)] := by
  refine CW.start (N := 22) h1 rfl rfl ?_
  repeat' (first | (refine OS.do rfl ?_; first | refine OD.box rfl rfl rfl rfl (rtl_ok _) rfl (fun b3 => ?_) | refine OD.loadP 0 rfl rfl rfl rfl rfl rfl ?_ | refine OD.auto rfl rfl ?_ | refine OD.call rfl rfl rfl h10 u10 (fun _ => rfl) ?_ | refine OD.call rfl rfl rfl h41 u41 (fun _ => rfl) ?_ | refine OD.call rfl rfl rfl h43 (fun st => u43 st (okM_iff.1 (by unfold okM; simp only [*, Bool.and_true]))) (frz_rowsAV _) ?_) | refine OS.nil ?_ | refine OS.skip rfl rfl rfl ?_ | refine WS.seq ?_ | refine QS.seqN ?_ | refine WS.region ?_ | refine WS.condT rfl ?_ | refine WS.skip ?_ | refine WS.ret ?_ | refine QS.seqR ?_ | refine WS.condN rfl (fun _ => ?_) (fun _ => ?_) | ((fail_if_success (refine OS.do rfl ?_)); first | refine OS.splitN rfl rfl rfl (fun _ => ?_) (fun _ => ?_)))
  · rename_i h
    refine QS.retR (by rfl) fun _ => res_bad ?_
    unfold okM; rw [h]; rfl
  · rename_i h h'
    refine QS.retR (by rfl) fun _ => res_bad ?_
    unfold okM; rw [h, h']; rfl
  · rename_i h h'
    refine QS.retR (by rfl) fun _ => ?_
    rw [code_ok (by unfold okM; rw [h, h']; rfl)]; rfl
set_option maxHeartbeats 2000000 in
theorem run17 (h1 : pr 17 = none) {p11 p26 p44 p45 : List AV → St → Option (AV × St)} (h11 : pr 11 = some p11) (h26 : pr 26 = some p26) (h44 : pr 44 = some p44) (h45 : pr 45 = some p45) (r : GRtl) (ins regs : GSl (GSl UInt8))
    (u11 : ∀ st, p11 [rtlAV r] st = some (.bool (validM r), st)) (u26 : ∀ st, p26 [rtlAV r] st = some (.tup [lensAV (lensI r), lensAV (lensR r)], st))
    (u44 : ∀ st, p44 [rowsAV ins, lensAV (lensI r)] st = some (.bool (fitsM (vals ins) (lensI r)), st)) (u44' : ∀ st, p44 [rowsAV regs, lensAV (lensR r)] st = some (.bool (fitsM (vals regs) (lensR r)), st))
    (u45 : ∀ (w : GWord) (t : Nat) (ks : List (List UInt8)) st, Val45 w ks (vals ins) (vals regs) → p45 [wordAV w, accA t 1 (ks.map rowAV), rowsAV ins, rowsAV regs] st = some (rowAV (valV (vals ins) (vals regs) w ks), st)) (st : St) :
    CW (En pr) 17 [rtlAV r, rowsAV ins, rowsAV regs] st fun x _ => ∃ t, x = .tup [accA t 1 ((allM r ins regs).map rowAV), .int .i64 (codeM r ins regs)] := by
  refine CW.start (N := 68) h1 rfl rfl ?_
  repeat' (first | (refine OS.do rfl ?_; first | refine OD.box rfl rfl rfl rfl (rtl_ok _) rfl (fun b3 => ?_) | refine OD.loadP 0 rfl rfl rfl rfl rfl rfl ?_ | refine OD.auto rfl rfl ?_ | refine OD.len rfl rfl (fun _ => lenTy_av rfl rfl) ?_ | refine OD.call rfl rfl rfl h26 u26 (frz_lens _ _) ?_ | refine OD.call rfl rfl rfl h11 u11 (fun _ => rfl) ?_ | refine OD.call rfl rfl rfl h44 u44 (fun _ => rfl) ?_ | refine OD.call rfl rfl rfl h44 u44' (fun _ => rfl) ?_) | refine OS.nil ?_ | refine OS.skip rfl rfl rfl ?_ | refine WS.seq ?_ | refine QS.seqN ?_ | refine WS.region ?_ | refine WS.condT rfl ?_ | refine WS.skip ?_ | refine WS.block ?_ | refine WS.ret ?_ | refine QS.seqR ?_ | refine WS.condN rfl (fun _ => ?_) (fun _ => ?_) | ((fail_if_success (refine OS.do rfl ?_)); first | refine OS.splitN rfl rfl rfl (fun _ => ?_) (fun _ => ?_)))
  · rename_i h
    have h0 : okM r ins regs = false := by unfold okM; rw [h]; rfl
    refine QS.retR (by rfl) fun _ => ⟨0, acc_bad h0⟩
  · rename_i h h'
    have h0 : okM r ins regs = false := by unfold okM; rw [h, h']; rfl
    refine QS.retR (by rfl) fun _ => ⟨0, acc_bad h0⟩
  · rename_i h h' h''
    have h0 : okM r ins regs = false := by unfold okM; rw [h, h', h'']; rfl
    refine QS.retR (by rfl) fun _ => ⟨0, acc_bad h0⟩
  rename_i h h' h''
  have h0 : okM r ins regs = true := by unfold okM; rw [h, h', h'']; rfl
  have hE := okM_iff.1 h0
  have hN := hE.words
  rw [all_ok h0, code_ok h0]
  generalize hO : outM (vals ins) (vals regs) r.words.xs = O
  have hOl : ∀ i, i ≤ r.words.xs.length → (O i).length = i := fun i hi => by subst hO; exact outM_len hi
  have hOs : ∀ (i : Nat) (h : i < r.words.xs.length), O (i + 1) = O i ++ [valV (vals ins) (vals regs) r.words.xs[i] (kidsM (O i) r.words.xs[i])] := fun i h => by subst hO; exact outM_succ h
  have hO2 : ∀ (i : Nat) (h : i < r.words.xs.length), Val45 r.words.xs[i] (kidsM (O i) r.words.xs[i]) (vals ins) (vals regs) := fun i h => by subst hO; exact hE.val45 h
  refine WS.loop (D := Nat × Nat) (fun d => [(1, rowsAV ins), (2, rowsAV regs), (10, accA d.2 1 ((O d.1).map rowAV)), (37, r.words.av 5 wordAV), (38, .int .i64 r.words.xs.length), (39, .int .i64 d.1)]) (fun _ => []) (fun d => [(d.2, !((O d.1).map rowAV).isEmpty)])
    (fun d => d.1 ≤ r.words.xs.length) (fun d => r.words.xs.length + 1 - d.1) (0, 0) (by omega) ?_ (.nil _) ?_ ?_
  · subst hO
    repeat' (first | exact Sub.nil _ | refine Sub.cons (congrArg some (accA_nil _ _).symm) ?_ | refine Sub.cons (congrArg (fun z => some (AV.int .i64 z)) (wrap_succ (by omega))) ?_ | refine Sub.cons rfl ?_)
  · subst hO
    exact SubK.new (.nil _)
  rintro ⟨i, tk⟩ hi
  dsimp only at hi ⊢
  have hOi := hOl i hi
  repeat' (first | (refine OS.do rfl ?_; first | refine OD.alloc rfl rfl rfl rfl (fun b12 => ?_) | refine OD.loadP 0 rfl rfl rfl rfl rfl rfl ?_ | refine OD.auto rfl rfl ?_ | refine OD.len rfl rfl (fun _ => lenTy_av rfl rfl) ?_ | refine OD.indexAddr rfl rfl rfl (indexAddrA_nat rfl rfl rfl rfl (by first | assumption | exact List.getElem?_eq_getElem (by omega))) ?_ | refine OD.storeW 0 rfl rfl rfl rfl (by first | rfl | exact hold_ok _ | exact word_ok _ | exact rtl_ok _) rfl rfl rfl ?_) | refine OS.nil ?_ | refine WS.seq ?_ | refine QS.seqN ?_ | refine WS.region ?_ | refine WS.condD rfl (fun _ => ?_) (fun _ => ?_) | refine WS.skip ?_ | refine WS.block ?_ | refine WS.ret ?_ | refine WS.exit ?_ | refine QS.seqE ?_ | refine QS.blockH ?_ | refine QS.loopE ?_)
  · have hlt : i < r.words.xs.length := by omega
    have hkn := hE.kidN hlt
    have hkl : (kidsM (O i) (r.words.xs[i]'hlt)).length = (r.words.xs[i]'hlt).kids.xs.length := List.length_map _
    have hV := hO2 i hlt
    refine WS.loop (D := Nat × Nat) (fun d => [(1, rowsAV ins), (2, rowsAV regs), (10, accA tk 1 ((O i).map rowAV)), (37, r.words.av 5 wordAV), (38, .int .i64 r.words.xs.length), (39, .int .i64 i), (12, .ptr b12 0 0), (13, accA d.2 1 (((kidsM (O i) (r.words.xs[i]'hlt)).take d.1).map rowAV)), (44, (r.words.xs[i]'hlt).kids.av 1 intAV), (45, .int .i64 (r.words.xs[i]'hlt).kids.xs.length), (46, .int .i64 d.1)]) (fun _ => [(b12, .row 5 [wordAV (r.words.xs[i]'hlt)])]) (fun d => [(d.2, !(((kidsM (O i) (r.words.xs[i]'hlt)).take d.1).map rowAV).isEmpty), (tk, !((O i).map rowAV).isEmpty)])
      (fun d => d.1 ≤ (r.words.xs[i]'hlt).kids.xs.length) (fun d => (r.words.xs[i]'hlt).kids.xs.length + 1 - d.1) (0, 0) (by omega) ?_ (.refl _) (SubK.new (.refl _)) ?_
    · repeat' (first | exact Sub.nil _ | refine Sub.cons (congrArg some (accA_zero _ _ _ _).symm) ?_ | refine Sub.cons (congrArg (fun z => some (AV.int .i64 z)) (wrap_succ (by omega))) ?_ | refine Sub.cons rfl ?_)
    rintro ⟨j, tk2⟩ hj
    dsimp only at hj ⊢
    repeat' (first | (refine OS.do rfl ?_; first | (have hk := hE.kid hlt _ (List.getElem_mem (show j < (r.words.xs[i]'hlt).kids.xs.length by omega)); refine OD.indexAddr rfl rfl rfl (indexAddrA_accm rfl rfl rfl rfl hk.1 (List.getElem?_eq_getElem (by rw [hOi]; omega))) ?_) | refine OD.call rfl rfl rfl h45 (fun st => u45 _ _ _ st (by rw [List.take_of_length_le (by omega)]; exact hV)) (fun _ => rfl) ?_ | refine OD.append 0 rfl rfl rfl rfl rfl rfl rfl rfl rfl rfl rfl (.inr ⟨⟨_, rfl⟩, rfl⟩) (fun _ => rfl) (rowOkE rfl _) rfl (roomB rfl (by simp only [List.length_map, List.length_take, List.length_cons, List.length_nil]; omega)) (fun tk' => ?_) | refine OD.append 1 rfl rfl rfl rfl rfl rfl rfl rfl rfl rfl rfl (.inr ⟨⟨_, rfl⟩, rfl⟩) (fun _ => rfl) (rowOkE rfl _) rfl (roomB rfl (by simp only [List.length_map, List.length_take, List.length_cons, List.length_nil]; omega)) (fun tk' => ?_) | refine OD.loadP 0 rfl rfl rfl rfl rfl rfl ?_ | refine OD.auto rfl rfl ?_ | refine OD.indexAddr rfl rfl rfl (indexAddrA_nat rfl rfl rfl rfl (by first | assumption | exact List.getElem?_eq_getElem (by omega))) ?_) | refine OS.nil ?_ | refine WS.seq ?_ | refine QS.seqN ?_ | refine WS.region ?_ | refine WS.condD rfl (fun _ => ?_) (fun _ => ?_) | refine WS.skip ?_ | refine WS.block ?_ | refine QS.blockN ?_ | refine WS.exit ?_ | refine QS.seqE ?_ | refine QS.blockH ?_ | refine QS.loopE ?_)
    · have hj2 : j < (r.words.xs[i]'hlt).kids.xs.length := by omega
      have hk := hE.kid hlt _ (List.getElem_mem hj2)
      have hA := congrArg (fun l => l.map rowAV) (kidsM_succ (out := O i) hj2 (by rw [hOi]; omega))
      simp only [List.map_append] at hA
      refine QS.loopN (j + 1, tk') ?_ ?_ ?_ ?_ ?_
      · dsimp only; omega
      · dsimp only; omega
      · repeat' (first | exact Sub.nil _ | refine Sub.cons (congrArg (fun z => some (accA tk' 1 z)) hA.symm) ?_ | refine Sub.cons (congrArg (fun z => some (AV.int .i64 z)) (wrap_succ (by omega))) ?_ | refine Sub.cons rfl ?_)
      · exact .refl _
      · dsimp only; rw [hA]; exact .refl _
    · have hA : (O (i + 1)).map rowAV = (O i).map rowAV ++ [rowAV (valV (vals ins) (vals regs) r.words.xs[i] ((kidsM (O i) r.words.xs[i]).take j))] := by
        rw [hOs i hlt, List.map_append, List.take_of_length_le (by omega)]; rfl
      refine QS.loopN (i + 1, tk') ?_ ?_ ?_ ?_ ?_
      · dsimp only; omega
      · dsimp only; omega
      · repeat' (first | exact Sub.nil _ | refine Sub.cons (congrArg (fun z => some (accA tk' 1 z)) hA.symm) ?_ | refine Sub.cons (congrArg (fun z => some (AV.int .i64 z)) (wrap_succ (by omega))) ?_ | refine Sub.cons rfl ?_)
      · exact .nil _
      · dsimp only; rw [hA]; exact .drop (.refl _)
  · have e : i = r.words.xs.length := by omega
    subst e
    exact QS.retR (by rfl) fun _ => ⟨_, rfl⟩
end
end Go.RtlEnv

/- Eval: of the program, and of the document. -/
namespace Go.RtlEnv
open Go Go.Proofs Go.Abs Go.RowKit
set_option maxRecDepth 10000
def outsM (r : GRtl) (O : List (List UInt8)) : List (List UInt8) := r.outs.xs.map fun o => O.getD o.word.toNat []
def nextM (r : GRtl) (O : List (List UInt8)) : List (List UInt8) := r.regs.xs.map fun o => O.getD o.next.toNat []
theorem atLen_iff {r : GRtl} {k n : Int} (h : atLen r k n = true) : 0 ≤ k ∧ k < r.words.xs.length ∧ wlen r.words.xs k = n := of_decide_eq_true h
theorem valid_outs {r : GRtl} (h : validM r = true) {i : Nat} (hi : i < r.outs.xs.length) : 0 ≤ (r.outs.xs[i]).word ∧ (r.outs.xs[i]).word < r.words.xs.length := by
  simp only [validM, Bool.and_eq_true, List.all_eq_true] at h
  have := atLen_iff (h.2 _ (List.getElem_mem hi))
  omega
theorem valid_next {r : GRtl} (h : validM r = true) {i : Nat} (hi : i < r.regs.xs.length) : 0 ≤ (r.regs.xs[i]).next ∧ (r.regs.xs[i]).next < r.words.xs.length := by
  simp only [validM, Bool.and_eq_true, List.all_eq_true] at h
  have := atLen_iff (h.1.2 _ (List.getElem_mem hi))
  omega
theorem namesM_500 {l : List ByteArray} (h : namesM l = true) : l.length ≤ 500 := by
  simp only [namesM, Bool.and_eq_true, decide_eq_true_eq] at h
  exact h.1.1
theorem valid_500 {r : GRtl} (h : validM r = true) : r.ins.xs.length ≤ 500 ∧ r.outs.xs.length ≤ 500 ∧ r.regs.xs.length ≤ 500 := by
  simp only [validM, headV, Bool.and_eq_true] at h
  obtain ⟨⟨⟨⟨⟨⟨⟨⟨a, b⟩, c⟩, _⟩, _⟩, _⟩, _⟩, _⟩, _⟩ := h
  have a := namesM_500 a
  have b := namesM_500 b
  have c := namesM_500 c
  rw [List.length_map] at a b c
  exact ⟨a, b, c⟩
/-- Rows of values of words. -/
def AllRows (n : Nat) (O : List (List UInt8)) : Prop := O.length = n ∧ ∀ k, k < n → 1 ≤ (O.getD k []).length ∧ (O.getD k []).length ≤ 4096
theorem rows_get {O : List (List UInt8)} {k : Nat} (h : k < O.length) : (ofRows O).xs[k]? = some (nz (O.getD k [])) := by
  simp [ofRows, GSl.of, h]
theorem outs_take {r : GRtl} {O : List (List UInt8)} {i : Nat} (h : i < r.outs.xs.length) : (outsM r O).take (i + 1) = (outsM r O).take i ++ [O.getD (r.outs.xs[i]).word.toNat []] := by
  rw [List.take_succ_eq_append_getElem (by simpa [outsM] using h)]
  simp [outsM]
theorem next_take {r : GRtl} {O : List (List UInt8)} {i : Nat} (h : i < r.regs.xs.length) : (nextM r O).take (i + 1) = (nextM r O).take i ++ [O.getD (r.regs.xs[i]).next.toNat []] := by
  rw [List.take_succ_eq_append_getElem (by simpa [nextM] using h)]
  simp [nextM]
/-- Rows that were made by appending. -/
def Fresh (rows : List (List UInt8)) (i : Nat) (es : List AV) : Prop := es.length = i ∧ ∀ (k : Nat) (l : List UInt8), k < i → rows[k]? = some l → ∃ t, es[k]? = some (.vs 1 (.tok t) (l.map bitAV))
theorem Fresh.plain {rows : List (List UInt8)} {es : List AV} (h : Fresh rows rows.length es) : AV.plainL es = rows.map rowAV := by
  refine List.ext_getElem (by rw [plainL_length, List.length_map]; exact h.1) fun k h1 h2 => ?_
  rw [List.length_map] at h2
  obtain ⟨t, ht⟩ := h.2 k rows[k] h2 (List.getElem?_eq_getElem h2)
  have : ∀ (es : List AV) (k : Nat) (x : AV) (h1 : k < (AV.plainL es).length), es[k]? = some x → (AV.plainL es)[k] = AV.plain x := by
    intro es
    induction es with
    | nil => intro k x h1 h; simp at h
    | cons e es ih =>
      intro k x h1 h
      cases k with
      | zero => simp at h; subst h; rfl
      | succ k => simpa [AV.plainL] using ih k x (by simpa [AV.plainL] using h1) (by simpa using h)
  rw [this es k _ h1 ht, List.getElem_map]
  simp [AV.plain, Own.plain, plainL_map bit_plain, rowAV]
theorem Fresh.add {rows : List (List UInt8)} {i : Nat} {es : List AV} (h : Fresh rows i es) {l : List UInt8} (hl : rows[i]? = some l) (t : Nat) : Fresh rows (i + 1) (es ++ [.vs 1 (.tok t) (l.map bitAV)]) := by
  refine ⟨by simp [h.1], fun k m hk hm => ?_⟩
  by_cases e : k < i
  · obtain ⟨t, ht⟩ := h.2 k m e hm
    exact ⟨t, by rw [List.getElem?_append_left (by rw [h.1]; exact e)]; exact ht⟩
  · have : k = i := by omega
    subst this
    rw [hl] at hm
    cases hm
    exact ⟨t, by rw [List.getElem?_append_right (by rw [h.1]; omega), h.1]; simp⟩
theorem plain_accF {rows : List (List UInt8)} {es : List AV} (h : Fresh rows rows.length es) (t : Nat) : AV.plain (accA t 1 es) = rowsAV (ofRows rows) := by
  have e := h.plain
  rw [← plain_rows t rows]
  cases es with
  | nil =>
    have : rows = [] := List.length_eq_zero_iff.1 h.1.symm
    subst this; rfl
  | cons x es =>
    cases rows with
    | nil => have := h.1; simp at this
    | cons y rows =>
      show AV.vs 1 Own.any (AV.plainL (x :: es)) = AV.vs 1 Own.any (AV.plainL ((y :: rows).map rowAV))
      rw [e, plainL_map row_plain]
theorem free_accF {rows : List (List UInt8)} {es : List AV} (h : Fresh rows rows.length es) (t : Nat) : AV.free (accA t 1 es) = true := by
  rw [← free_plain, plain_accF h]; exact rowsAV_free _
theorem tokOkE {et : Ty} (h : Nat.beq et.size 1 = true) (t : Nat) (l : List AV) : okElems et [.vs 1 (.tok t) l] = true := by
  have := Nat.eq_of_beq_eq_true h
  simp [okElems, AV.ok, AV.cellOk, AV.cells, this]
theorem accA_nil' (t sz : Nat) : AV.nilsl = accA t sz [] := rfl
attribute [local irreducible] WS QS OS OD Abs.Sub SubO SubK CW GSl.av accA SegK
section
variable {pr : Prims}
set_option maxHeartbeats 2000000 in
theorem run42 (h1 : pr 42 = none) {p43 p46 : List AV → St → Option (AV × St)} (h43 : pr 43 = some p43) (h46 : pr 46 = some p46) (u46 : ∀ (s : GSl UInt8) st, s.xs ≠ [] → s.xs.length ≤ 1000000 → p46 [s.av 1 bitAV] st = some (rowAV s.xs, st))
    (r : GRtl) (ins regs : GSl (GSl UInt8)) (O : List (List UInt8)) (hv : validM r = true) (hO : AllRows r.words.xs.length O) (u43 : ∀ st, p43 [rtlAV r, rowsAV ins, rowsAV regs] st = some (rowsAV (ofRows O), st)) (st : St) :
    CW (En pr) 42 [rtlAV r, rowsAV ins, rowsAV regs] st fun x _ => ∃ t t', x = .tup [accA t 1 ((outsM r O).map rowAV), accA t' 1 ((nextM r O).map rowAV)] := by
  have hN := valid_500 hv
  have hol : (outsM r O).length = r.outs.xs.length := List.length_map _
  have hnl : (nextM r O).length = r.regs.xs.length := List.length_map _
  refine CW.start (N := 53) h1 rfl rfl ?_
  repeat' (first | (refine OS.do rfl ?_; first | refine OD.box rfl rfl rfl rfl (rtl_ok _) rfl (fun b3 => ?_) | refine OD.loadP 0 rfl rfl rfl rfl rfl rfl ?_ | refine OD.auto rfl rfl ?_ | refine OD.len rfl rfl (fun _ => lenTy_av rfl rfl) ?_ | refine OD.call rfl rfl rfl h43 u43 (frz_rowsAV _) ?_) | refine OS.nil ?_ | refine WS.seq ?_ | refine QS.seqN ?_ | refine WS.region ?_ | refine WS.block ?_)
  unfold rowsAV
  refine WS.loop (D := Nat × Nat) (fun d => [(3, .ptr b3 0 0), (8, (ofRows O).av 1 fun x => x.av 1 bitAV), (7, .nilsl), (6, accA d.2 1 (((outsM r O).take d.1).map rowAV)), (18, r.outs.av 3 laneAV), (19, .int .i64 r.outs.xs.length), (20, .int .i64 d.1)]) (fun _ => [(b3, .row 4 [rtlAV r])]) (fun d => [(d.2, !(((outsM r O).take d.1).map rowAV).isEmpty)])
    (fun d => d.1 ≤ r.outs.xs.length) (fun d => r.outs.xs.length + 1 - d.1) (0, 0) (by omega) ?_ (.refl _) (SubK.new (.nil _)) ?_
  · repeat' (first | exact Sub.nil _ | refine Sub.cons (congrArg some (accA_zero _ _ _ _).symm) ?_ | refine Sub.cons (congrArg (fun z => some (AV.int .i64 z)) (wrap_succ (by omega))) ?_ | refine Sub.cons rfl ?_)
  rintro ⟨i, tk⟩ hi
  dsimp only at hi ⊢
  repeat' (first | (refine OS.do rfl ?_; first | refine OD.alloc rfl rfl rfl rfl (fun b10 => ?_) | (have hw := valid_outs hv (i := i) (by omega); have hr := hO.2 (r.outs.xs[i]'(by omega)).word.toNat (by omega); refine OD.indexAddr rfl rfl rfl (indexAddrA_intS rfl rfl rfl rfl hw.1 (rows_get (by rw [hO.1]; omega))) ?_; refine OS.do rfl ?_; refine OD.auto rfl rfl ?_; refine OS.do rfl ?_; refine OD.call rfl rfl rfl h46 (fun st => u46 _ st (ne_of_len (by show 1 ≤ (O.getD _ []).length; omega)) (by show (O.getD _ []).length ≤ _; omega)) (fun _ => rfl) ?_) | refine OD.append 0 rfl rfl rfl rfl rfl rfl rfl rfl rfl rfl rfl (.inr ⟨⟨_, rfl⟩, rfl⟩) (fun _ => rfl) (rowOkE rfl _) rfl (roomB rfl (by simp only [List.length_map, List.length_take, List.length_cons, List.length_nil]; omega)) (fun tk' => ?_) | refine OD.loadP 0 rfl rfl rfl rfl rfl rfl ?_ | refine OD.auto rfl rfl ?_ | refine OD.len rfl rfl (fun _ => lenTy_av rfl rfl) ?_ | refine OD.indexAddr rfl rfl rfl (indexAddrA_nat rfl rfl rfl rfl (by first | assumption | exact List.getElem?_eq_getElem (by omega))) ?_ | refine OD.storeW 0 rfl rfl rfl rfl (by first | rfl | exact hold_ok _ | exact word_ok _ | exact rtl_ok _) rfl rfl rfl ?_) | refine OS.nil ?_ | refine WS.seq ?_ | refine QS.seqN ?_ | refine WS.region ?_ | refine WS.condD rfl (fun _ => ?_) (fun _ => ?_) | refine WS.skip ?_ | refine WS.block ?_ | refine QS.blockN ?_ | refine WS.exit ?_ | refine QS.seqE ?_ | refine QS.blockH ?_ | refine QS.loopE ?_)
  · have hlt : i < r.outs.xs.length := by omega
    have hA := congrArg (fun l => l.map rowAV) (outs_take (O := O) hlt)
    simp only [List.map_append] at hA
    refine QS.loopN (i + 1, tk') ?_ ?_ ?_ ?_ ?_
    · dsimp only; omega
    · dsimp only; omega
    · repeat' (first | exact Sub.nil _ | refine Sub.cons (congrArg (fun z => some (accA tk' 1 z)) hA.symm) ?_ | refine Sub.cons (congrArg (fun z => some (AV.int .i64 z)) (wrap_succ (by omega))) ?_ | refine Sub.cons rfl ?_)
    · repeat' (first | exact SubO.nil _ | exact SubO.refl _ | refine SubO.keep ?_ | refine SubO.drop ?_)
    · dsimp only; rw [hA]; exact .refl _
  have hT : (outsM r O).take i = outsM r O := List.take_of_length_le (by omega)
  rw [hT]
  rename_i hh
  clear hh hi hT
  refine WS.loop (D := Nat × Nat) (fun d => [(8, (ofRows O).av 1 fun x => x.av 1 bitAV), (6, accA tk 1 ((outsM r O).map rowAV)), (7, accA d.2 1 (((nextM r O).take d.1).map rowAV)), (35, r.regs.av 3 holdAV), (36, .int .i64 r.regs.xs.length), (37, .int .i64 d.1)]) (fun _ => [(b3, .row 4 [rtlAV r])]) (fun d => [(d.2, !(((nextM r O).take d.1).map rowAV).isEmpty), (tk, !((outsM r O).map rowAV).isEmpty)])
    (fun d => d.1 ≤ r.regs.xs.length) (fun d => r.regs.xs.length + 1 - d.1) (0, 0) (by omega) ?_ (.refl _) (SubK.new (.refl _)) ?_
  · repeat' (first | exact Sub.nil _ | refine Sub.cons (congrArg some (accA_zero _ _ _ _).symm) ?_ | refine Sub.cons (congrArg (fun z => some (AV.int .i64 z)) (wrap_succ (by omega))) ?_ | refine Sub.cons rfl ?_)
  rintro ⟨i, tk2⟩ hi
  dsimp only at hi ⊢
  repeat' (first | (refine OS.do rfl ?_; first | refine OD.alloc rfl rfl rfl rfl (fun b12 => ?_) | (have hw := valid_next hv (i := i) (by omega); have hr := hO.2 (r.regs.xs[i]'(by omega)).next.toNat (by omega); refine OD.indexAddr rfl rfl rfl (indexAddrA_intS rfl rfl rfl rfl hw.1 (rows_get (by rw [hO.1]; omega))) ?_; refine OS.do rfl ?_; refine OD.auto rfl rfl ?_; refine OS.do rfl ?_; refine OD.call rfl rfl rfl h46 (fun st => u46 _ st (ne_of_len (by show 1 ≤ (O.getD _ []).length; omega)) (by show (O.getD _ []).length ≤ _; omega)) (fun _ => rfl) ?_) | refine OD.append 0 rfl rfl rfl rfl rfl rfl rfl rfl rfl rfl rfl (.inr ⟨⟨_, rfl⟩, rfl⟩) (fun _ => rfl) (rowOkE rfl _) rfl (roomB rfl (by simp only [List.length_map, List.length_take, List.length_cons, List.length_nil]; omega)) (fun tk' => ?_) | refine OD.loadP 0 rfl rfl rfl rfl rfl rfl ?_ | refine OD.auto rfl rfl ?_ | refine OD.indexAddr rfl rfl rfl (indexAddrA_nat rfl rfl rfl rfl (by first | assumption | exact List.getElem?_eq_getElem (by omega))) ?_ | refine OD.storeW 0 rfl rfl rfl rfl (by first | rfl | exact hold_ok _ | exact word_ok _ | exact rtl_ok _) rfl rfl rfl ?_) | refine OS.nil ?_ | refine WS.seq ?_ | refine QS.seqN ?_ | refine WS.region ?_ | refine WS.condD rfl (fun _ => ?_) (fun _ => ?_) | refine WS.skip ?_ | refine WS.block ?_ | refine WS.ret ?_ | refine QS.blockN ?_ | refine WS.exit ?_ | refine QS.seqE ?_ | refine QS.blockH ?_ | refine QS.loopE ?_)
  · have hlt : i < r.regs.xs.length := by omega
    have hA := congrArg (fun l => l.map rowAV) (next_take (O := O) hlt)
    simp only [List.map_append] at hA
    refine QS.loopN (i + 1, tk') ?_ ?_ ?_ ?_ ?_
    · dsimp only; omega
    · dsimp only; omega
    · repeat' (first | exact Sub.nil _ | refine Sub.cons (congrArg (fun z => some (accA tk' 1 z)) hA.symm) ?_ | refine Sub.cons (congrArg (fun z => some (AV.int .i64 z)) (wrap_succ (by omega))) ?_ | refine Sub.cons rfl ?_)
    · repeat' (first | exact SubO.nil _ | exact SubO.refl _ | refine SubO.keep ?_ | refine SubO.drop ?_)
    · dsimp only; rw [hA]; exact .refl _
  have hT : (nextM r O).take i = nextM r O := List.take_of_length_le (by omega)
  rw [hT]
  exact QS.retR (by rfl) fun _ => ⟨_, _, rfl⟩
end
end Go.RtlEnv

/- Eval: of the program, and of the document, to the end. -/
namespace Go.RtlEnv
open Go Go.Proofs Go.Abs Go.RowKit
set_option maxRecDepth 10000
def evalO (r : GRtl) (ins regs : GSl (GSl UInt8)) : List (List UInt8) := if okM r ins regs then outsM r (allM r ins regs) else []
def evalN (r : GRtl) (ins regs : GSl (GSl UInt8)) : List (List UInt8) := if okM r ins regs then nextM r (allM r ins regs) else []
theorem evalO_ok {r : GRtl} {ins regs : GSl (GSl UInt8)} (h : okM r ins regs = true) : evalO r ins regs = outsM r (allM r ins regs) := by unfold evalO; rw [h]; rfl
theorem evalN_ok {r : GRtl} {ins regs : GSl (GSl UInt8)} (h : okM r ins regs = true) : evalN r ins regs = nextM r (allM r ins regs) := by unfold evalN; rw [h]; rfl
theorem frz_rows2 (s t : GSl (GSl UInt8)) (st : St) : freezeA st (.tup [rowsAV s, rowsAV t]) = some (.tup [rowsAV s, rowsAV t], st) := by
  unfold rowsAV
  rcases s.cases (fun x => x.av 1 bitAV) 1 with ⟨_, h2 | h2⟩ | h2 <;> rw [h2] <;> rcases t.cases (fun x => x.av 1 bitAV) 1 with ⟨_, h3 | h3⟩ | h3 <;> rw [h3] <;> rfl
theorem frz_rows3 (s t : GSl (GSl UInt8)) (n : Int) (st : St) : freezeA st (.tup [rowsAV s, rowsAV t, .int .i64 n]) = some (.tup [rowsAV s, rowsAV t, .int .i64 n], st) := by
  unfold rowsAV
  rcases s.cases (fun x => x.av 1 bitAV) 1 with ⟨_, h2 | h2⟩ | h2 <;> rw [h2] <;> rcases t.cases (fun x => x.av 1 bitAV) 1 with ⟨_, h3 | h3⟩ | h3 <;> rw [h3] <;> rfl
theorem frz_rows1 (s : GSl (GSl UInt8)) (n : Int) (st : St) : freezeA st (.tup [rowsAV s, .int .i64 n]) = some (.tup [rowsAV s, .int .i64 n], st) := by
  unfold rowsAV
  rcases s.cases (fun x => x.av 1 bitAV) 1 with ⟨_, h2 | h2⟩ | h2 <;> rw [h2] <;> rfl
theorem ev_bad {r : GRtl} {ins regs : GSl (GSl UInt8)} (h : okM r ins regs = false) : AV.tup [.nilsl, .nilsl, .int .i64 2] = AV.tup [rowsAV (ofRows (evalO r ins regs)), rowsAV (ofRows (evalN r ins regs)), .int .i64 (codeM r ins regs)] := by
  unfold evalO evalN codeM
  rw [h]; rfl
theorem AllRows.of {r : GRtl} {ins regs : GSl (GSl UInt8)} (h : okM r ins regs = true) : AllRows r.words.xs.length (allM r ins regs) := by
  have hE := okM_iff.1 h
  rw [all_ok h]
  have ho := hE.out (Nat.le_refl _)
  refine ⟨ho.1, fun k hk => ?_⟩
  have := ho.2 k _ _ (List.getElem?_eq_getElem hk) (List.getElem?_eq_getElem (by rw [ho.1]; exact hk))
  rw [List.getD_eq_getElem?_getD, List.getElem?_eq_getElem (by rw [ho.1]; exact hk), Option.getD_some]
  exact this.2.2
theorem code_bad {r : GRtl} {ins regs : GSl (GSl UInt8)} (h : okM r ins regs = false) : codeM r ins regs = 2 := by unfold codeM; rw [h]; rfl
theorem Fresh.nil (rows : List (List UInt8)) : Fresh rows 0 [] := ⟨rfl, fun k l h => by omega⟩
theorem outs_get {r : GRtl} {O : List (List UInt8)} {i : Nat} (h : i < r.outs.xs.length) : (outsM r O)[i]? = some (O.getD (r.outs.xs[i]).word.toNat []) := by simp [outsM, h]
theorem next_get {r : GRtl} {O : List (List UInt8)} {i : Nat} (h : i < r.regs.xs.length) : (nextM r O)[i]? = some (O.getD (r.regs.xs[i]).next.toNat []) := by simp [nextM, h]
attribute [local irreducible] WS QS OS OD Abs.Sub SubO SubK CW GSl.av accA SegK
section
variable {pr : Prims}
theorem run14 (h1 : pr 14 = none) {p10 p41 p42 : List AV → St → Option (AV × St)} (h10 : pr 10 = some p10) (h41 : pr 41 = some p41) (h42 : pr 42 = some p42) (r : GRtl) (ins regs : GSl (GSl UInt8))
    (u10 : ∀ st, p10 [rtlAV r] st = some (.bool (validM r), st)) (u41 : ∀ st, p41 [rtlAV r, rowsAV ins, rowsAV regs] st = some (.bool (fitsM (vals ins) (lensI r) && fitsM (vals regs) (lensR r)), st))
    (u42 : ∀ st, okM r ins regs = true → p42 [rtlAV r, rowsAV ins, rowsAV regs] st = some (.tup [rowsAV (ofRows (evalO r ins regs)), rowsAV (ofRows (evalN r ins regs))], st)) (st : St) :
    CW (En pr) 14 [rtlAV r, rowsAV ins, rowsAV regs] st fun x _ => x = .tup [rowsAV (ofRows (evalO r ins regs)), rowsAV (ofRows (evalN r ins regs)), .int .i64 (codeM r ins regs)] := by
  refine CW.start (N := 28) h1 rfl rfl ?_
  repeat' (first | (refine OS.do rfl ?_; first | refine OD.box rfl rfl rfl rfl (rtl_ok _) rfl (fun b3 => ?_) | refine OD.loadP 0 rfl rfl rfl rfl rfl rfl ?_ | refine OD.auto rfl rfl ?_ | refine OD.call rfl rfl rfl h10 u10 (fun _ => rfl) ?_ | refine OD.call rfl rfl rfl h41 u41 (fun _ => rfl) ?_ | refine OD.call rfl rfl rfl h42 (fun st => u42 st (by unfold okM; simp only [*, Bool.and_true])) (frz_rows2 _ _) ?_) | refine OS.nil ?_ | refine OS.skip rfl rfl rfl ?_ | refine WS.seq ?_ | refine QS.seqN ?_ | refine WS.region ?_ | refine WS.condT rfl ?_ | refine WS.skip ?_ | refine WS.ret ?_ | refine QS.seqR ?_ | refine WS.condN rfl (fun _ => ?_) (fun _ => ?_) | ((fail_if_success (refine OS.do rfl ?_)); first | refine OS.splitN rfl rfl rfl (fun _ => ?_) (fun _ => ?_)))
  · rename_i h
    refine QS.retR (by rfl) fun _ => ev_bad ?_
    unfold okM; rw [h]; rfl
  · rename_i h h'
    refine QS.retR (by rfl) fun _ => ev_bad ?_
    unfold okM; rw [h, h']; rfl
  · rename_i h h'
    refine QS.retR (by rfl) fun _ => ?_
    rw [code_ok (by unfold okM; rw [h, h']; rfl)]; rfl
set_option maxHeartbeats 2000000 in
theorem run15 (h1 : pr 15 = none) {p17 : List AV → St → Option (AV × St)} (h17 : pr 17 = some p17) (r : GRtl) (ins regs : GSl (GSl UInt8))
    (u17 : ∀ st, p17 [rtlAV r, rowsAV ins, rowsAV regs] st = some (.tup [rowsAV (ofRows (allM r ins regs)), .int .i64 (codeM r ins regs)], st)) (st : St) :
    CW (En pr) 15 [rtlAV r, rowsAV ins, rowsAV regs] st fun x _ => ∃ t t' es fs, Fresh (evalO r ins regs) (evalO r ins regs).length es ∧ Fresh (evalN r ins regs) (evalN r ins regs).length fs ∧ x = .tup [accA t 1 es, accA t' 1 fs, .int .i64 (codeM r ins regs)] := by
  by_cases hok : okM r ins regs = true
  · have hv := (okM_iff.1 hok).valid
    have hN := valid_500 hv
    have hO := AllRows.of hok
    have hc := code_ok hok
    rw [evalO_ok hok, evalN_ok hok]
    rw [hc] at u17 ⊢
    generalize allM r ins regs = O at u17 hO ⊢
    have hol : (outsM r O).length = r.outs.xs.length := List.length_map _
    have hnl : (nextM r O).length = r.regs.xs.length := List.length_map _
    refine CW.start (N := 62) h1 rfl rfl ?_
    repeat' (first | (refine OS.do rfl ?_; first | refine OD.box rfl rfl rfl rfl (rtl_ok _) rfl (fun b3 => ?_) | refine OD.loadP 0 rfl rfl rfl rfl rfl rfl ?_ | refine OD.auto rfl rfl ?_ | refine OD.len rfl rfl (fun _ => lenTy_av rfl rfl) ?_ | refine OD.call rfl rfl rfl h17 u17 (frz_rows1 _ _) ?_) | refine OS.nil ?_ | refine WS.seq ?_ | refine QS.seqN ?_ | refine WS.region ?_ | refine WS.condF rfl ?_ | refine WS.skip ?_ | refine WS.block ?_)
    unfold rowsAV
    refine WS.loop (D := Nat × Nat × List AV) (fun d => [(3, .ptr b3 0 0), (9, (ofRows O).av 1 fun x => x.av 1 bitAV), (7, .nilsl), (6, accA d.2.1 1 d.2.2), (25, r.outs.av 3 laneAV), (26, .int .i64 r.outs.xs.length), (27, .int .i64 d.1)]) (fun _ => [(b3, .row 4 [rtlAV r])]) (fun d => [(d.2.1, !d.2.2.isEmpty)])
      (fun d => d.1 ≤ r.outs.xs.length ∧ Fresh (outsM r O) d.1 d.2.2) (fun d => r.outs.xs.length + 1 - d.1) (0, 0, []) ⟨by omega, Fresh.nil _⟩ ?_ (.refl _) (SubK.new (.nil _)) ?_
    · repeat' (first | exact Sub.nil _ | refine Sub.cons (congrArg some (accA_nil _ _).symm) ?_ | refine Sub.cons (congrArg (fun z => some (AV.int .i64 z)) (wrap_succ (by omega))) ?_ | refine Sub.cons rfl ?_)
    rintro ⟨i, tk, es⟩ ⟨hi, hes⟩
    dsimp only at hi hes ⊢
    have hel := hes.1
    repeat' (first | (refine OS.do rfl ?_; first | refine OD.alloc rfl rfl rfl rfl (fun b10 => ?_) | (have hw := valid_outs hv (i := i) (by omega); have hr := hO.2 (r.outs.xs[i]'(by omega)).word.toNat (by omega); obtain ⟨z, hz1, hz2⟩ := elems_bits' (nz (O.getD (r.outs.xs[i]'(by omega)).word.toNat [])); refine OD.indexAddr rfl rfl rfl (indexAddrA_intS rfl rfl rfl rfl hw.1 (rows_get (by rw [hO.1]; omega))) ?_; refine OS.do rfl ?_; refine OD.auto rfl rfl ?_; refine OS.do rfl ?_; refine OD.appendFull rfl rfl rfl rfl rfl rfl rfl rfl rfl rfl ⟨⟨_, rfl⟩, isStr_av⟩ hz1 (okBits rfl _) hz2 (by intro h8; exact ne_of_len (l := O.getD (r.outs.xs[i]'(by omega)).word.toNat []) (by omega) (List.map_eq_nil_iff.1 h8)) (roomB rfl (by simp only [List.length_map, List.length_nil]; show 0 + (O.getD _ []).length ≤ _; omega)) (fun tkf => ?_)) | refine OD.append 0 rfl rfl rfl rfl rfl rfl rfl rfl rfl rfl rfl (.inr ⟨⟨_, rfl⟩, rfl⟩) (fun _ => rfl) (tokOkE rfl _ _) rfl (roomB rfl (by simp only [List.length_cons, List.length_nil]; omega)) (fun tk' => ?_) | refine OD.loadP 0 rfl rfl rfl rfl rfl rfl ?_ | refine OD.auto rfl rfl ?_ | refine OD.len rfl rfl (fun _ => lenTy_av rfl rfl) ?_ | refine OD.indexAddr rfl rfl rfl (indexAddrA_nat rfl rfl rfl rfl (by first | assumption | exact List.getElem?_eq_getElem (by omega))) ?_ | refine OD.storeW 0 rfl rfl rfl rfl (by first | rfl | exact hold_ok _ | exact word_ok _ | exact rtl_ok _) rfl rfl rfl ?_) | refine OS.nil ?_ | refine WS.seq ?_ | refine QS.seqN ?_ | refine WS.region ?_ | refine WS.condD rfl (fun _ => ?_) (fun _ => ?_) | refine WS.skip ?_ | refine WS.block ?_ | refine QS.blockN ?_ | refine WS.exit ?_ | refine QS.seqE ?_ | refine QS.blockH ?_ | refine QS.loopE ?_)
    · have hlt : i < r.outs.xs.length := by omega
      refine QS.loopN (i + 1, tk', es ++ [AV.vs 1 (.tok tkf) ((O.getD (r.outs.xs[i]'hlt).word.toNat []).map bitAV)]) ?_ ?_ ?_ ?_ ?_
      · exact ⟨by dsimp only; omega, hes.add (outs_get hlt) tkf⟩
      · dsimp only; omega
      · repeat' (first | exact Sub.nil _ | refine Sub.cons (congrArg (fun z => some (AV.int .i64 z)) (wrap_succ (by omega))) ?_ | refine Sub.cons rfl ?_)
      · repeat' (first | exact SubO.nil _ | exact SubO.refl _ | refine SubO.keep ?_ | refine SubO.drop ?_)
      · dsimp only; exact .refl _
    have hT : i = (outsM r O).length := by omega
    rename_i hh
    clear hh hi
    subst hT
    refine WS.loop (D := Nat × Nat × List AV) (fun d => [(9, (ofRows O).av 1 fun x => x.av 1 bitAV), (6, accA tk 1 es), (7, accA d.2.1 1 d.2.2), (43, r.regs.av 3 holdAV), (44, .int .i64 r.regs.xs.length), (45, .int .i64 d.1)]) (fun _ => [(b3, .row 4 [rtlAV r])]) (fun d => [(d.2.1, !d.2.2.isEmpty), (tk, !es.isEmpty)])
      (fun d => d.1 ≤ r.regs.xs.length ∧ Fresh (nextM r O) d.1 d.2.2) (fun d => r.regs.xs.length + 1 - d.1) (0, 0, []) ⟨by omega, Fresh.nil _⟩ ?_ (.refl _) (SubK.new (.refl _)) ?_
    · repeat' (first | exact Sub.nil _ | refine Sub.cons (congrArg some (accA_nil _ _).symm) ?_ | refine Sub.cons (congrArg (fun z => some (AV.int .i64 z)) (wrap_succ (by omega))) ?_ | refine Sub.cons rfl ?_)
    rintro ⟨i, tk2, fs⟩ ⟨hi, hfs⟩
    dsimp only at hi hfs ⊢
    have hfl := hfs.1
    repeat' (first | (refine OS.do rfl ?_; first | refine OD.alloc rfl rfl rfl rfl (fun b12 => ?_) | (have hw := valid_next hv (i := i) (by omega); have hr := hO.2 (r.regs.xs[i]'(by omega)).next.toNat (by omega); obtain ⟨z, hz1, hz2⟩ := elems_bits' (nz (O.getD (r.regs.xs[i]'(by omega)).next.toNat [])); refine OD.indexAddr rfl rfl rfl (indexAddrA_intS rfl rfl rfl rfl hw.1 (rows_get (by rw [hO.1]; omega))) ?_; refine OS.do rfl ?_; refine OD.auto rfl rfl ?_; refine OS.do rfl ?_; refine OD.appendFull rfl rfl rfl rfl rfl rfl rfl rfl rfl rfl ⟨⟨_, rfl⟩, isStr_av⟩ hz1 (okBits rfl _) hz2 (by intro h8; exact ne_of_len (l := O.getD (r.regs.xs[i]'(by omega)).next.toNat []) (by omega) (List.map_eq_nil_iff.1 h8)) (roomB rfl (by simp only [List.length_map, List.length_nil]; show 0 + (O.getD _ []).length ≤ _; omega)) (fun tkf => ?_)) | refine OD.append 0 rfl rfl rfl rfl rfl rfl rfl rfl rfl rfl rfl (.inr ⟨⟨_, rfl⟩, rfl⟩) (fun _ => rfl) (tokOkE rfl _ _) rfl (roomB rfl (by simp only [List.length_cons, List.length_nil]; omega)) (fun tk' => ?_) | refine OD.loadP 0 rfl rfl rfl rfl rfl rfl ?_ | refine OD.auto rfl rfl ?_ | refine OD.indexAddr rfl rfl rfl (indexAddrA_nat rfl rfl rfl rfl (by first | assumption | exact List.getElem?_eq_getElem (by omega))) ?_ | refine OD.storeW 0 rfl rfl rfl rfl (by first | rfl | exact hold_ok _ | exact word_ok _ | exact rtl_ok _) rfl rfl rfl ?_) | refine OS.nil ?_ | refine WS.seq ?_ | refine QS.seqN ?_ | refine WS.region ?_ | refine WS.condD rfl (fun _ => ?_) (fun _ => ?_) | refine WS.skip ?_ | refine WS.block ?_ | refine WS.ret ?_ | refine QS.blockN ?_ | refine WS.exit ?_ | refine QS.seqE ?_ | refine QS.blockH ?_ | refine QS.loopE ?_)
    · have hlt : i < r.regs.xs.length := by omega
      refine QS.loopN (i + 1, tk', fs ++ [AV.vs 1 (.tok tkf) ((O.getD (r.regs.xs[i]'hlt).next.toNat []).map bitAV)]) ?_ ?_ ?_ ?_ ?_
      · exact ⟨by dsimp only; omega, hfs.add (next_get hlt) tkf⟩
      · dsimp only; omega
      · repeat' (first | exact Sub.nil _ | refine Sub.cons (congrArg (fun z => some (AV.int .i64 z)) (wrap_succ (by omega))) ?_ | refine Sub.cons rfl ?_)
      · repeat' (first | exact SubO.nil _ | exact SubO.refl _ | refine SubO.keep ?_ | refine SubO.drop ?_)
      · dsimp only; exact .refl _
    have hT : i = (nextM r O).length := by omega
    subst hT
    exact QS.retR (by rfl) fun _ => ⟨_, _, _, _, hes, hfs, rfl⟩
  · have hok : okM r ins regs = false := by simpa using hok
    rw [code_bad hok] at u17 ⊢
    have e1 : evalO r ins regs = [] := by unfold evalO; rw [hok]; rfl
    have e2 : evalN r ins regs = [] := by unfold evalN; rw [hok]; rfl
    rw [e1, e2]
    refine CW.start (N := 62) h1 rfl rfl ?_
    repeat' (first | (refine OS.do rfl ?_; first | refine OD.box rfl rfl rfl rfl (rtl_ok _) rfl (fun b3 => ?_) | refine OD.loadP 0 rfl rfl rfl rfl rfl rfl ?_ | refine OD.auto rfl rfl ?_ | refine OD.call rfl rfl rfl h17 u17 (frz_rows1 _ _) ?_) | refine OS.nil ?_ | refine WS.seq ?_ | refine QS.seqN ?_ | refine WS.region ?_ | refine WS.condT rfl ?_ | refine WS.ret ?_ | refine QS.seqR ?_)
    refine QS.retR (by rfl) fun _ => ⟨0, 0, [], [], Fresh.nil _, Fresh.nil _, ?_⟩
    rw [accA_nil]; rfl
end
end Go.RtlEnv
